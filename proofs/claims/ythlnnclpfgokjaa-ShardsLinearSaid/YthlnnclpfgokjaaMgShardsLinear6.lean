/- Several texts of the claim joined into one (part 6): plain facts and walks. No conditions but those that each theorem tells. -/
import Derived.Test.YthlnnclpfgokjaaMgShardsLinear4
import Derived.Deep.AppendSrc
import Derived.Shelf.Strings.Builder1
import Derived.Shelf.Strings.Builder2
import Derived.Shelf.Strings.OnBuilder
import Derived.Shelf.Strings.BuilderF
import Derived.Shelf.Strings.BuilderK
import Derived.Test.YthlnnclpfgokjaaProg
import Derived.Test.YthlnnclpfgokjaaMgShardsLinear5
import Derived.Deep.RegionHeld3
namespace Go.Proofs.Ythlnnclpfgokjaa
open Go.RowKit Go.WideShapes Go.ChangeShapes
set_option linter.unusedVariables false
section
variable {P : Program} {w : World}
theorem byteCells_u8s (s : ByteArray) : byteCells s = u8s s.data.toList := rfl
theorem run_append_own_str (base : Nat) (t sT ty e : TypeId) (ht : P.underlying t = some (.slice e)) (hsT : P.underlying sT = some .string) (i : TypeInfo) (hi : P.info? e = some i) (hz : i.zero = some (.int .u8 0)) (hs1 : i.size = 1) (hb : i.bytes = 1)
    (v : Value) (n : Nat) (xs : List Value) (hown : w.ownsRow base e 1 v n xs) (s : ByteArray) (hroom : n + s.size ≤ 140737488355328) (hbase : base ≤ w.heap.size) :
    ∃ v' w', (Builtin.append_ #[t, sT] ty #[v, .string s]).run P w = .ok v' w' ∧ w'.ownsRow base e 1 v' (n + s.size) (xs ++ u8s s.data.toList) ∧ w.grownBy w' v.ownBlock ∧ (v'.ownBlock = v.ownBlock ∨ v'.ownBlock = some w.heap.size) := by
  have hlen : (u8s s.data.toList).length = s.size := by rw [u8s_length, Array.length_toList]; rfl
  have hxl : xs.length = n := by have := hown.1; omega
  have hsrc : Src P i.size sT (.string s) s.size (u8s s.data.toList) w := by rw [hs1, ← byteCells_u8s]; exact Src.ofString w hsT s
  have grown : ∀ (b : Option Addr) (cap : Nat), cap < n + s.size → (Builtin.firstCells i.size n (.slice b n cap)).run P w.drew = .ok xs.toArray w.drew →
      ∃ v' w', (Builtin.append_ #[t, sT] ty #[.slice b n cap, .string s]).run P w = .ok v' w' ∧ w'.ownsRow base e 1 v' (n + s.size) (xs ++ u8s s.data.toList) ∧ (∀ row, w.grownBy w' row) ∧ v'.ownBlock = some w.heap.size := fun b cap hc hf => by
    have hrun := run_append_grow_src (P := P) w t sT ty e i (.int .u8 0) ht hi hz b n cap xs hf (.string s) s.size (u8s s.data.toList) hsrc hc (by omega) (growslice_fits hc (by rw [hb]; omega))
    have hge := grownCap_ge w (n + s.size) cap e
    have hcm : grownCap w (n + s.size) cap e ≤ maxLen := grownCap_le_maxLen w (n + s.size) cap e (by unfold maxLen; omega)
    refine ⟨_, _, hrun, ⟨by rw [List.length_append, hlen]; omega, .inr ⟨w.heap.size, _, _, rfl, hbase, heap_alloc_new w.drew _, hge, hcm, ?_, ?_⟩⟩, fun row => only_alloc (only_drew (World.grownBy.refl _ _)) _, rfl⟩
    · simp [Builtin.zeroCells, hlen, hxl, Value.cells]; omega
    · simp only [Array.toList_append]
      rw [List.take_append_of_le_length (by rw [List.length_append, hlen, hxl]; omega), List.take_of_length_le (by rw [List.length_append, hlen, hxl]; omega)]
  rcases hown.2 with ⟨rfl, rfl⟩ | ⟨g, cap, cur, rfl, hbg, hg, hnc, hcm, hcs, htake⟩
  · obtain rfl : xs = [] := List.eq_nil_of_length_eq_zero hxl
    by_cases h0 : s.size = 0
    · have hd : s.data.toList = [] := List.eq_nil_of_length_eq_zero (by rw [Array.length_toList]; exact h0)
      refine ⟨.slice none 0 0, w, ?_, ⟨by rw [hd]; simp [u8s, h0], .inl ⟨rfl, by omega⟩⟩, World.grownBy.refl _ _, .inl rfl⟩
      have hf := Src.cells hsrc
      rw [hs1, h0] at hf
      simp [Builtin.append_, run_underlying ht, run_underlying hsT, sizeOf, typeInfo, hi, hs1, Builtin.lenOf, h0, hf]
    · obtain ⟨v', w', h1, h2, h3, h4⟩ := grown none 0 (by omega) (by simp [Builtin.firstCells])
      exact ⟨v', w', h1, h2, h3 _, .inr h4⟩
  · by_cases hr : n + s.size ≤ cap
    · have hcell : ∀ j, j < (u8s s.data.toList).length → (w.cell? ⟨g, 0 + n * i.size + j, none⟩).isSome = true := fun j hj => by
        rw [hlen] at hj
        rw [cell_of_row w g _ cur e (0, 0) hg, hs1, Array.getElem?_eq_getElem (by omega)]; rfl
      have hfz : ∀ j, j < (u8s s.data.toList).length → w.frozen? ⟨g, 0 + n * i.size + j, none⟩ = false := fun j _ => hown.frozenAt _
      have hrun := run_append_room_src (P := P) w t sT ty e i ht hi g 0 n cap (.string s) s.size (u8s s.data.toList) hsrc hr hcell hfz
      rw [hs1, Nat.mul_one, Nat.zero_add] at hrun
      obtain ⟨c', a1, a2, a3, a4⟩ := block_setCells (u8s s.data.toList) n w cur hg (by omega)
      refine ⟨_, _, hrun, ⟨by rw [List.length_append, hlen]; omega, .inr ⟨g, cap, c', rfl, hbg, a1, hr, hcm, by rw [a2]; exact hcs, ?_⟩⟩, a4, .inl rfl⟩
      refine List.ext_getElem? fun j => ?_
      rw [List.getElem?_take]
      by_cases hj : j < (n + s.size) * 1
      · rw [if_pos hj, Array.getElem?_toList, a3, hlen]
        by_cases h1 : n ≤ j ∧ j < n + s.size
        · rw [if_pos h1, List.getElem?_append_right (by omega), hxl]
        · rw [if_neg h1, List.getElem?_append_left (by omega), ← htake, List.getElem?_take, if_pos (by omega), Array.getElem?_toList]
      · rw [if_neg hj, List.getElem?_eq_none (by rw [List.length_append, hlen]; omega)]
    · have hfo : (Builtin.firstCells i.size n (.slice (some ⟨g, 0, none⟩) n cap)).run P w.drew = .ok xs.toArray w.drew := by
        rw [hs1]
        exact run_firstCells_some (P := P) w.drew 1 n ⟨g, 0, none⟩ n cap xs (by omega) (fun j u hj => by
          have := hown.cells (g := g) rfl j u hj
          exact this)
      obtain ⟨v', w', h1, h2, h3, h4⟩ := grown (some ⟨g, 0, none⟩) cap (by omega) hfo
      exact ⟨v', w', h1, h2, h3 _, .inr h4⟩
theorem append_own_str_wp (base : Nat) {ops : Array Oper} {rest : List Oper} {o : Oper} {a : Act} {Q : Exit → Act → World → Prop} (hgd : o.guard = none) (x y : Operand) (t sT : TypeId)
    (ho : o.op = .call { callee := .builtin .append, args := #[x, y], argTypes := #[t, sT] }) (e : TypeId) (ht : P.underlying t = some (.slice e)) (hsT : P.underlying sT = some .string) (i : TypeInfo) (hi : P.info? e = some i) (hz : i.zero = some (.int .u8 0)) (hs1 : i.size = 1) (hb : i.bytes = 1)
    (v : Value) (n : Nat) (xs : List Value) (hv : a.eval x = v) (hown : w.ownsRow base e 1 v n xs) (s : ByteArray) (hx : a.eval y = .string s) (hroom : n + s.size ≤ 140737488355328) (hbase : base ≤ w.heap.size)
    (hK : ∀ v' w', w'.ownsRow base e 1 v' (n + s.size) (xs ++ u8s s.data.toList) → w.grownBy w' v.ownBlock → (v'.ownBlock = v.ownBlock ∨ v'.ownBlock = some w.heap.size) → wpList P ops Q rest (a.put o.dst v') w') : wpList P ops Q (o :: rest) a w := by
  refine wpList_plain hgd fun K hK' => ?_
  obtain ⟨v', w', hrun, h2, h3, h4⟩ := run_append_own_str (P := P) (w := w) base t sT o.type e ht hsT i hi hz hs1 hb v n xs hown s hroom hbase
  unfold Oper.wp execOp
  simp only [ho, resolve, invoke, builtin, Sem.run_bind, Sem.run_pure, Result.andThen_ok, List.map_toArray, List.map_cons, List.map_nil, hv, hx, hrun]
  exact hK' _ _ (hK v' w' h2 h3 h4)
end
end Go.Proofs.Ythlnnclpfgokjaa
namespace Go.Proofs
open Go.Shelf
def Try.lays169_ren : Go.Shelf.Ren := ⟨fun | 169 => 72 | n => n, fun | 70 => 89 | 9 => 9 | 0 => 0 | 72 => 91 | 37 => 44 | 127 => 98 | 3 => 3 | 5 => 5 | n => n, fun | n => n⟩
theorem Try.lays169 : Go.Proofs.Lays.n169 Try.prog Try.lays169_ren := {
  mixed := by kernel_rfl
  f169 := Try.func72.trans (congrArg some (by kernel_rfl))
  t0 := Try.underlying0
  a0 := Try.isAgg0
  z0 := Try.sizeOf0
  v0 := Try.zeroValue0
  t3 := Try.underlying3
  a3 := Try.isAgg3
  z3 := Try.sizeOf3
  v3 := Try.zeroValue3
  t9 := Try.underlying9
  a9 := Try.isAgg9
  z9 := Try.sizeOf9
  v9 := Try.zeroValue9
  t37 := Try.underlying44
  a37 := Try.isAgg44
  z37 := Try.sizeOf44
  v37 := Try.zeroValue44
  t70 := Try.underlying89
  a70 := Try.isAgg89
  z70 := Try.sizeOf89
  v70 := Try.zeroValue89
  t72 := Try.underlying91
  a72 := Try.isAgg91
  z72 := Try.sizeOf91
  v72 := Try.zeroValue91
  t127 := Try.underlying98
  a127 := Try.isAgg98
  z127 := Try.sizeOf98
  v127 := Try.zeroValue98 }
theorem Try.Builder_Extra_169 : Builder.Extra Try.prog Try.lays169_ren := {
  sizeBuilder := by kernel_rfl
  liesBuilder := by kernel_rfl
  t5 := Try.underlying5
  a5 := Try.isAgg5
  z5 := Try.sizeOf5
  v5 := Try.zeroValue5
  infoByte := by kernel_rfl
  cellsByte := by kernel_rfl
  sizeByte := by kernel_rfl
  neB5 := by decide }
open Go.RowKit in
theorem Try.Builder_String (B b : Nat) (l : List UInt8) (w : World) (h : Lib.IsBuilder 91 5 B b (Lib.byteCells l) w) (h0 : l ≠ []) :
    Calls Try.prog 72 #[.pointer (some ⟨b, 0, none⟩)] w fun e w' => e = .returned (.string ⟨l.toArray⟩) ∧ Below B w w' := Any.Builder_String Try.lays169 Try.Builder_Extra_169 B b l w h h0
open Go.RowKit in
theorem Try.Builder_String_empty (B b : Nat) (w : World) (h : Lib.IsBuilder 91 5 B b [] w) (hBw : B ≤ w.heap.size) :
    Calls Try.prog 72 #[.pointer (some ⟨b, 0, none⟩)] w fun e w' => e = .returned (.string ⟨#[]⟩) ∧ Below B w w' := Any.Builder_String_empty Try.lays169 Try.Builder_Extra_169 B b w h hBw
open Go.RowKit in
theorem Try.Builder_String_any (B b : Nat) (l : List UInt8) (w : World) (h : Lib.IsBuilder 91 5 B b (Lib.byteCells l) w) (hBw : B ≤ w.heap.size) :
    Calls Try.prog 72 #[.pointer (some ⟨b, 0, none⟩)] w fun e w' => e = .returned (.string ⟨l.toArray⟩) ∧ Below B w w' := Any.Builder_String_any Try.lays169 Try.Builder_Extra_169 B b l w h hBw
def Try.lays241_ren : Go.Shelf.Ren := ⟨fun | 241 => 74 | 277 => 76 | n => n, fun | 70 => 89 | 3 => 3 | 0 => 0 | 72 => 91 | 37 => 44 | 5 => 5 | n => n, fun | n => n⟩
theorem Try.lays241 : Go.Proofs.Lays.n241 Try.prog Try.lays241_ren := {
  mixed := by kernel_rfl
  f241 := Try.func74.trans (congrArg some (by kernel_rfl))
  f277 := Try.func76.trans (congrArg some (by kernel_rfl))
  t0 := Try.underlying0
  a0 := Try.isAgg0
  z0 := Try.sizeOf0
  v0 := Try.zeroValue0
  t3 := Try.underlying3
  a3 := Try.isAgg3
  z3 := Try.sizeOf3
  v3 := Try.zeroValue3
  t37 := Try.underlying44
  a37 := Try.isAgg44
  z37 := Try.sizeOf44
  v37 := Try.zeroValue44
  t70 := Try.underlying89
  a70 := Try.isAgg89
  z70 := Try.sizeOf89
  v70 := Try.zeroValue89
  t72 := Try.underlying91
  a72 := Try.isAgg91
  z72 := Try.sizeOf91
  v72 := Try.zeroValue91 }
theorem Try.Builder_Extra_241 : Builder.Extra Try.prog Try.lays241_ren := {
  sizeBuilder := by kernel_rfl
  liesBuilder := by kernel_rfl
  t5 := Try.underlying5
  a5 := Try.isAgg5
  z5 := Try.sizeOf5
  v5 := Try.zeroValue5
  infoByte := by kernel_rfl
  cellsByte := by kernel_rfl
  sizeByte := by kernel_rfl
  neB5 := by decide }
open Go.RowKit in
theorem Try.Builder_grow_fresh (B b n : Nat) (w : World) (hB : B ≤ b) (hbk : w.heap[b]? = some (.cells #[.pointer (some ⟨b, 0, none⟩), .slice none 0 0] 91 (0, 0))) (hBw : B ≤ w.heap.size) (hn : n ≤ 281474976710656) :
    Calls Try.prog 74 #[.pointer (some ⟨b, 0, none⟩), .int .i64 n] w fun e w' => e = .returned (.tuple #[]) ∧ (Lib.BuilderAt 91 5 B b (.pointer (some ⟨b, 0, none⟩)) [] w' ∧ Below B w w') := Any.Builder_grow_fresh Try.lays241 Try.Builder_Extra_241 B b n w hB hbk hBw hn
def Try.lays165_ren : Go.Shelf.Ren := ⟨fun | 165 => 70 | 240 => 73 | 241 => 74 | 276 => 75 | 277 => 76 | n => n, fun | 70 => 89 | 3 => 3 | 0 => 0 | 4 => 4 | 9 => 9 | 20 => 20 | 72 => 91 | 37 => 44 | 164 => 99 | 5 => 5 | n => n, fun | n => n⟩
theorem Try.lays165 : Go.Proofs.Lays.n165 Try.prog Try.lays165_ren := {
  mixed := by kernel_rfl
  f165 := Try.func70.trans (congrArg some (by kernel_rfl))
  f240 := Try.func73.trans (congrArg some (by kernel_rfl))
  f241 := Try.func74.trans (congrArg some (by kernel_rfl))
  f276 := Try.func75.trans (congrArg some (by kernel_rfl))
  f277 := Try.func76.trans (congrArg some (by kernel_rfl))
  t0 := Try.underlying0
  a0 := Try.isAgg0
  z0 := Try.sizeOf0
  v0 := Try.zeroValue0
  t3 := Try.underlying3
  a3 := Try.isAgg3
  z3 := Try.sizeOf3
  v3 := Try.zeroValue3
  t4 := Try.underlying4
  a4 := Try.isAgg4
  z4 := Try.sizeOf4
  v4 := Try.zeroValue4
  t9 := Try.underlying9
  a9 := Try.isAgg9
  z9 := Try.sizeOf9
  v9 := Try.zeroValue9
  t20 := Try.underlying20
  a20 := Try.isAgg20
  z20 := Try.sizeOf20
  v20 := Try.zeroValue20
  t37 := Try.underlying44
  a37 := Try.isAgg44
  z37 := Try.sizeOf44
  v37 := Try.zeroValue44
  t70 := Try.underlying89
  a70 := Try.isAgg89
  z70 := Try.sizeOf89
  v70 := Try.zeroValue89
  t72 := Try.underlying91
  a72 := Try.isAgg91
  z72 := Try.sizeOf91
  v72 := Try.zeroValue91
  t164 := Try.underlying99
  a164 := Try.isAgg99
  z164 := Try.sizeOf99
  v164 := Try.zeroValue99 }
theorem Try.Builder_Extra_165 : Builder.Extra Try.prog Try.lays165_ren := {
  sizeBuilder := by kernel_rfl
  liesBuilder := by kernel_rfl
  t5 := Try.underlying5
  a5 := Try.isAgg5
  z5 := Try.sizeOf5
  v5 := Try.zeroValue5
  infoByte := by kernel_rfl
  cellsByte := by kernel_rfl
  sizeByte := by kernel_rfl
  neB5 := by decide }
open Go.RowKit in
theorem Try.Builder_Grow_fresh (B b n : Nat) (w : World) (hB : B ≤ b) (hbk : w.heap[b]? = some (.cells #[.pointer none, .slice none 0 0] 91 (0, 0))) (hBw : B ≤ w.heap.size) (hn : n ≤ 281474976710656) :
    Calls Try.prog 70 #[.pointer (some ⟨b, 0, none⟩), .int .i64 n] w fun e w' => e = .returned (.tuple #[]) ∧ (Lib.BuilderAt 91 5 B b (.pointer (some ⟨b, 0, none⟩)) [] w' ∧ Below B w w') := Any.Builder_Grow_fresh Try.lays165 Try.Builder_Extra_165 B b n w hB hbk hBw hn
def Try.lays156_ren : Go.Shelf.Ren := ⟨fun | 156 => 65 | 165 => 70 | 166 => 71 | 169 => 72 | 240 => 73 | 241 => 74 | 276 => 75 | 277 => 76 | n => n, fun | 31 => 28 | 9 => 9 | 3 => 3 | 4 => 4 | 0 => 0 | 20 => 20 | 72 => 91 | 76 => 95 | 70 => 89 | 37 => 44 | 75 => 94 | 127 => 98 | 164 => 99 | 5 => 5 | 80 => 97 | n => n, fun | n => n⟩
theorem Try.lays156 : Go.Proofs.Lays.n156 Try.prog Try.lays156_ren := {
  mixed := by kernel_rfl
  f156 := Try.func65.trans (congrArg some (by kernel_rfl))
  f165 := Try.func70.trans (congrArg some (by kernel_rfl))
  f166 := Try.func71.trans (congrArg some (by kernel_rfl))
  f169 := Try.func72.trans (congrArg some (by kernel_rfl))
  f240 := Try.func73.trans (congrArg some (by kernel_rfl))
  f241 := Try.func74.trans (congrArg some (by kernel_rfl))
  f276 := Try.func75.trans (congrArg some (by kernel_rfl))
  f277 := Try.func76.trans (congrArg some (by kernel_rfl))
  t0 := Try.underlying0
  a0 := Try.isAgg0
  z0 := Try.sizeOf0
  v0 := Try.zeroValue0
  t3 := Try.underlying3
  a3 := Try.isAgg3
  z3 := Try.sizeOf3
  v3 := Try.zeroValue3
  t4 := Try.underlying4
  a4 := Try.isAgg4
  z4 := Try.sizeOf4
  v4 := Try.zeroValue4
  t9 := Try.underlying9
  a9 := Try.isAgg9
  z9 := Try.sizeOf9
  v9 := Try.zeroValue9
  t20 := Try.underlying20
  a20 := Try.isAgg20
  z20 := Try.sizeOf20
  v20 := Try.zeroValue20
  t31 := Try.underlying28
  a31 := Try.isAgg28
  z31 := Try.sizeOf28
  v31 := Try.zeroValue28
  t37 := Try.underlying44
  a37 := Try.isAgg44
  z37 := Try.sizeOf44
  v37 := Try.zeroValue44
  t70 := Try.underlying89
  a70 := Try.isAgg89
  z70 := Try.sizeOf89
  v70 := Try.zeroValue89
  t72 := Try.underlying91
  a72 := Try.isAgg91
  z72 := Try.sizeOf91
  v72 := Try.zeroValue91
  t75 := Try.underlying94
  a75 := Try.isAgg94
  z75 := Try.sizeOf94
  v75 := Try.zeroValue94
  t76 := Try.underlying95
  a76 := Try.isAgg95
  z76 := Try.sizeOf95
  v76 := Try.zeroValue95
  t127 := Try.underlying98
  a127 := Try.isAgg98
  z127 := Try.sizeOf98
  v127 := Try.zeroValue98
  t164 := Try.underlying99
  a164 := Try.isAgg99
  z164 := Try.sizeOf99
  v164 := Try.zeroValue99 }
theorem Try.Builder_Extra_156 : Builder.Extra Try.prog Try.lays156_ren := {
  sizeBuilder := by kernel_rfl
  liesBuilder := by kernel_rfl
  t5 := Try.underlying5
  a5 := Try.isAgg5
  z5 := Try.sizeOf5
  v5 := Try.zeroValue5
  infoByte := by kernel_rfl
  cellsByte := by kernel_rfl
  sizeByte := by kernel_rfl
  neB5 := by decide }
open Go.RowKit in
theorem Try.strings_Join_none (a : Option Addr) (c : Nat) (sep : ByteArray) (w : World) :
    Calls Try.prog 65 #[.slice a 0 c, .string sep] w fun e w' => e = .returned (.string ⟨#[]⟩) ∧ w' = w := Any.strings_Join_none Try.lays156 Try.Builder_Extra_156 a c sep w
open Go.RowKit in
theorem Try.strings_Join (bk o c : Nat) (xs : List ByteArray) (sep : ByteArray) (w : World) (hcells : ∀ (j : Nat) x, xs[j]? = some x → w.cell? ⟨bk, o + j, none⟩ = some (.string x)) (hbk : bk < w.heap.size) (hN : xs.length ≤ 140737488355328) (hcap : xs.length ≤ c) (hlen : (Lib.join (xs.map (·.data.toList)) sep.data.toList).length ≤ 140737488355328) :
    Calls Try.prog 65 #[.slice (some ⟨bk, o, none⟩) xs.length c, .string sep] w fun e w' => e = .returned (.string ⟨(Lib.join (xs.map (·.data.toList)) sep.data.toList).toArray⟩) ∧ Below w.heap.size w w' := Any.strings_Join Try.lays156 Try.Builder_Extra_156 bk o c xs sep w hcells hbk hN hcap hlen
open Go.RowKit in
theorem Try.Builder_String_f (B b : Nat) (l : List UInt8) (w : World) (h : Lib.IsBuilderF 91 5 B b (Lib.byteCells l) w) (h0 : l ≠ []) :
    Calls Try.prog 72 #[.pointer (some ⟨b, 0, none⟩)] w fun e w' => e = .returned (.string ⟨l.toArray⟩) ∧ (Lib.IsBuilderF 91 5 B b (Lib.byteCells l) w' ∧ Below B w w') := Any.Builder_String_f Try.lays169 Try.Builder_Extra_169 B b l w h h0
open Go.RowKit in
theorem Try.Builder_String_empty_f (B b : Nat) (w : World) (h : Lib.IsBuilderF 91 5 B b [] w) (hBw : B ≤ w.heap.size) :
    Calls Try.prog 72 #[.pointer (some ⟨b, 0, none⟩)] w fun e w' => e = .returned (.string ⟨#[]⟩) ∧ (Lib.IsBuilderF 91 5 B b [] w' ∧ Below B w w') := Any.Builder_String_empty_f Try.lays169 Try.Builder_Extra_169 B b w h hBw
open Go.RowKit in
theorem Try.Builder_String_any_f (B b : Nat) (l : List UInt8) (w : World) (h : Lib.IsBuilderF 91 5 B b (Lib.byteCells l) w) (hBw : B ≤ w.heap.size) :
    Calls Try.prog 72 #[.pointer (some ⟨b, 0, none⟩)] w fun e w' => e = .returned (.string ⟨l.toArray⟩) ∧ (Lib.IsBuilderF 91 5 B b (Lib.byteCells l) w' ∧ Below B w w') := Any.Builder_String_any_f Try.lays169 Try.Builder_Extra_169 B b l w h hBw
open Go.RowKit in
theorem Try.Builder_String_k (B b : Nat) (l : List UInt8) (w : World) (h : Lib.IsBuilderF 91 5 B b (Lib.byteCells l) w) (h0 : l ≠ []) :
    Calls Try.prog 72 #[.pointer (some ⟨b, 0, none⟩)] w fun e w' => e = .returned (.string ⟨l.toArray⟩) ∧ (Lib.IsBuilderF 91 5 B b (Lib.byteCells l) w' ∧ Below B w w' ∧ Lib.OthersKept 5 (some b) w w') := Any.Builder_String_k Try.lays169 Try.Builder_Extra_169 B b l w h h0
open Go.RowKit in
theorem Try.Builder_String_empty_k (B b : Nat) (w : World) (h : Lib.IsBuilderF 91 5 B b [] w) (hBw : B ≤ w.heap.size) :
    Calls Try.prog 72 #[.pointer (some ⟨b, 0, none⟩)] w fun e w' => e = .returned (.string ⟨#[]⟩) ∧ (Lib.IsBuilderF 91 5 B b [] w' ∧ Below B w w' ∧ Lib.OthersKept 5 (some b) w w') := Any.Builder_String_empty_k Try.lays169 Try.Builder_Extra_169 B b w h hBw
open Go.RowKit in
theorem Try.Builder_String_any_k (B b : Nat) (l : List UInt8) (w : World) (h : Lib.IsBuilderF 91 5 B b (Lib.byteCells l) w) (hBw : B ≤ w.heap.size) :
    Calls Try.prog 72 #[.pointer (some ⟨b, 0, none⟩)] w fun e w' => e = .returned (.string ⟨l.toArray⟩) ∧ (Lib.IsBuilderF 91 5 B b (Lib.byteCells l) w' ∧ Below B w w' ∧ Lib.OthersKept 5 (some b) w w') := Any.Builder_String_any_k Try.lays169 Try.Builder_Extra_169 B b l w h hBw
end Go.Proofs
namespace Go.Proofs.Ythlnnclpfgokjaa
open Go.RowKit Gf
set_option linter.unusedVariables false
theorem joinL_snoc (l : List ByteArray) (s : ByteArray) : joinL (l ++ [s]) = joinL l ++ s.data.toList := by simp [joinL]
theorem joinL_len (l : List ByteArray) (L : Nat) (h : ∀ s ∈ l, s.size = L) : (joinL l).length = l.length * L := by
  induction l with
  | nil => simp [joinL]
  | cons s r ih =>
    have := ih (fun x hx => h x (List.mem_cons_of_mem _ hx))
    unfold joinL at this ⊢
    rw [List.flatMap_cons, List.length_append, this, List.length_cons, Nat.add_mul, Nat.one_mul, data_length, h s (by simp)]; omega
theorem joinL_alike (l : List ByteArray) (h : alikeB l = true) : (joinL l).length = l.length * (sAt l 0).size := joinL_len l _ (fun s hs => by
  obtain ⟨j, hj, rfl⟩ := List.getElem_of_mem hs
  rw [← sAt_get hj]; exact (alikeB_iff l).1 h j hj)
theorem join_lib (l : List ByteArray) : Lib.join (l.map (·.data.toList)) [] = joinL l := by
  unfold joinL
  induction l with
  | nil => rfl
  | cons s r ih =>
    rw [List.map_cons, Lib.join_cons, List.flatMap_cons]
    congr 1
    simp [Lib.joinTail, List.flatMap_def, Function.comp_def]
def wholeOk (l : List ByteArray) (n : Int) : Prop := 1 ≤ l.length ∧ l.length ≤ 32 ∧ alikeB l = true ∧ 0 ≤ n ∧ n ≤ ((joinL l).length : Int)
instance (l : List ByteArray) (n : Int) : Decidable (wholeOk l n) := by unfold wholeOk; infer_instance
def wholeR (l : List ByteArray) (n : Int) : ByteArray × Int := if wholeOk l n then (bs ((joinL l).take n.toNat), 0) else (ByteArray.empty, 1)
theorem wholeR_no {l : List ByteArray} {n : Int} (h : ¬ wholeOk l n) : wholeR l n = (ByteArray.empty, 1) := by unfold wholeR; rw [if_neg h]
theorem wholeR_yes {l : List ByteArray} {n : Int} (h : wholeOk l n) : wholeR l n = (bs ((joinL l).take n.toNat), 0) := by unfold wholeR; rw [if_pos h]
set_option maxRecDepth 100000 in
set_option maxHeartbeats 1000000 in
theorem whole_any (A : Option Addr) (n c : Nat) (ss : List ByteArray) (x : Int) (w : World) (B : Nat) (h : Reads w B 1 A n (strV ss)) (hB : B ≤ w.heap.size) (hc : n ≤ c) (hn : n ≤ 9223372036854775807) (hx1 : -9223372036854775808 ≤ x) (hx2 : x ≤ 9223372036854775807)
    (hA : 1 ≤ n → ∃ b o, A = some ⟨b, o, none⟩) (hJ : 1 ≤ n → n ≤ 32 → alikeB ss = true → (joinL ss).length ≤ 140737488355328) :
    Calls Try.prog 45 #[.slice A n c, .int .i64 x] w fun e w' => e = .returned (.tuple #[.string (wholeR ss x).1, .int .i64 (wholeR ss x).2]) ∧ Below w.heap.size w w' := by
  have hl := h.len
  have HH := Lib.hid h
  by_cases h1 : n < 1
  · have X : Hid (wholeR ss x = (ByteArray.empty, 1)) := Lib.hid (wholeR_no (by rintro ⟨a, _⟩; omega))
    clear h hl hA hJ
    go_enter Try.func45, Try.ntmps45
    go_wp2
    go_ret2
    exact ⟨by rw [X.out]; rfl, Below.refl _ _⟩
  by_cases h2 : 32 < n
  · have X : Hid (wholeR ss x = (ByteArray.empty, 1)) := Lib.hid (wholeR_no (by rintro ⟨_, a, _⟩; omega))
    clear h hl hA hJ
    go_enter Try.func45, Try.ntmps45
    go_wp2
    go_ret2
    exact ⟨by rw [X.out]; rfl, Below.refl _ _⟩
  by_cases ha : ¬ alikeB ss = true
  · have X : Hid (wholeR ss x = (ByteArray.empty, 1)) := Lib.hid (wholeR_no (by rintro ⟨_, _, a, _⟩; exact ha a))
    have HA : Hid (alikeB ss = false) := Lib.hid (by simpa using ha)
    clear h hl ha hA hJ
    go_enter Try.func45, Try.ntmps45
    go_wp2_with fail
    refine (alike_any A n c ss _ _ HH.out hn).mono ?_; rintro e w' ⟨rfl, rfl⟩
    rw [HA.out]
    go_wp2
    go_ret2
    exact ⟨by rw [X.out]; rfl, Below.refl _ _⟩
  have ha := Classical.not_not.1 ha
  obtain ⟨b, o, rfl⟩ := hA (by omega)
  have hj := hJ (by omega) (by omega) ha
  have HA := Lib.hid ha
  have HJ := Lib.hid (join_lib ss)
  have hcells : ∀ (j : Nat) s, ss[j]? = some s → w.cell? ⟨b, o + j, none⟩ = some (.string s) := fun j s hs => by
    have hjl : j < ss.length := (List.getElem?_eq_some_iff.1 hs).1
    obtain ⟨ad, e, _, hc⟩ := h.str (k := 0) (by omega)
    injection e with e; subst e
    have := hc j (by omega)
    rw [Addr.add_lit] at this
    rw [this, sAt_get hjl, (List.getElem?_eq_some_iff.1 hs).2]
  have hbk : b < w.heap.size := by
    obtain ⟨ad, e, hb, _⟩ := h.2 (by omega)
    injection e with e; subst e; exact Nat.lt_of_lt_of_le hb hB
  have JC : Hid (Calls Try.prog 65 #[.slice (some ⟨b, o, none⟩) n c, .string ⟨#[]⟩] w fun e w' => e = .returned (.string (bs (joinL ss))) ∧ Below w.heap.size w w') := Lib.hid (by
    have := Try.strings_Join b o c ss ⟨#[]⟩ w hcells hbk (by omega) (by omega) (by show (Lib.join _ []).length ≤ _; rw [join_lib]; exact hj)
    rw [hl] at this
    refine this.mono fun e w' ⟨he, hb⟩ => ⟨?_, hb⟩
    rw [he]
    show Ending.returned (.string (bs (Lib.join _ []))) = _
    rw [join_lib])
  have HX : Hid (∀ k : Nat, (joinL ss).length = (bs (joinL ss)).size ∧ (bs (joinL ss)).extract 0 k = bs ((joinL ss).take k)) := Lib.hid (fun k => ⟨by rw [bs_size], by rw [← bs_of ((bs (joinL ss)).extract 0 k), Lib.extract_data, bs_data]; simp⟩)
  have HL := Lib.hid hl
  clear h hcells hJ HJ hbk
  by_cases hx0 : x < 0
  · have X : Hid (wholeR ss x = (ByteArray.empty, 1)) := Lib.hid (wholeR_no (by rintro ⟨_, _, _, a, _⟩; omega))
    clear hl ha
    go_enter Try.func45, Try.ntmps45
    go_wp2_with fail
    refine (alike_any _ n c ss _ _ HH.out hn).mono ?_; rintro e w' ⟨rfl, rfl⟩
    rw [HA.out]
    go_wp2_with fail
    refine JC.out.mono ?_; rintro e w1 ⟨rfl, hb1⟩
    have HB1 := Lib.hid hb1
    clear hb1
    go_wp2
    go_ret2
    exact ⟨by rw [X.out]; rfl, HB1.out⟩
  obtain ⟨k, rfl⟩ : ∃ k : Nat, x = k := ⟨x.toNat, by omega⟩
  obtain ⟨T, hT⟩ : ∃ T, bs (joinL ss) = T := ⟨_, rfl⟩
  have hTs : T.size = (joinL ss).length := by rw [← hT, bs_size]
  have hTj : T.size ≤ 140737488355328 := by omega
  rw [hT] at JC HX
  by_cases hx3 : T.size < k
  · have X : Hid (wholeR ss (k : Int) = (ByteArray.empty, 1)) := Lib.hid (wholeR_no (by rintro ⟨_, _, _, _, a⟩; omega))
    clear hl ha hT hTs
    go_enter Try.func45, Try.ntmps45
    go_wp2_with fail
    refine (alike_any _ n c ss _ _ HH.out hn).mono ?_; rintro e w' ⟨rfl, rfl⟩
    rw [HA.out]
    go_wp2_with fail
    refine JC.out.mono ?_; rintro e w1 ⟨rfl, hb1⟩
    have HB1 := Lib.hid hb1
    clear hb1
    go_wp2
    go_ret2
    exact ⟨by rw [X.out]; rfl, HB1.out⟩
  · have hx4 : k ≤ T.size := by omega
    have X : Hid (wholeR ss (k : Int) = (bs ((joinL ss).take k), 0)) := Lib.hid (by
      have := wholeR_yes (l := ss) (n := (k : Int)) ⟨by omega, by omega, ha, by omega, by omega⟩
      rw [Int.toNat_natCast] at this; exact this)
    clear hl ha hT hTs hx3
    go_enter Try.func45, Try.ntmps45
    go_wp2_with fail
    refine (alike_any _ n c ss _ _ HH.out hn).mono ?_; rintro e w' ⟨rfl, rfl⟩
    rw [HA.out]
    go_wp2_with fail
    refine JC.out.mono ?_; rintro e w1 ⟨rfl, hb1⟩
    have HB1 := Lib.hid hb1
    clear hb1
    go_wp2
    go_ret2
    exact ⟨by rw [X.out, ← (HX.out k).2]; rfl, HB1.out⟩
end Go.Proofs.Ythlnnclpfgokjaa
namespace Go.Proofs.Ythlnnclpfgokjaa
open Go.RowKit Gf
set_option linter.unusedVariables false
theorem rebR_no {a : List ByteArray} {t : List Bool} {k : Int} (h : ¬ rebOk a t k) : rebR a t k = ([], 1) := by unfold rebR; rw [if_neg h]
set_option maxRecDepth 100000 in
theorem rebuild_bad (A : Option Addr) (n c : Nat) (ss : List ByteArray) (A' : Option Addr) (n' c' : Nat) (tt : List Bool) (k : Int) (w : World) (B B' : Nat) (h : Reads w B 1 A n (strV ss)) (h' : Reads w B' 1 A' n' (boolV tt))
    (hn : n ≤ 9223372036854775807) (hn' : n' ≤ 9223372036854775807) (hbad : ¬ rebOk ss tt k) :
    Calls Try.prog 49 #[.slice A n c, .slice A' n' c', .int .i64 k] w fun e w' => RetStrs w w' e (rebR ss tt k) := by
  have hl := h.len
  have hl' := h'.boolLen
  have X := Lib.hid (rebR_no hbad)
  have hcases : k < 1 ∨ 32 < k ∨ (1 ≤ k ∧ k ≤ 32 ∧ (n : Int) < k) ∨ (1 ≤ k ∧ k ≤ 32 ∧ k ≤ (n : Int) ∧ 64 < n) ∨ (1 ≤ k ∧ k ≤ 32 ∧ k ≤ (n : Int) ∧ n ≤ 64 ∧ n' ≠ n) := by
    unfold rebOk at hbad; omega
  clear hbad hl hl' h h'
  have HB := Lib.hid ((Below.refl w.heap.size w).alloc (Nat.le_refl _) (.cells #[.int .i64 k] 3))
  rcases hcases with h | h | ⟨h1, h2, h⟩ | ⟨h1, h2, h3, h⟩ | ⟨h1, h2, h3, h4, h⟩
  · go_enter Try.func49, Try.ntmps49
    go_wp2
    go_ret2
    exact retNil w 1 _ X.out HB.out
  · go_enter Try.func49, Try.ntmps49
    go_wp2
    go_ret2
    exact retNil w 1 _ X.out HB.out
  · go_enter Try.func49, Try.ntmps49
    go_wp2
    go_ret2
    exact retNil w 1 _ X.out HB.out
  · go_enter Try.func49, Try.ntmps49
    go_wp2
    go_ret2
    exact retNil w 1 _ X.out HB.out
  · have hne : ((n' : Int) != (n : Int)) = true := by rw [bne_iff_ne]; omega
    clear h
    go_enter Try.func49, Try.ntmps49
    go_wp2
    go_ret2
    exact retNil w 1 _ X.out HB.out
theorem strV_one (l : List ByteArray) : ∀ u ∈ strV l, u.oneCell' = true := by
  intro u hu; simp only [strV, List.mem_map] at hu; obtain ⟨b, _, rfl⟩ := hu; rfl
theorem pick_yes (ss : List ByteArray) (K : Nat) {tt : List Bool} {k : Nat} (h : tt.getD k false = true) :
    (pickL tt (k + 1)).length = (pickL tt k).length + 1 ∧ strV (someL ss tt (k + 1)) = strV (someL ss tt k) ++ [.string (sAt ss k)] ∧ strV (rowsL K tt (k + 1)) = strV (rowsL K tt k) ++ [.string (genRow K k)] := by
  unfold someL rowsL strV
  rw [pickL_succ, if_pos h]; simp
theorem pick_no (ss : List ByteArray) (K : Nat) {tt : List Bool} {k : Nat} (h : tt.getD k false = false) :
    pickL tt (k + 1) = pickL tt k ∧ someL ss tt (k + 1) = someL ss tt k ∧ rowsL K tt (k + 1) = rowsL K tt k := by
  have e : pickL tt (k + 1) = pickL tt k := by rw [pickL_succ, if_neg (by rw [h]; simp), List.append_nil]
  unfold someL rowsL
  rw [e]; exact ⟨rfl, rfl, rfl⟩
theorem cauchy_x (x : Int) (m : Nat) (c : Int) (hx : x = (m : Int)) (w : World) :
    Calls Try.prog 27 #[.int .i64 x, .int .i64 c] w fun e w' => RetStrs w w' e (cauR (m : Int) c) := by subst hx; exact cauchy_any _ _ _
set_option maxRecDepth 100000 in
set_option maxHeartbeats 4000000 in
theorem rebuild_any (A : Option Addr) (n c : Nat) (ss : List ByteArray) (A' : Option Addr) (n' c' : Nat) (tt : List Bool) (k : Int) (w : World) (B B' : Nat) (h : Reads w B 1 A n (strV ss)) (hB : B ≤ w.heap.size) (h' : Reads w B' 1 A' n' (boolV tt)) (hB' : B' ≤ w.heap.size)
    (hn : n ≤ 9223372036854775807) (hn' : n' ≤ 9223372036854775807) (hs : ∀ s ∈ ss, s.size ≤ 140737488355328) :
    Calls Try.prog 49 #[.slice A n c, .slice A' n' c', .int .i64 k] w fun e w' => RetStrs w w' e (rebR ss tt k) := by
  by_cases hok : ¬ rebOk ss tt k
  · exact rebuild_bad A n c ss A' n' c' tt k w B B' h h' hn hn' hok
  have hok := Classical.not_not.1 hok
  have hl := h.len
  have hl' := h'.boolLen
  obtain ⟨a1, a2, a3, a4, a5⟩ := id hok
  have X : Hid (rebR ss tt k = if alikeB (someL ss tt n) = false then ([], 1) else if (pickL tt n).length < k.toNat then ([], 70) else (rebL ss tt k.toNat, 0)) := Lib.hid (by
    unfold rebR; rw [if_pos hok, hl])
  obtain ⟨K, rfl⟩ : ∃ m : Nat, k = m := ⟨k.toNat, by omega⟩
  rw [hl] at a3 a4
  obtain rfl : n' = n := by omega
  rw [Int.toNat_natCast] at X
  have HL := Lib.hid hl
  have HL' := Lib.hid hl'
  have HS := Lib.hid h
  have HT := Lib.hid h'
  have HZ := Lib.hid hs
  clear hok hl hl' h h' hs a5
  have b1 : 1 ≤ K := by omega
  have b2 : K ≤ 32 := by omega
  have b3 : K ≤ n' := by omega
  clear a1 a2 a3
  have XU : Hid (unitR (K : Int) = (mat K K (fun i j => if i = j then 1 else 0), 0)) := Lib.hid (by unfold unitR; rw [if_pos (by omega)]; rfl)
  obtain ⟨m, q, hq, hm1, hm2, hmq⟩ : ∃ m q : Nat, (n' : Int) - (K : Int) = (q : Int) ∧ 1 ≤ m ∧ m ≤ 64 ∧ ((q < 1 ∧ m = 1) ∨ (1 ≤ q ∧ m = q)) := by
    by_cases h : K < n'
    · exact ⟨n' - K, n' - K, by omega, by omega, by omega, .inr ⟨by omega, rfl⟩⟩
    · exact ⟨1, 0, by omega, by omega, by omega, .inl ⟨by omega, rfl⟩⟩
  have hqn : q = n' - K := by omega
  have XC : Hid (cauR (m : Int) (K : Int) = (mat m K cauF, 0)) := Lib.hid (by unfold cauR; rw [if_pos (by omega)]; rfl)
  have HQN := Lib.hid hqn
  have hnm : n' ≤ K + m := by omega
  clear hqn
  have hmf : ∀ (fn : Fn) (first cap : Array Value) (w : World), (Instr.makeFunc fn first cap).run Try.prog w = .ok (.func fn first cap) w := fun _ _ _ _ => rfl
  by_cases hq1 : q < 1
  all_goals
    first
      | (have hx1 : m ≤ 1 := by omega)
      | (have hx1 : m ≤ q := by omega
         have hx2 : q ≤ m := by omega)
    clear hmq
    go_enter Try.func49, Try.ntmps49
    go_wp2_with fail
    refine (unit_any _ _).mono ?_
    rintro e w1 ⟨v1, rfl, ho1, hb1⟩
    rw [XU.out] at ho1 ⊢
    rw [show (mat K K (fun i j => if i = j then (1 : UInt8) else 0), (0 : Int)).1.length = K from mat_length _ _ _] at ho1
    obtain ⟨A1, c1, rfl, _, hr1⟩ := own_readsC ho1
    have h5 : w1.cell? ⟨w.heap.size, 0, none⟩ = some (.int .i64 (K : Int)) := by
      have := hb1.cell (p := ⟨w.heap.size, 0, none⟩) (by simp)
      rw [this]; simp
    have f5 : w.heap.size < w1.heap.size := by have := hb1.size; simp at this; omega
    have HB1 : Hid (Below w.heap.size w w1) := Lib.hid (((Below.refl w.heap.size w).alloc (Nat.le_refl _) _).trans (hb1.mono (by simp)))
    have HR1 := Lib.hid hr1
    clear ho1 hb1 hr1
    go_wp2_with fail
    refine (cauchy_x _ m _ (by omega) _).mono ?_
    rintro e w2 ⟨v2, rfl, ho2, hb2⟩
    rw [XC.out] at ho2 ⊢
    rw [show (mat m K cauF, (0 : Int)).1.length = m from mat_length _ _ _] at ho2
    obtain ⟨A2, c2, rfl, _, hr2⟩ := own_readsC ho2
    have hlt2 : w1.heap.size < w2.heap.size := by have := hb2.size; simp at this; omega
    have h5 : w2.cell? ⟨w.heap.size, 0, none⟩ = some (.int .i64 (K : Int)) := by
      rw [hb2.cell (p := ⟨w.heap.size, 0, none⟩) (by simp; omega), World.cell?_alloc_lt _ _ _ (by simpa using f5), h5]
    have h8 : w2.cell? ⟨w1.heap.size, 0, none⟩ = some (.slice A1 K c1) := by
      rw [hb2.cell (p := ⟨w1.heap.size, 0, none⟩) (by simp)]; simp
    have HB2 : Hid (Below w.heap.size w w2) := Lib.hid ((HB1.out.alloc HB1.out.size _).trans (hb2.mono (by have := HB1.out.size; simp; omega)))
    have HR2 := Lib.hid hr2
    have HR12 : Hid (Reads w2 w2.heap.size 1 A1 K (strV (mat K K fun i j => if i = j then 1 else 0))) := Lib.hid (((HR1.out.alloc (Nat.le_refl _) _).below (hb2.mono (by simp))).more (by omega))
    clear ho2 hb2 hr2 HR1
    go_wp2
    generalize hW : w2.alloc (.cells #[.slice A2 m c2] 28) = W
    have hWs : W.heap.size = w2.heap.size + 1 := by rw [← hW]; simp
    have C5 : W.cell? ⟨w.heap.size, 0, none⟩ = some (.int .i64 (K : Int)) := by rw [← hW, World.cell?_alloc_lt _ _ _ (by simp; omega), h5]
    have C8 : W.cell? ⟨w1.heap.size, 0, none⟩ = some (.slice A1 K c1) := by rw [← hW, World.cell?_alloc_lt _ _ _ (by simp; omega), h8]
    have C10 : W.cell? ⟨w2.heap.size, 0, none⟩ = some (.slice A2 m c2) := by rw [← hW]; simp
    have HBW : Hid (Below w.heap.size w W) := Lib.hid (by rw [← hW]; exact HB2.out.alloc HB2.out.size _)
    have HRU : Hid (Reads W W.heap.size 1 A1 K (strV (mat K K fun i j => if i = j then 1 else 0))) := Lib.hid (by rw [← hW]; exact (HR12.out.alloc (Nat.le_refl _) _).more (by simp))
    have HRP : Hid (Reads W W.heap.size 1 A2 m (strV (mat m K cauF))) := Lib.hid (by rw [← hW]; exact (HR2.out.alloc (Nat.le_refl _) _).more (by simp))
    have P5 : w.heap.size < W.heap.size := by omega
    have P8 : w1.heap.size < W.heap.size := by omega
    have P10 : w2.heap.size < W.heap.size := by omega
    have HC : Hid (W.cell? ⟨w.heap.size, 0, none⟩ = some (.int .i64 (K : Int)) ∧ W.cell? ⟨w1.heap.size, 0, none⟩ = some (.slice A1 K c1) ∧ W.cell? ⟨w2.heap.size, 0, none⟩ = some (.slice A2 m c2)) := Lib.hid ⟨C5, C8, C10⟩
    clear hW hWs C5 C8 C10 h5 h8 HR2 HR12 HB2 HB1
    go_loopw [13, 14, 15, 16, 65] (fun va vb _ _ i wr => ∃ k : Nat, k ≤ n' ∧ i = .int .i64 k ∧ Hid (Two wr W.heap.size 9 va (pickL tt k).length (strV (someL ss tt k)) vb (pickL tt k).length (strV (rowsL K tt k)) ∧ Below W.heap.size W wr)) (fun _ _ _ _ i _ => n' - (intOf i).toNat)
    case atStart => exact ⟨0, by omega, rfl, Lib.hid ⟨Two.nil _ _ _, Below.refl _ _⟩⟩
    case round =>
      obtain ⟨k, hk, rfl, HK⟩ := hrel
      by_cases hlt : k < n'
      · obtain ⟨ad, rfl, hba, hca⟩ := HS.out.str hlt
        obtain ⟨at_, rfl, hbt, hct⟩ := HT.out.bool hlt
        have hS := HBW.out.size
        have hcs : wr.cell? (ad.add k) = some (.string (sAt ss k)) := (HK.out.2.cell (by rw [block_of_add]; omega)).trans ((HBW.out.cell (by rw [block_of_add]; omega)).trans (hca k hlt))
        have hcb : wr.cell? (at_.add k) = some (.bool (tt.getD k false)) := (HK.out.2.cell (by rw [block_of_add]; omega)).trans ((HBW.out.cell (by rw [block_of_add]; omega)).trans (hct k hlt))
        clear hca hct
        by_cases hb : tt.getD k false = true
        · rw [hb] at hcb
          obtain ⟨e1, e2, e3⟩ := pick_yes ss K hb
          have E1 := Lib.hid e1
          have E2 := Lib.hid e2
          have E3 := Lib.hid e3
          have hN := pickL_len tt k
          have hle := HK.out.2.size
          have hk1 : (pickL tt k).length ≤ 4611686018427387904 := by omega
          have hk2 : ((pickL tt k).length + 1) * 16 ≤ 140737488355328 := by omega
          clear hb e1 e2 e3
          generalize pickL tt k = pk at *
          have hki : k < K + m := by omega
          go_wp2_with (first
            | (at_builtin; refine append1_blk elemStr rfl _ _ rfl W.heap.size u13 _ _ (by rfl) HK.out.1.o1 (.string (sAt ss k)) (by rfl) (by rfl) hk1 hk2 hle ?_; intro v13 w13 ho13 hg13 hd13; have H13 := Lib.hid (HK.out.1.push ho13 hg13 hd13); have HB13 := Lib.hid (below_own HK.out.2 HK.out.1.o1 hg13); have hs13 := HB13.out.size; clear ho13 hg13 hd13)
            | (go_at_call 68; refine (row_any k K m _ _ _ A1 A2 c1 c2 _ _ _ ((HB13.out.cell P5).trans HC.out.1) ((HB13.out.cell P8).trans HC.out.2.1) ((HB13.out.cell P10).trans HC.out.2.2) (HRU.out.below HB13.out) (HRP.out.below HB13.out) hki (by omega) (by omega)).mono ?_; rintro e w' ⟨rfl, rfl⟩)
            | (at_builtin; refine append1_blk elemStr rfl _ _ rfl W.heap.size u14 _ _ (by rfl) H13.out.o2 (.string (genRow K k)) (by rfl) (by rfl) hk1 hk2 hs13 ?_; intro v14 w14 ho14 hg14 hd14; have H14 := Lib.hid (H13.out.symm.push ho14 hg14 hd14).symm; have HB14 := Lib.hid (below_own HB13.out H13.out.o2 hg14); clear ho14 hg14 hd14))
          go_roundw
          case rel => exact ⟨k + 1, by omega, by go_num, Lib.hid (by rw [E1.out, E2.out, E3.out]; exact ⟨H14.out, HB14.out⟩)⟩
          case measure => simp [intOf]; omega
        · have hbf : tt.getD k false = false := by simpa using hb
          rw [hbf] at hcb
          obtain ⟨e1, e2⟩ := pick_no ss K hbf
          have E1 := Lib.hid e1
          have E2 := Lib.hid e2
          clear hb hbf e1 e2
          go_wp2
          go_roundw
          case rel => exact ⟨k + 1, by omega, by go_num, Lib.hid (by rw [E1.out, E2.out.1, E2.out.2]; exact HK.out)⟩
          case measure => simp [intOf]; omega
      · obtain rfl : k = n' := by omega
        obtain ⟨A13, c13, rfl, hcap13, hr13⟩ := own_readsC HK.out.1.o1
        obtain ⟨A14, c14, rfl, hcap14, hr14⟩ := own_readsC HK.out.1.o2
        obtain ⟨N, hN⟩ : ∃ N, (pickL tt k).length = N := ⟨_, rfl⟩
        have hNk : N ≤ k := by rw [← hN]; exact pickL_len tt k
        rw [hN] at hcap13 hr13 hcap14 hr14 X
        rw [hN]
        have HN := Lib.hid hN
        have HS13 := Lib.hid hr13
        have HS14 := Lib.hid hr14
        have hs3 := HK.out.2.size
        have h5 : wr.cell? ⟨w.heap.size, 0, none⟩ = some (.int .i64 (K : Int)) := (HK.out.2.cell P5).trans HC.out.1
        have HBR : Hid (Below w.heap.size w wr) := Lib.hid (HBW.out.trans (HK.out.2.mono HBW.out.size))
        clear hN hr13 hr14 HK HC HRU HRP HBW P8 P10
        go_wp2_with fail
        refine (alike_any A13 N c13 _ _ _ HS13.out (by omega)).mono ?_; rintro e w3 ⟨rfl, rfl⟩
        by_cases hal : alikeB (someL ss tt k) = false
        · have X' : Hid (rebR ss tt (K : Int) = ([], 1)) := Lib.hid (by rw [X.out, if_pos hal])
          rw [hal]
          go_wp2
          go_ret2
          exact retNil w 1 _ X'.out HBR.out
        · have hal' : alikeB (someL ss tt k) = true := by simpa using hal
          rw [if_neg hal] at X
          have HAL := Lib.hid hal'
          rw [hal']
          clear hal hal'
          by_cases hNK : N < K
          · have X' : Hid (rebR ss tt (K : Int) = ([], 70)) := Lib.hid (by rw [X.out, if_pos hNK])
            go_wp2
            go_ret2
            exact retNil w 70 _ X'.out HBR.out
          · have X' : Hid (rebR ss tt (K : Int) = (rebL ss tt K, 0)) := Lib.hid (by rw [X.out, if_neg hNK])
            clear X
            have hNK : K ≤ N := by omega
            obtain ⟨Bm, hinv, hbm⟩ := back_is K tt k b1 b2 (by omega) (by rw [HN.out]; exact hNK)
            have XB := Lib.hid hinv
            have HBK : Hid (backL K tt k = mat K K Bm) := Lib.hid (by unfold backL; rw [hinv])
            have HS14K := Lib.hid (reads_takeS HS14.out hNK)
            have HS13K := Lib.hid (reads_takeS HS13.out hNK)
            have SZ14 : Hid (∀ s ∈ (rowsL K tt k).take K, s.size ≤ 9223372036854775807) := Lib.hid (fun s hs => by
              rw [rowsL_take K tt k (by rw [HN.out]; exact hNK)] at hs
              obtain ⟨i, hi, rfl⟩ := List.getElem_of_mem hs
              rw [mat_length] at hi
              have := col_mat K K (fun i j => genF K ((pickL tt k).getD i 0) j) i hi
              rw [sAt_get (by rw [mat_length]; exact hi)] at this
              omega)
            obtain ⟨S, hS⟩ : ∃ S, S = (someL ss tt k).take K := ⟨_, rfl⟩
            have HSE := Lib.hid hS
            have hSl : S.length = K := by rw [hS, List.length_take, someL_length, HN.out]; omega
            have hS0 : (sAt S 0) = sAt (someL ss tt k) 0 := by
              rw [hS, sAt_get (by rw [List.length_take, someL_length, HN.out]; omega), sAt_get (by rw [someL_length, HN.out]; omega), List.getElem_take]
            have hSA : alikeB S = true := (alikeB_iff S).2 (fun j hj => by
              rw [hS0]
              have e : sAt S j = sAt (someL ss tt k) j := by
                subst hS
                rw [sAt_get hj, sAt_get (by rw [someL_length, HN.out]; omega), List.getElem_take]
              rw [e]
              exact (alikeB_iff _).1 HAL.out j (by rw [someL_length, HN.out]; omega))
            have hSz : (sAt S 0).size ≤ 140737488355328 := by
              rw [hS0, someL_at _ _ _ _ (by rw [HN.out]; omega)]
              refine HZ.out _ (sAt_mem ?_)
              rw [HL.out]
              exact (filter_at _ k 0 (by have := HN.out; unfold pickL at this; omega)).1
            rw [← hS] at HS13K
            have HSL := Lib.hid hSl
            have HSA := Lib.hid hSA
            clear hinv hbm hS hSl hS0 hSA HAL
            go_wp2_with fail
            refine (inverseM_any A14 K c14 ((rowsL K tt k).take K) _ _ HS14K.out (Nat.le_refl _) (by omega) SZ14.out).mono ?_
            rintro e w6 ⟨v6, rfl, ho6, hb6⟩
            rw [XB.out] at ho6 ⊢
            rw [show (mat K K Bm, (0 : Int)).1.length = K from mat_length _ _ _] at ho6
            obtain ⟨A6, c6, rfl, _, hr6⟩ := own_readsC ho6
            obtain ⟨a6, hA6, hb6s, hc6⟩ := hr6.str (k := 0) (by omega)
            subst hA6
            have HC6 := Lib.hid hc6
            have h56 : w6.cell? ⟨w.heap.size, 0, none⟩ = some (.int .i64 (K : Int)) := (hb6.cell (p := ⟨w.heap.size, 0, none⟩) (by show w.heap.size < wr.heap.size; omega)).trans h5
            have HB6 : Hid (Below w.heap.size w w6) := Lib.hid (HBR.out.trans (hb6.mono HBR.out.size))
            have HS6 : Hid (Reads w6 w6.heap.size 1 A13 K (strV S)) := Lib.hid ((HS13K.out.below hb6).more hb6.size)
            have P56 : w.heap.size < w6.heap.size := by have := hb6.size; omega
            clear ho6 hr6 hc6 hb6 h5 HS13 HS14 HS13K HS14K SZ14 HBR
            go_wp2_with (at_make; refine make0_wp elemStr rfl _ _ rfl w6.heap.size _ _ _ k rfl rfl rfl (by omega) (by omega) (Nat.le_refl _) ?_; intro v0 w7 hown0 hg7)
            have HR0 : Hid (w7.ownsRow w6.heap.size 9 1 v0 0 (strV []) ∧ Below w6.heap.size w6 w7) := Lib.hid ⟨hown0, below_grown (Below.refl _ _) hg7 (by intro _ h; cases h)⟩
            have H56 := Lib.hid h56
            clear hown0 hg7 h56
            go_loopw [19, 21, 109] (fun v _ i wr => ∃ j : Nat, j ≤ K ∧ i = .int .i64 j ∧ Hid (wr.ownsRow w6.heap.size 9 1 v j (strV ((List.range j).map fun i => sumL (sAt (mat K K Bm) i) S)) ∧ Below w6.heap.size w6 wr)) (fun _ _ i _ => K - (intOf i).toNat)
            case atStart => exact ⟨0, by omega, rfl, HR0⟩
            case round =>
              obtain ⟨j, hj, rfl, HJ⟩ := hrel
              clear HR0
              have h5r : wr.cell? ⟨w.heap.size, 0, none⟩ = some (.int .i64 (K : Int)) := (HJ.out.2.cell P56).trans H56.out
              have hle := HJ.out.2.size
              have HSr : Hid (Reads wr w6.heap.size 1 A13 K (strV S)) := Lib.hid (HS6.out.below HJ.out.2)
              by_cases hjl : j < K
              · have hck : wr.cell? (a6.add j) = some (.string (sAt (mat K K Bm) j)) := (HJ.out.2.cell (by rw [block_of_add]; omega)).trans (HC6.out j hjl)
                have SZ : Hid (K ≤ (sAt (mat K K Bm) j).size) := Lib.hid (by rw [col_mat K K Bm j hjl]; omega)
                have hk1 : j ≤ 4611686018427387904 := by omega
                have hk2 : (j + 1) * 16 ≤ 140737488355328 := by omega
                go_wp2_with (first
                  | (go_at_call 67; refine (sum_any _ A13 K c13 S _ _ HSr.out hle b1 (by omega) HSA.out (by omega) SZ.out).mono ?_; rintro e w8 ⟨rfl, hb8⟩; have HB8 := Lib.hid hb8; have HO8 := Lib.hid (own_below HJ.out.1 hb8); have hs8 := hb8.size; clear hb8)
                  | (at_builtin; refine append1_new elemStr rfl _ _ rfl w6.heap.size _ j _ rfl HO8.out _ rfl rfl hk1 hk2 (Nat.le_trans hle hs8) ?_; intro v' w' ho hg))
                have HK' : Hid (w'.ownsRow w6.heap.size 9 1 v' (j + 1) (strV ((List.range (j + 1)).map fun i => sumL (sAt (mat K K Bm) i) S)) ∧ Below w6.heap.size w6 w') :=
                  Lib.hid ⟨by rw [map_succ]; simpa [strV] using ho, below_own (HJ.out.2.trans (HB8.out.mono hle)) HO8.out hg⟩
                clear ho hg
                go_roundw
                case rel => exact ⟨j + 1, by omega, by go_num, HK'⟩
                case measure => simp [intOf]; omega
              · obtain rfl : j = K := by omega
                obtain ⟨O, hO⟩ : ∃ O, O = (List.range j).map fun i => sumL (sAt (mat j j Bm) i) S := ⟨_, rfl⟩
                have hOl : O.length = j := by rw [hO]; simp
                have hO0 : (sAt O 0).size = (sAt S 0).size := by rw [hO, sAt_map _ _ _ (by omega), sumL_size]
                have hOA : alikeB O = true := (alikeB_iff O).2 (fun i hi => by rw [hO0]; rw [hOl] at hi; rw [hO, sAt_map _ _ _ hi, sumL_size])
                have HOE : Hid (outL ss tt j = O) := Lib.hid (by unfold outL; rw [HL.out, HBK.out, ← HSE.out, hO])
                have XE : Hid (encR O (q : Int) = (parL O q, 0)) := Lib.hid (by
                  rw [encR_yes ⟨by omega, by omega, hOA, by omega, by omega⟩, Int.toNat_natCast])
                have HOl := Lib.hid hOl
                have HO0 := Lib.hid hO0
                have HJ1 := HJ.out.1
                rw [← hO] at HJ1
                have HJO := Lib.hid HJ1
                have HB9 : Hid (Below w.heap.size w wr) := Lib.hid (HB6.out.trans (HJ.out.2.mono (by omega)))
                clear HJ1 HJ hO hOl hO0 hOA
                obtain ⟨A19, c19, rfl, hcap19, hr19⟩ := own_readsC HJO.out
                have HR19 := Lib.hid hr19
                clear hr19
                go_wp2_with fail
                refine (encode_any A19 j c19 O (q : Int) _ _ HR19.out (Nat.le_refl _) (by omega) (by omega) (by omega) (by rw [HO0.out]; omega)).mono ?_
                rintro e w9 ⟨v9, rfl, ho9, hb9⟩
                rw [XE.out] at ho9 ⊢
                rw [show (parL O q, (0 : Int)).1.length = q from parL_length _ _] at ho9
                obtain ⟨A9, c9, rfl, _, hr9⟩ := own_readsC ho9
                have HR9 := Lib.hid hr9
                have HJ9 := Lib.hid (own_below HJO.out hb9)
                have HB10 := Lib.hid (HB9.out.trans (hb9.mono HB9.out.size))
                have hs9 := hb9.size
                clear ho9 hr9 hb9
                obtain ⟨ii, hii, hz0, hz1, hz2⟩ := elemStr.info
                have HI := Lib.hid hii
                have HZ0 := Lib.hid hz0
                have HZ1 := Lib.hid hz1
                have HZ2 := Lib.hid hz2
                clear hii hz0 hz1 hz2
                go_wp2_with (at_builtin; refine wpList_append_any _ rfl _ _ _ rfl w6.heap.size 9 ii _ 1 16 elemStr.ht HI.out HZ0.out HZ1.out HZ2.out elemStr.hz (by decide) _ j (strV O) rfl HJ9.out _ A9 q c9 (strV (parL O q)) rfl HR9.out (strV_one _) (by unfold maxLen; omega) (by omega) (Nat.le_trans hle hs9) ?_; intro v' w' ho hg _)
                have HF : Hid (w'.ownsRow w.heap.size 9 1 v' (rebL ss tt j).length (strV (rebL ss tt j)) ∧ Below w.heap.size w w') := Lib.hid (by
                  have e : rebL ss tt j = O ++ parL O q := by unfold rebL; rw [HOE.out, HL.out, HQN.out]
                  have e2 : (rebL ss tt j).length = j + q := by rw [e, List.length_append, HOl.out, parL_length]
                  rw [e2, e]
                  refine ⟨own_base (by simpa [strV] using ho) (by omega), below_own HB10.out (own_base HJ9.out (by omega)) hg⟩)
                clear ho hg
                go_ret2
                exact ⟨_, by rw [X'.out]; rfl, by rw [X'.out]; exact HF.out.1, HF.out.2⟩
end Go.Proofs.Ythlnnclpfgokjaa
namespace Go.Proofs.Ythlnnclpfgokjaa
open Go.RowKit Gf
set_option linter.unusedVariables false
set_option linter.unusedSimpArgs false
theorem own_drew {w : World} {base : Nat} {e : TypeId} {size n : Nat} {v : Value} {xs : List Value} (h : w.ownsRow base e size v n xs) : w.drew.ownsRow base e size v n xs := h
theorem far_own {w w' : World} {base : Nat} {e : TypeId} {size n : Nat} {v : Value} {xs : List Value} (hg : w.grownBy w' v.ownBlock) (h : w.ownsRow base e size v n xs) {p : Addr} (hp : p.block < base) (hb : p.block < w.heap.size) : w'.cell? p = w.cell? p :=
  World.cell?_of_block (hg.block p.block hb (fun e => by have := own_ge h _ e.symm; omega))
theorem step_append1 {P : Program} {w : World} {t e : TypeId} {z : Value} {bytes : Nat} (E : Elem1 P t e z bytes) {ops : Array Oper} {o : Oper} {a : Act} {K : Act → World → Prop} {Q : Exit → Act → World → Prop} {F : Prop} (hgd : o.guard = none) (s x : Operand)
    (ho : o.op = .call { callee := .builtin .append, args := #[s, x], argTypes := #[t, t] })
    (base : Nat) (v : Value) (n : Nat) (xs : List Value) (hs : a.eval s = v) (hown : w.ownsRow base e 1 v n xs) (u : Value) (hx : a.eval x = .slice (some ⟨w.heap.size, 0, none⟩) 1 1)
    (h1 : u.oneCell' = true) (hn : n ≤ 4611686018427387904) (hbytes : (n + 1) * bytes ≤ 140737488355328) (hbase : base ≤ w.heap.size)
    (h : ∀ v' w', w'.ownsRow base e 1 v' (n + 1) (xs ++ [u]) → w.grownBy w' v.ownBlock → K (a.put o.dst v') w') :
    if Region.wanted o (yielded ops a.tmps) = true then Oper.wp P o a (w.alloc (.cells #[u] e)).drew K Q else F := by
  obtain ⟨i, hi, hz0, hz1, hz2⟩ := E.info
  refine step_append_any (w.alloc (.cells #[u] e)).drew hgd s x t ho base e i z 1 bytes E.ht hi hz0 hz1 hz2 E.hz (by decide) v n xs hs (own_drew (hown.alloc _)) (w.heap.size + 1) (some ⟨w.heap.size, 0, none⟩) 1 1 [u] hx
    ⟨rfl, fun _ => ⟨_, rfl, by simp, fun j u' hj => ?_⟩⟩ (by intro u' hu'; rw [List.mem_singleton] at hu'; subst hu'; exact h1) (by unfold maxLen; omega) hbytes (by simp; omega) (fun v' w' h2 h3 h4 => h v' w' h2 ?_)
  · match j, hj with
    | 0, hj =>
      simp at hj; subst hj
      have := (World.rowIs_alloc w #[u] e (fun _ => u) (fun i hi => by
        have : i = 0 := by simpa using hi
        subst this; rfl)).cell (i := 0) (by simp)
      simp [Addr.add]
  · exact ⟨h3.os, h3.tape, h3.output, Nat.le_trans (by simp) h3.size, fun k hk hne => (h3.block k (by simp; omega) hne).trans (Below.heap_alloc w _ k hk)⟩
theorem wp_append1 {P : Program} {w : World} {t e : TypeId} {z : Value} {bytes : Nat} (E : Elem1 P t e z bytes) {o : Oper} {a : Act} {K : Act → World → Prop} {Q : Exit → Act → World → Prop} (s x : Operand)
    (ho : o.op = .call { callee := .builtin .append, args := #[s, x], argTypes := #[t, t] })
    (base : Nat) (v : Value) (n : Nat) (xs : List Value) (hs : a.eval s = v) (hown : w.ownsRow base e 1 v n xs) (u : Value) (hx : a.eval x = .slice (some ⟨w.heap.size, 0, none⟩) 1 1)
    (h1 : u.oneCell' = true) (hn : n ≤ 4611686018427387904) (hbytes : (n + 1) * bytes ≤ 140737488355328) (hbase : base ≤ w.heap.size)
    (h : ∀ v' w', w'.ownsRow base e 1 v' (n + 1) (xs ++ [u]) → w.grownBy w' v.ownBlock → K (a.put o.dst v') w') :
    Oper.wp P o a (w.alloc (.cells #[u] e)) K Q := by
  obtain ⟨i, hi, hz0, hz1, hz2⟩ := E.info
  refine wp_append_any (w.alloc (.cells #[u] e)) s x t ho base e i z 1 bytes E.ht hi hz0 hz1 hz2 E.hz (by decide) v n xs hs (hown.alloc _) (w.heap.size + 1) (some ⟨w.heap.size, 0, none⟩) 1 1 [u] hx
    ⟨rfl, fun _ => ⟨_, rfl, by simp, fun j u' hj => ?_⟩⟩ (by intro u' hu'; rw [List.mem_singleton] at hu'; subst hu'; exact h1) (by unfold maxLen; omega) hbytes (by simp; omega) (fun v' w' h2 h3 h4 => h v' w' h2 ?_)
  · match j, hj with
    | 0, hj =>
      simp at hj; subst hj
      have := (World.rowIs_alloc w #[u] e (fun _ => u) (fun i hi => by
        have : i = 0 := by simpa using hi
        subst this; rfl)).cell (i := 0) (by simp)
      simp [Addr.add]
  · exact ⟨h3.os, h3.tape, h3.output, Nat.le_trans (by simp) h3.size, fun k hk hne => (h3.block k (by simp; omega) hne).trans (Below.heap_alloc w _ k hk)⟩
theorem bytes_reads (W : World) (e : TypeId) (s : ByteArray) : Reads (Lib.bytesWorld W e s) (Lib.bytesWorld W e s).heap.size 1 (some ⟨W.heap.size, 0, none⟩) s.size (u8s s.data.toList) := by
  refine ⟨by rw [u8s_length, data_length]; omega, fun _ => ⟨_, rfl, by rw [Lib.bytesWorld_size]; simp, fun j u hu => ?_⟩⟩
  have hj : j < s.size := by
    rcases Nat.lt_or_ge j s.size with h | h
    · exact h
    · rw [List.getElem?_eq_none (by rw [u8s_length, data_length]; exact h)] at hu; cases hu
  have := u8s_get s.data.toList j (by rw [data_length]; exact hj)
  rw [List.getD_eq_getElem?_getD, hu] at this
  rw [add0, Lib.bytesWorld_cell W e s j hj, ← this]; rfl
theorem bytes_below (W : World) (e : TypeId) (s : ByteArray) : Below W.heap.size W (Lib.bytesWorld W e s) :=
  ⟨by simp [Lib.bytesWorld, World.freeze, World.alloc, World.drew, -World.alloc_eq, -World.drew_eq], by simp [Lib.bytesWorld, World.freeze, World.alloc, World.drew, -World.alloc_eq, -World.drew_eq],
   by simp [Lib.bytesWorld, World.freeze, World.alloc, World.drew, -World.alloc_eq, -World.drew_eq], by rw [Lib.bytesWorld_size]; omega, fun k hk => Lib.bytesWorld_at_old W e s k hk⟩
theorem rcauchy_x (x : Int) (m : Nat) (c : Int) (hx : x = (m : Int)) (w : World) :
    Calls Try.prog 26 #[.int .i64 x, .int .i64 c] w fun e w' => RetStrs w w' e (cauR (m : Int) c) := by subst hx; exact rcauchy_any _ _ _
set_option maxRecDepth 100000 in
theorem rrebuild_bad (A : Option Addr) (n c : Nat) (ss : List ByteArray) (A' : Option Addr) (n' c' : Nat) (tt : List Bool) (k : Int) (w : World) (B B' : Nat) (h : Reads w B 1 A n (strV ss)) (h' : Reads w B' 1 A' n' (boolV tt))
    (hn : n ≤ 9223372036854775807) (hn' : n' ≤ 9223372036854775807) (hbad : ¬ rebOk ss tt k) :
    Calls Try.prog 48 #[.slice A n c, .slice A' n' c', .int .i64 k] w fun e w' => RetStrs w w' e (rebR ss tt k) := by
  have hl := h.len
  have hl' := h'.boolLen
  have X := Lib.hid (rebR_no hbad)
  have hcases : k < 1 ∨ 32 < k ∨ (1 ≤ k ∧ k ≤ 32 ∧ (n : Int) < k) ∨ (1 ≤ k ∧ k ≤ 32 ∧ k ≤ (n : Int) ∧ 64 < n) ∨ (1 ≤ k ∧ k ≤ 32 ∧ k ≤ (n : Int) ∧ n ≤ 64 ∧ n' ≠ n) := by
    unfold rebOk at hbad; omega
  clear hbad hl hl' h h'
  have HB := Lib.hid (Below.refl w.heap.size w)
  rcases hcases with h | h | ⟨h1, h2, h⟩ | ⟨h1, h2, h3, h⟩ | ⟨h1, h2, h3, h4, h⟩
  · go_enter Try.func48, Try.ntmps48
    go_wp2
    go_ret2
    exact retNil w 1 _ X.out HB.out
  · go_enter Try.func48, Try.ntmps48
    go_wp2
    go_ret2
    exact retNil w 1 _ X.out HB.out
  · go_enter Try.func48, Try.ntmps48
    go_wp2
    go_ret2
    exact retNil w 1 _ X.out HB.out
  · go_enter Try.func48, Try.ntmps48
    go_wp2
    go_ret2
    exact retNil w 1 _ X.out HB.out
  · have hne : ((n' : Int) != (n : Int)) = true := by rw [bne_iff_ne]; omega
    clear h
    go_enter Try.func48, Try.ntmps48
    go_wp2
    go_ret2
    exact retNil w 1 _ X.out HB.out
set_option maxRecDepth 100000 in
set_option maxHeartbeats 4000000 in
theorem rrebuild_any (A : Option Addr) (n c : Nat) (ss : List ByteArray) (A' : Option Addr) (n' c' : Nat) (tt : List Bool) (k : Int) (w : World) (B B' : Nat) (h : Reads w B 1 A n (strV ss)) (hB : B ≤ w.heap.size) (h' : Reads w B' 1 A' n' (boolV tt)) (hB' : B' ≤ w.heap.size)
    (hn : n ≤ 9223372036854775807) (hn' : n' ≤ 9223372036854775807) (hs : ∀ s ∈ ss, s.size ≤ 140737488355328) :
    Calls Try.prog 48 #[.slice A n c, .slice A' n' c', .int .i64 k] w fun e w' => RetStrs w w' e (rebR ss tt k) := by
  by_cases hok : ¬ rebOk ss tt k
  · exact rrebuild_bad A n c ss A' n' c' tt k w B B' h h' hn hn' hok
  have hok := Classical.not_not.1 hok
  have hl := h.len
  have hl' := h'.boolLen
  obtain ⟨a1, a2, a3, a4, a5⟩ := id hok
  have X : Hid (rebR ss tt k = if alikeB (someL ss tt n) = false then ([], 1) else if (pickL tt n).length < k.toNat then ([], 70) else (rebL ss tt k.toNat, 0)) := Lib.hid (by
    unfold rebR; rw [if_pos hok, hl])
  obtain ⟨K, rfl⟩ : ∃ m : Nat, k = m := ⟨k.toNat, by omega⟩
  rw [hl] at a3 a4
  obtain rfl : n' = n := by omega
  rw [Int.toNat_natCast] at X
  have HL := Lib.hid hl
  have HL' := Lib.hid hl'
  have HS := Lib.hid h
  have HT := Lib.hid h'
  have HZ := Lib.hid hs
  clear hok hl hl' h h' hs a5
  have b1 : 1 ≤ K := by omega
  have b2 : K ≤ 32 := by omega
  have b3 : K ≤ n' := by omega
  clear a1 a2 a3
  have XU : Hid (unitR (K : Int) = (mat K K (fun i j => if i = j then 1 else 0), 0)) := Lib.hid (by unfold unitR; rw [if_pos (by omega)]; rfl)
  obtain ⟨q, hq⟩ : ∃ q : Nat, (n' : Int) - (K : Int) = (q : Int) := ⟨n' - K, by omega⟩
  have hqn : q = n' - K := by omega
  have XC : Hid (1 ≤ q → cauR (q : Int) (K : Int) = (mat q K cauF, 0)) := Lib.hid (fun h => by unfold cauR; rw [if_pos (by omega)]; rfl)
  have HQN := Lib.hid hqn
  clear hqn
  go_enter Try.func48, Try.ntmps48
  go_wp2_with fail
  refine (runit_any _ _).mono ?_
  rintro e w1 ⟨v1, rfl, ho1, hb1⟩
  rw [XU.out] at ho1 ⊢
  rw [show (mat K K (fun i j => if i = j then (1 : UInt8) else 0), (0 : Int)).1.length = K from mat_length _ _ _] at ho1
  obtain ⟨A1, c1, rfl, _, hr1⟩ := own_readsC ho1
  obtain ⟨W, hW⟩ : ∃ W, W = w1 := ⟨_, rfl⟩
  rw [← hW] at ho1 hb1 hr1 ⊢
  have HBW := Lib.hid hb1
  have HRU := Lib.hid hr1
  clear ho1 hb1 hr1 hW
  go_wp2
  go_loopw [8, 9, 12, 13, 14] (fun va vb i _ _ wr => ∃ k : Nat, k ≤ n' ∧ i = .int .i64 k ∧ Hid (Two wr W.heap.size 9 va (pickL tt k).length (strV (someL ss tt k)) vb (pickL tt k).length (strV (rowsL K tt k)) ∧ Below W.heap.size W wr)) (fun _ _ i _ _ _ => n' - (intOf i).toNat)
  case atStart => exact ⟨0, by omega, rfl, Lib.hid ⟨Two.nil _ _ _, Below.refl _ _⟩⟩
  case round =>
    obtain ⟨k, hk, rfl, HK⟩ := hrel
    by_cases hlt : k < n'
    · obtain ⟨ad, rfl, hba, hca⟩ := HS.out.str hlt
      obtain ⟨at_, rfl, hbt, hct⟩ := HT.out.bool hlt
      have hS := HBW.out.size
      have hcs : wr.cell? (ad.add k) = some (.string (sAt ss k)) := (HK.out.2.cell (by rw [block_of_add]; omega)).trans ((HBW.out.cell (by rw [block_of_add]; omega)).trans (hca k hlt))
      have hcb : wr.cell? (at_.add k) = some (.bool (tt.getD k false)) := (HK.out.2.cell (by rw [block_of_add]; omega)).trans ((HBW.out.cell (by rw [block_of_add]; omega)).trans (hct k hlt))
      clear hca hct
      by_cases hb : tt.getD k false = true
      · rw [hb] at hcb
        obtain ⟨e1, e2, e3⟩ := pick_yes ss K hb
        have E1 := Lib.hid e1
        have E2 := Lib.hid e2
        have E3 := Lib.hid e3
        have hN := pickL_len tt k
        have hle := HK.out.2.size
        have hk1 : (pickL tt k).length ≤ 4611686018427387904 := by omega
        have hk2 : ((pickL tt k).length + 1) * 16 ≤ 140737488355328 := by omega
        clear hb e1 e2 e3
        generalize pickL tt k = pk at *
        have ARM : True := trivial
        by_cases hlow : k < K
        · obtain ⟨au, rfl, hbu, hcu⟩ := HRU.out.str hlow
          have hcu1 := hcu k hlow
          have HE := Lib.hid (genRow_low K k hlow)
          rw [← HE.out] at hcu1
          have HCU := Lib.hid hcu1
          clear hcu hcu1
          go_wp2_with (first
            | (at_builtin; refine append1_blk elemStr rfl _ _ rfl W.heap.size u8 _ _ (by rfl) HK.out.1.o1 (.string (sAt ss k)) (by rfl) (by rfl) hk1 hk2 hle ?_; intro v13 w13 ho13 hg13 hd13; have H13 := Lib.hid (HK.out.1.push ho13 hg13 hd13); have HB13 := Lib.hid (below_own HK.out.2 HK.out.1.o1 hg13); have hs13 := HB13.out.size; have hcu2 := (HB13.out.cell (p := au.add k) (by rw [block_of_add]; omega)).trans HCU.out; clear ho13 hg13 hd13)
            | (at_builtin; refine append1_blk elemStr rfl _ _ rfl W.heap.size u9 _ _ (by rfl) H13.out.o2 (.string (genRow K k)) (by rfl) (by rfl) hk1 hk2 hs13 ?_; intro v14 w14 ho14 hg14 hd14; have H14 := Lib.hid (H13.out.symm.push ho14 hg14 hd14).symm; have HB14 := Lib.hid (below_own HB13.out H13.out.o2 hg14); clear ho14 hg14 hd14))
          go_roundw
          case rel => exact ⟨k + 1, by omega, by go_num, Lib.hid (by rw [E1.out, E2.out, E3.out]; exact ⟨H14.out, HB14.out⟩)⟩
          case measure => simp [intOf]; omega
        · have hq1 : 1 ≤ q := by omega
          have XC1 := Lib.hid (XC.out hq1)
          obtain ⟨kj, hkj⟩ : ∃ kj : Nat, k = K + kj := ⟨k - K, by omega⟩
          have hsub : (k : Int) - (K : Int) = (kj : Int) := by omega
          have hkq : kj < q := by omega
          have HE : Hid (genRow K k = sAt (mat q K cauF) kj) := Lib.hid (by rw [genRow_high K q k (by omega) (by omega)]; congr 1; omega)
          clear hkj
          go_wp2_with (at_builtin; refine append1_blk elemStr rfl _ _ rfl W.heap.size u8 _ _ (by rfl) HK.out.1.o1 (.string (sAt ss k)) (by rfl) (by rfl) hk1 hk2 hle ?_; intro v13 w13 ho13 hg13 hd13; have H13 := Lib.hid (HK.out.1.push ho13 hg13 hd13); have HB13 := Lib.hid (below_own HK.out.2 HK.out.1.o1 hg13); have hs13 := HB13.out.size; clear ho13 hg13 hd13)
          refine (rcauchy_x _ q _ (by omega) _).mono ?_
          rintro e w15 ⟨v15, rfl, ho15, hb15⟩
          rw [XC1.out] at ho15 ⊢
          rw [show (mat q K cauF, (0 : Int)).1.length = q from mat_length _ _ _] at ho15
          obtain ⟨A15, c15, rfl, _, hr15⟩ := own_readsC ho15
          obtain ⟨a15, hA15, hb15s, hc15⟩ := hr15.str (k := kj) hkq
          subst hA15
          have hcu2 := hc15 kj hkq
          rw [← HE.out] at hcu2
          have H15 := Lib.hid (H13.out.below hb15)
          have HB15 := Lib.hid (HB13.out.trans (hb15.mono hs13))
          have hs15 := HB15.out.size
          clear ho15 hb15 hr15 hc15
          go_wp2_with (at_builtin; refine append1_blk elemStr rfl _ _ rfl W.heap.size u9 _ _ (by rfl) H15.out.o2 (.string (genRow K k)) (by rfl) (by rfl) hk1 hk2 hs15 ?_; intro v14 w14 ho14 hg14 hd14; have H14 := Lib.hid (H15.out.symm.push ho14 hg14 hd14).symm; have HB14 := Lib.hid (below_own HB15.out H15.out.o2 hg14); clear ho14 hg14 hd14)
          go_roundw
          case rel => exact ⟨k + 1, by omega, by go_num, Lib.hid (by rw [E1.out, E2.out, E3.out]; exact ⟨H14.out, HB14.out⟩)⟩
          case measure => simp [intOf]; omega
      · have hbf : tt.getD k false = false := by simpa using hb
        rw [hbf] at hcb
        obtain ⟨e1, e2⟩ := pick_no ss K hbf
        have E1 := Lib.hid e1
        have E2 := Lib.hid e2
        clear hb hbf e1 e2
        go_wp2
        go_roundw
        case rel => exact ⟨k + 1, by omega, by go_num, Lib.hid (by rw [E1.out, E2.out.1, E2.out.2]; exact HK.out)⟩
        case measure => simp [intOf]; omega
    · obtain rfl : k = n' := by omega
      obtain ⟨A13, c13, rfl, hcap13, hr13⟩ := own_readsC HK.out.1.o1
      obtain ⟨A14, c14, rfl, hcap14, hr14⟩ := own_readsC HK.out.1.o2
      obtain ⟨N, hN⟩ : ∃ N, (pickL tt k).length = N := ⟨_, rfl⟩
      have hNk : N ≤ k := by rw [← hN]; exact pickL_len tt k
      rw [hN] at hcap13 hr13 hcap14 hr14 X
      rw [hN]
      have HN := Lib.hid hN
      have HS13 := Lib.hid hr13
      have HS14 := Lib.hid hr14
      have hs3 := HK.out.2.size
      have HBR : Hid (Below w.heap.size w wr) := Lib.hid (HBW.out.trans (HK.out.2.mono HBW.out.size))
      clear hN hr13 hr14 HK HRU HBW
      go_wp2_with fail
      refine (ralike_any A13 N c13 _ _ _ HS13.out (by omega)).mono ?_; rintro e w3 ⟨rfl, q3, rfl⟩
      by_cases hal : alikeB (someL ss tt k) = false
      · have X' : Hid (rebR ss tt (K : Int) = ([], 1)) := Lib.hid (by rw [X.out, if_pos hal])
        rw [hal]
        go_wp2
        go_ret2
        exact retNil w 1 _ X'.out (below_drewN HBR.out _)
      · have hal' : alikeB (someL ss tt k) = true := by simpa using hal
        rw [if_neg hal] at X
        have HAL := Lib.hid hal'
        rw [hal']
        clear hal hal'
        by_cases hNK : N < K
        · have X' : Hid (rebR ss tt (K : Int) = ([], 70)) := Lib.hid (by rw [X.out, if_pos hNK])
          go_wp2
          go_ret2
          exact retNil w 70 _ X'.out (below_drewN HBR.out _)
        · have X' : Hid (rebR ss tt (K : Int) = (rebL ss tt K, 0)) := Lib.hid (by rw [X.out, if_neg hNK])
          clear X
          have hNK : K ≤ N := by omega
          obtain ⟨Bm, hinv, hbm⟩ := back_is K tt k b1 b2 (by omega) (by rw [HN.out]; exact hNK)
          have XB := Lib.hid hinv
          have HBK : Hid (backL K tt k = mat K K Bm) := Lib.hid (by unfold backL; rw [hinv])
          have HS14K := Lib.hid (reads_takeS HS14.out hNK)
          have HS13K := Lib.hid (reads_takeS HS13.out hNK)
          have SZ14 : Hid (∀ s ∈ (rowsL K tt k).take K, s.size ≤ 9223372036854775807) := Lib.hid (fun s hs => by
            rw [rowsL_take K tt k (by rw [HN.out]; exact hNK)] at hs
            obtain ⟨i, hi, rfl⟩ := List.getElem_of_mem hs
            rw [mat_length] at hi
            have := col_mat K K (fun i j => genF K ((pickL tt k).getD i 0) j) i hi
            rw [sAt_get (by rw [mat_length]; exact hi)] at this
            omega)
          obtain ⟨S, hS⟩ : ∃ S, S = (someL ss tt k).take K := ⟨_, rfl⟩
          have HSE := Lib.hid hS
          have hSl : S.length = K := by rw [hS, List.length_take, someL_length, HN.out]; omega
          have hS0 : (sAt S 0) = sAt (someL ss tt k) 0 := by
            rw [hS, sAt_get (by rw [List.length_take, someL_length, HN.out]; omega), sAt_get (by rw [someL_length, HN.out]; omega), List.getElem_take]
          have hSA : alikeB S = true := (alikeB_iff S).2 (fun j hj => by
            rw [hS0]
            have e : sAt S j = sAt (someL ss tt k) j := by
              subst hS
              rw [sAt_get hj, sAt_get (by rw [someL_length, HN.out]; omega), List.getElem_take]
            rw [e]
            exact (alikeB_iff _).1 HAL.out j (by rw [someL_length, HN.out]; omega))
          have hSz : (sAt S 0).size ≤ 140737488355328 := by
            rw [hS0, someL_at _ _ _ _ (by rw [HN.out]; omega)]
            refine HZ.out _ (sAt_mem ?_)
            rw [HL.out]
            exact (filter_at _ k 0 (by have := HN.out; unfold pickL at this; omega)).1
          rw [← hS] at HS13K
          have HSL := Lib.hid hSl
          have HSA := Lib.hid hSA
          clear hinv hbm hS hSl hS0 hSA HAL
          go_wp2_with fail
          refine (rinverse_any A14 K c14 ((rowsL K tt k).take K) _ _ (HS14K.out.drewN q3) (Nat.le_refl _) (by omega) SZ14.out).mono ?_
          rintro e w6 ⟨v6, rfl, ho6, hb6'⟩
          have hb6 : Below wr.heap.size wr w6 := (below_drewN (Below.refl wr.heap.size wr) q3).trans hb6'
          rw [XB.out] at ho6 ⊢
          rw [show (mat K K Bm, (0 : Int)).1.length = K from mat_length _ _ _] at ho6
          obtain ⟨A6, c6, rfl, _, hr6⟩ := own_readsC ho6
          obtain ⟨a6, hA6, hb6s, hc6⟩ := hr6.str (k := 0) (by omega)
          subst hA6
          have HC6 := Lib.hid hc6
          have HB6 : Hid (Below w.heap.size w w6) := Lib.hid (HBR.out.trans (hb6.mono HBR.out.size))
          have HS6 : Hid (Reads w6 w6.heap.size 1 A13 K (strV S)) := Lib.hid ((HS13K.out.below hb6).more hb6.size)
          have P56 : w.heap.size ≤ w6.heap.size := by have := HB6.out.size; omega
          clear ho6 hr6 hc6 hb6 hb6' HS13 HS14 HS13K HS14K SZ14 HBR
          go_wp2
          go_loopw [17, 18] (fun v i wr => ∃ j : Nat, j ≤ K ∧ i = .int .i64 j ∧ Hid (wr.ownsRow w6.heap.size 9 1 v j (strV ((List.range j).map fun i => sumL (sAt (mat K K Bm) i) S)) ∧ Below w6.heap.size w6 wr)) (fun _ i _ => K - (intOf i).toNat)
          case atStart => exact ⟨0, by omega, rfl, Lib.hid ⟨World.ownsRow_nil _ _ _ _, Below.refl _ _⟩⟩
          case round =>
            obtain ⟨j, hj, rfl, HJ⟩ := hrel
            have hle := HJ.out.2.size
            have HSr : Hid (Reads wr w6.heap.size 1 A13 K (strV S)) := Lib.hid (HS6.out.below HJ.out.2)
            by_cases hjl : j < K
            · have hck : wr.cell? (a6.add j) = some (.string (sAt (mat K K Bm) j)) := (HJ.out.2.cell (by rw [block_of_add]; omega)).trans (HC6.out j hjl)
              have SZ : Hid (K ≤ (sAt (mat K K Bm) j).size) := Lib.hid (by rw [col_mat K K Bm j hjl]; omega)
              have hk1 : j ≤ 4611686018427387904 := by omega
              have hk2 : (j + 1) * 16 ≤ 140737488355328 := by omega
              obtain ⟨r, hr⟩ : ∃ r, sAt (mat K K Bm) j = r := ⟨_, rfl⟩
              rw [hr] at hck SZ
              have HRW := Lib.hid hr
              clear hr
              have HCK := Lib.hid hck
              have HJ1 := Lib.hid HJ.out.1
              have hconv : ∀ W, (convert 9 44 (.string r)).run Try.prog W = .ok (.slice (some ⟨W.heap.size, 0, none⟩) r.size (grownCap W r.size 0 5)) (Lib.bytesWorld W 5 r) := fun W => Lib.run_convert_string_bytes (P := Try.prog) W _ _ _ r (show Try.prog.underlying 9 = some .string by kernel_rfl) (by kernel_rfl) (by kernel_rfl)
              have hji : (j : Int) < (K : Int) := by omega
              have hcK : K ≤ c13 := by omega
              go_wp2
              have hsd : wr.heap.size ≤ (Lib.bytesWorld wr.drew 5 r).heap.size := by have := (bytes_below wr.drew 5 r).size; simp at this; exact this
              have HBB : Hid (Below wr.heap.size wr (Lib.bytesWorld wr.drew 5 r)) := Lib.hid ((Below.refl wr.heap.size wr).drew.trans (show Below wr.heap.size wr.drew _ from bytes_below wr.drew 5 r))
              have HSB : Hid (Reads (Lib.bytesWorld wr.drew 5 r) w6.heap.size 1 A13 K (strV S)) := Lib.hid (HSr.out.below (HBB.out.mono hle))
              have HRB : Hid (Reads (Lib.bytesWorld wr.drew 5 r) (Lib.bytesWorld wr.drew 5 r).heap.size 1 (some ⟨wr.heap.size, 0, none⟩) r.size (u8s r.data.toList)) := Lib.hid (bytes_reads wr.drew _ r)
              have ha6 : a6.block < wr.heap.size := by omega
              have KX : Hid (∀ W, Below wr.heap.size wr W → W.cell? (a6.add j) = some (.string r)) := Lib.hid (fun W hb => (hb.cell (by rw [block_of_add]; exact ha6)).trans HCK.out)
              have KG : Hid (∀ W W', Below wr.heap.size wr W → W.grownBy W' u17.ownBlock → W'.cell? (a6.add j) = some (.string r)) := Lib.hid (fun W W' hb hg => (World.cell?_of_block (w := W) (hg.block _ (by rw [block_of_add]; have := hb.size; omega) (fun e => by rw [block_of_add] at e; have := own_ge HJ1.out _ e.symm; omega))).trans (KX.out W hb))
              refine wp_region_held_drew (S := fun w' => w'.cell? (a6.add j) = some (.string r)) (by kernel_rfl) (by first | exact HCK.out | exact KX.out _ HBB.out | exact KX.out _ (HBB.out.trans (hb8.mono hsd)) | exact KX.out _ ((HBB.out.trans (hb8.mono hsd)).alloc (by have := hb8.size; omega) _) | exact KG.out _ _ (HBB.out.trans (hb8.mono hsd)) hg) (fun hHeld => ?_)
              refine wpAnyH_take (i := 0) (oi := _) (v := _) rfl (by as_aux_lemma => kernel_rfl) (by as_aux_lemma => kernel_rfl) (by as_aux_lemma => kernel_rfl) (fun _ _ _ h => h) (Or.inl ⟨by kernel_rfl, by (intro w hSw; (try dsimp only at hSw); go_simp; first | done | with_reducible rfl)⟩) (by assumption) ?_
              (try simp only [Act.put, List.setIfInBounds_toArray, List.set_cons_zero, List.set_cons_succ])
              refine wpAnyH_take (i := 1) (oi := _) (v := _) rfl (by as_aux_lemma => kernel_rfl) (by as_aux_lemma => kernel_rfl) (by as_aux_lemma => kernel_rfl) (fun _ _ _ h => h) (Or.inl ⟨by kernel_rfl, by (intro w hSw; (try dsimp only at hSw); go_simp; first | done | with_reducible rfl)⟩) (by assumption) ?_
              (try simp only [Act.put, List.setIfInBounds_toArray, List.set_cons_zero, List.set_cons_succ])
              refine wpAnyH_take (i := 2) (oi := _) (v := _) rfl (by as_aux_lemma => kernel_rfl) (by as_aux_lemma => kernel_rfl) (by as_aux_lemma => kernel_rfl) (fun _ _ _ h => h) (Or.inl ⟨by kernel_rfl, by (intro w hSw; (try dsimp only at hSw); go_simp; first | done | with_reducible rfl)⟩) (by assumption) ?_
              (try simp only [Act.put, List.setIfInBounds_toArray, List.set_cons_zero, List.set_cons_succ])
              refine wpAnyH_take (i := 3) (oi := _) (v := _) rfl (by as_aux_lemma => kernel_rfl) (by as_aux_lemma => kernel_rfl) (by as_aux_lemma => kernel_rfl) (fun _ _ _ h => h) (Or.inl ⟨by kernel_rfl, by (intro w hSw; (try dsimp only at hSw); go_simp; first | done | with_reducible rfl)⟩) (by assumption) ?_
              (try simp only [Act.put, List.setIfInBounds_toArray, List.set_cons_zero, List.set_cons_succ])
              refine wpAnyH_take (i := 4) (oi := _) (v := _) rfl (by as_aux_lemma => kernel_rfl) (by as_aux_lemma => kernel_rfl) (by as_aux_lemma => kernel_rfl) (fun _ _ _ h => h) (Or.inl ⟨by kernel_rfl, by (intro w hSw; (try dsimp only at hSw); go_simp; first | done | with_reducible rfl)⟩) (by assumption) ?_
              (try simp only [Act.put, List.setIfInBounds_toArray, List.set_cons_zero, List.set_cons_succ])
              refine wpAnyH_take (i := 6) (oi := _) (v := _) rfl (by as_aux_lemma => kernel_rfl) (by as_aux_lemma => kernel_rfl) (by as_aux_lemma => kernel_rfl) (fun _ _ _ h => h) (Or.inl ⟨by kernel_rfl, by (intro w hSw; (try dsimp only at hSw); go_simp; first | done | with_reducible rfl)⟩) (by assumption) ?_
              (try simp only [Act.put, List.setIfInBounds_toArray, List.set_cons_zero, List.set_cons_succ])
              refine wpAnyH_take (i := 7) (oi := _) (v := _) rfl (by as_aux_lemma => kernel_rfl) (by as_aux_lemma => kernel_rfl) (by as_aux_lemma => kernel_rfl) (fun _ _ _ h => h) (Or.inl ⟨by kernel_rfl, by (intro w hSw; (try dsimp only at hSw); go_simp; first | done | with_reducible rfl)⟩) (by assumption) ?_
              (try simp only [Act.put, List.setIfInBounds_toArray, List.set_cons_zero, List.set_cons_succ])
              refine wpAnyH_take (i := 8) (oi := _) (v := _) rfl (by as_aux_lemma => kernel_rfl) (by as_aux_lemma => kernel_rfl) (by as_aux_lemma => kernel_rfl) (fun _ _ _ h => h) (Or.inl ⟨by kernel_rfl, by (intro w hSw; (try dsimp only at hSw); go_simp; first | done | with_reducible rfl)⟩) (by assumption) ?_
              (try simp only [Act.put, List.setIfInBounds_toArray, List.set_cons_zero, List.set_cons_succ])
              refine wpAnyH_ready (rs := [5]) (by as_aux_lemma => kernel_rfl) (by simp) (AllReadyH.cons rfl (fun KK hK => ?_) AllReadyH.nil)
              try simp only [List.getElem_toArray, List.getElem_cons_succ, List.getElem_cons_zero]
              go_simp
              refine hK.out _ _ (by first | exact HCK.out | exact KX.out _ HBB.out | exact KX.out _ (HBB.out.trans (hb8.mono hsd)) | exact KX.out _ ((HBB.out.trans (hb8.mono hsd)).alloc (by have := hb8.size; omega) _) | exact KG.out _ _ (HBB.out.trans (hb8.mono hsd)) hg) (fun hHeld => ?_)
              clear hK KK
              (try simp only [Act.put, List.setIfInBounds_toArray, List.set_cons_zero, List.set_cons_succ])
              refine wpAnyH_ready (rs := [9]) (by as_aux_lemma => kernel_rfl) (by simp) (AllReadyH.cons rfl (fun KK hK => ?_) AllReadyH.nil)
              try simp only [List.getElem_toArray, List.getElem_cons_succ, List.getElem_cons_zero]
              go_simp
              go_at_call 66
              refine (rmade_any _ _ _ _ A13 K c13 S _ _ _ HRB.out (Nat.le_refl _) HSB.out (Nat.le_trans hle hsd) b1 (by omega) HSA.out (by omega) SZ.out).mono ?_
              rintro e w8 ⟨rfl, hb8⟩
              go_simp
              refine hK.out _ _ (by first | exact HCK.out | exact KX.out _ HBB.out | exact KX.out _ (HBB.out.trans (hb8.mono hsd)) | exact KX.out _ ((HBB.out.trans (hb8.mono hsd)).alloc (by have := hb8.size; omega) _) | exact KG.out _ _ (HBB.out.trans (hb8.mono hsd)) hg) (fun hHeld => ?_)
              clear hK KK
              (try simp only [Act.put, List.setIfInBounds_toArray, List.set_cons_zero, List.set_cons_succ])
              refine wpAnyH_ready (rs := [10]) (by as_aux_lemma => kernel_rfl) (by simp) (AllReadyH.cons rfl (fun KK hK => ?_) AllReadyH.nil)
              try simp only [List.getElem_toArray, List.getElem_cons_succ, List.getElem_cons_zero]
              go_simp
              refine hK.out _ _ (by first | exact HCK.out | exact KX.out _ HBB.out | exact KX.out _ (HBB.out.trans (hb8.mono hsd)) | exact KX.out _ ((HBB.out.trans (hb8.mono hsd)).alloc (by have := hb8.size; omega) _) | exact KG.out _ _ (HBB.out.trans (hb8.mono hsd)) hg) (fun hHeld => ?_)
              clear hK KK
              (try simp only [Act.put, List.setIfInBounds_toArray, List.set_cons_zero, List.set_cons_succ])
              refine wpAnyH_ready (rs := [11]) (by as_aux_lemma => kernel_rfl) (by simp) (AllReadyH.cons rfl (fun KK hK => ?_) AllReadyH.nil)
              try simp only [List.getElem_toArray, List.getElem_cons_succ, List.getElem_cons_zero]
              rw [if_pos (by as_aux_lemma => kernel_rfl)]
              refine wp_append1 elemStr _ _ rfl w6.heap.size u17 j _ rfl (own_below HJ1.out (HBB.out.trans (hb8.mono hsd))) _ rfl rfl hk1 hk2 (by have := hb8.size; omega) ?_
              intro v' w' ho hg
              refine hK.out _ _ (by first | exact HCK.out | exact KX.out _ HBB.out | exact KX.out _ (HBB.out.trans (hb8.mono hsd)) | exact KX.out _ ((HBB.out.trans (hb8.mono hsd)).alloc (by have := hb8.size; omega) _) | exact KG.out _ _ (HBB.out.trans (hb8.mono hsd)) hg) (fun hHeld => ?_)
              clear hK KK
              (try simp only [Act.put, List.setIfInBounds_toArray, List.set_cons_zero, List.set_cons_succ])
              refine wpAnyH_take (i := 12) (oi := _) (v := _) rfl (by as_aux_lemma => kernel_rfl) (by as_aux_lemma => kernel_rfl) (by as_aux_lemma => kernel_rfl) (fun _ _ _ h => h) (Or.inl ⟨by kernel_rfl, by (intro w hSw; (try dsimp only at hSw); go_simp; first | done | with_reducible rfl)⟩) (by assumption) ?_
              (try simp only [Act.put, List.setIfInBounds_toArray, List.set_cons_zero, List.set_cons_succ])
              refine wpAnyH_done (by as_aux_lemma => kernel_rfl) ?_ _
              simp only [List.getElem_toArray, List.getElem_cons_succ, List.getElem_cons_zero, List.set_cons_succ, List.set_cons_zero]
              have HB8 : Hid (Below wr.heap.size wr w8) := Lib.hid (HBB.out.trans (hb8.mono hsd))
              have HO8 : Hid (w8.ownsRow w6.heap.size 9 1 u17 j (strV ((List.range j).map fun i => sumL (sAt (mat K K Bm) i) S))) := Lib.hid (own_below HJ1.out HB8.out)
              rw [bs_of] at ho
              have HK' : Hid (w'.ownsRow w6.heap.size 9 1 v' (j + 1) (strV ((List.range (j + 1)).map fun i => sumL (sAt (mat K K Bm) i) S)) ∧ Below w6.heap.size w6 w') :=
                Lib.hid ⟨by rw [map_succ, HRW.out]; simpa [strV] using ho, below_own (HJ.out.2.trans (HB8.out.mono hle)) HO8.out hg⟩
              clear ho hg hHeld hb8
              go_wp2
              go_roundw
              case rel => exact ⟨j + 1, by omega, by go_num, HK'⟩
              case measure => simp [intOf]; omega
            · obtain rfl : j = K := by omega
              obtain ⟨O, hO⟩ : ∃ O, O = (List.range j).map fun i => sumL (sAt (mat j j Bm) i) S := ⟨_, rfl⟩
              have hOl : O.length = j := by rw [hO]; simp
              have hO0 : (sAt O 0).size = (sAt S 0).size := by rw [hO, sAt_map _ _ _ (by omega), sumL_size]
              have hOA : alikeB O = true := (alikeB_iff O).2 (fun i hi => by rw [hO0]; rw [hOl] at hi; rw [hO, sAt_map _ _ _ hi, sumL_size])
              have HOE : Hid (outL ss tt j = O) := Lib.hid (by unfold outL; rw [HL.out, HBK.out, ← HSE.out, hO])
              have XE : Hid (encR O (q : Int) = (parL O q, 0)) := Lib.hid (by
                rw [encR_yes ⟨by omega, by omega, hOA, by omega, by omega⟩, Int.toNat_natCast])
              have HOl := Lib.hid hOl
              have HO0 := Lib.hid hO0
              have HJ1 := HJ.out.1
              rw [← hO] at HJ1
              have HJO := Lib.hid HJ1
              have HB9 : Hid (Below w.heap.size w wr) := Lib.hid (HB6.out.trans (HJ.out.2.mono (by omega)))
              clear HJ1 HJ hO hOl hO0 hOA
              obtain ⟨A19, c19, rfl, hcap19, hr19⟩ := own_readsC HJO.out
              have HR19 := Lib.hid hr19
              clear hr19
              go_wp2_with fail
              refine (rencode_any A19 j c19 O (q : Int) _ _ HR19.out (Nat.le_refl _) (by omega) (by omega) (by omega) (by rw [HO0.out]; omega)).mono ?_
              rintro e w9 ⟨v9, rfl, ho9, hb9⟩
              rw [XE.out] at ho9 ⊢
              rw [show (parL O q, (0 : Int)).1.length = q from parL_length _ _] at ho9
              obtain ⟨A9, c9, rfl, _, hr9⟩ := own_readsC ho9
              have HR9 := Lib.hid hr9
              have HJ9 := Lib.hid (own_below HJO.out hb9)
              have HB10 := Lib.hid (HB9.out.trans (hb9.mono HB9.out.size))
              have hs9 := hb9.size
              clear ho9 hr9 hb9
              obtain ⟨ii, hii, hz0, hz1, hz2⟩ := elemStr.info
              have HI := Lib.hid hii
              have HZ0 := Lib.hid hz0
              have HZ1 := Lib.hid hz1
              have HZ2 := Lib.hid hz2
              clear hii hz0 hz1 hz2
              go_wp2_with (at_builtin; refine wpList_append_any _ rfl _ _ _ rfl w6.heap.size 9 ii _ 1 16 elemStr.ht HI.out HZ0.out HZ1.out HZ2.out elemStr.hz (by decide) _ j (strV O) rfl HJ9.out _ A9 q c9 (strV (parL O q)) rfl HR9.out (strV_one _) (by unfold maxLen; omega) (by omega) (Nat.le_trans hle hs9) ?_; intro v' w' ho hg _)
              have HF : Hid (w'.ownsRow w.heap.size 9 1 v' (rebL ss tt j).length (strV (rebL ss tt j)) ∧ Below w.heap.size w w') := Lib.hid (by
                have e : rebL ss tt j = O ++ parL O q := by unfold rebL; rw [HOE.out, HL.out, HQN.out]
                have e2 : (rebL ss tt j).length = j + q := by rw [e, List.length_append, HOl.out, parL_length]
                rw [e2, e]
                refine ⟨own_base (by simpa [strV] using ho) (by omega), below_own HB10.out (own_base HJ9.out (by omega)) hg⟩)
              clear ho hg
              go_ret2
              exact ⟨_, by rw [X'.out]; rfl, by rw [X'.out]; exact HF.out.1, HF.out.2⟩
end Go.Proofs.Ythlnnclpfgokjaa
