/- Several texts of the claim joined into one (part 1): plain facts and walks. No conditions but those that each theorem tells. -/
import Derived.Test.YtfoandpcoakcjaaGen
import Derived.Test.YtfoandpcoakcjaaRows
import Derived.Test.YtfoandpcoakcjaaMem3
import Derived.Test.YtfoandpcoakcjaaId
import Derived.Test.YtfoandpcoakcjaaTake1
import Derived.Test.YtfoandpcoakcjaaU32
import Derived.Test.YtfoandpcoakcjaaFix
import Derived.Test.YtfoandpcoakcjaaBuf
namespace Go.Proofs.Ytfoandpcoakcjaa
open Go.RowKit Go.WideShapes Go.ChangeShapes
theorem u8_of_wf {n : Int} (h : (Lit.int .u8 n).wf = true) : ∃ a : UInt8, n = (a.toNat : Int) := by
  have h := bounds_u8 h
  refine ⟨UInt8.ofNat n.toNat, ?_⟩
  rw [UInt8.toNat_ofNat']
  omega
theorem str_reach {s : ByteArray} (h : s.data.toList.length ≤ reachBytes) : s.size ≤ 140737488351232 := by
  have h2 : s.data.size ≤ reachBytes := by rw [← Array.length_toList]; exact h
  have h3 : s.size = s.data.size := rfl
  unfold reachBytes at h2
  omega
section
variable {H : Type} {enc : TypeId × Value → H} {P : Program} {W : World}
/-- A list of texts. -/
theorem open_strs {t e : TypeId} {base0 base : Nat} {r : Reach} {v : Value} {d : DataW H} {ps : List MemPlace} {ts : List TypeId} {ds : List (DataW H)} {held : Bool}
    (ht : P.underlying t = some (.slice e)) (he : P.underlying e = some .string) (hc : P.cellsOf e = 1) (hb : P.bytesOf e = 16)
    (hval : Value.okWide P W r base0 t v) (hd : DataW.Trod enc P W base (fun _ => true) held t v d ps)
    (hsz : (DataW.weightsEach P ts ds).all (· ≤ reachBytes) = true) (j : Nat) (hts : ts[j]? = some t) (hds : ds[j]? = some d) (mem : ∀ x ∈ ps, x.block < W.heap.size) :
    ∃ (A : Option Addr) (n c : Nat) (ss : List ByteArray), v = .slice A n c ∧ Reads W W.heap.size 1 A n (strV ss) ∧ n * 16 ≤ 140737488351232 ∧ ∀ s ∈ ss, s.size ≤ 9223372036854775807 := by
  obtain ⟨a0, len, cap, rfl⟩ := okWide_slice ht hval
  obtain ⟨fuel, hf⟩ := hd
  rcases open_strings ht he hc hf with ⟨hcs, hx⟩ | ⟨a, len', cap', ss, hcs, _, hl, hm, hz, hx, hcell, hws⟩
  · simp [Value.cells] at hcs
    obtain ⟨rfl, rfl, rfl⟩ := hcs
    exact ⟨none, 0, 0, [], rfl, Reads.none_, by omega, by simp⟩
  · simp [Value.cells] at hcs
    obtain ⟨rfl, rfl, rfl⟩ := hcs
    simp only [Prod.mk.injEq] at hx
    obtain ⟨rfl, rfl⟩ := hx
    simp only [if_true] at hz
    have hw := sized_slice hsz hts hds ht
    rw [hb] at hw
    simp only [strs, List.length_map, List.length_take, List.length_drop, reachBytes] at hw
    refine ⟨some a, len, cap, ss.take len, rfl, ⟨by simp [strV]; omega, fun hn => ⟨a, rfl, mem _ (MemPlace.mem_row.2 ⟨0, by omega, rfl⟩), fun k u hu => ?_⟩⟩, by omega, fun s hs => hws s (List.mem_of_mem_take hs)⟩
    have hk : k < len := by
      rcases Nat.lt_or_ge k len with h | h
      · exact h
      · rw [List.getElem?_eq_none (by simp [strV]; omega)] at hu; cases hu
    rw [hcell k (by omega)]
    simp only [strV, List.getElem?_map] at hu
    rw [List.getElem?_take, if_pos hk, List.getElem?_eq_getElem (by omega)] at hu
    simp at hu
    rw [← hu, List.getD_eq_getElem?_getD, List.getElem?_eq_getElem (by omega)]; rfl
/-- A list of texts. -/
theorem open_strsc {t e : TypeId} {base0 base : Nat} {r : Reach} {v : Value} {d : DataW H} {ps : List MemPlace} {ts : List TypeId} {ds : List (DataW H)} {held : Bool}
    (ht : P.underlying t = some (.slice e)) (he : P.underlying e = some .string) (hc : P.cellsOf e = 1) (hb : P.bytesOf e = 16)
    (hval : Value.okWide P W r base0 t v) (hd : DataW.Trod enc P W base (fun _ => true) held t v d ps)
    (hsz : (DataW.weightsEach P ts ds).all (· ≤ reachBytes) = true) (j : Nat) (hts : ts[j]? = some t) (hds : ds[j]? = some d) (mem : ∀ x ∈ ps, x.block < W.heap.size) :
    ∃ (A : Option Addr) (n c : Nat) (ss : List ByteArray), v = .slice A n c ∧ Reads W W.heap.size 1 A n (strV ss) ∧ n * 16 ≤ 140737488351232 ∧ (∀ s ∈ ss, s.size ≤ 9223372036854775807) ∧ n ≤ c := by
  obtain ⟨a0, len, cap, rfl⟩ := okWide_slice ht hval
  obtain ⟨fuel, hf⟩ := hd
  rcases open_strings ht he hc hf with ⟨hcs, hx⟩ | ⟨a, len', cap', ss, hcs, _, hl, hm, hz, hx, hcell, hws⟩
  · simp [Value.cells] at hcs
    obtain ⟨rfl, rfl, rfl⟩ := hcs
    exact ⟨none, 0, 0, [], rfl, Reads.none_, by omega, by simp, by omega⟩
  · simp [Value.cells] at hcs
    obtain ⟨rfl, rfl, rfl⟩ := hcs
    simp only [Prod.mk.injEq] at hx
    obtain ⟨rfl, rfl⟩ := hx
    simp only [if_true] at hz
    have hw := sized_slice hsz hts hds ht
    rw [hb] at hw
    simp only [strs, List.length_map, List.length_take, List.length_drop, reachBytes] at hw
    refine ⟨some a, len, cap, ss.take len, rfl, ⟨by simp [strV]; omega, fun hn => ⟨a, rfl, mem _ (MemPlace.mem_row.2 ⟨0, by omega, rfl⟩), fun k u hu => ?_⟩⟩, by omega, fun s hs => hws s (List.mem_of_mem_take hs), hl⟩
    have hk : k < len := by
      rcases Nat.lt_or_ge k len with h | h
      · exact h
      · rw [List.getElem?_eq_none (by simp [strV]; omega)] at hu; cases hu
    rw [hcell k (by omega)]
    simp only [strV, List.getElem?_map] at hu
    rw [List.getElem?_take, if_pos hk, List.getElem?_eq_getElem (by omega)] at hu
    simp at hu
    rw [← hu, List.getD_eq_getElem?_getD, List.getElem?_eq_getElem (by omega)]; rfl
end
theorem ints_u8s : ∀ (zs : List Int), (∀ n ∈ zs, (Lit.int .u8 n).wf = true) → zs.map (Value.int .u8) = u8s (zs.map fun n => UInt8.ofNat n.toNat)
  | [], _ => rfl
  | z :: zs, h => by
    have hz := bounds_u8 (h z (by simp))
    have e : (((UInt8.ofNat z.toNat).toNat : Nat) : Int) = z := by rw [UInt8.toNat_ofNat']; omega
    have ih := ints_u8s zs (fun n hn => h n (by simp [hn]))
    simp only [u8s, List.map_cons] at ih ⊢
    rw [ih, e]
section
variable {H : Type} {enc : TypeId × Value → H} {P : Program} {W : World}
theorem open_bytes {t e : TypeId} {base0 base : Nat} {r : Reach} {v : Value} {d : DataW H} {ps : List MemPlace} {ts : List TypeId} {ds : List (DataW H)} {held : Bool}
    (ht : P.underlying t = some (.slice e)) (he : P.underlying e = some (.int .u8)) (hc : P.cellsOf e = 1) (hb : P.bytesOf e = 1)
    (hval : Value.okWide P W r base0 t v) (hd : DataW.Trod enc P W base (fun _ => true) held t v d ps)
    (hsz : (DataW.weightsEach P ts ds).all (· ≤ reachBytes) = true) (j : Nat) (hts : ts[j]? = some t) (hds : ds[j]? = some d) (mem : ∀ x ∈ ps, x.block < W.heap.size) :
    ∃ (A : Option Addr) (n c : Nat) (l : List UInt8), v = .slice A n c ∧ Reads W W.heap.size 1 A n (u8s l) ∧ n ≤ 140737488351232 ∧ n ≤ c := by
  obtain ⟨a0, len, cap, rfl⟩ := okWide_slice ht hval
  obtain ⟨fuel, hf⟩ := hd
  rcases open_ints ht he hc hf with ⟨hcs, hx⟩ | ⟨a, len', cap', zs, hcs, _, hl, hm, hz, hx, hcell, hws⟩
  · simp [Value.cells] at hcs
    obtain ⟨rfl, rfl, rfl⟩ := hcs
    exact ⟨none, 0, 0, [], rfl, Reads.none_, by omega, by omega⟩
  · simp [Value.cells] at hcs
    obtain ⟨rfl, rfl, rfl⟩ := hcs
    simp only [Prod.mk.injEq] at hx
    obtain ⟨rfl, rfl⟩ := hx
    simp only [if_true] at hz
    have hw := sized_slice hsz hts hds ht
    rw [hb] at hw
    simp only [lits, List.length_map, List.length_take, List.length_drop, reachBytes] at hw
    refine ⟨some a, len, cap, (zs.take len).map fun n => UInt8.ofNat n.toNat, rfl, ⟨by simp [u8s]; omega, fun hn => ⟨a, rfl, mem _ (MemPlace.mem_row.2 ⟨0, by omega, rfl⟩), fun k u hu => ?_⟩⟩, by omega, hl⟩
    rw [← ints_u8s _ (fun n hn => hws n (List.mem_of_mem_take hn))] at hu
    have hk : k < len := by
      rcases Nat.lt_or_ge k len with h | h
      · exact h
      · rw [List.getElem?_eq_none (by simp; omega)] at hu; cases hu
    rw [hcell k (by omega)]
    rw [List.getElem?_map, List.getElem?_take, if_pos hk, List.getElem?_eq_getElem (by omega)] at hu
    simp at hu
    rw [← hu, List.getD_eq_getElem?_getD, List.getElem?_eq_getElem (by omega)]; rfl
end
end Go.Proofs.Ytfoandpcoakcjaa
namespace Go.Proofs.Ytfoandpcoakcjaa
open Go.RowKit Go.WideShapes Go.ChangeShapes
section
variable {H : Type} {enc : TypeId × Value → H} {P : Program} {W : World}
theorem weights_all_mem {e : TypeId} : ∀ (l : List (DataW H)) (d : DataW H), d ∈ l → ∀ n ∈ d.weights P e, n ∈ DataW.weightsAll P e l
  | [], _, h, _, _ => by cases h
  | x :: r, d, h, n, hn => by
    simp only [DataW.weightsAll, List.mem_append]
    rcases List.mem_cons.1 h with rfl | h
    · exact .inl hn
    · exact .inr (weights_all_mem r d h n hn)
theorem sized_elems {ts : List TypeId} {ds : List (DataW H)} (h : (DataW.weightsEach P ts ds).all (· ≤ reachBytes) = true) {j : Nat} {t e : TypeId} {elems spare : List (DataW H)} (ht : ts[j]? = some t) (hd : ds[j]? = some (.slice elems spare))
    (hu : P.underlying t = some (.slice e)) {l : List UInt8} (hm : (.lit (.string l) : DataW H) ∈ elems) : l.length ≤ reachBytes := by
  have h1 : l.length ∈ DataW.weightsAll P e elems := weights_all_mem elems _ hm _ (by simp [DataW.weights])
  have := List.all_eq_true.1 h _ (DataW.weights_mem_each ht hd l.length (by simp only [DataW.weights, hu, List.mem_cons, List.mem_append]; exact .inr (.inl h1)))
  simpa using this
theorem bulk_mem : ∀ (l : List (DataW H)) (d : DataW H), d ∈ l → Rows.uptoBulk d ≤ Rows.uptoBulkAll l
  | [], _, h => by cases h
  | x :: r, d, h => by
    simp only [Rows.uptoBulkAll]
    rcases List.mem_cons.1 h with rfl | h
    · omega
    · have := bulk_mem r d h; omega
/-- A list of texts that holds few letters. -/
theorem open_strszu {t e : TypeId} {base0 base : Nat} {r : Reach} {v : Value} {d : DataW H} {ps : List MemPlace} {ts : List TypeId} {ds : List (DataW H)} {held : Bool} (hbk : Rows.uptoBulk d ≤ 1048576)
    (ht : P.underlying t = some (.slice e)) (he : P.underlying e = some .string) (hc : P.cellsOf e = 1) (hb : P.bytesOf e = 16)
    (hval : Value.okWide P W r base0 t v) (hd : DataW.Trod enc P W base (fun _ => true) held t v d ps)
    (hsz : (DataW.weightsEach P ts ds).all (· ≤ reachBytes) = true) (j : Nat) (hts : ts[j]? = some t) (hds : ds[j]? = some d) (mem : ∀ x ∈ ps, x.block < W.heap.size) :
    ∃ (A : Option Addr) (n c : Nat) (ss : List ByteArray), v = .slice A n c ∧ Reads W W.heap.size 1 A n (strV ss) ∧ n * 16 ≤ 140737488351232 ∧ (∀ s ∈ ss, s.size ≤ 1048576) ∧ n ≤ c := by
  obtain ⟨a0, len, cap, rfl⟩ := okWide_slice ht hval
  obtain ⟨fuel, hf⟩ := hd
  rcases open_strings ht he hc hf with ⟨hcs, hx⟩ | ⟨a, len', cap', ss, hcs, _, hl, hm, hz, hx, hcell, hws⟩
  · simp [Value.cells] at hcs
    obtain ⟨rfl, rfl, rfl⟩ := hcs
    exact ⟨none, 0, 0, [], rfl, Reads.none_, by omega, by simp, by omega⟩
  · simp [Value.cells] at hcs
    obtain ⟨rfl, rfl, rfl⟩ := hcs
    simp only [Prod.mk.injEq] at hx
    obtain ⟨rfl, rfl⟩ := hx
    simp only [if_true] at hz
    have hw := sized_slice hsz hts hds ht
    rw [hb] at hw
    simp only [strs, List.length_map, List.length_take, List.length_drop, reachBytes] at hw
    refine ⟨some a, len, cap, ss.take len, rfl, ⟨by simp [strV]; omega, fun hn => ⟨a, rfl, mem _ (MemPlace.mem_row.2 ⟨0, by omega, rfl⟩), fun k u hu => ?_⟩⟩, by omega, fun s hs => ?_, hl⟩
    · have hk : k < len := by
        rcases Nat.lt_or_ge k len with h | h
        · exact h
        · rw [List.getElem?_eq_none (by simp [strV]; omega)] at hu; cases hu
      rw [hcell k (by omega)]
      simp only [strV, List.getElem?_map] at hu
      rw [List.getElem?_take, if_pos hk, List.getElem?_eq_getElem (by omega)] at hu
      simp at hu
      rw [← hu, List.getD_eq_getElem?_getD, List.getElem?_eq_getElem (by omega)]; rfl
    · have h1 : Rows.uptoBulk (DataW.lit (H := H) (.string s.data.toList)) ≤ Rows.uptoBulkAll (strs (H := H) (ss.take len)) := bulk_mem _ _ (by simp only [strs, List.mem_map]; exact ⟨s, hs, rfl⟩)
      simp only [Rows.uptoBulk] at h1 hbk
      rw [show s.data.toList.length = s.size from by rw [Array.length_toList]; rfl] at h1
      omega
theorem bulk_one' (d : DataW H) : 1 ≤ Rows.uptoBulk d := by
  cases d with
  | lit l => cases l <;> simp [Rows.uptoBulk]
  | _ => simp [Rows.uptoBulk]
theorem bulk_len' : ∀ (l : List (DataW H)), l.length ≤ Rows.uptoBulkAll l
  | [] => Nat.zero_le _
  | d :: r => by
    have := bulk_len' r
    have := bulk_one' d
    rw [List.length_cons]
    simp only [Rows.uptoBulkAll]
    omega
theorem strs_bulk {base : Nat} {A : Option Addr} {n c : Nat} {d : DataW H} {ps : List MemPlace} {held : Bool}
    (hd : DataW.Trod enc Try.prog W base (fun _ => true) held 22 (.slice A n c) d ps) : n ≤ Rows.uptoBulk d := by
  have hu := Try.underlying22
  obtain ⟨fuel, hf⟩ := hd
  have hcs : (Value.slice A n c).cells.toList = [.slice A n c] := rfl
  rw [hcs] at hf
  rcases DataW.trod_slice (P := Try.prog) hu hf with ⟨h0, hx⟩ | ⟨a, len', cap', elems, rest, m, _, h0, hx, hb, hl, hm, hlen, hel, hsp, hns⟩
  · simp at h0; omega
  · simp at h0
    simp only [Prod.mk.injEq] at hx
    have h1 : n ≤ (elems.map (·.1)).length := by rw [List.length_map]; omega
    have h2 := bulk_len' (elems.map (·.1))
    rw [hx.1]
    simp only [Rows.uptoBulk]
    omega
end
end Go.Proofs.Ytfoandpcoakcjaa
namespace Go.Proofs.Ytfoandpcoakcjaa
open Go.RowKit
/-- What the table says of a slice type and its element type. -/
structure ElemN (P : Program) (t e : TypeId) (z : Value) (size bytes : Nat) : Prop where
  ht : P.underlying t = some (.slice e)
  info : ∃ i, P.info? e = some i ∧ i.zero = some z ∧ i.size = size ∧ i.bytes = bytes
  hz : z.cells.size = size
  pos : 0 < size
theorem ElemN.of {P : Program} {t e : TypeId} {z : Value} {size bytes : Nat} (ht : P.underlying t = some (.slice e))
    (hi : (P.info? e).map (fun i => (i.zero, i.size, i.bytes)) = some (some z, size, bytes)) (hz : z.cells.size = size) (hp : 0 < size) : ElemN P t e z size bytes := by
  obtain ⟨i, h1, h2, h3, h4⟩ := info_parts hi
  exact ⟨ht, ⟨i, h1, h2, h3, h4⟩, hz, hp⟩
theorem reads_new (w : World) (cs : Array Value) (e : TypeId) (size : Nat) (h : cs.size = size) : Reads (w.alloc (.cells cs e)) (w.heap.size + 1) size (some ⟨w.heap.size, 0, none⟩) 1 cs.toList := by
  refine ⟨by rw [Array.length_toList, h, Nat.one_mul], fun _ => ⟨_, rfl, by simp, fun j u hj => ?_⟩⟩
  have hb : (w.alloc (.cells cs e)).heap[w.heap.size]? = some (.cells cs e (0, 0)) := heap_alloc_new w _
  have ea : ({ block := w.heap.size, off := 0, spot := none } : Addr).add j = ⟨w.heap.size, j, none⟩ := by unfold Addr.add; split <;> simp_all
  rw [ea, cell_of_row _ _ j cs e (0, 0) hb, ← hj, Array.getElem?_toList]
theorem grown_alloc {w w' : World} {o : Obj} {row : Option Nat} (h : (w.alloc o).grownBy w' row) : w.grownBy w' row :=
  ⟨h.os, h.tape, h.output, Nat.le_trans (by simp) h.size, fun k hk hne => (h.block k (by simp; omega) hne).trans (Below.heap_alloc w _ k hk)⟩
section
variable {P : Program} {w : World} {t e : TypeId} {z : Value} {size bytes : Nat}
theorem appendN_new (E : ElemN P t e z size bytes) {ops : Array Oper} {rest : List Oper} {o : Oper} {a : Act} {Q : Exit → Act → World → Prop} (hgd : o.guard = none) (s x : Operand)
    (ho : o.op = .call { callee := .builtin .append, args := #[s, x], argTypes := #[t, t] })
    (base : Nat) (v : Value) (n : Nat) (xs : List Value) (hs : a.eval s = v) (hown : w.ownsRow base e size v n xs) (cs : Array Value) (hcs : cs.size = size) (hx : a.eval x = .slice (some ⟨w.heap.size, 0, none⟩) 1 1)
    (h1 : ∀ u ∈ cs.toList, u.oneCell' = true) (hn : n ≤ 4611686018427387904) (hbytes : (n + 1) * bytes ≤ 140737488355328) (hbase : base ≤ w.heap.size)
    (h : ∀ v' w', w'.ownsRow base e size v' (n + 1) (xs ++ cs.toList) → w.grownBy w' v.ownBlock → (v'.ownBlock = v.ownBlock ∨ v'.ownBlock = some (w.heap.size + 1)) → wpList P ops Q rest (a.put o.dst v') w') : wpList P ops Q (o :: rest) a (w.alloc (.cells cs e)) := by
  obtain ⟨i, hi, hz0, hz1, hz2⟩ := E.info
  exact wpList_append_any (w.alloc (.cells cs e)) hgd s x t ho base e i z size bytes E.ht hi hz0 hz1 hz2 E.hz E.pos v n xs hs (hown.alloc _) (w.heap.size + 1) (some ⟨w.heap.size, 0, none⟩) 1 1 cs.toList hx
    (reads_new w cs e size hcs) h1 (by unfold maxLen; omega) hbytes (by simp; omega) (fun v' w' h2 h3 h4 => h v' w' h2 (grown_alloc h3) (by simp at h4; exact h4))
theorem step_appendN (E : ElemN P t e z size bytes) {ops : Array Oper} {o : Oper} {a : Act} {K : Act → World → Prop} {Q : Exit → Act → World → Prop} {F : Prop} (hgd : o.guard = none) (s x : Operand)
    (ho : o.op = .call { callee := .builtin .append, args := #[s, x], argTypes := #[t, t] })
    (base : Nat) (v : Value) (n : Nat) (xs : List Value) (hs : a.eval s = v) (hown : w.ownsRow base e size v n xs) (cs : Array Value) (hcs : cs.size = size) (hx : a.eval x = .slice (some ⟨w.heap.size, 0, none⟩) 1 1)
    (h1 : ∀ u ∈ cs.toList, u.oneCell' = true) (hn : n ≤ 4611686018427387904) (hbytes : (n + 1) * bytes ≤ 140737488355328) (hbase : base ≤ w.heap.size)
    (h : ∀ v' w', w'.ownsRow base e size v' (n + 1) (xs ++ cs.toList) → w.grownBy w' v.ownBlock → K (a.put o.dst v') w') :
    if Region.wanted o (yielded ops a.tmps) = true then Oper.wp P o a (w.alloc (.cells cs e)).drew K Q else F := by
  obtain ⟨i, hi, hz0, hz1, hz2⟩ := E.info
  exact step_append_any (w.alloc (.cells cs e)).drew hgd s x t ho base e i z size bytes E.ht hi hz0 hz1 hz2 E.hz E.pos v n xs hs (hown.alloc _) (w.heap.size + 1) (some ⟨w.heap.size, 0, none⟩) 1 1 cs.toList hx
    (reads_new w cs e size hcs) h1 (by unfold maxLen; omega) hbytes (by simp; omega) (fun v' w' h2 h3 h4 => h v' w' h2 (grown_alloc (w' := w') (o := .cells cs e) ⟨h3.os, h3.tape, h3.output, h3.size, h3.block⟩))
theorem wp_appendN (E : ElemN P t e z size bytes) {o : Oper} {a : Act} {K : Act → World → Prop} {Q : Exit → Act → World → Prop} (s x : Operand)
    (ho : o.op = .call { callee := .builtin .append, args := #[s, x], argTypes := #[t, t] })
    (base : Nat) (v : Value) (n : Nat) (xs : List Value) (hs : a.eval s = v) (hown : w.ownsRow base e size v n xs) (cs : Array Value) (hcs : cs.size = size) (hx : a.eval x = .slice (some ⟨w.heap.size, 0, none⟩) 1 1)
    (h1 : ∀ u ∈ cs.toList, u.oneCell' = true) (hn : n ≤ 4611686018427387904) (hbytes : (n + 1) * bytes ≤ 140737488355328) (hbase : base ≤ w.heap.size)
    (h : ∀ v' w', w'.ownsRow base e size v' (n + 1) (xs ++ cs.toList) → w.grownBy w' v.ownBlock → (v'.ownBlock = v.ownBlock ∨ v'.ownBlock = some (w.heap.size + 1)) → K (a.put o.dst v') w') : Oper.wp P o a (w.alloc (.cells cs e)) K Q := by
  obtain ⟨i, hi, hz0, hz1, hz2⟩ := E.info
  exact wp_append_any (w.alloc (.cells cs e)) s x t ho base e i z size bytes E.ht hi hz0 hz1 hz2 E.hz E.pos v n xs hs (hown.alloc _) (w.heap.size + 1) (some ⟨w.heap.size, 0, none⟩) 1 1 cs.toList hx
    (reads_new w cs e size hcs) h1 (by unfold maxLen; omega) hbytes (by simp; omega) (fun v' w' h2 h3 h4 => h v' w' h2 (grown_alloc h3) (by simp at h4; exact h4))
end
/-- Of a row of the call's own the first k elements alone. -/
theorem own_shorter {w : World} {base : Nat} {e : TypeId} {size n k g c : Nat} {xs : List Value} (h : w.ownsRow base e size (.slice (some ⟨g, 0, none⟩) n c) n xs) (hk : k ≤ n) : w.ownsRow base e size (.slice (some ⟨g, 0, none⟩) k c) k (xs.take (k * size)) := by
  have hl := h.1
  rcases h.2 with ⟨h', _⟩ | ⟨g', cap, cur, h', a1, a2, a3, a4, a5, a6⟩
  · cases h'
  · simp only [Value.slice.injEq, Option.some.injEq, Addr.mk.injEq, and_true, true_and] at h'
    obtain ⟨rfl, rfl⟩ := h'
    have hm : k * size ≤ n * size := Nat.mul_le_mul_right _ hk
    refine ⟨by rw [List.length_take, hl]; omega, .inr ⟨g, c, cur, rfl, a1, a2, by omega, a4, a5, ?_⟩⟩
    rw [← a6, List.take_take, Nat.min_eq_left hm]
end Go.Proofs.Ytfoandpcoakcjaa
namespace Go.Proofs.Ytfoandpcoakcjaa
open Go.RowKit
set_option linter.unusedVariables false
abbrev Idn := Nat → UInt8
def idsV (L : List Idn) : List Value := L.flatMap fun I => (idA I).toList
theorem idA_len (I : Idn) : (idA I).toList.length = 32 := by rw [Array.length_toList, idA_size]
theorem idsV_cons (I : Idn) (L : List Idn) : idsV (I :: L) = (idA I).toList ++ idsV L := rfl
theorem idsV_length (L : List Idn) : (idsV L).length = L.length * 32 := by
  induction L with
  | nil => rfl
  | cons I L ih => rw [idsV_cons, List.length_append, ih, idA_len, List.length_cons]; omega
theorem idsV_app (a b : List Idn) : idsV (a ++ b) = idsV a ++ idsV b := by unfold idsV; rw [List.flatMap_append]
theorem idsV_single (I : Idn) : idsV [I] = (idA I).toList := by rw [idsV_cons]; show _ ++ [] = _; rw [List.append_nil]
theorem idsV_get (L : List Idn) (i k : Nat) (hi : i < L.length) (hk : k < 32) : (idsV L)[i * 32 + k]? = some (.int .u8 ((L[i] k).toNat : Int)) := by
  induction L generalizing i with
  | nil => simp at hi
  | cons I L ih =>
    rw [idsV_cons]
    cases i with
    | zero =>
      rw [Nat.zero_mul, Nat.zero_add, List.getElem?_append_left (by rw [idA_len]; exact hk), Array.getElem?_toList, idA_get I k hk]; rfl
    | succ i =>
      rw [List.getElem?_append_right (by rw [idA_len]; omega), idA_len, show (i + 1) * 32 + k - 32 = i * 32 + k from by omega, ih i (by simpa using hi), List.getElem_cons_succ]
theorem idA_ones (I : Idn) : ∀ u ∈ (idA I).toList, u.oneCell' = true := fun u hu => by
  simp only [idA, List.mem_map] at hu
  obtain ⟨j, _, rfl⟩ := hu
  rfl
theorem idsV_one (L : List Idn) : ∀ u ∈ idsV L, u.oneCell' = true := fun u hu => by
  obtain ⟨I, _, hI⟩ := List.mem_flatMap.1 hu
  exact idA_ones I u hI
theorem idsV_take (L : List Idn) (k : Nat) (hk : k < L.length) : idsV (L.take (k + 1)) = idsV (L.take k) ++ (idA L[k]).toList := by
  rw [List.take_add_one, List.getElem?_eq_getElem hk, idsV_app]
  show _ ++ idsV [L[k]] = _
  rw [idsV_single]
theorem idsV_cut : ∀ (L : List Idn) (k : Nat), idsV (L.take k) = (idsV L).take (k * 32)
  | [], k => by rw [List.take_nil]; show [] = [].take _; rw [List.take_nil]
  | I :: L, 0 => by rw [List.take_zero, Nat.zero_mul, List.take_zero]; rfl
  | I :: L, k + 1 => by
    rw [List.take_succ_cons, idsV_cons, idsV_cons, List.take_append, List.take_of_length_le (l := (idA I).toList) (by rw [idA_len]; omega), idsV_cut L k, idA_len]
    congr 2; omega
theorem elemId : ElemN Try.prog 23 27 (.agg (idA fun _ => 0)) 32 32 := ElemN.of (by kernel_rfl) (by kernel_rfl) rfl (by omega)
/-- A list of names lies in a plain block below B, from its front on. -/
def IdR (w : World) (B : Nat) (v : Value) (L : List Idn) : Prop := (v = .slice none 0 0 ∧ L = []) ∨
  ∃ g c N f, v = .slice (some ⟨g, 0, none⟩) L.length c ∧ g < B ∧ w.rowIs g 27 N f ∧ L.length ≤ c ∧ L.length * 32 ≤ N ∧ ∀ k, k < L.length * 32 → (idsV L)[k]? = some (f k)
theorem IdR.below {w w' : World} {B : Nat} {v : Value} {L : List Idn} (h : IdR w B v L) (hb : Below B w w') : IdR w' B v L := by
  rcases h with h | ⟨g, c, N, f, h1, h2, h3, h4⟩
  · exact .inl h
  · exact .inr ⟨g, c, N, f, h1, h2, h3.of_block (hb.block g h2), h4⟩
theorem IdR.more {w : World} {B B' : Nat} {v : Value} {L : List Idn} (h : IdR w B v L) (hb : B ≤ B') : IdR w B' v L := by
  rcases h with h | ⟨g, c, N, f, h1, h2, h3, h4⟩
  · exact .inl h
  · exact .inr ⟨g, c, N, f, h1, by omega, h3, h4⟩
theorem IdR.grown {w w' : World} {B : Nat} {v : Value} {L : List Idn} {row : Option Nat} (h : IdR w B v L) (hB : B ≤ w.heap.size) (hg : w.grownBy w' row) (hne : ∀ g, v.ownBlock = some g → row ≠ some g) : IdR w' B v L := by
  rcases h with h | ⟨g, c, N, f, rfl, h2, h3, h4⟩
  · exact .inl h
  · exact .inr ⟨g, c, N, f, rfl, h2, h3.of_block (hg.block g (by omega) (fun e => hne g rfl e.symm)), h4⟩
theorem IdR.of_own {w : World} {base : Nat} {v : Value} {L : List Idn} (h : w.ownsRow base 27 32 v L.length (idsV L)) : IdR w w.heap.size v L := by
  rcases h.2 with ⟨h1, h2⟩ | ⟨g, c, cur, rfl, hb, hg, hc, hm, hs, ht⟩
  · exact .inl ⟨h1, List.eq_nil_of_length_eq_zero h2⟩
  · refine .inr ⟨g, c, cur.size, fun k => cur.toList.getD k undef, rfl, (Array.getElem?_eq_some_iff.1 hg).1, ⟨cur, hg, rfl, fun i hi => ?_⟩, hc, by omega, fun k hk => ?_⟩
    · show cur[i]? = some (cur.toList.getD i undef)
      rw [List.getD_eq_getElem?_getD, Array.getElem?_toList, Array.getElem?_eq_getElem hi]; rfl
    · have hkc : k < cur.size := by omega
      show (idsV L)[k]? = some (cur.toList.getD k undef)
      rw [← ht, List.getElem?_take, if_pos hk, List.getD_eq_getElem?_getD, Array.getElem?_toList, Array.getElem?_eq_getElem hkc]; rfl
theorem IdR.at_ {w : World} {B i : Nat} {v : Value} {L : List Idn} (h : IdR w B v L) (hi : i < L.length) : ∃ g c, v = .slice (some ⟨g, 0, none⟩) L.length c ∧ g < B ∧ ok32 w g (i * 32) = true ∧ row32 w g (i * 32) = idA L[i] := by
  rcases h with ⟨_, h⟩ | ⟨g, c, N, f, h1, h2, h3, h4, h5, h6⟩
  · subst h; simp at hi
  · refine ⟨g, c, h1, h2, ok32_of h3 (by omega), ?_⟩
    apply Array.ext
    · rw [row32_size, idA_size]
    · intro j hj1 hj2
      rw [row32_size] at hj1
      have e := row32_get h3 (off := i * 32) (by omega) j hj1
      have e2 := h6 (i * 32 + j) (by omega)
      rw [idsV_get L i j hi hj1] at e2
      rw [← Option.some.inj e2] at e
      have e3 := idA_get L[i] j hj1
      rw [List.getD_eq_getElem?_getD, Array.getElem?_toList, Array.getElem?_eq_getElem (by rw [row32_size]; exact hj1)] at e
      rw [Array.getElem?_eq_getElem hj2] at e3
      rw [Option.some.inj e3]
      exact e
theorem IdR.slice {w : World} {B : Nat} {v : Value} {L : List Idn} (h : IdR w B v L) : ∃ A c, v = .slice A L.length c ∧ L.length ≤ c := by
  rcases h with ⟨rfl, rfl⟩ | ⟨g, c, N, f, h1, _, _, h4, _⟩
  · exact ⟨none, 0, rfl, Nat.le_refl _⟩
  · exact ⟨_, c, h1, h4⟩
/-- Cut to its front. -/
theorem IdR.cut {w : World} {B n c k : Nat} {A : Option Addr} {L : List Idn} (h : IdR w B (.slice A n c) L) (hk : k ≤ L.length) : IdR w B (.slice A k c) (L.take k) := by
  rcases h with ⟨h1, rfl⟩ | ⟨g, c', N, f, h1, h2, h3, h4, h5, h6⟩
  · injection h1 with e1 e2 e3
    simp at hk
    subst e1 e3 hk
    exact .inl ⟨rfl, rfl⟩
  · injection h1 with e1 e2 e3
    subst e1 e3
    have hl : (L.take k).length = k := by rw [List.length_take]; omega
    refine .inr ⟨g, c, N, f, by rw [hl], h2, h3, by rw [hl]; omega, by rw [hl]; omega, fun j hj => ?_⟩
    rw [hl] at hj
    rw [idsV_cut, List.getElem?_take, if_pos hj]
    exact h6 j (by omega)
/-- It may be read as a walk's law on append wants it. -/
theorem IdR.reads {w : World} {B : Nat} {A : Option Addr} {n c : Nat} {L : List Idn} (h : IdR w B (.slice A n c) L) : Reads w B 32 A L.length (idsV L) := by
  refine ⟨idsV_length L, fun hn => ?_⟩
  rcases h with ⟨_, rfl⟩ | ⟨g, c', N, f, h1, h2, h3, h4, h5, h6⟩
  · simp at hn
  · injection h1 with e1 _ _
    subst e1
    refine ⟨_, rfl, h2, fun k u hu => ?_⟩
    have hk : k < L.length * 32 := by
      have := (List.getElem?_eq_some_iff.1 hu).1
      rwa [idsV_length] at this
    rw [add0, h3.cell (by omega), ← h6 k hk, hu]
end Go.Proofs.Ytfoandpcoakcjaa
namespace Go.Proofs.Ytfoandpcoakcjaa
open Go.RowKit Wir
set_option linter.unusedVariables false
/-- A number of k bytes, the greatest first. -/
def beN (F : Nat → UInt8) : Nat → Nat
  | 0 => 0
  | k + 1 => beN F k * 256 + (F k).toNat
theorem beN_lt (F : Nat → UInt8) (k : Nat) : beN F k < 2 ^ (8 * k) := by
  induction k with
  | zero => exact (by decide : 0 < 2 ^ 0)
  | succ k ih =>
    have := (F k).toNat_lt
    rw [Nat.mul_add, Nat.pow_add]
    show beN F k * 256 + _ < 2 ^ (8 * k) * 256
    omega
theorem beN_small (F : Nat → UInt8) (k : Nat) (h : k ≤ 7) : beN F k < 72057594037927936 := Nat.lt_of_lt_of_le (beN_lt F k) (Nat.pow_le_pow_right (by omega) (by omega) : 2 ^ (8 * k) ≤ 2 ^ 56)
theorem fix_step (a x : Nat) (ha : a < 72057594037927936) (hx : x < 256) : bits .or .u64 (IntKind.u64.wrap ((a : Int) * 256)) (x : Int) = ((a * 256 + x : Nat) : Int) := by
  have e : (a : Int) * 256 = ((a * 256 : Nat) : Int) := by omega
  have wz : ∀ n : Nat, n < 18446744073709551616 → IntKind.u64.wrap (n : Int) = (n : Int) := fun n h => by rw [IntKind.wrap_u64]; omega
  rw [e, wz _ (by omega), u64_or_nat _ _ (by omega) (by omega)]
  congr 1
  have := Nat.two_pow_add_eq_or_of_lt (b := x) (i := 8) (by simpa using hx) a
  rw [show (2 ^ 8 * a) = a * 256 from by rw [Nat.mul_comm]] at this
  exact this.symm
/-- What Fixed tells. -/
def fixV (s : ByteArray) (k : Nat) : Nat := if s.size < k then 0 else beN (byteAt s) k
theorem fixF_any (s : ByteArray) (wb nb k : Nat) (w : World) (hw : Blk w wb 3 #[.int .i64 (k : Int)]) (h : Blk w nb 57 #[.int .u64 0]) (hs : s.size ≤ 9223372036854775807) (hk : k ≤ 8) :
    Calls Try.prog 88 #[.string s, .pointer (some ⟨wb, 0, none⟩), .pointer (some ⟨nb, 0, none⟩)] w fun e w' => e = .returned (.int .i64 (k : Int)) ∧ Blk w' nb 57 #[.int .u64 (fixV s k : Int)] ∧ (∀ g, g ≠ nb → g < w.heap.size → w'.heap[g]? = w.heap[g]?) ∧ ∀ B, B ≤ nb → Below B w w' := by
  have hne : wb ≠ nb := Blk.ne_ hw h (by decide)
  have c0 : w.cell? ⟨nb, 0, none⟩ = some (.int .u64 0) := h.cell 0
  have c1 : w.cell? ⟨wb, 0, none⟩ = some (.int .i64 (k : Int)) := hw.cell 0
  have H := Lib.hid h
  have HW := Lib.hid hw
  clear h hw
  go_enter Try.func88, Try.ntmps88
  by_cases hle : s.size < k
  · have E : Hid (fixV s k = 0) := Lib.hid (if_pos hle)
    go_wp2
    go_ret
    exact ⟨rfl, by rw [E.out]; exact H.out, fun g _ _ => rfl, fun B _ => Below.refl _ _⟩
  · have E : Hid (fixV s k = beN (byteAt s) k) := Lib.hid (if_neg hle)
    have hki : (k : Int) ≤ (s.size : Int) := by omega
    go_wp2_with fail
    clear c0 c1
    go_loopw [11] (fun i wr => ∃ j : Nat, j ≤ k ∧ i = .int .i64 j ∧ Hid (Blk wr nb 57 #[.int .u64 (beN (byteAt s) j : Int)] ∧ Blk wr wb 3 #[.int .i64 (k : Int)] ∧ (∀ g, g ≠ nb → g < w.heap.size → wr.heap[g]? = w.heap[g]?) ∧ ∀ B, B ≤ nb → Below B w wr)) (fun i _ => k - (intOf i).toNat)
    case atStart => exact ⟨0, by omega, rfl, Lib.hid ⟨H.out, HW.out, fun g _ _ => rfl, fun B _ => Below.refl _ _⟩⟩
    case round =>
      obtain ⟨j, hj, rfl, HK⟩ := hrel
      by_cases hlt : j < k
      · have hjs : j < s.size := by omega
        have hji : (j : Int) < (k : Int) := by omega
        have hji2 : (j : Int) < (s.size : Int) := by omega
        have hx := (byteAt s j).toNat_lt
        have EX := Lib.hid (byteAt_get s j hjs)
        have FS : Hid (bits .or .u64 (IntKind.u64.wrap ((beN (byteAt s) j : Int) * 256)) ((byteAt s j).toNat : Int) = (beN (byteAt s) (j + 1) : Int)) := Lib.hid (fix_step _ _ (beN_small (byteAt s) j (by omega)) hx)
        have HS : Hid (∀ v, Blk (wr.drew.setCell ⟨nb, 0, none⟩ v) nb 57 #[v] ∧ Blk (wr.drew.setCell ⟨nb, 0, none⟩ v) wb 3 #[.int .i64 (k : Int)] ∧ (∀ g, g ≠ nb → g < w.heap.size → (wr.drew.setCell ⟨nb, 0, none⟩ v).heap[g]? = w.heap[g]?) ∧ ∀ B, B ≤ nb → Below B w (wr.drew.setCell ⟨nb, 0, none⟩ v)) := Lib.hid (fun v => ⟨HK.out.1.set_ 0 v, HK.out.2.1.far (p := ⟨nb, 0, none⟩) hne v, fun g h1 h2 => by rw [Below.heap_setCell _ _ _ _ h1]; exact HK.out.2.2.1 g h1 h2, fun B hB => (HK.out.2.2.2 B hB).drew.setCell hB v⟩)
        have c0 : wr.cell? ⟨nb, 0, none⟩ = some (.int .u64 (beN (byteAt s) j : Int)) := HK.out.1.cell 0
        have f0 : wr.frozen? ⟨nb, 0, none⟩ = false := HK.out.1.frozen 0
        obtain ⟨a', ha'⟩ : ∃ a', beN (byteAt s) (j + 1) = a' := ⟨_, rfl⟩
        rw [ha'] at FS
        have HA := Lib.hid ha'
        clear ha'
        generalize beN (byteAt s) j = a at *
        rw [← EX.out] at FS hx
        go_wp2_with fail
        go_region
        rw [FS.out]
        go_wp2
        go_roundw
        case rel => exact ⟨j + 1, by omega, by go_num, Lib.hid (by rw [HA.out]; exact HS.out _)⟩
        case measure => simp [intOf]; omega
      · obtain rfl : j = k := by omega
        have c1 : wr.cell? ⟨wb, 0, none⟩ = some (.int .i64 (j : Int)) := HK.out.2.1.cell 0
        clear hle
        go_wp2
        go_ret
        exact ⟨rfl, by rw [E.out]; exact HK.out.1, HK.out.2.2.1, HK.out.2.2.2⟩
theorem withFixed_any (s : ByteArray) (R wb nb k : Nat) (w : World) (h : Rdr w R s) (hw : Blk w wb 3 #[.int .i64 (k : Int)]) (hn : Blk w nb 57 #[.int .u64 0]) (hs : s.size ≤ 9223372036854775807) (hk : k ≤ 8) :
    Calls Try.prog 87 #[.pointer (some ⟨R, 0, none⟩), .func (.func 88) #[] #[.pointer (some ⟨wb, 0, none⟩), .pointer (some ⟨nb, 0, none⟩)]] w
      fun e w' => e = .returned (.int .i64 (takeE s k)) ∧ Rdr w' R (takeS s k) ∧ Blk w' nb 57 #[.int .u64 (fixV s k : Int)] ∧ ∀ B, B ≤ R → B ≤ nb → Below B w w' := by
  have c0 : w.cell? ⟨R, 0, none⟩ = some (.string s) := h.cell 0
  have hne : R ≠ nb := Blk.ne_ h hn (by decide)
  have H := Lib.hid h
  have F := Lib.hid (fixF_any s wb nb k w hw hn hs hk)
  have hlt := h.lt
  clear h hw hn
  go_enter Try.func87, Try.ntmps87
  go_wp2_with fail
  (with_reducible refine F.out.mono ?_)
  rintro e w1 ⟨rfl, hn1, hk1, hb1⟩
  have R1 : Hid (Rdr w1 R s) := Lib.hid ((hk1 R hne hlt).trans H.out)
  have B1 := Lib.hid hn1
  have L1 : Hid (∀ B, B ≤ R → B ≤ nb → Below B w w1) := Lib.hid (fun B _ h2 => hb1 B h2)
  clear hn1 hk1 hb1 F
  have c1 : w1.cell? ⟨R, 0, none⟩ = some (.string s) := R1.out.cell 0
  have f1 : w1.frozen? ⟨R, 0, none⟩ = false := R1.out.frozen 0
  by_cases hk : s.size < k
  · have E1' : Hid (takeE s k = 4) := Lib.hid (by rw [takeE, if_pos hk])
    have E2' : Hid (takeS s k = s) := Lib.hid (by rw [takeS, if_pos hk])
    go_wp2
    go_ret
    exact ⟨by rw [E1'.out]; rfl, by rw [E2'.out]; exact R1.out, B1.out, L1.out⟩
  · have E1' : Hid (takeE s k = 0) := Lib.hid (by rw [takeE, if_neg hk])
    have E2' : Hid (takeS s k = s.extract k s.size) := Lib.hid (by rw [takeS, if_neg hk])
    have hms : k ≤ s.size := by omega
    clear hk
    go_wp2
    go_ret
    exact ⟨by rw [E1'.out]; rfl, by rw [E2'.out]; exact R1.out.set_ 0 _, B1.out.far (p := ⟨R, 0, none⟩) (by show nb ≠ R; omega) _, fun B h1 h2 => (L1.out B h1 h2).setCell h1 _⟩
theorem fixed_any (s : ByteArray) (R k : Nat) (w : World) (h : Rdr w R s) (hs : s.size ≤ 9223372036854775807) (hk : k ≤ 8) (hk1 : 1 ≤ k) :
    Calls Try.prog 57 #[.pointer (some ⟨R, 0, none⟩), .int .i64 (k : Int)] w
      fun e w' => e = .returned (.tuple #[.int .u64 (fixV s k : Int), .int .i64 (takeE s k)]) ∧ Rdr w' R (takeS s k) ∧ ∀ B, B ≤ R → Below B w w' := by
  have hlt := h.lt
  have hmf : ∀ (fn : Fn) (first cap : Array Value) (w : World), (Instr.makeFunc fn first cap).run Try.prog w = .ok (.func fn first cap) w := fun _ _ _ _ => rfl
  have HN0 := Blk.new w 3 #[.int .i64 (k : Int)]
  have HN := HN0.alloc (.cells #[.int .u64 0] 57)
  have HT0 := Blk.new (w.alloc (.cells #[.int .i64 (k : Int)] 3)) 57 #[.int .u64 0]
  rw [show (w.alloc (.cells #[.int .i64 (k : Int)] 3)).heap.size = w.heap.size + 1 from by simp] at HT0
  have W := Lib.hid (withFixed_any s R w.heap.size (w.heap.size + 1) k ((w.alloc (.cells #[.int .i64 (k : Int)] 3)).alloc (.cells #[.int .u64 0] 57)) ((Blk.alloc h _).alloc _) HN HT0 hs hk)
  have B0 : Hid (∀ B, B ≤ R → Below B w ((w.alloc (.cells #[.int .i64 (k : Int)] 3)).alloc (.cells #[.int .u64 0] 57))) := Lib.hid (fun B hB => ((Below.refl _ _).alloc (by omega) _).alloc (by simp; omega) _)
  have c0 : (w.alloc (.cells #[.int .i64 (k : Int)] 3)).cell? ⟨w.heap.size, 0, none⟩ = some (.int .i64 (k : Int)) := HN0.cell 0
  clear h HN0 HT0 HN
  go_enter Try.func57, Try.ntmps57
  go_wp2_with fail
  (with_reducible refine W.out.mono ?_)
  rintro e w1 ⟨rfl, hr1, hb1, hl1⟩
  have R1 := Lib.hid hr1
  have L1 : Hid (∀ B, B ≤ R → Below B w w1) := Lib.hid (fun B hB => (B0.out B hB).trans (hl1 B hB (by omega)))
  have c1 : w1.cell? ⟨w.heap.size + 1, 0, none⟩ = some (.int .u64 (fixV s k : Int)) := hb1.cell 0
  clear hr1 hl1 hb1 c0 W
  go_wp2
  go_ret2
  exact ⟨rfl, R1.out, L1.out⟩
end Go.Proofs.Ytfoandpcoakcjaa
namespace Go.Proofs.Ytfoandpcoakcjaa
open Go.RowKit
/-- A bit more. -/
def bitC (n : UInt32) : UInt32 := n >>> 1 ^^^ (3988292384 &&& (0 - (n &&& 1)))
def bitsC : Nat → UInt32 → UInt32
  | 0, n => n
  | k + 1, n => bitC (bitsC k n)
/-- A byte more. -/
def stepC (n : UInt32) (b : UInt8) : UInt32 := bitsC 8 (n ^^^ UInt32.ofNat b.toNat)
def foldC (n : UInt32) (F : Nat → UInt8) : Nat → UInt32
  | 0 => n
  | k + 1 => stepC (foldC n F k) (F k)
/-- A checksum gone on with a text. -/
def onC (c : UInt32) (s : ByteArray) : UInt32 := ~~~ foldC (~~~ c) (byteAt s) s.size
theorem foldC_congr {n : UInt32} {F G : Nat → UInt8} {k : Nat} (h : ∀ i, i < k → F i = G i) : foldC n F k = foldC n G k := by
  induction k with
  | zero => rfl
  | succ k ih => rw [foldC, foldC, ih (fun i hi => h i (by omega)), h k (by omega)]
theorem foldC_add (n : UInt32) (F : Nat → UInt8) (a b : Nat) : foldC n F (a + b) = foldC (foldC n F a) (fun i => F (a + i)) b := by
  induction b with
  | zero => rfl
  | succ b ih => rw [← Nat.add_assoc, foldC, ih]; rfl
/-- Of two texts one behind the other. -/
theorem onC_on (c : UInt32) (a b : ByteArray) : onC (onC c a) b = onC c (a ++ b) := by
  unfold onC
  rw [UInt32.not_not, ByteArray.size_append, foldC_add]
  congr 1
  rw [show foldC (~~~ c) (byteAt (a ++ b)) a.size = foldC (~~~ c) (byteAt a) a.size from foldC_congr fun i hi => by rw [byteAt_app, if_pos hi]]
  exact foldC_congr fun i _ => by rw [byteAt_app, if_neg (by omega), Nat.add_sub_cancel_left]
theorem and_one32 (n : UInt32) : (n &&& 1).toNat = n.toNat % 2 := by
  rw [UInt32.toNat_and]; exact Nat.and_one_is_mod _
theorem bitC_odd (n : UInt32) (h : n.toNat % 2 = 1) : bitC n = n >>> 1 ^^^ 3988292384 := by
  unfold bitC
  have : n &&& 1 = 1 := UInt32.toNat_inj.1 (by rw [and_one32, h]; rfl)
  rw [this]; congr 1
theorem bitC_even (n : UInt32) (h : n.toNat % 2 = 0) : bitC n = n >>> 1 := by
  unfold bitC
  have : n &&& 1 = 0 := UInt32.toNat_inj.1 (by rw [and_one32, h]; rfl)
  rw [this]
  show n >>> 1 ^^^ (3988292384 &&& 0) = _
  rw [UInt32.and_zero, UInt32.xor_zero]
/-- The lowest k bytes of a number, the highest first. -/
def beK (k n : Nat) : List UInt8 := (be8 n).drop (8 - k)
theorem beK_length (k n : Nat) (h : k ≤ 8) : (beK k n).length = k := by unfold beK; rw [List.length_drop, be8_length]; omega
theorem beK_at (k n j : Nat) (h : k ≤ 8) (hj : j < k) : (beK k n).getD j 0 = UInt8.ofNat (n / 2 ^ (8 * (k - 1 - j))) := by
  unfold beK
  rw [List.getD_eq_getElem?_getD, List.getElem?_drop]
  have := beF_end n (8 - k + j) (by omega)
  rw [List.getD_eq_getElem?_getD] at this
  rw [← this]
  unfold beF
  rw [if_pos (by omega), show 7 - (8 - k + j) = k - 1 - j by omega]
/-- The number that bytes are, the highest first. -/
def beV (F : Nat → UInt8) : Nat → Nat
  | 0 => 0
  | k + 1 => beV F k * 256 + (F k).toNat
theorem beV_lt (F : Nat → UInt8) (k : Nat) : beV F k < 256 ^ k := by
  induction k with
  | zero => exact Nat.one_pos
  | succ k ih => rw [beV, Nat.pow_succ]; have := (F k).toNat_lt; omega
theorem beV_congr {F G : Nat → UInt8} {k : Nat} (h : ∀ i, i < k → F i = G i) : beV F k = beV G k := by
  induction k with
  | zero => rfl
  | succ k ih => rw [beV, beV, ih (fun i hi => h i (by omega)), h k (by omega)]
/-- A payload in a frame. -/
def hdB (p : ByteArray) : ByteArray := bs (beK 4 p.size)
def crcF (p : ByteArray) : UInt32 := onC 0 (hdB p ++ p)
def frmB (p : ByteArray) : ByteArray := hdB p ++ bs (beK 4 (crcF p).toNat) ++ p
theorem hdB_size (p : ByteArray) : (hdB p).size = 4 := by unfold hdB; rw [bs_size, beK_length _ _ (by omega)]
theorem frmB_size (p : ByteArray) : (frmB p).size = 8 + p.size := by
  unfold frmB; rw [ByteArray.size_append, ByteArray.size_append, hdB_size, bs_size, beK_length _ _ (by omega)]
end Go.Proofs.Ytfoandpcoakcjaa
namespace Go.Proofs.Ytfoandpcoakcjaa
open Go.RowKit
set_option linter.unusedVariables false
theorem not_word32 (a : UInt32) : bits .xor .u32 IntKind.u32.max (a.toNat : Int) = ((~~~ a).toNat : Int) := by
  have := u32_xorW (-1) a
  rw [UInt32.neg_one_xor] at this
  exact this
theorem bit_val (n : UInt32) : bits .xor .u32 ((n.toNat : Int) / 2) (bits .and .u32 3988292384 (IntKind.u32.wrap (-(bits .and .u32 (n.toNat : Int) 1)))) = ((bitC n).toNat : Int) := by
  have a := u32_andW n 1
  rw [show (((1 : UInt32).toNat : Nat) : Int) = 1 from rfl] at a
  have s := u32_shrW n 1 (by omega)
  rw [show ((2 : Int) ^ 1) = 2 from rfl] at s
  have ng : IntKind.u32.wrap (-((n &&& 1).toNat : Int)) = ((0 - (n &&& 1)).toNat : Int) := by
    rw [IntKind.wrap_u32', UInt32.toNat_sub]
    have : (n &&& 1).toNat < 4294967296 := UInt32.toNat_lt _
    show _ = (((4294967296 - (n &&& 1).toNat + 0) % 4294967296 : Nat) : Int)
    omega
  have b := u32_andW 3988292384 (0 - (n &&& 1))
  rw [show (((3988292384 : UInt32).toNat : Nat) : Int) = 3988292384 from rfl] at b
  rw [a, ng, b, s, u32_xorW]; rfl
theorem bit_val' (n : UInt32) : bits .xor .u32 ((n.toNat : Int) / 2) (bits .and .u32 3988292384 (-(bits .and .u32 (n.toNat : Int) 1) % 4294967296)) = ((bitC n).toNat : Int) := by
  have := bit_val n
  rw [IntKind.wrap_u32'] at this
  exact this
theorem byte_xor (n : UInt32) (b : UInt8) : ∃ x, n ^^^ UInt32.ofNat b.toNat = x ∧ bits .xor .u32 (n.toNat : Int) (b.toNat : Int) = (x.toNat : Int) := by
  refine ⟨_, rfl, ?_⟩
  have := u32_xorW n (UInt32.ofNat b.toNat)
  rw [show (UInt32.ofNat b.toNat).toNat = b.toNat from by rw [UInt32.toNat_ofNat']; have := b.toNat_lt; omega] at this
  exact this
set_option maxRecDepth 100000 in
theorem onF_any (b : UInt8) (P : Nat) (n : UInt32) (w : World) (h : Blk w P 88 #[.int .u32 (n.toNat : Int)]) :
    Calls Try.prog 84 #[.int .u8 (b.toNat : Int), .pointer (some ⟨P, 0, none⟩)] w fun e w' => e = .returned (.tuple #[]) ∧ Blk w' P 88 #[.int .u32 ((stepC n b).toNat : Int)] ∧ w.grownBy w' (some P) := by
  have c0 : w.cell? ⟨P, 0, none⟩ = some (.int .u32 (n.toNat : Int)) := h.cell 0
  have f0 : w.frozen? ⟨P, 0, none⟩ = false := h.frozen 0
  have H := Lib.hid h
  obtain ⟨x, hx, X0⟩ := byte_xor n b
  have HX : Hid (stepC n b = bitsC 8 x) := Lib.hid (by unfold stepC; rw [hx])
  have hb : b.toNat < 256 := b.toNat_lt
  clear h hx
  go_enter Try.func84, Try.ntmps84
  go_wp2
  clear c0 f0 X0
  go_loopw [7] (fun i wr => ∃ k : Nat, k ≤ 8 ∧ i = .int .i64 k ∧ Hid (Blk wr P 88 #[.int .u32 ((bitsC k x).toNat : Int)] ∧ w.grownBy wr (some P))) (fun i _ => 8 - (intOf i).toNat)
  case atStart => exact ⟨0, by omega, rfl, Lib.hid ⟨H.out.set_ 0 _, only_setCell (World.grownBy.refl _ _) (.inl rfl) _⟩⟩
  case round =>
    obtain ⟨k, hk, rfl, HR⟩ := hrel
    by_cases hlt : k < 8
    · have c1 : wr.cell? ⟨P, 0, none⟩ = some (.int .u32 ((bitsC k x).toNat : Int)) := HR.out.1.cell 0
      have f1 : wr.frozen? ⟨P, 0, none⟩ = false := HR.out.1.frozen 0
      have BV := Lib.hid (bit_val' (bitsC k x))
      have SB : Hid (bitsC (k + 1) x = bitC (bitsC k x)) := Lib.hid rfl
      generalize bitsC k x = m at *
      go_wp2
      go_roundw
      case rel =>
        refine ⟨k + 1, by omega, by go_num, Lib.hid ⟨?_, only_setCell HR.out.2 (.inl rfl) _⟩⟩
        rw [BV.out, SB.out]
        exact HR.out.1.set_ 0 _
      case measure => simp [intOf]; omega
    · obtain rfl : k = 8 := by omega
      go_wp2
      go_end0
      exact ⟨rfl, by rw [HX.out]; exact HR.out.1, HR.out.2⟩
set_option maxRecDepth 100000 in
theorem on_any (c : UInt32) (s : ByteArray) (w : World) (hs : s.size ≤ 140737488355328) :
    Calls Try.prog 51 #[.int .u32 (c.toNat : Int), .string s] w fun e w' => e = .returned (.int .u32 ((onC c s).toNat : Int)) ∧ Below w.heap.size w w' := by
  have hmf : ∀ (fn : Fn) (first cap : Array Value) (w : World), (Instr.makeFunc fn first cap).run Try.prog w = .ok (.func fn first cap) w := fun _ _ _ _ => rfl
  go_enter Try.func51, Try.ntmps51
  go_wp2_with ((with_reducible refine conv_bytes_wp (e := 5) (by kernel_rfl) (by kernel_rfl) (by kernel_rfl) rfl _ rfl s rfl ?_); intro cap w1 hc1 hg1)
  have HC : Hid (bufIs w1 5 (w.heap.size + 1) s.size cap (fun j => .int .u8 ((byteAt s j).toNat : Int))) := Lib.hid (by have := hc1; simp only [World.size_alloc] at this; exact this)
  have HB1 : Hid (Below w.heap.size w w1 ∧ Blk w1 w.heap.size 88 #[.int .u32 ((~~~c).toNat : Int)]) := Lib.hid (by
    refine ⟨below_grown ((Below.refl _ _).alloc (Nat.le_refl _) _) hg1 (by intro g h; cases h), ?_⟩
    have := (Blk.new w 88 _).grown hg1 (by intro h; cases h)
    rw [← not_word32]
    exact this)
  have NW := Lib.hid (not_word32 (foldC (~~~c) (byteAt s) s.size))
  clear hc1 hg1
  go_loopw [14] (fun i wr => ∃ k : Nat, k ≤ s.size ∧ i = .int .i64 k ∧ Hid (Blk wr w.heap.size 88 #[.int .u32 ((foldC (~~~c) (byteAt s) k).toNat : Int)] ∧ w1.grownBy wr (some w.heap.size))) (fun i _ => s.size - (intOf i).toNat)
  case atStart => exact ⟨0, by omega, rfl, Lib.hid ⟨HB1.out.2, World.grownBy.refl _ _⟩⟩
  case round =>
    obtain ⟨k, hk, rfl, HR⟩ := hrel
    by_cases hlt : k < s.size
    · have hcell : wr.cell? ⟨w.heap.size + 1, k, none⟩ = some (.int .u8 ((byteAt s k).toNat : Int)) := by
        have := (HC.out.grown HR.out.2 (by simp)).cell hlt
        exact this
      have hki : (k : Int) < (s.size : Int) := by omega
      go_wp2_with fail
      refine (onF_any (byteAt s k) w.heap.size _ _ HR.out.1).mono ?_
      rintro e w2 ⟨rfl, hb2, hg2⟩
      go_wp2
      go_roundw
      case rel => exact ⟨k + 1, by omega, by go_num, Lib.hid ⟨hb2, grown_both HR.out.2 hg2⟩⟩
      case measure => simp [intOf]; omega
    · obtain rfl : k = s.size := by omega
      have c1 : wr.cell? ⟨w.heap.size, 0, none⟩ = some (.int .u32 ((foldC (~~~c) (byteAt s) s.size).toNat : Int)) := HR.out.1.cell 0
      go_wp2
      go_ret
      exact ⟨by show Ending.returned (.int .u32 (bits .xor .u32 IntKind.u32.max _)) = _; rw [NW.out]; rfl, below_grown HB1.out.1 HR.out.2 (by intro g h; injection h with h; omega)⟩
end Go.Proofs.Ytfoandpcoakcjaa
namespace Go.Proofs.Ytfoandpcoakcjaa
open Go.RowKit
set_option linter.unusedVariables false
theorem crc_any (s : ByteArray) (w : World) (hs : s.size ≤ 140737488355328) :
    Calls Try.prog 52 #[.string s] w fun e w' => e = .returned (.int .u32 ((onC 0 s).toNat : Int)) ∧ Below w.heap.size w w' := by
  have O := Lib.hid (fun W => on_any 0 s W hs)
  go_enter Try.func52, Try.ntmps52
  go_wp2_with fail
  refine (O.out _).mono ?_
  rintro e w' ⟨rfl, hb⟩
  go_wp2
  go_ret
  exact ⟨rfl, hb⟩
theorem half32 (n : UInt32) : (n.toNat : Int) / (2 : Int) = ((n >>> 1).toNat : Int) := by
  have s := u32_shrW n 1 (by omega)
  rw [show ((2 : Int) ^ 1) = 2 from rfl] at s
  exact s
set_option maxRecDepth 100000 in
theorem rstep_any (n : UInt32) (b : UInt8) (w : World) :
    Calls Try.prog 111 #[.int .u32 (n.toNat : Int), .int .u8 (b.toNat : Int)] w fun e w' => e = .returned (.int .u32 ((stepC n b).toNat : Int)) ∧ w = w' := by
  obtain ⟨x, hx, X0⟩ := byte_xor n b
  have HX : Hid (stepC n b = bitsC 8 x) := Lib.hid (by unfold stepC; rw [hx])
  have hb : b.toNat < 256 := b.toNat_lt
  clear hx
  go_enter Try.func111, Try.ntmps111
  go_wp2
  clear X0
  go_loop [0, 5] (fun v i => ∃ k : Nat, k ≤ 8 ∧ i = .int .i64 k ∧ v = .int .u32 ((bitsC k x).toNat : Int)) (fun _ i => 8 - (intOf i).toNat)
  case atStart => exact ⟨0, by omega, rfl, rfl⟩
  case round =>
    obtain ⟨k, hk, rfl, rfl⟩ := hrel
    by_cases hlt : k < 8
    · have SB : Hid (bitsC (k + 1) x = bitC (bitsC k x)) := Lib.hid rfl
      generalize bitsC k x = m at *
      have hm : m.toNat < 4294967296 := m.toNat_lt
      have HH := Lib.hid (half32 m)
      by_cases ho : m.toNat % 2 = 1
      · have HO : Hid (bitC m = m >>> 1 ^^^ 3988292384) := Lib.hid (bitC_odd m ho)
        have hoi : ((m.toNat : Int) % 2 == 1) = true := by rw [beq_iff_eq]; omega
        have XX := Lib.hid (u32_xorW (m >>> 1) 3988292384)
        clear ho
        go_wp2
        go_round
        case rel => exact ⟨k + 1, by omega, by go_num, by
          rw [SB.out, HO.out, HH.out]
          have := XX.out
          rw [show (((3988292384 : UInt32).toNat : Nat) : Int) = 3988292384 from rfl] at this
          rw [this]⟩
        case measure => simp [intOf]; omega
      · have HO : Hid (bitC m = m >>> 1) := Lib.hid (bitC_even m (by omega))
        have hoi : ((m.toNat : Int) % 2 == 1) = false := by rw [beq_eq_false_iff_ne]; omega
        clear ho
        go_wp2
        go_round
        case rel => exact ⟨k + 1, by omega, by go_num, by rw [SB.out, HO.out, HH.out]⟩
        case measure => simp [intOf]; omega
    · obtain rfl : k = 8 := by omega
      go_wp2
      go_ret
      exact ⟨by rw [HX.out]; rfl, rfl⟩
set_option maxRecDepth 100000 in
theorem ron_any (c : UInt32) (s : ByteArray) (w : World) (hs : s.size ≤ 9223372036854775807) :
    Calls Try.prog 85 #[.int .u32 (c.toNat : Int), .string s] w fun e w' => e = .returned (.int .u32 ((onC c s).toNat : Int)) ∧ w = w' := by
  have N0 := Lib.hid (not_word32 c)
  have N1 := Lib.hid (not_word32 (foldC (~~~c) (byteAt s) s.size))
  go_enter Try.func85, Try.ntmps85
  go_wp2
  go_loop [5, 6] (fun v i => ∃ k : Nat, k ≤ s.size ∧ i = .int .i64 k ∧ v = .int .u32 ((foldC (~~~c) (byteAt s) k).toNat : Int)) (fun _ i => s.size - (intOf i).toNat)
  case atStart => exact ⟨0, by omega, rfl, by rw [N0.out]; rfl⟩
  case round =>
    obtain ⟨k, hk, rfl, rfl⟩ := hrel
    by_cases hlt : k < s.size
    · have FB : Hid (foldC (~~~c) (byteAt s) (k + 1) = stepC (foldC (~~~c) (byteAt s) k) (byteAt s k)) := Lib.hid rfl
      have EB := Lib.hid (byteAt_get s k hlt)
      generalize foldC (~~~c) (byteAt s) k = m at *
      go_wp2_with fail
      refine (rstep_any m s[k] _).mono ?_
      rintro e w' ⟨rfl, rfl⟩
      go_wp2
      go_round
      case rel => exact ⟨k + 1, by omega, by go_num, by rw [FB.out, EB.out]⟩
      case measure => simp [intOf]; omega
    · obtain rfl : k = s.size := by omega
      go_wp2
      go_ret
      exact ⟨by show Ending.returned (.int .u32 (bits .xor .u32 IntKind.u32.max _)) = _; rw [N1.out]; rfl, rfl⟩
theorem rcrc_any (s : ByteArray) (w : World) (hs : s.size ≤ 9223372036854775807) :
    Calls Try.prog 54 #[.string s] w fun e w' => e = .returned (.int .u32 ((onC 0 s).toNat : Int)) ∧ w = w' := by
  have O := Lib.hid (fun W => ron_any 0 s W hs)
  go_enter Try.func54, Try.ntmps54
  go_wp2_with fail
  refine (O.out _).mono ?_
  rintro e w' ⟨rfl, rfl⟩
  go_wp2
  go_ret
  exact ⟨rfl, rfl⟩
end Go.Proofs.Ytfoandpcoakcjaa
