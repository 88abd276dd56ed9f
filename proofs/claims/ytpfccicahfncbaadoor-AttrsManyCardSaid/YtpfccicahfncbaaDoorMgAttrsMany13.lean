/- Several texts of the claim joined into one (part 13): plain facts and walks. No conditions but those that each theorem tells. -/
import Derived.Test.YtpfccicahfncbaaDoorMgAttrsMany12
import Derived.Test.YtpfccicahfncbaaDoorMgAttrsMany3
import Derived.Test.YtpfccicahfncbaaDoorRows
import Derived.Test.YtpfccicahfncbaaDoorMgAttrsMany7
import Derived.Lib.LaidU8
import Derived.PinnedBridge
import Derived.MakeChecks
namespace Go.Proofs.YtpfccicahfncbaaDoor
open Go.RowKit Wir
set_option linter.unusedVariables false
def bslA (a : Value) : Sem Next := do pure (.value (← Instr.buildSlice 23 1 #[(0, a)]))
theorem execOp_bslA (ρ : Operand → Value) (dst : Option Tmp) (a : Operand) (ty : TypeId) (pos : String) (after : Array Edge) (guard : Option (Nat × Bool)) :
    execOp ρ { dst, op := .buildSlice 23 1 #[(0, a)], type := ty, pos, after, guard } = bslA (ρ a) := by
  unfold execOp bslA; simp
theorem run_bslA (w : World) (a0 a1 a2 a3 a4 a5 a6 : Value) : (bslA (.agg #[a0, a1, a2, a3, a4, a5, a6])).run Tryd.prog w = .ok (.value (.slice (some ⟨w.heap.size, 0, none⟩) 1 1)) (w.alloc (.cells #[a0, a1, a2, a3, a4, a5, a6] 27)) := by
  unfold bslA
  go_simp
theorem Reads.short {w : World} {B size n k : Nat} {A : Option Addr} {xs : List Value} (h : Reads w B size A n xs) (hk : k ≤ n) : Reads w B size A k (xs.take (k * size)) := by
  refine ⟨by rw [List.length_take, h.1, Nat.min_eq_left (Nat.mul_le_mul_right _ hk)], fun hn => ?_⟩
  obtain ⟨ad, e, hb, hc⟩ := h.2 (by omega)
  refine ⟨ad, e, hb, fun j u hu => hc j u ?_⟩
  rw [List.getElem?_take] at hu
  split at hu
  · exact hu
  · cases hu
theorem attsV_cut1 (M : List AttM) (q : AttM) (n : Nat) (h : M.length = n) : (attsV (M ++ [q])).take (n * 7) = attsV M := by
  rw [attsV_app, List.take_append_of_le_length (by rw [attsV_length, h]; exact Nat.le_refl _), List.take_of_length_le (by rw [attsV_length, h]; exact Nat.le_refl _)]
theorem xtV_cut1 (l : List (ByteArray × ByteArray)) (x : ByteArray × ByteArray) (n : Nat) (h : l.length = n) : (xtV (l ++ [x])).take (n * 2) = xtV l := by
  rw [xtV_app, List.take_append_of_le_length (by rw [xtV_length, h]; exact Nat.le_refl _), List.take_of_length_le (by rw [xtV_length, h]; exact Nat.le_refl _)]
/-- A copy's list is the call's own, a mark behind it. -/
def OwnMark (w : World) (base : Nat) (q : AttM) : Prop := ∃ g, q.A = some ⟨g, 0, none⟩ ∧ w.ownsRow base 43 2 (.slice (some ⟨g, 0, none⟩) (q.n + 1) q.c) (q.n + 1) (xtV (q.a.xs ++ [markX]))
def AllMark (w : World) (base : Nat) (M : List AttM) : Prop := ∀ q ∈ M, OwnMark w base q
theorem OwnMark.below {w w' : World} {base : Nat} {q : AttM} (h : OwnMark w base q) (hb : Below w.heap.size w w') : OwnMark w' base q := by
  obtain ⟨g, e, ho⟩ := h; exact ⟨g, e, own_below ho hb⟩
theorem OwnMark.rd {w : World} {base : Nat} {q : AttM} (h : OwnMark w base q) : Reads w w.heap.size 2 q.A (q.n + 1) (xtV (q.a.xs ++ [markX])) := by
  obtain ⟨g, e, ho⟩ := h; rw [e]; exact Reads.of_own ho
theorem OwnMark.len {w : World} {base : Nat} {q : AttM} (h : OwnMark w base q) : q.a.xs.length = q.n := by
  have := h.rd.xtLen; rw [List.length_append, List.length_singleton] at this; omega
theorem OwnMark.rd0 {w : World} {base : Nat} {q : AttM} (h : OwnMark w base q) : Reads w w.heap.size 2 q.A q.n (xtV q.a.xs) := by
  have := h.rd.short (Nat.le_succ q.n)
  rw [xtV_cut1 _ _ _ h.len] at this
  exact this
theorem OwnMark.cap {w : World} {base : Nat} {q : AttM} (h : OwnMark w base q) : q.n + 1 ≤ q.c := by
  obtain ⟨g, e, ho⟩ := h
  rcases ho.2 with ⟨h', _⟩ | ⟨g', cap, cur, h', _, _, a3, _⟩
  · cases h'
  · simp only [Value.slice.injEq] at h'
    obtain ⟨_, _, h5⟩ := h'
    omega
/-- What holds at the head of the first loop. -/
structure AmI (w wr : World) (v : Value) (k : Nat) (MM M : List AttM) : Prop where
  len : MM.length = k
  row : wr.ownsRow w.heap.size 27 7 v k (attsV MM)
  all : AllMark wr w.heap.size MM
  same : MM.map (fun q => (q.a, q.n)) = (M.take k).map (fun q => (q.a, q.n))
  below : Below w.heap.size w wr
theorem AmI.mono {w wr w' : World} {v : Value} {k : Nat} {MM M : List AttM} (h : AmI w wr v k MM M) (hb : Below wr.heap.size wr w') : AmI w w' v k MM M :=
  ⟨h.len, own_below h.row hb, fun q hq => (h.all q hq).below hb, h.same, h.below.trans (hb.mono h.below.size)⟩
theorem AmI.push {w wr w' : World} {v v' : Value} {k : Nat} {MM M : List AttM} {q r : AttM} (h : AmI w wr v k MM M) (hq : OwnMark wr w.heap.size q) (hk : k < M.length) (hr : M[k] = r) (ha : q.a = r.a) (hn : q.n = r.n)
    (ho : w'.ownsRow w.heap.size 27 7 v' (k + 1) (attsV MM ++ q.v)) (hg : wr.grownBy w' v.ownBlock) : AmI w w' v' (k + 1) (MM ++ [q]) M := by
  have hne : ∀ b, v.ownBlock = some b → w.heap.size ≤ b := fun b e => (h.row.lt b e).1
  have hkeep : ∀ x, OwnMark wr w.heap.size x → OwnMark w' w.heap.size x := fun x ⟨g, e, hx⟩ => ⟨g, e, own_keep hx h.row (by decide) hg⟩
  refine ⟨by rw [List.length_append, h.len]; rfl, ?_, fun x hx => ?_, ?_, h.below.grown hg h.below.size hne⟩
  · rw [attsV_app]
    show w'.ownsRow _ _ _ _ _ (attsV MM ++ (q.v ++ []))
    rw [List.append_nil]; exact ho
  · rcases List.mem_append.1 hx with h' | h'
    · exact hkeep x (h.all x h')
    · rw [List.mem_singleton] at h'; subst h'; exact hkeep x hq
  · rw [List.map_append, h.same, List.take_add_one, List.getElem?_eq_getElem hk, List.map_append, hr]
    simp only [List.map_cons, List.map_nil, Option.toList, ha, hn]
theorem same_a {MM M : List AttM} (h : MM.map (fun q => (q.a, q.n)) = M.map (fun q => (q.a, q.n))) : MM.map (·.a) = M.map (·.a) := by
  have := congrArg (List.map Prod.fst) h
  rw [List.map_map, List.map_map] at this
  exact this
theorem same_mem {MM M : List AttM} (h : MM.map (fun q => (q.a, q.n)) = M.map (fun q => (q.a, q.n))) {q : AttM} (hq : q ∈ MM) : ∃ r ∈ M, r.a = q.a ∧ r.n = q.n := by
  have h1 : (q.a, q.n) ∈ M.map (fun q => (q.a, q.n)) := by rw [← h]; exact List.mem_map.2 ⟨q, hq, rfl⟩
  obtain ⟨r, hr, e⟩ := List.mem_map.1 h1
  injection e with e1 e2
  exact ⟨r, hr, e1, e2⟩
theorem same_at {MM M : List AttM} (h : MM.map (fun q => (q.a, q.n)) = M.map (fun q => (q.a, q.n))) (k : Nat) (h1 : k < MM.length) (h2 : k < M.length) : (MM[k]).a = (M[k]).a ∧ (MM[k]).n = (M[k]).n := by
  have e1 : (MM.map (fun q => (q.a, q.n)))[k]? = (M.map (fun q => (q.a, q.n)))[k]? := by rw [h]
  rw [List.getElem?_map, List.getElem?_map, List.getElem?_eq_getElem h1, List.getElem?_eq_getElem h2] at e1
  have := Option.some.inj e1
  injection this with a b
  exact ⟨a, b⟩
def z77 : AttM := ⟨⟨77, 0, 0, 0, 0, ⟨#[]⟩, []⟩, none, 0, 0⟩
/-- A block of so many cells of a type. -/
def HasBlk (W : World) (g : Nat) (t : TypeId) (m : Nat) : Prop := ∃ cs, Blk W g t cs ∧ m ≤ cs.size
theorem HasBlk.setCell {W : World} {g m : Nat} {t : TypeId} (h : HasBlk W g t m) (g' i : Nat) (v : Value) : HasBlk (W.setCell ⟨g', i, none⟩ v) g t m := by
  obtain ⟨cs, hb, hm⟩ := h
  by_cases e : g = g'
  · subst e; exact ⟨_, hb.set_ i v, by rw [Array.size_setIfInBounds]; exact hm⟩
  · exact ⟨cs, hb.far (p := ⟨g', i, none⟩) e v, hm⟩
/-- The list that the law writes over, and the document's that must stay. -/
structure AmV (w W : World) (A1 : Option Addr) (n1 : Nat) (M1 : List AttM) (b2 : Nat) (v2 : Value) (M2 : List AttM) : Prop where
  row : 1 ≤ n1 → ∃ gv cs, A1 = some ⟨gv, 0, none⟩ ∧ w.heap.size ≤ gv ∧ Blk W gv 27 cs ∧ n1 * 7 ≤ cs.size ∧ ∀ i (h : i < M1.length), cs[i * 7 + 6]? = some (.slice (M1[i]).A (M1[i]).n (M1[i]).c)
  xs : ∀ q ∈ M1, 1 ≤ q.n → ∃ g, q.A = some ⟨g, 0, none⟩ ∧ w.heap.size ≤ g ∧ HasBlk W g 43 (q.n * 2)
  row2 : W.ownsRow b2 31 7 v2 M2.length (attsV M2)
  all2 : RAllOwn W b2 M2
  below : Below w.heap.size w W
theorem row_blk {W : World} {base n size : Nat} {e : TypeId} {A : Option Addr} {c : Nat} {xs : List Value} (h : W.ownsRow base e size (.slice A n c) n xs) (hn : 1 ≤ n) : ∃ g cs, A = some ⟨g, 0, none⟩ ∧ base ≤ g ∧ Blk W g e cs ∧ n * size ≤ cs.size ∧ cs.toList.take (n * size) = xs := by
  rcases h.2 with ⟨_, h'⟩ | ⟨g, cap, cur, h', a1, a2, a3, a4, a5, a6⟩
  · omega
  · injection h' with h1 h2 h3
    exact ⟨g, cur, h1, a1, a2, by rw [a5]; exact Nat.mul_le_mul_right _ a3, a6⟩
theorem AmV.start {w W : World} {A1 : Option Addr} {n1 c1 b2 base : Nat} {v2 : Value} {M1 M2 : List AttM} (hl : M1.length = n1) (hw : w.heap.size ≤ base) (h1 : W.ownsRow base 27 7 (.slice A1 n1 c1) n1 (attsV M1)) (h2 : AllOwn W base M1)
    (h3 : W.ownsRow b2 31 7 v2 M2.length (attsV M2)) (h4 : RAllOwn W b2 M2) (h5 : Below w.heap.size w W) : AmV w W A1 n1 M1 b2 v2 M2 := by
  refine ⟨fun hn => ?_, fun q hq hn => ?_, h3, h4, h5⟩
  · obtain ⟨g, cs, e, hb, hk, hs, ht⟩ := row_blk h1 hn
    refine ⟨g, cs, e, Nat.le_trans hw hb, hk, hs, fun i hi => ?_⟩
    have hg := attsV_get M1 i 6 hi (by omega)
    rw [← ht, List.getElem?_take] at hg
    split at hg
    · rw [Array.getElem?_toList] at hg; exact hg
    · cases hg
  · obtain ⟨g, cs, e, hb, hk, hs, _⟩ := row_blk (h2 q hq) hn
    exact ⟨g, e, Nat.le_trans hw hb, cs, hk, hs⟩
theorem AmV.keep2 {w W : World} {A1 : Option Addr} {n1 b2 g i : Nat} {v2 v : Value} {M1 M2 : List AttM} (h : AmV w W A1 n1 M1 b2 v2 M2) {t : TypeId} {cs : Array Value} (hb : Blk W g t cs) (h1 : t ≠ 31) (h2 : t ≠ 60) (hw : w.heap.size ≤ g) :
    (W.setCell ⟨g, i, none⟩ v).ownsRow b2 31 7 v2 M2.length (attsV M2) ∧ RAllOwn (W.setCell ⟨g, i, none⟩ v) b2 M2 ∧ Below w.heap.size w (W.setCell ⟨g, i, none⟩ v) := by
  have hg : W.grownBy (W.setCell ⟨g, i, none⟩ v) (some g) := only_setCell (grown_refl W (some g)) (p := ⟨g, i, none⟩) (.inl rfl) v
  exact ⟨h.row2.kept hg (.inr (own_blk_ne h.row2 hb h1.symm)), fun q hq => (h.all2 q hq).kept hg (.inr (own_blk_ne (h.all2 q hq) hb h2.symm)), h.below.setCell (p := ⟨g, i, none⟩) hw v⟩
theorem AmV.mono {w W W' : World} {A1 : Option Addr} {n1 b2 : Nat} {v2 : Value} {M1 M2 : List AttM} (h : AmV w W A1 n1 M1 b2 v2 M2) (hb : Below W.heap.size W W') : AmV w W' A1 n1 M1 b2 v2 M2 := by
  refine ⟨fun hn => ?_, fun q hq hn => ?_, own_below h.row2 hb, h.all2.below hb, h.below.trans (hb.mono h.below.size)⟩
  · obtain ⟨gv, cs, e, h1, h2, h3, h4⟩ := h.row hn
    exact ⟨gv, cs, e, h1, h2.below hb h2.lt, h3, h4⟩
  · obtain ⟨g, e, h1, cs, h2, h3⟩ := h.xs q hq hn
    exact ⟨g, e, h1, cs, h2.below hb h2.lt, h3⟩
/-- A node is written over .. -/
theorem AmV.node {w W : World} {gv n1 b2 : Nat} {v2 : Value} {M1 M2 : List AttM} (h : AmV w W (some ⟨gv, 0, none⟩) n1 M1 b2 v2 M2) (hl : M1.length = n1) (i : Nat) (hi : i < n1) (v : Value) : AmV w (W.setCell ⟨gv, i * 7, none⟩ v) (some ⟨gv, 0, none⟩) n1 M1 b2 v2 M2 := by
  obtain ⟨g, cs, e, hw, hb, hs, hx⟩ := h.row (by omega)
  injection e with e; injection e with e; subst e
  obtain ⟨k1, k2, k3⟩ := h.keep2 (i := i * 7) (v := v) hb (by decide) (by decide) hw
  refine ⟨fun _ => ⟨gv, _, rfl, hw, hb.set_ (i * 7) v, by rw [Array.size_setIfInBounds]; exact hs, fun j hj => ?_⟩, fun q hq hn => ?_, k1, k2, k3⟩
  · rw [Array.getElem?_setIfInBounds_ne (by omega)]; exact hx j hj
  · obtain ⟨g, e, h1, h2⟩ := h.xs q hq hn
    exact ⟨g, e, h1, h2.setCell _ _ _⟩
/-- .. and a value. -/
theorem AmV.value {w W : World} {A1 : Option Addr} {n1 b2 g : Nat} {v2 : Value} {M1 M2 : List AttM} (h : AmV w W A1 n1 M1 b2 v2 M2) {cs : Array Value} (hb : Blk W g 43 cs) (hw : w.heap.size ≤ g) (i : Nat) (v : Value) : AmV w (W.setCell ⟨g, i, none⟩ v) A1 n1 M1 b2 v2 M2 := by
  obtain ⟨k1, k2, k3⟩ := h.keep2 (i := i) (v := v) hb (by decide) (by decide) hw
  refine ⟨fun hn => ?_, fun q hq hn => ?_, k1, k2, k3⟩
  · obtain ⟨gv, cs', e, h1, h2, h3, h4⟩ := h.row hn
    exact ⟨gv, cs', e, h1, h2.far (p := ⟨g, i, none⟩) (h2.ne_ hb (by decide)) v, h3, h4⟩
  · obtain ⟨g', e, h1, h2⟩ := h.xs q hq hn
    exact ⟨g', e, h1, h2.setCell _ _ _⟩
/-- What the walk reads of it. -/
theorem AmV.at_ {w W : World} {A1 : Option Addr} {n1 b2 : Nat} {v2 : Value} {M1 M2 : List AttM} (h : AmV w W A1 n1 M1 b2 v2 M2) (hl : M1.length = n1) (i : Nat) (hi : i < M1.length) : ∃ gv x, A1 = some ⟨gv, 0, none⟩ ∧ W.cell? ⟨gv, i * 7, none⟩ = some x ∧ W.frozen? ⟨gv, i * 7, none⟩ = false ∧ W.cell? ⟨gv, i * 7 + 6, none⟩ = some (.slice (M1[i]).A (M1[i]).n (M1[i]).c) := by
  obtain ⟨gv, cs, e, h1, h2, h3, h4⟩ := h.row (by omega)
  have hlt : i * 7 < cs.size := by omega
  exact ⟨gv, cs[i * 7], e, (h2.cell _).trans (Array.getElem?_eq_getElem hlt), h2.frozen _, (h2.cell _).trans (h4 i hi)⟩
theorem AmV.val_ {w W : World} {A1 : Option Addr} {n1 b2 : Nat} {v2 : Value} {M1 M2 : List AttM} (h : AmV w W A1 n1 M1 b2 v2 M2) {q : AttM} (hq : q ∈ M1) (j : Nat) (hj : j < q.n) : ∃ g x, q.A = some ⟨g, 0, none⟩ ∧ W.cell? ⟨g, j * 2 + 1, none⟩ = some x ∧ W.frozen? ⟨g, j * 2 + 1, none⟩ = false ∧ (∀ v, AmV w (W.setCell ⟨g, j * 2 + 1, none⟩ v) A1 n1 M1 b2 v2 M2) := by
  obtain ⟨g, e, h1, cs, h2, h3⟩ := h.xs q hq (by omega)
  have hlt : j * 2 + 1 < cs.size := by omega
  exact ⟨g, cs[j * 2 + 1], e, (h2.cell _).trans (Array.getElem?_eq_getElem hlt), h2.frozen _, fun v => h.value h2 h1 _ v⟩
theorem rsF_len : ∀ (k : Nat) (r : ByteArray) (L L' : List Att) (r' : ByteArray), rsF k r L = some (L', r') → L'.length = L.length + k
  | 0, r, L, L', r', h => by rw [rsF] at h; injection h with h; injection h with h1 h2; rw [h1]; rfl
  | k + 1, r, L, L', r', h => by
    rw [rsF] at h
    split at h
    · have := rsF_len k _ _ _ _ h
      rw [List.length_append] at this
      rw [this]; show L.length + 1 + k = _; omega
    · cases h
theorem rsR_len (s : ByteArray) : (rsR s).1.length ≤ 257 := by
  rw [rsR]
  split
  · next hc =>
    cases hF : rsF (short (byteAt s) s.size).1 (uintS s) [] with
    | none => exact Nat.zero_le _
    | some x =>
      obtain ⟨L, r⟩ := x
      have := rsF_len _ _ _ _ _ hF
      rw [rsE]
      split
      · show L.length ≤ 257
        rw [this, List.length_nil]; omega
      · exact Nat.zero_le _
  · exact Nat.zero_le _
end Go.Proofs.YtpfccicahfncbaaDoor
namespace Go.Proofs.YtpfccicahfncbaaDoor
open Go.RowKit Wir
set_option linter.unusedVariables false
set_option linter.unusedSimpArgs false
attribute [local go_sem ↓] execOp_bslA
attribute [local go_sem] run_bslA
set_option maxRecDepth 100000 in
set_option maxHeartbeats 0 in
theorem attrsMany_walk (A : Option Addr) (n c : Nat) (L : List AttM) (s : ByteArray) {w : World} (hT : Tabs w) (hr : Reads w w.heap.size 7 A n (attsV L)) (hn : n * 64 ≤ 140737488351232) (hL : ∀ q ∈ L, q.good w) (hc : n ≤ c) (hs : s.size ≤ 140737488351232) :
    Calls Tryd.prog 3 #[.slice A n c, .string s] w fun e w' => e = .returned (.bool true) ∧ Below w.heap.size w w' := by
  have HR := Lib.hid hr
  have HT := Lib.hid hT
  have HLg := Lib.hid hL
  have HLl := Lib.hid hr.attLen
  clear hr hT hL
  go_enter Tryd.func3, Tryd.ntmps3
  go_wp2_with fail
  go_loopw [5, 6] (fun v i wr => ∃ (k : Nat) (MM : List AttM), k ≤ n ∧ i = .int .i64 k ∧ Hid (AmI w wr v k MM L)) (fun _ i _ => n - (intOf i).toNat)
  case atStart => exact ⟨0, [], by omega, rfl, Lib.hid ⟨rfl, World.ownsRow_nil _ _ _ _, (fun q hq => by cases hq), rfl, Below.refl _ _⟩⟩
  case round =>
    obtain ⟨k, MM, hk, rfl, HI⟩ := hrel
    by_cases hlt : k < n
    · obtain ⟨ad, hkl, rfl, hbl, hcl⟩ := atts_cells HR.out k hlt
      obtain ⟨g1, g2, g3, g4⟩ := HLg.out _ (List.getElem_mem hkl)
      have hcl2 : ∀ j, j < 7 → wr.cell? ((ad.add (k * 7)).add j) = (L[k]).v[j]? := fun j hj => by
        rw [HI.out.below.cell (by rw [block_of_add, block_of_add]; omega)]; exact hcl j hj
      obtain ⟨c0, c1, c2, c3, c4, c5, c6⟩ := seven_cells hcl2
      have HQ : Hid (∃ h : k < L.length, L[k] = L[k]'hkl) := Lib.hid ⟨hkl, rfl⟩
      obtain ⟨q, hq⟩ : ∃ q, L[k] = q := ⟨_, rfl⟩
      rw [hq] at c0 c1 c2 c3 c4 c5 c6 g1 g3
      have HQ2 : Hid (∃ h : k < L.length, L[k]'h = q) := Lib.hid ⟨hkl, hq⟩
      have G1 := Lib.hid (g1.below HI.out.below)
      clear HQ hq hcl hcl2 g1 g2 g4 hkl
      have hki : (k : Int) < (n : Int) := by omega
      have C1 := Lib.hid (attOwn_any q.a q.A q.n q.c wr w.heap.size G1.out HI.out.below.size g3)
      go_wp2_with fail
      change Calls _ _ #[.agg (attV q.a q.A q.n q.c)] _ _
      (with_reducible refine C1.out.mono ?_)
      rintro e w2 ⟨g, cap, rfl, ho, hb⟩
      have HI2 := Lib.hid (HI.out.mono hb)
      have HO2 : Hid (OwnMark w2 w.heap.size ⟨q.a, some ⟨g, 0, none⟩, q.n, cap⟩) := Lib.hid ⟨g, rfl, own_base ho HI.out.below.size⟩
      clear ho hb C1 HI c0 c1 c2 c3 c4 c5 c6
      have BN : Hid (AmI w (w2.alloc (.cells (attV q.a (some ⟨g, 0, none⟩) q.n cap) 27)) u5 k MM L ∧ OwnMark (w2.alloc (.cells (attV q.a (some ⟨g, 0, none⟩) q.n cap) 27)) w.heap.size ⟨q.a, some ⟨g, 0, none⟩, q.n, cap⟩ ∧ w.heap.size ≤ w2.heap.size) := Lib.hid ⟨HI2.out.mono ((Below.refl _ _).alloc (Nat.le_refl _) _), HO2.out.below ((Below.refl _ _).alloc (Nat.le_refl _) _), HI2.out.below.size⟩
      have hk1 : k ≤ 4611686018427387904 := by omega
      have hk2 : (k + 1) * 64 ≤ 140737488355328 := by omega
      unfold attV
      go_wp2_with (at_builtin; refine appendN_new elemAt rfl _ _ rfl w.heap.size u5 k _ (by rfl) HI2.out.row (attV q.a (some ⟨g, 0, none⟩) q.n cap) rfl (by rfl) (by intro u hu; exact attsV_one [⟨q.a, some ⟨g, 0, none⟩, q.n, cap⟩] u (by simpa [attsV, AttM.v] using hu)) hk1 hk2 BN.out.2.2 ?_; intro v' w' ho hg hd; clear hd; have HK' := Lib.hid (AmI.push (q := ⟨q.a, some ⟨g, 0, none⟩, q.n, cap⟩) (r := q) HI2.out HO2.out (HQ2.out.1) (HQ2.out.2) rfl rfl ho hg); clear ho hg)
      go_roundw
      case rel => exact ⟨k + 1, MM ++ [⟨q.a, some ⟨g, 0, none⟩, q.n, cap⟩], by omega, by go_num, HK'⟩
      case measure => simp [intOf]; omega
    · obtain rfl : k = n := by omega
      have HSM : Hid (MM.map (fun q => (q.a, q.n)) = L.map (fun q => (q.a, q.n))) := Lib.hid (by
        have := HI.out.same
        rw [List.take_of_length_le (by rw [HLl.out]; exact Nat.le_refl _)] at this
        exact this)
      have HSZ : Hid (∀ q ∈ MM, q.a.sized ∧ q.n ≤ 4611686018427387904 ∧ q.n * 32 ≤ 140737488351232) := Lib.hid (fun q hq => by
        obtain ⟨r, hr, e1, e2⟩ := same_mem HSM.out hq
        obtain ⟨_, g2, g3, _⟩ := HLg.out r hr
        rw [e1] at g2
        rw [e2] at g3
        exact ⟨g2, by omega, g3⟩)
      have hk1 : k ≤ 4611686018427387904 := by omega
      have hk2 : (k + 1) * 64 ≤ 140737488355328 := by omega
      have hk0 : (0 : Int) ≤ (k : Int) := by omega
      go_wp2_with (at_builtin; refine appendN_new elemAt rfl _ _ rfl w.heap.size u5 k _ (by rfl) HI.out.row #[.int .u8 77, .int .u32 0, .int .u32 0, .int .u32 0, .int .i64 0, .string ⟨#[]⟩, .slice none 0 0] rfl (by rfl) (by intro u hu; simp at hu; rcases hu with rfl | rfl | rfl | rfl | rfl <;> rfl) hk1 hk2 HI.out.below.size ?_; intro v' w6 ho hg hd; clear hd; obtain ⟨gm, cm, rfl, hcm⟩ := own_slX ho (by omega); have H6 : Hid (Reads w6 w6.heap.size 7 (some ⟨gm, 0, none⟩) (k + 1) (attsV (MM ++ [z77])) ∧ AllMark w6 w.heap.size MM ∧ Below w.heap.size w w6) := Lib.hid (by
          have hne : ∀ b, u5.ownBlock = some b → w.heap.size ≤ b := fun b e => (HI.out.row.lt b e).1
          refine ⟨?_, fun q hq => ?_, HI.out.below.grown hg HI.out.below.size hne⟩
          · have := Reads.of_own ho
            rw [attsV_app]
            exact this
          · obtain ⟨g, e, hx⟩ := HI.out.all q hq
            exact ⟨g, e, own_keep hx HI.out.row (by decide) hg⟩); clear ho hg; have hcmi : (k : Int) ≤ (cm : Int) := by omega)
      have HRm : Hid (Reads w6 w6.heap.size 7 (some ⟨gm, 0, none⟩) k (attsV MM)) := Lib.hid (by
        have := H6.out.1.short (Nat.le_succ k)
        rw [attsV_cut1 MM z77 k HI.out.len] at this
        exact this)
      have C7 := Lib.hid (attStrm_any (some ⟨gm, 0, none⟩) k cm MM w6 w6.heap.size HRm.out (fun q hq => (H6.out.2.1 q hq).rd0) (fun q hq => ⟨(HSZ.out q hq).1, (HSZ.out q hq).2.1⟩) (Nat.le_refl _) hk1)
      rw [same_a HSM.out] at C7
      (with_reducible refine C7.out.mono ?_)
      rintro e w7 ⟨rfl, hb⟩
      have H7 : Hid (Below w6.heap.size w6 w7 ∧ Below w.heap.size w w7) := Lib.hid ⟨hb, H6.out.2.2.trans (hb.mono H6.out.2.2.size)⟩
      clear hb C7
      have C8 := Lib.hid (rattStrm_any A k c L w7 w.heap.size (HR.out.below H7.out.2) (fun q hq => (HLg.out q hq).1.below H7.out.2) (Utf8Tabs_below HT.out H7.out.2) (fun q hq => ⟨(HLg.out q hq).2.1, by have := (HLg.out q hq).2.2.1; omega⟩) H7.out.2.size hk1)
      generalize strR (L.map (·.a)) = st at C8 ⊢
      go_wp2_with fail
      (with_reducible refine C8.out.mono ?_)
      rintro e w8 ⟨rfl, hb⟩
      have H8 : Hid (Below w6.heap.size w6 w8 ∧ Below w.heap.size w w8) := Lib.hid ⟨H7.out.1.trans (hb.mono H7.out.1.size), H7.out.2.trans (hb.mono H7.out.2.size)⟩
      clear hb C8 H7
      have C9 := Lib.hid (attRStr_any s w8 (by omega))
      go_wp2_with fail
      (with_reducible refine C9.out.mono ?_)
      rintro e w9 ⟨v1, M1, rfl, hm1, ho1, ha1, hq1, hb⟩
      have H9 : Hid (Below w6.heap.size w6 w9 ∧ Below w.heap.size w w9) := Lib.hid ⟨H8.out.1.trans (hb.mono H8.out.1.size), H8.out.2.trans (hb.mono H8.out.2.size)⟩
      have HV1 : Hid (M1.map (·.a) = (rsR s).1 ∧ w9.ownsRow w8.heap.size 27 7 v1 M1.length (attsV M1) ∧ AllOwn w9 w8.heap.size M1 ∧ (∀ q ∈ M1, chkA q.a = 0 ∧ q.n ≤ 16) ∧ w.heap.size ≤ w8.heap.size) := Lib.hid ⟨hm1, ho1, ha1, hq1, H8.out.2.size⟩
      clear hb C9 hm1 ho1 ha1 hq1 H8
      have C10 := Lib.hid (rattRStr_any s w9 (Utf8Tabs_below HT.out H9.out.2) (by omega))
      go_wp2_with fail
      (with_reducible refine C10.out.mono ?_)
      rintro e w10 ⟨v2, M2, rfl, hm2, ho2, ha2, hq2, hb⟩
      have H10 : Hid (Below w6.heap.size w6 w10 ∧ Below w.heap.size w w10) := Lib.hid ⟨H9.out.1.trans (hb.mono H9.out.1.size), H9.out.2.trans (hb.mono H9.out.2.size)⟩
      have HW1 : Hid (M1.map (·.a) = (rsR s).1 ∧ w10.ownsRow w8.heap.size 27 7 v1 M1.length (attsV M1) ∧ AllOwn w10 w8.heap.size M1 ∧ (∀ q ∈ M1, chkA q.a = 0 ∧ q.n ≤ 16) ∧ w.heap.size ≤ w8.heap.size) := Lib.hid ⟨HV1.out.1, own_below HV1.out.2.1 hb, HV1.out.2.2.1.below hb, HV1.out.2.2.2.1, HV1.out.2.2.2.2⟩
      have HW2 : Hid (M2.map (·.a) = (rsR s).1 ∧ w10.ownsRow w9.heap.size 31 7 v2 M2.length (attsV M2) ∧ RAllOwn w10 w9.heap.size M2 ∧ (∀ q ∈ M2, chkA q.a = 0 ∧ q.n ≤ 16)) := Lib.hid ⟨hm2, ho2, ha2, hq2⟩
      clear hb C10 hm2 ho2 ha2 hq2 H9 HV1
      have hl12 : M2.length = M1.length := by
        have e1 := congrArg List.length HW1.out.1
        have e2 := congrArg List.length HW2.out.1
        rw [List.length_map] at e1 e2; omega
      obtain ⟨n1, hn1⟩ : ∃ n1, M1.length = n1 := ⟨_, rfl⟩
      have HN1 := Lib.hid hn1
      have HN2 : Hid (M2.length = n1) := Lib.hid (hl12.trans hn1)
      clear hl12 hn1
      obtain ⟨A1, cc1, rfl, hrd1⟩ := own_reads HW1.out.2.1
      obtain ⟨A2, cc2, rfl, hrd2⟩ := own_reads HW2.out.2.1
      rw [HN1.out] at hrd1 ⊢
      rw [HN2.out] at hrd2 ⊢
      have hn257 : n1 ≤ 257 := by
        have e1 := congrArg List.length HW1.out.1
        rw [List.length_map, HN1.out] at e1
        rw [e1]; exact rsR_len s
      have C11 := Lib.hid (attAll_any A1 A2 n1 cc1 cc2 M1 M2 w10 w10.heap.size hrd1 hrd2 HW1.out.2.2.1.rd HW2.out.2.2.1.rd (HW1.out.1.trans HW2.out.1.symm) (Nat.le_refl _) (by omega) (fun q hq => by have := (HW1.out.2.2.2.1 q hq).2; omega) (fun q hq => by have := (HW2.out.2.2.2 q hq).2; omega))
      clear hrd1 hrd2
      generalize (rsR s).2 = er at *
      obtain ⟨t0, e0⟩ := st
      dsimp only
      go_wp2_with fail
      (with_reducible refine C11.out.mono ?_)
      rintro e w11 ⟨rfl, hb⟩
      have H11 : Hid (Below w6.heap.size w6 w11 ∧ Below w.heap.size w w11) := Lib.hid ⟨H10.out.1.trans (hb.mono H10.out.1.size), H10.out.2.trans (hb.mono H10.out.2.size)⟩
      have HV : Hid (AmV w w11 A1 n1 M1 w9.heap.size (.slice A2 n1 cc2) M2) := Lib.hid (AmV.start HN1.out HW1.out.2.2.2.2 (own_below (by have := HW1.out.2.1; rw [HN1.out] at this; exact this) hb) (HW1.out.2.2.1.below hb) (own_below (show w10.ownsRow w9.heap.size 31 7 (.slice A2 n1 cc2) M2.length (attsV M2) from by rw [← HN2.out]; exact HW2.out.2.1) hb) (HW2.out.2.2.1.below hb) H11.out.2)
      have c77 : w11.cell? ⟨gm, k * 7, none⟩ = some (.int .u8 77) := by
        obtain ⟨ad, e, hb6, hx⟩ := H6.out.1.2 (by omega)
        injection e with e
        subst e
        have h1 := hx (k * 7) (.int .u8 77) (by
          have h2 := attsV_get (MM ++ [z77]) k 0 (by rw [List.length_append, HI.out.len]; simp) (by omega)
          rw [Nat.add_zero] at h2
          rw [h2, List.getElem_append_right (by rw [HI.out.len]; exact Nat.le_refl _)]
          simp only [HI.out.len, Nat.sub_self, List.getElem_cons_zero]
          rfl)
        rw [add0] at h1
        rw [H11.out.1.cell (by exact hb6)]
        exact h1
      have HQ1 : Hid (∀ q ∈ M1, q.n ≤ 16) := Lib.hid (fun q hq => (HW1.out.2.2.2.1 q hq).2)
      clear hb C11 H10 HW1
      have HG : Hid (∀ q ∈ M2, chkA q.a = 0 ∧ q.n ≤ 16) := Lib.hid HW2.out.2.2.2
      have HM2 : Hid (M2.map (·.a) = (rsR s).1) := Lib.hid HW2.out.1
      clear HW2
      go_wp2_with fail
      clear c77
      go_loopw [15] (fun x wr => ∃ i : Nat, i ≤ k ∧ x = .int .i64 i ∧ Hid (Below w11.heap.size w11 wr)) (fun x _ => k - (intOf x).toNat)
      case atStart => exact ⟨0, by omega, rfl, Lib.hid (Below.refl _ _)⟩
      case round =>
        obtain ⟨i, hi, rfl, HK⟩ := hrel
        by_cases hlt2 : i < k
        · have hm2 : i < MM.length := by rw [HI.out.len]; exact hlt2
          have hl2 : i < L.length := by rw [HLl.out]; exact hlt2
          obtain ⟨ad, hkl, rfl, hbl, hcl⟩ := atts_cells HR.out i hlt2
          obtain ⟨adm, hkm, eadm, hbm, hcm2⟩ := atts_cells HRm.out i hlt2
          injection eadm with eadm
          subst eadm
          obtain ⟨e1, e2⟩ := same_at HSM.out i hm2 hl2
          have hmk := H6.out.2.1 _ (List.getElem_mem hm2)
          have hcap := hmk.cap
          have hrdm := hmk.rd
          have hgd := HLg.out _ (List.getElem_mem hl2)
          obtain ⟨gq, egq, hgq⟩ := hmk
          have hB11 := H11.out
          have KS : Hid (∀ W, Below w11.heap.size w11 W → (∀ j, j < 7 → W.cell? ((({ block := gm, off := 0, spot := none } : Addr).add (i * 7)).add j) = (MM[i]).v[j]?) ∧ (∀ j, j < 7 → W.cell? ((ad.add (i * 7)).add j) = (L[i]).v[j]?)) := Lib.hid (fun W hW => by
            have b6 : Below w6.heap.size w6 W := hB11.1.trans (hW.mono hB11.1.size)
            have b0 : Below w.heap.size w W := hB11.2.trans (hW.mono hB11.2.size)
            refine ⟨fun j hj => ?_, fun j hj => ?_⟩
            · rw [b6.cell (by rw [block_of_add, block_of_add]; exact hbm)]; exact hcm2 j hj
            · rw [b0.cell (by rw [block_of_add, block_of_add]; omega)]; exact hcl j hj)
          obtain ⟨⟨qa, qA, qn, qc⟩, hq⟩ : ∃ q, MM[i] = q := ⟨_, rfl⟩
          obtain ⟨⟨ra, rA, rn, rc⟩, hr⟩ : ∃ q, L[i] = q := ⟨_, rfl⟩
          rw [hq] at KS e1 e2 hcap hrdm egq
          rw [hr] at KS e1 e2 hgd
          dsimp only at e1 e2 egq hcap hrdm
          subst e1 e2 egq
          obtain ⟨hg1, hg2, hg3, hg4⟩ := hgd
          have hki : (i : Int) < (k : Int) := by omega
          have hki1 : (i : Int) < (k : Int) + 1 := by omega
          have hi0 : (0 : Int) ≤ (i : Int) := by omega
          have KT : Hid (∀ W, Below w11.heap.size w11 W → W.cell? ⟨gm, i * 7, none⟩ = some (.int .u8 (qa.nd.toNat : Int)) ∧ W.cell? ⟨gm, i * 7 + 1, none⟩ = some (.int .u32 (qa.md.toNat : Int)) ∧ W.cell? ⟨gm, i * 7 + 2, none⟩ = some (.int .u32 (qa.ui.toNat : Int)) ∧ W.cell? ⟨gm, i * 7 + 3, none⟩ = some (.int .u32 (qa.gi.toNat : Int)) ∧ W.cell? ⟨gm, i * 7 + 4, none⟩ = some (.int .i64 qa.mt) ∧ W.cell? ⟨gm, i * 7 + 5, none⟩ = some (.string qa.tg) ∧ W.cell? ⟨gm, i * 7 + 6, none⟩ = some (.slice (some ⟨gq, 0, none⟩) qn qc) ∧ W.cell? (ad.add (i * 7)) = some (.int .u8 (qa.nd.toNat : Int)) ∧ W.cell? ⟨(ad.add (i * 7)).block, (ad.add (i * 7)).off + 1, none⟩ = some (.int .u32 (qa.md.toNat : Int)) ∧ W.cell? ⟨(ad.add (i * 7)).block, (ad.add (i * 7)).off + 2, none⟩ = some (.int .u32 (qa.ui.toNat : Int)) ∧ W.cell? ⟨(ad.add (i * 7)).block, (ad.add (i * 7)).off + 3, none⟩ = some (.int .u32 (qa.gi.toNat : Int)) ∧ W.cell? ⟨(ad.add (i * 7)).block, (ad.add (i * 7)).off + 4, none⟩ = some (.int .i64 qa.mt) ∧ W.cell? ⟨(ad.add (i * 7)).block, (ad.add (i * 7)).off + 5, none⟩ = some (.string qa.tg) ∧ W.cell? ⟨(ad.add (i * 7)).block, (ad.add (i * 7)).off + 6, none⟩ = some (.slice rA qn rc)) := Lib.hid (fun W hW => by
            obtain ⟨x, y⟩ := KS.out W hW
            obtain ⟨a0, a1, a2, a3, a4, a5, a6⟩ := seven_cells x
            obtain ⟨b0, b1, b2, b3, b4, b5, b6⟩ := seven_cells y
            rw [add0] at a0 a1 a2 a3 a4 a5 a6
            exact ⟨a0, a1, a2, a3, a4, a5, a6, b0, b1, b2, b3, b4, b5, b6⟩)
          have HK1 : Hid (Below w11.heap.size w11 wr.drew) := Lib.hid HK.out.drew
          have KP := Lib.hid (attKept_any qa rA qn rc gq qc wr.drew wr.drew.heap.size (by
            have b0 : Below w.heap.size w wr.drew := H11.out.2.trans (HK1.out.mono H11.out.2.size)
            exact (hg1.below b0).more b0.size) (by
            have b6 : Below w6.heap.size w6 wr.drew := H11.out.1.trans (HK1.out.mono H11.out.1.size)
            exact (hrdm.below b6).more b6.size) (Nat.le_refl _) hg3 hcap)
          clear hcl hcm2 hrdm hg1 hg2 hg4 KS hgq hq hr hB11 hkl hkm hm2 hl2
          go_upto_region 16 with fail
          have SA := KT.out _ HK1.out
          refine wp_region_held_drew (S := fun w' => w'.cell? ⟨gm, i * 7, none⟩ = some (.int .u8 (qa.nd.toNat : Int)) ∧ w'.cell? ⟨gm, i * 7 + 1, none⟩ = some (.int .u32 (qa.md.toNat : Int)) ∧ w'.cell? ⟨gm, i * 7 + 2, none⟩ = some (.int .u32 (qa.ui.toNat : Int)) ∧ w'.cell? ⟨gm, i * 7 + 3, none⟩ = some (.int .u32 (qa.gi.toNat : Int)) ∧ w'.cell? ⟨gm, i * 7 + 4, none⟩ = some (.int .i64 qa.mt) ∧ w'.cell? ⟨gm, i * 7 + 5, none⟩ = some (.string qa.tg) ∧ w'.cell? ⟨gm, i * 7 + 6, none⟩ = some (.slice (some ⟨gq, 0, none⟩) qn qc) ∧ w'.cell? (ad.add (i * 7)) = some (.int .u8 (qa.nd.toNat : Int)) ∧ w'.cell? ⟨(ad.add (i * 7)).block, (ad.add (i * 7)).off + 1, none⟩ = some (.int .u32 (qa.md.toNat : Int)) ∧ w'.cell? ⟨(ad.add (i * 7)).block, (ad.add (i * 7)).off + 2, none⟩ = some (.int .u32 (qa.ui.toNat : Int)) ∧ w'.cell? ⟨(ad.add (i * 7)).block, (ad.add (i * 7)).off + 3, none⟩ = some (.int .u32 (qa.gi.toNat : Int)) ∧ w'.cell? ⟨(ad.add (i * 7)).block, (ad.add (i * 7)).off + 4, none⟩ = some (.int .i64 qa.mt) ∧ w'.cell? ⟨(ad.add (i * 7)).block, (ad.add (i * 7)).off + 5, none⟩ = some (.string qa.tg) ∧ w'.cell? ⟨(ad.add (i * 7)).block, (ad.add (i * 7)).off + 6, none⟩ = some (.slice rA qn rc)) (by kernel_rfl) (by first | exact SA | exact SB) (fun hHeld => ?_)
          refine wpAnyH_take (i := 0) (oi := { dst := some 95, op := .move (.tmp 5), type := 23, pos := "law.go:68", after := #[], guard := none }) (v := _) rfl (by as_aux_lemma => kernel_rfl) (by as_aux_lemma => kernel_rfl) (by as_aux_lemma => kernel_rfl) (fun _ _ _ h => h) (Or.inl ⟨by kernel_rfl, by (intro w hSw; (try dsimp only at hSw); go_simp; first | done | with_reducible rfl)⟩) (by assumption) ?_
          (try simp only [List.getElem_toArray, List.getElem_cons_succ, List.getElem_cons_zero, Act.put, List.setIfInBounds_toArray, List.set_cons_zero, List.set_cons_succ])
          refine wpAnyH_take (i := 1) (oi := { dst := some 96, op := .move (.tmp 15), type := 3, pos := "law.go:68", after := #[], guard := none }) (v := _) rfl (by as_aux_lemma => kernel_rfl) (by as_aux_lemma => kernel_rfl) (by as_aux_lemma => kernel_rfl) (fun _ _ _ h => h) (Or.inl ⟨by kernel_rfl, by (intro w hSw; (try dsimp only at hSw); go_simp; first | done | with_reducible rfl)⟩) (by assumption) ?_
          (try simp only [List.getElem_toArray, List.getElem_cons_succ, List.getElem_cons_zero, Act.put, List.setIfInBounds_toArray, List.set_cons_zero, List.set_cons_succ])
          refine wpAnyH_take (i := 2) (oi := { dst := some 97, op := .indexAddr 23 (.tmp 95) (.tmp 96), type := 0, pos := "law.go:68", after := #[{ on := 0, ground := .data }, { on := 1, ground := .data }], guard := none }) (v := _) rfl (by as_aux_lemma => kernel_rfl) (by as_aux_lemma => kernel_rfl) (by as_aux_lemma => kernel_rfl) (fun _ _ _ h => h) (Or.inl ⟨by kernel_rfl, by (intro w hSw; (try dsimp only at hSw); go_simp; first | done | with_reducible rfl)⟩) (by assumption) ?_
          (try simp only [List.getElem_toArray, List.getElem_cons_succ, List.getElem_cons_zero, Act.put, List.setIfInBounds_toArray, List.set_cons_zero, List.set_cons_succ])
          refine wpAnyH_take (i := 3) (oi := { dst := some 98, op := .load 27 (.tmp 97), type := 27, pos := "law.go:68", after := #[{ on := 2, ground := .data }], guard := none }) (v := _) rfl (by as_aux_lemma => kernel_rfl) (by as_aux_lemma => kernel_rfl) (by as_aux_lemma => kernel_rfl) (fun _ _ _ h => h) (Or.inl ⟨by kernel_rfl, by (intro w hSw; (try dsimp only at hSw); go_simp; first | done | with_reducible rfl)⟩) (by assumption) ?_
          (try simp only [List.getElem_toArray, List.getElem_cons_succ, List.getElem_cons_zero, Act.put, List.setIfInBounds_toArray, List.set_cons_zero, List.set_cons_succ])
          refine wpAnyH_take (i := 4) (oi := { dst := some 99, op := .move (.tmp 0), type := 22, pos := "law.go:68", after := #[], guard := none }) (v := _) rfl (by as_aux_lemma => kernel_rfl) (by as_aux_lemma => kernel_rfl) (by as_aux_lemma => kernel_rfl) (fun _ _ _ h => h) (Or.inl ⟨by kernel_rfl, by (intro w hSw; (try dsimp only at hSw); go_simp; first | done | with_reducible rfl)⟩) (by assumption) ?_
          (try simp only [List.getElem_toArray, List.getElem_cons_succ, List.getElem_cons_zero, Act.put, List.setIfInBounds_toArray, List.set_cons_zero, List.set_cons_succ])
          refine wpAnyH_take (i := 5) (oi := { dst := some 100, op := .move (.tmp 15), type := 3, pos := "law.go:68", after := #[], guard := none }) (v := _) rfl (by as_aux_lemma => kernel_rfl) (by as_aux_lemma => kernel_rfl) (by as_aux_lemma => kernel_rfl) (fun _ _ _ h => h) (Or.inl ⟨by kernel_rfl, by (intro w hSw; (try dsimp only at hSw); go_simp; first | done | with_reducible rfl)⟩) (by assumption) ?_
          (try simp only [List.getElem_toArray, List.getElem_cons_succ, List.getElem_cons_zero, Act.put, List.setIfInBounds_toArray, List.set_cons_zero, List.set_cons_succ])
          refine wpAnyH_take (i := 6) (oi := { dst := some 101, op := .indexAddr 22 (.tmp 99) (.tmp 100), type := 0, pos := "law.go:68", after := #[{ on := 4, ground := .data }, { on := 5, ground := .data }], guard := none }) (v := _) rfl (by as_aux_lemma => kernel_rfl) (by as_aux_lemma => kernel_rfl) (by as_aux_lemma => kernel_rfl) (fun _ _ _ h => h) (Or.inl ⟨by kernel_rfl, by (intro w hSw; (try dsimp only at hSw); go_simp; first | done | with_reducible rfl)⟩) (by assumption) ?_
          (try simp only [List.getElem_toArray, List.getElem_cons_succ, List.getElem_cons_zero, Act.put, List.setIfInBounds_toArray, List.set_cons_zero, List.set_cons_succ])
          refine wpAnyH_take (i := 7) (oi := { dst := some 102, op := .load 31 (.tmp 101), type := 31, pos := "law.go:68", after := #[{ on := 6, ground := .data }], guard := none }) (v := _) rfl (by as_aux_lemma => kernel_rfl) (by as_aux_lemma => kernel_rfl) (by as_aux_lemma => kernel_rfl) (fun _ _ _ h => h) (Or.inl ⟨by kernel_rfl, by (intro w hSw; (try dsimp only at hSw); go_simp; first | done | with_reducible rfl)⟩) (by assumption) ?_
          (try simp only [List.getElem_toArray, List.getElem_cons_succ, List.getElem_cons_zero, Act.put, List.setIfInBounds_toArray, List.set_cons_zero, List.set_cons_succ])
          refine wpAnyH_ready (rs := [8]) (by as_aux_lemma => kernel_rfl) (by simp) (AllReadyH.cons rfl (fun K hK => ?_) AllReadyH.nil)
          try simp only [List.getElem_toArray, List.getElem_cons_succ, List.getElem_cons_zero]
          go_simp
          go_at_call 12
          change Calls _ _ #[.agg (attV qa (some ⟨gq, 0, none⟩) qn qc), .agg (attV qa rA qn rc)] _ _
          refine KP.out.mono ?_
          rintro e wn ⟨rfl, hb⟩
          have HK2 : Hid (Below w11.heap.size w11 wn) := Lib.hid (HK1.out.trans (hb.mono HK1.out.size))
          have SB := KT.out _ HK2.out
          clear hb
          go_simp
          refine hK.out _ _ (by first | exact SA | exact SB) (fun hHeld => ?_)
          clear hK K
          (try simp only [List.getElem_toArray, List.getElem_cons_succ, List.getElem_cons_zero, Act.put, List.setIfInBounds_toArray, List.set_cons_zero, List.set_cons_succ])
          refine wpAnyH_take (i := 9) (oi := { dst := some 104, op := .unOp UnOp.not 4 (.tmp 103), type := 4, pos := "law.go:68", after := #[{ on := 8, ground := .data }], guard := none }) (v := _) rfl (by as_aux_lemma => kernel_rfl) (by as_aux_lemma => kernel_rfl) (by as_aux_lemma => kernel_rfl) (fun _ _ _ h => h) (Or.inl ⟨by kernel_rfl, by (intro w hSw; (try dsimp only at hSw); go_simp; first | done | with_reducible rfl)⟩) (by assumption) ?_
          (try simp only [List.getElem_toArray, List.getElem_cons_succ, List.getElem_cons_zero, Act.put, List.setIfInBounds_toArray, List.set_cons_zero, List.set_cons_succ])
          refine wpAnyH_done (by as_aux_lemma => kernel_rfl) ?_ _
          clear SA SB
          go_wp2
          go_roundw
          case rel => exact ⟨i + 1, by omega, by go_num, HK2⟩
          case measure => simp [intOf]; omega
        · obtain rfl : i = k := by omega
          have HV3 : Hid (AmV w wr A1 n1 M1 w9.heap.size (.slice A2 n1 cc2) M2) := Lib.hid (HV.out.mono HK.out)
          clear HK HV H11 HRm H6 HSZ HSM HI
          go_wp2_with fail
          go_loopw [16] (fun x wr => ∃ i : Nat, i ≤ n1 ∧ x = .int .i64 i ∧ Hid (AmV w wr A1 n1 M1 w9.heap.size (.slice A2 n1 cc2) M2)) (fun x _ => n1 - (intOf x).toNat)
          case atStart => exact ⟨0, by omega, rfl, HV3⟩
          case round =>
            obtain ⟨j, hj, rfl, HK⟩ := hrel
            obtain ⟨wo, rfl⟩ : ∃ wo : World, wo = wr := ⟨_, rfl⟩
            by_cases hlt3 : j < n1
            · have hjl : j < M1.length := by rw [HN1.out]; exact hlt3
              obtain ⟨gv, x0, rfl, y0, y1, y2⟩ := HK.out.at_ HN1.out j hjl
              have hqm := List.getElem_mem hjl
              obtain ⟨q, hq⟩ : ∃ q, M1[j] = q := ⟨_, rfl⟩
              have HQJ : Hid (∃ h : j < M1.length, M1[j]'h = q) := Lib.hid ⟨hjl, hq⟩
              rw [hq] at hqm y2
              have HQM := Lib.hid hqm
              have HQN : Hid (q.n ≤ 16) := Lib.hid (HQ1.out q hqm)
              clear hq hqm hjl y2
              have hji : (j : Int) < (n1 : Int) := by omega
              have hj0 : (0 : Int) ≤ (j : Int) := by omega
              go_upto_region 22 with fail
              have HV4 := Lib.hid (HK.out.node HN1.out j hlt3 (.int .u8 99))
              generalize wo.setCell ⟨gv, j * 7, none⟩ (.int .u8 99) = w12 at HV4 ⊢
              clear y0 y1 HK
              obtain ⟨qa, qA, qn, qc⟩ := q
              have hqn16 : qn ≤ 16 := HQN.out
              go_wp2_with fail
              go_loopw [17] (fun x wr => ∃ i : Nat, i ≤ qn ∧ x = .int .i64 i ∧ Hid (AmV w wr (some ⟨gv, 0, none⟩) n1 M1 w9.heap.size (.slice A2 n1 cc2) M2)) (fun x _ => qn - (intOf x).toNat)
              case atStart => exact ⟨0, by omega, rfl, HV4⟩
              case round =>
                obtain ⟨i, hi, rfl, HK⟩ := hrel
                have y2 : wr.cell? ⟨gv, j * 7 + 6, none⟩ = some (.slice qA qn qc) := by
                  obtain ⟨gv', _, e, _, _, y⟩ := HK.out.at_ HN1.out j HQJ.out.1
                  injection e with e
                  injection e with e
                  subst e
                  rw [HQJ.out.2] at y
                  exact y
                by_cases hlt4 : i < qn
                · obtain ⟨g, x1, hqA, y3, y4, HVN⟩ := HK.out.val_ HQM.out i hlt4
                  dsimp only at hqA
                  subst hqA
                  have HVN2 := Lib.hid (HVN (.string ⟨#[126]⟩))
                  clear HVN
                  have hii : (i : Int) < (qn : Int) := by omega
                  have hi0 : (0 : Int) ≤ (i : Int) := by omega
                  go_wp2
                  go_roundw
                  case rel => exact ⟨i + 1, by omega, by go_num, HVN2⟩
                  case measure => simp [intOf]; omega
                · obtain rfl : i = qn := by omega
                  go_wp2
                  go_roundw
                  case rel => exact ⟨j + 1, by omega, by go_num, HK⟩
                  case measure => simp [intOf]; omega
            · obtain rfl : j = n1 := by omega
              have C9 := Lib.hid (attRStr_any s wo (by omega))
              go_wp2_with fail
              (with_reducible refine C9.out.mono ?_)
              rintro e w13 ⟨v3, M3, rfl, hm3, ho3, ha3, hq3, hb⟩
              have HK2 : Hid (AmV w w13 A1 j M1 w9.heap.size (.slice A2 j cc2) M2) := Lib.hid (HK.out.mono hb)
              have hl3 : M3.length = j := by
                have e1 := congrArg List.length hm3
                have e2 := congrArg List.length HM2.out
                rw [List.length_map] at e1 e2
                have := HN2.out
                omega
              obtain ⟨A3, cc3, rfl, hrd3⟩ := own_reads ho3
              obtain ⟨A2', cc2', e22, hrd2⟩ := own_reads HK2.out.row2
              injection e22 with e22 e23 e24
              subst e22 e24
              clear e23
              rw [HN2.out] at hrd2
              rw [hl3] at hrd3 ⊢
              have C11 := Lib.hid (attAll_any A3 A2 j cc3 cc2 M3 M2 w13 w13.heap.size hrd3 hrd2 ha3.rd HK2.out.all2.rd (hm3.trans HM2.out.symm) (Nat.le_refl _) (by omega) (fun q hq => by have := (hq3 q hq).2; omega) (fun q hq => by have := (HG.out q hq).2; omega))
              clear hrd3 hrd2 hm3 ho3 ha3 hq3 hb C9 HK hl3
              go_wp2_with fail
              (with_reducible refine C11.out.mono ?_)
              rintro e w14 ⟨rfl, hb⟩
              have H14 : Hid (Below w.heap.size w w14) := Lib.hid (HK2.out.below.trans (hb.mono HK2.out.below.size))
              clear hb C11
              go_wp2_with fail
              (with_reducible refine (attAwake_any w14).mono ?_)
              rintro e w15 ⟨rfl, hb⟩
              have H15 : Hid (Below w.heap.size w w15) := Lib.hid (H14.out.trans (hb.mono H14.out.size))
              clear hb
              go_wp2
              go_ret
              exact ⟨rfl, H15.out⟩
end Go.Proofs.YtpfccicahfncbaaDoor
namespace Go.Proofs.YtpfccicahfncbaaDoor
open Go.RowKit
theorem tabs_of {laid : List (String × DataW Unit)} {W : World} (hp : (laid.all fun x => x.2.handleName?.isNone) = true) (h : laidMetH Tryd.prog laid W) (h1 : ("unicode/utf8.first", Rows.laid_unicode_utf8_first) ∈ laid) (h2 : ("unicode/utf8.acceptRanges", (Rows.laid_unicode_utf8_acceptRanges : DataW Unit)) ∈ laid) : Tabs W := by
  rw [MakeChecks.laidMetH_plain _ _ _ hp] at h
  have r1 := Lib.laidMet.reads h h1
  have r2 := Lib.laidMet.reads h h2
  have e1 : Rows.laid_unicode_utf8_first = Lib.firstData := Pinned.utf8First_eq
  have e2 : (Rows.laid_unicode_utf8_acceptRanges : DataW Unit) = Lib.acceptData := by kernel_rfl
  rw [e1] at r1
  rw [e2] at r2
  exact utf8Tabs_of_reads Tryd.lays260 ⟨by kernel_rfl, by kernel_rfl, by kernel_rfl, by kernel_rfl, by kernel_rfl, by kernel_rfl, by kernel_rfl⟩ r1 r2
end Go.Proofs.YtpfccicahfncbaaDoor
