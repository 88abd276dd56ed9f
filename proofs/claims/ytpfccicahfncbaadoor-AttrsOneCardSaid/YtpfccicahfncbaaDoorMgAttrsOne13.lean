/- Several texts of the claim joined into one (part 13): plain facts and walks. No conditions but those that each theorem tells. -/
import Derived.Test.YtpfccicahfncbaaDoorMgAttrsOne12
import Derived.Test.YtpfccicahfncbaaDoorMgAttrsOne3
import Derived.Test.YtpfccicahfncbaaDoorMem3
import Derived.Test.YtpfccicahfncbaaDoorGen
import Derived.Test.YtpfccicahfncbaaDoorMgAttrsOne1
import Derived.Deep.RegionHeld3
import Derived.Deep.DeepCutAuto
import Derived.Test.YtpfccicahfncbaaDoorMgAttrsOne9
namespace Go.Proofs.YtpfccicahfncbaaDoor
open Go.RowKit Wir
set_option linter.unusedVariables false
def bslA (a : Value) : Sem Next := do pure (.value (← Instr.buildSlice 23 1 #[(0, a)]))
theorem execOp_bslA (ρ : Operand → Value) (dst : Option Tmp) (a : Operand) (ty : TypeId) (pos : String) (after : Array Edge) (guard : Option (Nat × Bool)) :
    execOp ρ { dst, op := .buildSlice 23 1 #[(0, a)], type := ty, pos, after, guard } = bslA (ρ a) := by
  unfold execOp bslA; simp
theorem run_bslA (w : World) (a0 a1 a2 a3 a4 a5 a6 : Value) : (bslA (.agg #[a0, a1, a2, a3, a4, a5, a6])).run Tryd.prog w = .ok (.value (.slice (some ⟨w.heap.size, 0, none⟩) 1 1)) (w.alloc (.cells #[a0, a1, a2, a3, a4, a5, a6] 27)) := by
  unfold bslA
  go_simp
theorem Reads.short {w : World} {B size n k : Nat} {A : Option Addr} {xs : List Value} (h : Reads w B size A n xs) (hk : k ≤ n) : Reads w B size A k (xs.take (k * size)) := by
  refine ⟨by rw [List.length_take, h.1, Nat.min_eq_left (Nat.mul_le_mul_right _ hk)], fun hn => ?_⟩
  obtain ⟨ad, e, hb, hc⟩ := h.2 (by omega)
  refine ⟨ad, e, hb, fun j u hu => hc j u ?_⟩
  rw [List.getElem?_take] at hu
  split at hu
  · exact hu
  · cases hu
theorem attsV_cut1 (M : List AttM) (q : AttM) (n : Nat) (h : M.length = n) : (attsV (M ++ [q])).take (n * 7) = attsV M := by
  rw [attsV_app, List.take_append_of_le_length (by rw [attsV_length, h]; exact Nat.le_refl _), List.take_of_length_le (by rw [attsV_length, h]; exact Nat.le_refl _)]
theorem xtV_cut1 (l : List (ByteArray × ByteArray)) (x : ByteArray × ByteArray) (n : Nat) (h : l.length = n) : (xtV (l ++ [x])).take (n * 2) = xtV l := by
  rw [xtV_app, List.take_append_of_le_length (by rw [xtV_length, h]; exact Nat.le_refl _), List.take_of_length_le (by rw [xtV_length, h]; exact Nat.le_refl _)]
/-- A copy's list is the call's own, a mark behind it. -/
def OwnMark (w : World) (base : Nat) (q : AttM) : Prop := ∃ g, q.A = some ⟨g, 0, none⟩ ∧ w.ownsRow base 43 2 (.slice (some ⟨g, 0, none⟩) (q.n + 1) q.c) (q.n + 1) (xtV (q.a.xs ++ [markX]))
def AllMark (w : World) (base : Nat) (M : List AttM) : Prop := ∀ q ∈ M, OwnMark w base q
theorem OwnMark.below {w w' : World} {base : Nat} {q : AttM} (h : OwnMark w base q) (hb : Below w.heap.size w w') : OwnMark w' base q := by
  obtain ⟨g, e, ho⟩ := h; exact ⟨g, e, own_below ho hb⟩
theorem OwnMark.rd {w : World} {base : Nat} {q : AttM} (h : OwnMark w base q) : Reads w w.heap.size 2 q.A (q.n + 1) (xtV (q.a.xs ++ [markX])) := by
  obtain ⟨g, e, ho⟩ := h; rw [e]; exact Reads.of_own ho
theorem OwnMark.len {w : World} {base : Nat} {q : AttM} (h : OwnMark w base q) : q.a.xs.length = q.n := by
  have := h.rd.xtLen; rw [List.length_append, List.length_singleton] at this; omega
theorem OwnMark.rd0 {w : World} {base : Nat} {q : AttM} (h : OwnMark w base q) : Reads w w.heap.size 2 q.A q.n (xtV q.a.xs) := by
  have := h.rd.short (Nat.le_succ q.n)
  rw [xtV_cut1 _ _ _ h.len] at this
  exact this
theorem OwnMark.cap {w : World} {base : Nat} {q : AttM} (h : OwnMark w base q) : q.n + 1 ≤ q.c := by
  obtain ⟨g, e, ho⟩ := h
  rcases ho.2 with ⟨h', _⟩ | ⟨g', cap, cur, h', _, _, a3, _⟩
  · cases h'
  · simp only [Value.slice.injEq] at h'
    obtain ⟨_, _, h5⟩ := h'
    omega
/-- What holds at the head of the first loop. -/
structure AmI (w wr : World) (v : Value) (k : Nat) (MM M : List AttM) : Prop where
  len : MM.length = k
  row : wr.ownsRow w.heap.size 27 7 v k (attsV MM)
  all : AllMark wr w.heap.size MM
  same : MM.map (fun q => (q.a, q.n)) = (M.take k).map (fun q => (q.a, q.n))
  below : Below w.heap.size w wr
theorem AmI.mono {w wr w' : World} {v : Value} {k : Nat} {MM M : List AttM} (h : AmI w wr v k MM M) (hb : Below wr.heap.size wr w') : AmI w w' v k MM M :=
  ⟨h.len, own_below h.row hb, fun q hq => (h.all q hq).below hb, h.same, h.below.trans (hb.mono h.below.size)⟩
theorem AmI.push {w wr w' : World} {v v' : Value} {k : Nat} {MM M : List AttM} {q r : AttM} (h : AmI w wr v k MM M) (hq : OwnMark wr w.heap.size q) (hk : k < M.length) (hr : M[k] = r) (ha : q.a = r.a) (hn : q.n = r.n)
    (ho : w'.ownsRow w.heap.size 27 7 v' (k + 1) (attsV MM ++ q.v)) (hg : wr.grownBy w' v.ownBlock) : AmI w w' v' (k + 1) (MM ++ [q]) M := by
  have hne : ∀ b, v.ownBlock = some b → w.heap.size ≤ b := fun b e => (h.row.lt b e).1
  have hkeep : ∀ x, OwnMark wr w.heap.size x → OwnMark w' w.heap.size x := fun x ⟨g, e, hx⟩ => ⟨g, e, own_keep hx h.row (by decide) hg⟩
  refine ⟨by rw [List.length_append, h.len]; rfl, ?_, fun x hx => ?_, ?_, h.below.grown hg h.below.size hne⟩
  · rw [attsV_app]
    show w'.ownsRow _ _ _ _ _ (attsV MM ++ (q.v ++ []))
    rw [List.append_nil]; exact ho
  · rcases List.mem_append.1 hx with h' | h'
    · exact hkeep x (h.all x h')
    · rw [List.mem_singleton] at h'; subst h'; exact hkeep x hq
  · rw [List.map_append, h.same, List.take_add_one, List.getElem?_eq_getElem hk, List.map_append, hr]
    simp only [List.map_cons, List.map_nil, Option.toList, ha, hn]
theorem same_a {MM M : List AttM} (h : MM.map (fun q => (q.a, q.n)) = M.map (fun q => (q.a, q.n))) : MM.map (·.a) = M.map (·.a) := by
  have := congrArg (List.map Prod.fst) h
  rw [List.map_map, List.map_map] at this
  exact this
theorem same_mem {MM M : List AttM} (h : MM.map (fun q => (q.a, q.n)) = M.map (fun q => (q.a, q.n))) {q : AttM} (hq : q ∈ MM) : ∃ r ∈ M, r.a = q.a ∧ r.n = q.n := by
  have h1 : (q.a, q.n) ∈ M.map (fun q => (q.a, q.n)) := by rw [← h]; exact List.mem_map.2 ⟨q, hq, rfl⟩
  obtain ⟨r, hr, e⟩ := List.mem_map.1 h1
  injection e with e1 e2
  exact ⟨r, hr, e1, e2⟩
theorem same_at {MM M : List AttM} (h : MM.map (fun q => (q.a, q.n)) = M.map (fun q => (q.a, q.n))) (k : Nat) (h1 : k < MM.length) (h2 : k < M.length) : (MM[k]).a = (M[k]).a ∧ (MM[k]).n = (M[k]).n := by
  have e1 : (MM.map (fun q => (q.a, q.n)))[k]? = (M.map (fun q => (q.a, q.n)))[k]? := by rw [h]
  rw [List.getElem?_map, List.getElem?_map, List.getElem?_eq_getElem h1, List.getElem?_eq_getElem h2] at e1
  have := Option.some.inj e1
  injection this with a b
  exact ⟨a, b⟩
def z77 : AttM := ⟨⟨77, 0, 0, 0, 0, ⟨#[]⟩, []⟩, none, 0, 0⟩
/-- A block of so many cells of a type. -/
def HasBlk (W : World) (g : Nat) (t : TypeId) (m : Nat) : Prop := ∃ cs, Blk W g t cs ∧ m ≤ cs.size
theorem HasBlk.setCell {W : World} {g m : Nat} {t : TypeId} (h : HasBlk W g t m) (g' i : Nat) (v : Value) : HasBlk (W.setCell ⟨g', i, none⟩ v) g t m := by
  obtain ⟨cs, hb, hm⟩ := h
  by_cases e : g = g'
  · subst e; exact ⟨_, hb.set_ i v, by rw [Array.size_setIfInBounds]; exact hm⟩
  · exact ⟨cs, hb.far (p := ⟨g', i, none⟩) e v, hm⟩
/-- The list that the law writes over, and the document's that must stay. -/
structure AmV (w W : World) (A1 : Option Addr) (n1 : Nat) (M1 : List AttM) (b2 : Nat) (v2 : Value) (M2 : List AttM) : Prop where
  row : 1 ≤ n1 → ∃ gv cs, A1 = some ⟨gv, 0, none⟩ ∧ w.heap.size ≤ gv ∧ Blk W gv 27 cs ∧ n1 * 7 ≤ cs.size ∧ ∀ i (h : i < M1.length), cs[i * 7 + 6]? = some (.slice (M1[i]).A (M1[i]).n (M1[i]).c)
  xs : ∀ q ∈ M1, 1 ≤ q.n → ∃ g, q.A = some ⟨g, 0, none⟩ ∧ w.heap.size ≤ g ∧ HasBlk W g 43 (q.n * 2)
  row2 : W.ownsRow b2 31 7 v2 M2.length (attsV M2)
  all2 : RAllOwn W b2 M2
  below : Below w.heap.size w W
theorem row_blk {W : World} {base n size : Nat} {e : TypeId} {A : Option Addr} {c : Nat} {xs : List Value} (h : W.ownsRow base e size (.slice A n c) n xs) (hn : 1 ≤ n) : ∃ g cs, A = some ⟨g, 0, none⟩ ∧ base ≤ g ∧ Blk W g e cs ∧ n * size ≤ cs.size ∧ cs.toList.take (n * size) = xs := by
  rcases h.2 with ⟨_, h'⟩ | ⟨g, cap, cur, h', a1, a2, a3, a4, a5, a6⟩
  · omega
  · injection h' with h1 h2 h3
    exact ⟨g, cur, h1, a1, a2, by rw [a5]; exact Nat.mul_le_mul_right _ a3, a6⟩
theorem AmV.start {w W : World} {A1 : Option Addr} {n1 c1 b2 base : Nat} {v2 : Value} {M1 M2 : List AttM} (hl : M1.length = n1) (hw : w.heap.size ≤ base) (h1 : W.ownsRow base 27 7 (.slice A1 n1 c1) n1 (attsV M1)) (h2 : AllOwn W base M1)
    (h3 : W.ownsRow b2 31 7 v2 M2.length (attsV M2)) (h4 : RAllOwn W b2 M2) (h5 : Below w.heap.size w W) : AmV w W A1 n1 M1 b2 v2 M2 := by
  refine ⟨fun hn => ?_, fun q hq hn => ?_, h3, h4, h5⟩
  · obtain ⟨g, cs, e, hb, hk, hs, ht⟩ := row_blk h1 hn
    refine ⟨g, cs, e, Nat.le_trans hw hb, hk, hs, fun i hi => ?_⟩
    have hg := attsV_get M1 i 6 hi (by omega)
    rw [← ht, List.getElem?_take] at hg
    split at hg
    · rw [Array.getElem?_toList] at hg; exact hg
    · cases hg
  · obtain ⟨g, cs, e, hb, hk, hs, _⟩ := row_blk (h2 q hq) hn
    exact ⟨g, e, Nat.le_trans hw hb, cs, hk, hs⟩
theorem AmV.keep2 {w W : World} {A1 : Option Addr} {n1 b2 g i : Nat} {v2 v : Value} {M1 M2 : List AttM} (h : AmV w W A1 n1 M1 b2 v2 M2) {t : TypeId} {cs : Array Value} (hb : Blk W g t cs) (h1 : t ≠ 31) (h2 : t ≠ 60) (hw : w.heap.size ≤ g) :
    (W.setCell ⟨g, i, none⟩ v).ownsRow b2 31 7 v2 M2.length (attsV M2) ∧ RAllOwn (W.setCell ⟨g, i, none⟩ v) b2 M2 ∧ Below w.heap.size w (W.setCell ⟨g, i, none⟩ v) := by
  have hg : W.grownBy (W.setCell ⟨g, i, none⟩ v) (some g) := only_setCell (grown_refl W (some g)) (p := ⟨g, i, none⟩) (.inl rfl) v
  exact ⟨h.row2.kept hg (.inr (own_blk_ne h.row2 hb h1.symm)), fun q hq => (h.all2 q hq).kept hg (.inr (own_blk_ne (h.all2 q hq) hb h2.symm)), h.below.setCell (p := ⟨g, i, none⟩) hw v⟩
theorem AmV.mono {w W W' : World} {A1 : Option Addr} {n1 b2 : Nat} {v2 : Value} {M1 M2 : List AttM} (h : AmV w W A1 n1 M1 b2 v2 M2) (hb : Below W.heap.size W W') : AmV w W' A1 n1 M1 b2 v2 M2 := by
  refine ⟨fun hn => ?_, fun q hq hn => ?_, own_below h.row2 hb, h.all2.below hb, h.below.trans (hb.mono h.below.size)⟩
  · obtain ⟨gv, cs, e, h1, h2, h3, h4⟩ := h.row hn
    exact ⟨gv, cs, e, h1, h2.below hb h2.lt, h3, h4⟩
  · obtain ⟨g, e, h1, cs, h2, h3⟩ := h.xs q hq hn
    exact ⟨g, e, h1, cs, h2.below hb h2.lt, h3⟩
/-- A node is written over .. -/
theorem AmV.node {w W : World} {gv n1 b2 : Nat} {v2 : Value} {M1 M2 : List AttM} (h : AmV w W (some ⟨gv, 0, none⟩) n1 M1 b2 v2 M2) (hl : M1.length = n1) (i : Nat) (hi : i < n1) (v : Value) : AmV w (W.setCell ⟨gv, i * 7, none⟩ v) (some ⟨gv, 0, none⟩) n1 M1 b2 v2 M2 := by
  obtain ⟨g, cs, e, hw, hb, hs, hx⟩ := h.row (by omega)
  injection e with e; injection e with e; subst e
  obtain ⟨k1, k2, k3⟩ := h.keep2 (i := i * 7) (v := v) hb (by decide) (by decide) hw
  refine ⟨fun _ => ⟨gv, _, rfl, hw, hb.set_ (i * 7) v, by rw [Array.size_setIfInBounds]; exact hs, fun j hj => ?_⟩, fun q hq hn => ?_, k1, k2, k3⟩
  · rw [Array.getElem?_setIfInBounds_ne (by omega)]; exact hx j hj
  · obtain ⟨g, e, h1, h2⟩ := h.xs q hq hn
    exact ⟨g, e, h1, h2.setCell _ _ _⟩
/-- .. and a value. -/
theorem AmV.value {w W : World} {A1 : Option Addr} {n1 b2 g : Nat} {v2 : Value} {M1 M2 : List AttM} (h : AmV w W A1 n1 M1 b2 v2 M2) {cs : Array Value} (hb : Blk W g 43 cs) (hw : w.heap.size ≤ g) (i : Nat) (v : Value) : AmV w (W.setCell ⟨g, i, none⟩ v) A1 n1 M1 b2 v2 M2 := by
  obtain ⟨k1, k2, k3⟩ := h.keep2 (i := i) (v := v) hb (by decide) (by decide) hw
  refine ⟨fun hn => ?_, fun q hq hn => ?_, k1, k2, k3⟩
  · obtain ⟨gv, cs', e, h1, h2, h3, h4⟩ := h.row hn
    exact ⟨gv, cs', e, h1, h2.far (p := ⟨g, i, none⟩) (h2.ne_ hb (by decide)) v, h3, h4⟩
  · obtain ⟨g', e, h1, h2⟩ := h.xs q hq hn
    exact ⟨g', e, h1, h2.setCell _ _ _⟩
/-- What the walk reads of it. -/
theorem AmV.at_ {w W : World} {A1 : Option Addr} {n1 b2 : Nat} {v2 : Value} {M1 M2 : List AttM} (h : AmV w W A1 n1 M1 b2 v2 M2) (hl : M1.length = n1) (i : Nat) (hi : i < M1.length) : ∃ gv x, A1 = some ⟨gv, 0, none⟩ ∧ W.cell? ⟨gv, i * 7, none⟩ = some x ∧ W.frozen? ⟨gv, i * 7, none⟩ = false ∧ W.cell? ⟨gv, i * 7 + 6, none⟩ = some (.slice (M1[i]).A (M1[i]).n (M1[i]).c) := by
  obtain ⟨gv, cs, e, h1, h2, h3, h4⟩ := h.row (by omega)
  have hlt : i * 7 < cs.size := by omega
  exact ⟨gv, cs[i * 7], e, (h2.cell _).trans (Array.getElem?_eq_getElem hlt), h2.frozen _, (h2.cell _).trans (h4 i hi)⟩
theorem AmV.val_ {w W : World} {A1 : Option Addr} {n1 b2 : Nat} {v2 : Value} {M1 M2 : List AttM} (h : AmV w W A1 n1 M1 b2 v2 M2) {q : AttM} (hq : q ∈ M1) (j : Nat) (hj : j < q.n) : ∃ g x, q.A = some ⟨g, 0, none⟩ ∧ W.cell? ⟨g, j * 2 + 1, none⟩ = some x ∧ W.frozen? ⟨g, j * 2 + 1, none⟩ = false ∧ (∀ v, AmV w (W.setCell ⟨g, j * 2 + 1, none⟩ v) A1 n1 M1 b2 v2 M2) := by
  obtain ⟨g, e, h1, cs, h2, h3⟩ := h.xs q hq (by omega)
  have hlt : j * 2 + 1 < cs.size := by omega
  exact ⟨g, cs[j * 2 + 1], e, (h2.cell _).trans (Array.getElem?_eq_getElem hlt), h2.frozen _, fun v => h.value h2 h1 _ v⟩
theorem rsF_len : ∀ (k : Nat) (r : ByteArray) (L L' : List Att) (r' : ByteArray), rsF k r L = some (L', r') → L'.length = L.length + k
  | 0, r, L, L', r', h => by rw [rsF] at h; injection h with h; injection h with h1 h2; rw [h1]; rfl
  | k + 1, r, L, L', r', h => by
    rw [rsF] at h
    split at h
    · have := rsF_len k _ _ _ _ h
      rw [List.length_append] at this
      rw [this]; show L.length + 1 + k = _; omega
    · cases h
theorem rsR_len (s : ByteArray) : (rsR s).1.length ≤ 257 := by
  rw [rsR]
  split
  · next hc =>
    cases hF : rsF (short (byteAt s) s.size).1 (uintS s) [] with
    | none => exact Nat.zero_le _
    | some x =>
      obtain ⟨L, r⟩ := x
      have := rsF_len _ _ _ _ _ hF
      rw [rsE]
      split
      · show L.length ≤ 257
        rw [this, List.length_nil]; omega
      · exact Nat.zero_le _
  · exact Nat.zero_le _
end Go.Proofs.YtpfccicahfncbaaDoor
namespace Go.Proofs.YtpfccicahfncbaaDoor
open Go.RowKit
set_option linter.unusedVariables false
/-- The p-th bit. -/
def mdB (m p : Nat) : Bool := decide (m / 2 ^ p % 2 = 1)
def mdS (i : Nat) : UInt8 := if i = 2 then 116 else 115
def mdU (i : Nat) : UInt8 := if i = 2 then 84 else 83
/-- The three letters of the i-th group. -/
def mdG (m i : Nat) : List UInt8 := [if mdB m (8 - 3 * i) then 114 else 45, if mdB m (7 - 3 * i) then 119 else 45,
  if mdB m (11 - i) then (if mdB m (6 - 3 * i) then mdS i else mdU i) else (if mdB m (6 - 3 * i) then 120 else 45)]
def mdH (nd : Nat) : UInt8 := if nd = 1 then 45 else if nd = 2 then 100 else 108
def mdL (nd m : Nat) : Nat → List UInt8
  | 0 => [mdH nd]
  | k + 1 => mdL nd m k ++ mdG m k
def mdOK (nd m : Nat) : Bool := decide (1 ≤ nd ∧ nd ≤ 3 ∧ m ≤ 4095)
def mdR (nd m : Nat) : ByteArray × Int := if mdOK nd m = true then (bs (mdL nd m 3), 0) else (ByteArray.empty, 1)
theorem and_is (x y : Nat) (hx : x < 4294967296) (hy : y < 4294967296) : bits .and .u32 (x : Int) (y : Int) = ((x &&& y : Nat) : Int) := by
  have h1 : x &&& y ≤ x := Nat.and_le_left
  show IntKind.u32.wrap (((BitVec.ofInt 32 (x : Int)) &&& (BitVec.ofInt 32 (y : Int))).toNat : Int) = _
  rw [BitVec.toNat_and, BitVec.ofInt_natCast, BitVec.ofInt_natCast, BitVec.toNat_ofNat, BitVec.toNat_ofNat, Nat.mod_eq_of_lt (by omega), Nat.mod_eq_of_lt (by omega), IntKind.wrap_u32]
  omega
theorem bit_pos (x j : Nat) : 0 < x &&& 2 ^ j ↔ x / 2 ^ j % 2 = 1 := by
  have ht : x.testBit j = decide (x / 2 ^ j % 2 = 1) := Nat.testBit_eq_decide_div_mod_eq
  have hb : (x &&& 2 ^ j).testBit j = x.testBit j := by rw [Nat.testBit_and, Nat.testBit_two_pow]; simp
  constructor
  · intro h
    cases hx : x.testBit j with
    | true => rw [hx] at ht; exact of_decide_eq_true ht.symm
    | false =>
      exfalso
      have : x &&& 2 ^ j = 0 := Nat.eq_of_testBit_eq (fun i => by
        rw [Nat.testBit_and, Nat.testBit_two_pow, Nat.zero_testBit]
        by_cases hi : j = i
        · rw [← hi, hx]; rfl
        · simp [hi])
      omega
  · intro h
    rw [decide_eq_true h] at ht
    rcases Nat.eq_zero_or_pos (x &&& 2 ^ j) with h0 | h0
    · rw [h0, Nat.zero_testBit, ht] at hb; cases hb
    · exact h0
/-- The p-th bit as the program asks it: shifted by a, and with a power. -/
theorem bit_ask (m a j : Nat) (hm : m < 4294967296) (hj : j < 32) : decide ((0 : Int) < bits .and .u32 ((m / 2 ^ a : Nat) : Int) ((2 ^ j : Nat) : Int)) = mdB m (a + j) := by
  have h1 : m / 2 ^ a < 4294967296 := Nat.lt_of_le_of_lt (Nat.div_le_self _ _) hm
  have h2 : 2 ^ j < 4294967296 := by
    have : 2 ^ j < 2 ^ 32 := Nat.pow_lt_pow_right (by omega) hj
    omega
  rw [and_is _ _ h1 h2]
  have h3 := bit_pos (m / 2 ^ a) j
  rw [Nat.div_div_eq_div_mul, ← Nat.pow_add] at h3
  unfold mdB
  rw [Bool.eq_iff_iff, decide_eq_true_eq, decide_eq_true_eq, ← h3]
  omega
theorem ask_int (m a j : Nat) (D P : Int) (hD : ((2 ^ a : Nat) : Int) = D) (hP : ((2 ^ j : Nat) : Int) = P) (hm : m < 4294967296) (hj : j < 32) : decide ((0 : Int) < bits .and .u32 ((m : Int) / D) P) = mdB m (a + j) := by
  rw [← hD, ← hP, ← bit_ask m a j hm hj, Int.natCast_ediv]
end Go.Proofs.YtpfccicahfncbaaDoor
namespace Go.Proofs.YtpfccicahfncbaaDoor
open Go.RowKit
set_option linter.unusedVariables false
set_option linter.unusedSimpArgs false
theorem letter_any (b : Bool) (y n s : ByteArray) (sb : Nat) (w : World) (h : Blk w sb 9 #[.string s]) (h1 : s.size ≤ 1000) (h2 : y.size ≤ 1000) (h3 : n.size ≤ 1000) :
    Calls Tryd.prog 43 #[.bool b, .string y, .string n, .pointer (some ⟨sb, 0, none⟩)] w fun e w' => e = .returned (.tuple #[]) ∧ w' = w.setCell ⟨sb, 0, none⟩ (.string (s ++ if b = true then y else n)) := by
  have c0 : w.cell? ⟨sb, 0, none⟩ = some (.string s) := h.cell 0
  have f0 : w.frozen? ⟨sb, 0, none⟩ = false := h.frozen 0
  clear h
  cases b with
  | true =>
    go_enter Tryd.func43, Tryd.ntmps43
    go_wp2
    go_end0
    exact ⟨rfl, rfl⟩
  | false =>
    go_enter Tryd.func43, Tryd.ntmps43
    go_wp2
    go_end0
    exact ⟨rfl, rfl⟩
theorem mdH_cut (N : Nat) (h1 : 1 ≤ N) (h3 : N ≤ 3) : (⟨#[63, 45, 100, 108]⟩ : ByteArray).extract N (N + 1) = bs [mdH N] := by
  have : N = 1 ∨ N = 2 ∨ N = 3 := by omega
  rcases this with rfl | rfl | rfl <;> rfl
/-- What holds between two letters: the text so far, the row of three letters. -/
structure ModI (w W : World) (rb : Nat) (s : ByteArray) : Prop where
  txt : Blk W w.heap.size 9 #[.string s]
  row : Blk W rb 9 #[.string ⟨#[115]⟩, .string ⟨#[115]⟩, .string ⟨#[116]⟩]
  below : Below w.heap.size w W
  lt : w.heap.size < rb
theorem ModI.mono {w W W' : World} {rb : Nat} {s : ByteArray} (h : ModI w W rb s) (hb : Below W.heap.size W W') : ModI w W' rb s :=
  ⟨h.txt.below hb h.txt.lt, h.row.below hb h.row.lt, h.below.trans (hb.mono h.below.size), h.lt⟩
theorem letter_i (b : Bool) (y n s : ByteArray) (w W : World) (rb : Nat) (h : ModI w W rb s) (h1 : s.size ≤ 1000) (h2 : y.size ≤ 1000) (h3 : n.size ≤ 1000) :
    Calls Tryd.prog 43 #[.bool b, .string y, .string n, .pointer (some ⟨w.heap.size, 0, none⟩)] W fun e w' => e = .returned (.tuple #[]) ∧ ModI w w' rb (s ++ if b = true then y else n) :=
  (letter_any b y n s _ W h.txt h1 h2 h3).mono fun e w' ⟨he, hw⟩ => ⟨he, by
    subst hw
    exact ⟨h.txt.set_ 0 _, h.row.far (p := ⟨w.heap.size, 0, none⟩) (by have := h.lt; show rb ≠ w.heap.size; omega) _, h.below.setCell (p := ⟨w.heap.size, 0, none⟩) (Nat.le_refl _) _, h.lt⟩⟩
theorem bs_app (a b : List UInt8) : bs (a ++ b) = bs a ++ bs b := by
  apply ByteArray.ext; simp [bs]
theorem bs_if (b : Bool) (x y : UInt8) : (if b = true then (⟨#[x]⟩ : ByteArray) else ⟨#[y]⟩) = bs [if b = true then x else y] := by cases b <;> rfl
theorem mdL_size (N m k : Nat) : (mdL N m k).length = 1 + 3 * k := by
  induction k with
  | zero => rfl
  | succ k ih => rw [mdL, List.length_append, ih]; show _ + 3 = _; omega
set_option maxRecDepth 100000 in
set_option maxHeartbeats 2000000 in
theorem modes_any (nd : UInt8) (md : UInt32) (w : World) :
    Calls Tryd.prog 18 #[.int .u8 (nd.toNat : Int), .int .u32 (md.toNat : Int)] w fun e w' => e = .returned (.tuple #[.string (mdR nd.toNat md.toNat).1, .int .i64 (mdR nd.toNat md.toNat).2]) ∧ Below w.heap.size w w' := by
  have b1 := nd.toNat_lt
  have b2 := md.toNat_lt
  have hmf : ∀ (fn : Fn) (first cap : Array Value) (w : World), (Instr.makeFunc fn first cap).run Tryd.prog w = .ok (.func fn first cap) w := fun _ _ _ _ => rfl
  obtain ⟨N, hN⟩ : ∃ N, nd.toNat = N := ⟨_, rfl⟩
  obtain ⟨m, hm⟩ : ∃ m, md.toNat = m := ⟨_, rfl⟩
  rw [hN] at b1 ⊢
  rw [hm] at b2 ⊢
  clear hN hm
  by_cases hok : 1 ≤ N ∧ N ≤ 3 ∧ m ≤ 4095
  · obtain ⟨h1, h2, h3⟩ := hok
    have E : Hid (mdR N m = (bs (mdL N m 3), 0)) := Lib.hid (if_pos (decide_eq_true ⟨h1, h2, h3⟩))
    have g1 : decide ((N : Int) < 1) = false := by rw [decide_eq_false_iff_not]; omega
    have g2 : decide ((3 : Int) < (N : Int)) = false := by rw [decide_eq_false_iff_not]; omega
    have g3 : decide ((4095 : Int) < (m : Int)) = false := by rw [decide_eq_false_iff_not]; omega
    go_enter Tryd.func18, Tryd.ntmps18
    go_upto_region 4 with fail
    rw [mdH_cut N h1 h2]
    have HB0 : Hid (Blk (w.alloc (.cells #[.string (bs [mdH N])] 9)) w.heap.size 9 #[.string (bs (mdL N m 0))] ∧ Below w.heap.size w (w.alloc (.cells #[.string (bs [mdH N])] 9))) := Lib.hid ⟨Blk.new _ _ _, (Below.refl _ _).alloc (Nat.le_refl _) _⟩
    generalize w.alloc (.cells #[.string (bs [mdH N])] 9) = w1 at HB0 ⊢
    clear g1 g2 g3
    go_upto_region 6 with fail
    have HI : Hid (ModI w (w1.alloc (.cells #[.string ⟨#[115]⟩, .string ⟨#[115]⟩, .string ⟨#[116]⟩] 9)) w1.heap.size (bs (mdL N m 0))) := Lib.hid ⟨HB0.out.1.alloc _, Blk.new _ _ _, HB0.out.2.alloc HB0.out.2.size _, HB0.out.1.lt⟩
    generalize w1.alloc (.cells #[.string ⟨#[115]⟩, .string ⟨#[115]⟩, .string ⟨#[116]⟩] 9) = w2 at HI ⊢
    generalize w1.heap.size = rb at HI ⊢
    clear HB0
    go_loopw [28] (fun i wr => ∃ k : Nat, k ≤ 3 ∧ i = .int .i64 k ∧ Hid (ModI w wr rb (bs (mdL N m k)))) (fun i _ => 3 - (intOf i).toNat)
    case atStart => exact ⟨0, by omega, rfl, HI⟩
    case round =>
      obtain ⟨k, hk, rfl, HK⟩ := hrel
      have hk' : k = 0 ∨ k = 1 ∨ k = 2 ∨ k = 3 := by omega
      have y0 : wr.cell? ⟨rb, 0, none⟩ = some (.string ⟨#[115]⟩) := HK.out.row.cell 0
      have y1 : wr.cell? ⟨rb, 1, none⟩ = some (.string ⟨#[115]⟩) := HK.out.row.cell 1
      have y2 : wr.cell? ⟨rb, 2, none⟩ = some (.string ⟨#[116]⟩) := HK.out.row.cell 2
      rcases hk' with rfl | rfl | rfl | rfl
      · have HK : Hid (ModI w wr rb (bs (mdL N m 0))) := HK
        have r1 : decide ((0 : Int) < bits .and .u32 ((m : Int) / 64) 4) = mdB m 8 := ask_int m 6 2 64 4 rfl rfl (by omega) (by omega)
        have r2 : decide ((0 : Int) < bits .and .u32 ((m : Int) / 64) 2) = mdB m 7 := ask_int m 6 1 64 2 rfl rfl (by omega) (by omega)
        have r3 : decide ((0 : Int) < bits .and .u32 ((m : Int) / 64) 1) = mdB m 6 := ask_int m 6 0 64 1 rfl rfl (by omega) (by omega)
        have r4 : decide ((0 : Int) < bits .and .u32 ((m : Int) / 2048) 1) = mdB m 11 := ask_int m 11 0 2048 1 rfl rfl (by omega) (by omega)
        have hz : (bs (mdL N m 0)).size = 1 := by rw [bs_size, mdL_size]
        have hG : Hid (mdL N m (0 + 1) = mdL N m 0 ++ [if mdB m 8 then 114 else 45, if mdB m 7 then 119 else 45, if mdB m 11 then (if mdB m 6 then 115 else 83) else (if mdB m 6 then 120 else 45)]) := Lib.hid rfl
        obtain ⟨s0, hs0⟩ : ∃ s0, bs (mdL N m 0) = s0 := ⟨_, rfl⟩
        rw [hs0] at HK hz
        have HS0 := Lib.hid hs0
        clear hs0
        have C1 := Lib.hid (letter_i (mdB m 8) ⟨#[114]⟩ ⟨#[45]⟩ s0 w wr rb HK.out (by omega) (by decide) (by decide))
        go_wp2_with fail
        (with_reducible refine C1.out.mono ?_)
        rintro e w3 ⟨rfl, h3⟩
        rw [bs_if] at h3
        have H3 := Lib.hid h3
        have z1 : (s0 ++ bs [if mdB m 8 = true then 114 else 45]).size = 2 := by rw [ByteArray.size_append, hz, bs_size]; rfl
        clear h3 C1 r1
        have C2 := Lib.hid (letter_i (mdB m 7) ⟨#[119]⟩ ⟨#[45]⟩ _ w w3 rb H3.out (by omega) (by decide) (by decide))
        go_wp2_with fail
        (with_reducible refine C2.out.mono ?_)
        rintro e w4 ⟨rfl, h4⟩
        rw [bs_if] at h4
        have H4 := Lib.hid h4
        have z2 : (s0 ++ bs [if mdB m 8 = true then 114 else 45] ++ bs [if mdB m 7 = true then 119 else 45]).size = 3 := by rw [ByteArray.size_append, z1, bs_size]; rfl
        clear h4 C2 r2
        cases hsp : mdB m 11 with
        | true =>
          rw [hsp] at r4 hG
          have UP := Lib.hid (Tryd.strings_ToUpper_ascii ⟨#[115]⟩ w4 (by decide) (by
            intro j b hj
            match j, hj with
            | 0, hj => injection hj with hj; subst hj; decide
            | j + 1, hj => simp at hj))
          rw [show (⟨(Lib.toUpperA (⟨#[115]⟩ : ByteArray).data.toList).toArray⟩ : ByteArray) = ⟨#[83]⟩ from rfl] at UP
          go_wp2_with fail
          (with_reducible refine UP.out.mono ?_)
          rintro e w5 ⟨rfl, hb5⟩
          have H5 := Lib.hid (H4.out.mono hb5)
          clear hb5 UP
          have C3 := Lib.hid (letter_i (mdB m 6) ⟨#[115]⟩ ⟨#[83]⟩ _ w w5 rb H5.out (by omega) (by decide) (by decide))
          go_wp2_with fail
          (with_reducible refine C3.out.mono ?_)
          rintro e w6 ⟨rfl, h6⟩
          rw [bs_if] at h6
          have H6 : Hid (ModI w w6 rb (bs (mdL N m (0 + 1)))) := Lib.hid (by
            rw [hG.out, bs_app, HS0.out]; simp only [if_true]
            have e3 : ∀ (a b c : UInt8), bs [a, b, c] = bs [a] ++ bs [b] ++ bs [c] := fun a b c => rfl
            rw [e3, ← ByteArray.append_assoc, ← ByteArray.append_assoc]
            exact h6)
          clear h6 C3
          go_wp2
          go_roundw
          case rel => exact ⟨0 + 1, by omega, by go_num, H6⟩
          case measure => simp [intOf]
        | false =>
          rw [hsp] at r4 hG
          have C3 := Lib.hid (letter_i (mdB m 6) ⟨#[120]⟩ ⟨#[45]⟩ _ w w4 rb H4.out (by omega) (by decide) (by decide))
          go_wp2_with fail
          (with_reducible refine C3.out.mono ?_)
          rintro e w6 ⟨rfl, h6⟩
          rw [bs_if] at h6
          have H6 : Hid (ModI w w6 rb (bs (mdL N m (0 + 1)))) := Lib.hid (by
            rw [hG.out, bs_app, HS0.out]; simp only [if_false, Bool.false_eq_true]
            have e3 : ∀ (a b c : UInt8), bs [a, b, c] = bs [a] ++ bs [b] ++ bs [c] := fun a b c => rfl
            rw [e3, ← ByteArray.append_assoc, ← ByteArray.append_assoc]
            exact h6)
          clear h6 C3
          go_wp2
          go_roundw
          case rel => exact ⟨0 + 1, by omega, by go_num, H6⟩
          case measure => simp [intOf]
      · have HK : Hid (ModI w wr rb (bs (mdL N m 1))) := HK
        have r1 : decide ((0 : Int) < bits .and .u32 ((m : Int) / 8) 4) = mdB m 5 := ask_int m 3 2 8 4 rfl rfl (by omega) (by omega)
        have r2 : decide ((0 : Int) < bits .and .u32 ((m : Int) / 8) 2) = mdB m 4 := ask_int m 3 1 8 2 rfl rfl (by omega) (by omega)
        have r3 : decide ((0 : Int) < bits .and .u32 ((m : Int) / 8) 1) = mdB m 3 := ask_int m 3 0 8 1 rfl rfl (by omega) (by omega)
        have r4 : decide ((0 : Int) < bits .and .u32 ((m : Int) / 1024) 1) = mdB m 10 := ask_int m 10 0 1024 1 rfl rfl (by omega) (by omega)
        have hz : (bs (mdL N m 1)).size = 4 := by rw [bs_size, mdL_size]
        have hG : Hid (mdL N m (1 + 1) = mdL N m 1 ++ [if mdB m 5 then 114 else 45, if mdB m 4 then 119 else 45, if mdB m 10 then (if mdB m 3 then 115 else 83) else (if mdB m 3 then 120 else 45)]) := Lib.hid rfl
        obtain ⟨s0, hs0⟩ : ∃ s0, bs (mdL N m 1) = s0 := ⟨_, rfl⟩
        rw [hs0] at HK hz
        have HS0 := Lib.hid hs0
        clear hs0
        have C1 := Lib.hid (letter_i (mdB m 5) ⟨#[114]⟩ ⟨#[45]⟩ s0 w wr rb HK.out (by omega) (by decide) (by decide))
        go_wp2_with fail
        (with_reducible refine C1.out.mono ?_)
        rintro e w3 ⟨rfl, h3⟩
        rw [bs_if] at h3
        have H3 := Lib.hid h3
        have z1 : (s0 ++ bs [if mdB m 5 = true then 114 else 45]).size = 5 := by rw [ByteArray.size_append, hz, bs_size]; rfl
        clear h3 C1 r1
        have C2 := Lib.hid (letter_i (mdB m 4) ⟨#[119]⟩ ⟨#[45]⟩ _ w w3 rb H3.out (by omega) (by decide) (by decide))
        go_wp2_with fail
        (with_reducible refine C2.out.mono ?_)
        rintro e w4 ⟨rfl, h4⟩
        rw [bs_if] at h4
        have H4 := Lib.hid h4
        have z2 : (s0 ++ bs [if mdB m 5 = true then 114 else 45] ++ bs [if mdB m 4 = true then 119 else 45]).size = 6 := by rw [ByteArray.size_append, z1, bs_size]; rfl
        clear h4 C2 r2
        cases hsp : mdB m 10 with
        | true =>
          rw [hsp] at r4 hG
          have UP := Lib.hid (Tryd.strings_ToUpper_ascii ⟨#[115]⟩ w4 (by decide) (by
            intro j b hj
            match j, hj with
            | 0, hj => injection hj with hj; subst hj; decide
            | j + 1, hj => simp at hj))
          rw [show (⟨(Lib.toUpperA (⟨#[115]⟩ : ByteArray).data.toList).toArray⟩ : ByteArray) = ⟨#[83]⟩ from rfl] at UP
          go_wp2_with fail
          (with_reducible refine UP.out.mono ?_)
          rintro e w5 ⟨rfl, hb5⟩
          have H5 := Lib.hid (H4.out.mono hb5)
          clear hb5 UP
          have C3 := Lib.hid (letter_i (mdB m 3) ⟨#[115]⟩ ⟨#[83]⟩ _ w w5 rb H5.out (by omega) (by decide) (by decide))
          go_wp2_with fail
          (with_reducible refine C3.out.mono ?_)
          rintro e w6 ⟨rfl, h6⟩
          rw [bs_if] at h6
          have H6 : Hid (ModI w w6 rb (bs (mdL N m (1 + 1)))) := Lib.hid (by
            rw [hG.out, bs_app, HS0.out]; simp only [if_true]
            have e3 : ∀ (a b c : UInt8), bs [a, b, c] = bs [a] ++ bs [b] ++ bs [c] := fun a b c => rfl
            rw [e3, ← ByteArray.append_assoc, ← ByteArray.append_assoc]
            exact h6)
          clear h6 C3
          go_wp2
          go_roundw
          case rel => exact ⟨1 + 1, by omega, by go_num, H6⟩
          case measure => simp [intOf]
        | false =>
          rw [hsp] at r4 hG
          have C3 := Lib.hid (letter_i (mdB m 3) ⟨#[120]⟩ ⟨#[45]⟩ _ w w4 rb H4.out (by omega) (by decide) (by decide))
          go_wp2_with fail
          (with_reducible refine C3.out.mono ?_)
          rintro e w6 ⟨rfl, h6⟩
          rw [bs_if] at h6
          have H6 : Hid (ModI w w6 rb (bs (mdL N m (1 + 1)))) := Lib.hid (by
            rw [hG.out, bs_app, HS0.out]; simp only [if_false, Bool.false_eq_true]
            have e3 : ∀ (a b c : UInt8), bs [a, b, c] = bs [a] ++ bs [b] ++ bs [c] := fun a b c => rfl
            rw [e3, ← ByteArray.append_assoc, ← ByteArray.append_assoc]
            exact h6)
          clear h6 C3
          go_wp2
          go_roundw
          case rel => exact ⟨1 + 1, by omega, by go_num, H6⟩
          case measure => simp [intOf]
      · have HK : Hid (ModI w wr rb (bs (mdL N m 2))) := HK
        have r1 : decide ((0 : Int) < bits .and .u32 ((m : Int)) 4) = mdB m 2 := (by have h := ask_int m 0 2 1 4 rfl rfl (by omega) (by omega); rw [Int.ediv_one] at h; exact h)
        have r2 : decide ((0 : Int) < bits .and .u32 ((m : Int)) 2) = mdB m 1 := (by have h := ask_int m 0 1 1 2 rfl rfl (by omega) (by omega); rw [Int.ediv_one] at h; exact h)
        have r3 : decide ((0 : Int) < bits .and .u32 ((m : Int)) 1) = mdB m 0 := (by have h := ask_int m 0 0 1 1 rfl rfl (by omega) (by omega); rw [Int.ediv_one] at h; exact h)
        have r4 : decide ((0 : Int) < bits .and .u32 ((m : Int) / 512) 1) = mdB m 9 := ask_int m 9 0 512 1 rfl rfl (by omega) (by omega)
        have hz : (bs (mdL N m 2)).size = 7 := by rw [bs_size, mdL_size]
        have hG : Hid (mdL N m (2 + 1) = mdL N m 2 ++ [if mdB m 2 then 114 else 45, if mdB m 1 then 119 else 45, if mdB m 9 then (if mdB m 0 then 116 else 84) else (if mdB m 0 then 120 else 45)]) := Lib.hid rfl
        obtain ⟨s0, hs0⟩ : ∃ s0, bs (mdL N m 2) = s0 := ⟨_, rfl⟩
        rw [hs0] at HK hz
        have HS0 := Lib.hid hs0
        clear hs0
        have C1 := Lib.hid (letter_i (mdB m 2) ⟨#[114]⟩ ⟨#[45]⟩ s0 w wr rb HK.out (by omega) (by decide) (by decide))
        go_wp2_with fail
        (with_reducible refine C1.out.mono ?_)
        rintro e w3 ⟨rfl, h3⟩
        rw [bs_if] at h3
        have H3 := Lib.hid h3
        have z1 : (s0 ++ bs [if mdB m 2 = true then 114 else 45]).size = 8 := by rw [ByteArray.size_append, hz, bs_size]; rfl
        clear h3 C1 r1
        have C2 := Lib.hid (letter_i (mdB m 1) ⟨#[119]⟩ ⟨#[45]⟩ _ w w3 rb H3.out (by omega) (by decide) (by decide))
        go_wp2_with fail
        (with_reducible refine C2.out.mono ?_)
        rintro e w4 ⟨rfl, h4⟩
        rw [bs_if] at h4
        have H4 := Lib.hid h4
        have z2 : (s0 ++ bs [if mdB m 2 = true then 114 else 45] ++ bs [if mdB m 1 = true then 119 else 45]).size = 9 := by rw [ByteArray.size_append, z1, bs_size]; rfl
        clear h4 C2 r2
        cases hsp : mdB m 9 with
        | true =>
          rw [hsp] at r4 hG
          have UP := Lib.hid (Tryd.strings_ToUpper_ascii ⟨#[116]⟩ w4 (by decide) (by
            intro j b hj
            match j, hj with
            | 0, hj => injection hj with hj; subst hj; decide
            | j + 1, hj => simp at hj))
          rw [show (⟨(Lib.toUpperA (⟨#[116]⟩ : ByteArray).data.toList).toArray⟩ : ByteArray) = ⟨#[84]⟩ from rfl] at UP
          go_wp2_with fail
          (with_reducible refine UP.out.mono ?_)
          rintro e w5 ⟨rfl, hb5⟩
          have H5 := Lib.hid (H4.out.mono hb5)
          clear hb5 UP
          have C3 := Lib.hid (letter_i (mdB m 0) ⟨#[116]⟩ ⟨#[84]⟩ _ w w5 rb H5.out (by omega) (by decide) (by decide))
          go_wp2_with fail
          (with_reducible refine C3.out.mono ?_)
          rintro e w6 ⟨rfl, h6⟩
          rw [bs_if] at h6
          have H6 : Hid (ModI w w6 rb (bs (mdL N m (2 + 1)))) := Lib.hid (by
            rw [hG.out, bs_app, HS0.out]; simp only [if_true]
            have e3 : ∀ (a b c : UInt8), bs [a, b, c] = bs [a] ++ bs [b] ++ bs [c] := fun a b c => rfl
            rw [e3, ← ByteArray.append_assoc, ← ByteArray.append_assoc]
            exact h6)
          clear h6 C3
          go_wp2
          go_roundw
          case rel => exact ⟨2 + 1, by omega, by go_num, H6⟩
          case measure => simp [intOf]
        | false =>
          rw [hsp] at r4 hG
          have C3 := Lib.hid (letter_i (mdB m 0) ⟨#[120]⟩ ⟨#[45]⟩ _ w w4 rb H4.out (by omega) (by decide) (by decide))
          go_wp2_with fail
          (with_reducible refine C3.out.mono ?_)
          rintro e w6 ⟨rfl, h6⟩
          rw [bs_if] at h6
          have H6 : Hid (ModI w w6 rb (bs (mdL N m (2 + 1)))) := Lib.hid (by
            rw [hG.out, bs_app, HS0.out]; simp only [if_false, Bool.false_eq_true]
            have e3 : ∀ (a b c : UInt8), bs [a, b, c] = bs [a] ++ bs [b] ++ bs [c] := fun a b c => rfl
            rw [e3, ← ByteArray.append_assoc, ← ByteArray.append_assoc]
            exact h6)
          clear h6 C3
          go_wp2
          go_roundw
          case rel => exact ⟨2 + 1, by omega, by go_num, H6⟩
          case measure => simp [intOf]
      · have t0 : wr.cell? ⟨w.heap.size, 0, none⟩ = some (.string (bs (mdL N m 3))) := HK.out.txt.cell 0
        go_wp2
        go_ret2
        exact ⟨by rw [E.out]; rfl, HK.out.below⟩
  · have E : Hid (mdR N m = (ByteArray.empty, 1)) := Lib.hid (if_neg (by unfold mdOK; rw [decide_eq_true_eq]; exact hok))
    have hb : N < 1 ∨ (1 ≤ N ∧ 3 < N) ∨ (1 ≤ N ∧ N ≤ 3 ∧ 4095 < m) := by omega
    clear hok
    go_enter Tryd.func18, Tryd.ntmps18
    rcases hb with h | ⟨h, h'⟩ | ⟨h, h', h3⟩
    all_goals
      go_wp2
      go_ret2
      exact ⟨by rw [E.out]; rfl, Below.refl _ _⟩
end Go.Proofs.YtpfccicahfncbaaDoor
namespace Go.Proofs.YtpfccicahfncbaaDoor
open Go.RowKit
set_option linter.unusedVariables false
set_option linter.unusedSimpArgs false
theorem three_ask (m p j : Nat) (hj : j < 3) (D : Int) (hD : ((2 ^ j : Nat) : Int) = D) : (((m / 2 ^ p % 8 : Nat) : Int) / D % 2 == 1) = mdB m (p + j) := by
  rw [← hD, ← Int.natCast_ediv]
  unfold mdB
  rw [Nat.pow_add, ← Nat.div_div_eq_div_mul]
  generalize m / 2 ^ p = X
  have : j = 0 ∨ j = 1 ∨ j = 2 := by omega
  rw [Bool.eq_iff_iff, beq_iff_eq, decide_eq_true_eq]
  rcases this with rfl | rfl | rfl <;> omega
theorem three_int (m p j : Nat) (hj : j < 3) (C D : Int) (hC : ((2 ^ p : Nat) : Int) = C) (hD : ((2 ^ j : Nat) : Int) = D) : ((m : Int) / C % 8 / D % 2 == 1) = mdB m (p + j) := by
  rw [← three_ask m p j hj D hD, ← hC]
  congr 3
theorem two_ask (m p : Nat) (D : Int) (hD : ((2 ^ p : Nat) : Int) = D) : ((m : Int) / D % 2 == 1) = mdB m p := by
  rw [← hD, ← Int.natCast_ediv]
  unfold mdB
  rw [Bool.eq_iff_iff, beq_iff_eq, decide_eq_true_eq]
  omega
/-- What holds at a round's head: the text so far is a row of the call's own. -/
def RMI (w W : World) (v : Value) (n : Nat) (l : List UInt8) : Prop := W.ownsRow w.heap.size 5 1 v n (u8s l) ∧ Below w.heap.size w W
theorem RMI.push {w W W' : World} {v v' : Value} {n : Nat} {l l' : List UInt8} {c : UInt8} (h : RMI w W v n l) (e : l' = l ++ [c]) (ho : W'.ownsRow w.heap.size 5 1 v' (n + 1) (u8s l ++ [.int .u8 (c.toNat : Int)])) (hg : W.grownBy W' v.ownBlock) : RMI w W' v' (n + 1) l' := by
  refine ⟨?_, below_grown h.2 hg (own_ge h.1)⟩
  rw [e]
  have : u8s (l ++ [c]) = u8s l ++ [.int .u8 (c.toNat : Int)] := by simp [u8s]
  rw [this]; exact ho
set_option maxRecDepth 100000 in
set_option maxHeartbeats 4000000 in
theorem rmodes_any (nd : UInt8) (md : UInt32) (w : World) :
    Calls Tryd.prog 19 #[.int .u8 (nd.toNat : Int), .int .u32 (md.toNat : Int)] w fun e w' => e = .returned (.tuple #[.string (mdR nd.toNat md.toNat).1, .int .i64 (mdR nd.toNat md.toNat).2]) ∧ Below w.heap.size w w' := by
  have b1 := nd.toNat_lt
  have b2 := md.toNat_lt
  obtain ⟨N, hN⟩ : ∃ N, nd.toNat = N := ⟨_, rfl⟩
  obtain ⟨m, hm⟩ : ∃ m, md.toNat = m := ⟨_, rfl⟩
  rw [hN] at b1 ⊢
  rw [hm] at b2 ⊢
  clear hN hm
  by_cases hok : 1 ≤ N ∧ N ≤ 3 ∧ m ≤ 4095
  · obtain ⟨h1, h2, h3⟩ := hok
    have E : Hid (mdR N m = (bs (mdL N m 3), 0)) := Lib.hid (if_pos (decide_eq_true ⟨h1, h2, h3⟩))
    have g1 : decide ((N : Int) < 1) = false := by rw [decide_eq_false_iff_not]; omega
    have g2 : decide ((3 : Int) < (N : Int)) = false := by rw [decide_eq_false_iff_not]; omega
    have g3 : decide ((4095 : Int) < (m : Int)) = false := by rw [decide_eq_false_iff_not]; omega
    have ix : ∀ h : N - 1 < (⟨#[45, 100, 108]⟩ : ByteArray).size, (⟨#[45, 100, 108]⟩ : ByteArray)[N - 1] = mdH N := fun h => by
      have : N = 1 ∨ N = 2 ∨ N = 3 := by omega
      rcases this with rfl | rfl | rfl <;> rfl
    have IX := Lib.hid ix
    clear ix
    go_enter Tryd.func19, Tryd.ntmps19
    go_upto_region 4 with fail
    rw [IX.out]
    have HB0 : Hid (RMI w (w.alloc (.cells #[.int .u8 ((mdH N).toNat : Int)] 5)) (.slice (some ⟨w.heap.size, 0, none⟩) 1 1) 1 (mdL N m 0)) := Lib.hid ⟨World.ownsRow_lit (base := w.heap.size) (e := 5) (size := 1) w #[.int .u8 ((mdH N).toNat : Int)] 1 (Nat.le_refl _) (by decide) (by simp), (Below.refl _ _).alloc (Nat.le_refl _) _⟩
    generalize w.alloc (.cells #[.int .u8 ((mdH N).toNat : Int)] 5) = w1 at HB0 ⊢
    generalize (.slice (some ⟨w.heap.size, 0, none⟩) 1 1 : Value) = v1 at HB0 ⊢
    clear g1 g2 g3 IX
    go_wp2_with fail
    go_loopw [6, 7] (fun v i wr => ∃ k : Nat, k ≤ 3 ∧ i = .int .i64 k ∧ Hid (RMI w wr v (1 + 3 * k) (mdL N m k))) (fun _ i _ => 3 - (intOf i).toNat)
    case atStart => exact ⟨0, by omega, rfl, HB0⟩
    case round =>
      obtain ⟨k, hk, rfl, HK⟩ := hrel
      obtain ⟨wo, rfl⟩ : ∃ wo : World, wo = wr := ⟨_, rfl⟩
      have hk' : k = 0 ∨ k = 1 ∨ k = 2 ∨ k = 3 := by omega
      rcases hk' with rfl | rfl | rfl | rfl
      · have HK : Hid (RMI w wo u6 1 (mdL N m 0)) := HK
        rw [show ((0 : Nat) : Int) = 0 from rfl]
        have r1 : ((m : Int) / 2048 % 2 == 1) = mdB m 11 := two_ask m 11 2048 rfl
        go_wp2_with fail
        go_loopw [6, 10] (fun v x wr => ∃ j : Nat, j ≤ 3 ∧ x = .int .i64 j ∧ Hid (RMI w wr v (1 + j) (mdL N m 0 ++ (mdG m 0).take j))) (fun _ x _ => 3 - (intOf x).toNat)
        case atStart => exact ⟨0, by omega, rfl, Lib.hid (by rw [List.take_zero, List.append_nil]; exact HK.out)⟩
        case round =>
          obtain ⟨j, hj, rfl, HJ⟩ := hrel
          clear HK
          have hj' : j = 0 ∨ j = 1 ∨ j = 2 ∨ j = 3 := by omega
          rcases hj' with rfl | rfl | rfl | rfl
          · have HJ : Hid (RMI w wr u6 1 (mdL N m 0 ++ (mdG m 0).take 0)) := HJ
            have q : ((m : Int) / 64 % 8 / 4 % 2 == 1) = mdB m 8 := by have h := three_int m 6 2 (by omega) 64 4 rfl rfl; exact h
            have hn1 : 1 ≤ 4611686018427387904 := by decide
            have hn2 : (1 + 1) * 1 ≤ 140737488355328 := by decide
            have hle := HJ.out.2.size
            cases hb : mdB m 8 with
            | true =>
              rw [hb] at q
              have HG : Hid (mdL N m 0 ++ (mdG m 0).take 1 = (mdL N m 0 ++ (mdG m 0).take 0) ++ [114]) := Lib.hid (by
                rw [List.take_succ_eq_append_getElem (show 0 < (mdG m 0).length from (by decide : 0 < 3)), ← List.append_assoc]
                congr 1
                simp [mdG, mdS, mdU, hb])
              generalize mdL N m 0 ++ (mdG m 0).take 0 = L at HJ HG
              clear hb
              go_wp2_with (at_builtin; refine append1_new elemByte rfl _ _ rfl w.heap.size _ 1 _ rfl HJ.out.1 _ rfl rfl hn1 hn2 hle ?_; intro v' w' ho hg; have HJ' := Lib.hid (RMI.push HJ.out HG.out ho hg); clear ho hg)
              go_roundw
              case rel => exact ⟨0 + 1, by omega, by go_num, HJ'⟩
              case measure => simp [intOf]
            | false =>
              rw [hb] at q
              have HG : Hid (mdL N m 0 ++ (mdG m 0).take 1 = (mdL N m 0 ++ (mdG m 0).take 0) ++ [45]) := Lib.hid (by
                rw [List.take_succ_eq_append_getElem (show 0 < (mdG m 0).length from (by decide : 0 < 3)), ← List.append_assoc]
                congr 1
                simp [mdG, mdS, mdU, hb])
              generalize mdL N m 0 ++ (mdG m 0).take 0 = L at HJ HG
              clear hb
              go_wp2_with (at_builtin; refine append1_new elemByte rfl _ _ rfl w.heap.size _ 1 _ rfl HJ.out.1 _ rfl rfl hn1 hn2 hle ?_; intro v' w' ho hg; have HJ' := Lib.hid (RMI.push HJ.out HG.out ho hg); clear ho hg)
              go_roundw
              case rel => exact ⟨0 + 1, by omega, by go_num, HJ'⟩
              case measure => simp [intOf]
          · have HJ : Hid (RMI w wr u6 2 (mdL N m 0 ++ (mdG m 0).take 1)) := HJ
            have q : ((m : Int) / 64 % 8 / 2 % 2 == 1) = mdB m 7 := by have h := three_int m 6 1 (by omega) 64 2 rfl rfl; exact h
            have hn1 : 2 ≤ 4611686018427387904 := by decide
            have hn2 : (2 + 1) * 1 ≤ 140737488355328 := by decide
            have hle := HJ.out.2.size
            cases hb : mdB m 7 with
            | true =>
              rw [hb] at q
              have HG : Hid (mdL N m 0 ++ (mdG m 0).take 2 = (mdL N m 0 ++ (mdG m 0).take 1) ++ [119]) := Lib.hid (by
                rw [List.take_succ_eq_append_getElem (show 1 < (mdG m 0).length from (by decide : 1 < 3)), ← List.append_assoc]
                congr 1
                simp [mdG, mdS, mdU, hb])
              generalize mdL N m 0 ++ (mdG m 0).take 1 = L at HJ HG
              clear hb
              go_wp2_with (at_builtin; refine append1_new elemByte rfl _ _ rfl w.heap.size _ 2 _ rfl HJ.out.1 _ rfl rfl hn1 hn2 hle ?_; intro v' w' ho hg; have HJ' := Lib.hid (RMI.push HJ.out HG.out ho hg); clear ho hg)
              go_roundw
              case rel => exact ⟨1 + 1, by omega, by go_num, HJ'⟩
              case measure => simp [intOf]
            | false =>
              rw [hb] at q
              have HG : Hid (mdL N m 0 ++ (mdG m 0).take 2 = (mdL N m 0 ++ (mdG m 0).take 1) ++ [45]) := Lib.hid (by
                rw [List.take_succ_eq_append_getElem (show 1 < (mdG m 0).length from (by decide : 1 < 3)), ← List.append_assoc]
                congr 1
                simp [mdG, mdS, mdU, hb])
              generalize mdL N m 0 ++ (mdG m 0).take 1 = L at HJ HG
              clear hb
              go_wp2_with (at_builtin; refine append1_new elemByte rfl _ _ rfl w.heap.size _ 2 _ rfl HJ.out.1 _ rfl rfl hn1 hn2 hle ?_; intro v' w' ho hg; have HJ' := Lib.hid (RMI.push HJ.out HG.out ho hg); clear ho hg)
              go_roundw
              case rel => exact ⟨1 + 1, by omega, by go_num, HJ'⟩
              case measure => simp [intOf]
          · have HJ : Hid (RMI w wr u6 3 (mdL N m 0 ++ (mdG m 0).take 2)) := HJ
            have q : ((m : Int) / 64 % 8 % 2 == 1) = mdB m 6 := by have h := three_int m 6 0 (by omega) 64 1 rfl rfl; rw [Int.ediv_one] at h; exact h
            have hn1 : 3 ≤ 4611686018427387904 := by decide
            have hn2 : (3 + 1) * 1 ≤ 140737488355328 := by decide
            have hle := HJ.out.2.size
            cases hsp : mdB m 11 with
            | true =>
              cases hb : mdB m 6 with
              | true =>
                rw [hb] at q
                have HG : Hid (mdL N m 0 ++ (mdG m 0).take 3 = (mdL N m 0 ++ (mdG m 0).take 2) ++ [115]) := Lib.hid (by
                  rw [List.take_succ_eq_append_getElem (show 2 < (mdG m 0).length from (by decide : 2 < 3)), ← List.append_assoc]
                  congr 1
                  simp [mdG, mdS, mdU, hb, hsp])
                generalize mdL N m 0 ++ (mdG m 0).take 2 = L at HJ HG
                clear hb hsp
                go_wp2_with (at_builtin; refine append1_new elemByte rfl _ _ rfl w.heap.size _ 3 _ rfl HJ.out.1 _ rfl rfl hn1 hn2 hle ?_; intro v' w' ho hg; have HJ' := Lib.hid (RMI.push HJ.out HG.out ho hg); clear ho hg)
                go_roundw
                case rel => exact ⟨2 + 1, by omega, by go_num, HJ'⟩
                case measure => simp [intOf]
              | false =>
                rw [hb] at q
                have HG : Hid (mdL N m 0 ++ (mdG m 0).take 3 = (mdL N m 0 ++ (mdG m 0).take 2) ++ [83]) := Lib.hid (by
                  rw [List.take_succ_eq_append_getElem (show 2 < (mdG m 0).length from (by decide : 2 < 3)), ← List.append_assoc]
                  congr 1
                  simp [mdG, mdS, mdU, hb, hsp])
                generalize mdL N m 0 ++ (mdG m 0).take 2 = L at HJ HG
                clear hb hsp
                go_wp2_with (at_builtin; refine append1_new elemByte rfl _ _ rfl w.heap.size _ 3 _ rfl HJ.out.1 _ rfl rfl hn1 hn2 hle ?_; intro v' w' ho hg; have HJ' := Lib.hid (RMI.push HJ.out HG.out ho hg); clear ho hg)
                go_roundw
                case rel => exact ⟨2 + 1, by omega, by go_num, HJ'⟩
                case measure => simp [intOf]
            | false =>
              cases hb : mdB m 6 with
              | true =>
                rw [hb] at q
                have HG : Hid (mdL N m 0 ++ (mdG m 0).take 3 = (mdL N m 0 ++ (mdG m 0).take 2) ++ [120]) := Lib.hid (by
                  rw [List.take_succ_eq_append_getElem (show 2 < (mdG m 0).length from (by decide : 2 < 3)), ← List.append_assoc]
                  congr 1
                  simp [mdG, mdS, mdU, hb, hsp])
                generalize mdL N m 0 ++ (mdG m 0).take 2 = L at HJ HG
                clear hb hsp
                go_wp2_with (at_builtin; refine append1_new elemByte rfl _ _ rfl w.heap.size _ 3 _ rfl HJ.out.1 _ rfl rfl hn1 hn2 hle ?_; intro v' w' ho hg; have HJ' := Lib.hid (RMI.push HJ.out HG.out ho hg); clear ho hg)
                go_roundw
                case rel => exact ⟨2 + 1, by omega, by go_num, HJ'⟩
                case measure => simp [intOf]
              | false =>
                rw [hb] at q
                have HG : Hid (mdL N m 0 ++ (mdG m 0).take 3 = (mdL N m 0 ++ (mdG m 0).take 2) ++ [45]) := Lib.hid (by
                  rw [List.take_succ_eq_append_getElem (show 2 < (mdG m 0).length from (by decide : 2 < 3)), ← List.append_assoc]
                  congr 1
                  simp [mdG, mdS, mdU, hb, hsp])
                generalize mdL N m 0 ++ (mdG m 0).take 2 = L at HJ HG
                clear hb hsp
                go_wp2_with (at_builtin; refine append1_new elemByte rfl _ _ rfl w.heap.size _ 3 _ rfl HJ.out.1 _ rfl rfl hn1 hn2 hle ?_; intro v' w' ho hg; have HJ' := Lib.hid (RMI.push HJ.out HG.out ho hg); clear ho hg)
                go_roundw
                case rel => exact ⟨2 + 1, by omega, by go_num, HJ'⟩
                case measure => simp [intOf]
          · have HJ3 : Hid (RMI w wr u6 4 (mdL N m (0 + 1))) := HJ
            go_wp2
            go_roundw
            case rel => exact ⟨0 + 1, by omega, by go_num, HJ3⟩
            case measure => simp [intOf]
      · have HK : Hid (RMI w wo u6 4 (mdL N m 1)) := HK
        rw [show ((1 : Nat) : Int) = 1 from rfl]
        have r1 : ((m : Int) / 1024 % 2 == 1) = mdB m 10 := two_ask m 10 1024 rfl
        go_wp2_with fail
        go_loopw [6, 10] (fun v x wr => ∃ j : Nat, j ≤ 3 ∧ x = .int .i64 j ∧ Hid (RMI w wr v (4 + j) (mdL N m 1 ++ (mdG m 1).take j))) (fun _ x _ => 3 - (intOf x).toNat)
        case atStart => exact ⟨0, by omega, rfl, Lib.hid (by rw [List.take_zero, List.append_nil]; exact HK.out)⟩
        case round =>
          obtain ⟨j, hj, rfl, HJ⟩ := hrel
          clear HK
          have hj' : j = 0 ∨ j = 1 ∨ j = 2 ∨ j = 3 := by omega
          rcases hj' with rfl | rfl | rfl | rfl
          · have HJ : Hid (RMI w wr u6 4 (mdL N m 1 ++ (mdG m 1).take 0)) := HJ
            have q : ((m : Int) / 8 % 8 / 4 % 2 == 1) = mdB m 5 := by have h := three_int m 3 2 (by omega) 8 4 rfl rfl; exact h
            have hn1 : 4 ≤ 4611686018427387904 := by decide
            have hn2 : (4 + 1) * 1 ≤ 140737488355328 := by decide
            have hle := HJ.out.2.size
            cases hb : mdB m 5 with
            | true =>
              rw [hb] at q
              have HG : Hid (mdL N m 1 ++ (mdG m 1).take 1 = (mdL N m 1 ++ (mdG m 1).take 0) ++ [114]) := Lib.hid (by
                rw [List.take_succ_eq_append_getElem (show 0 < (mdG m 1).length from (by decide : 0 < 3)), ← List.append_assoc]
                congr 1
                simp [mdG, mdS, mdU, hb])
              generalize mdL N m 1 ++ (mdG m 1).take 0 = L at HJ HG
              clear hb
              go_wp2_with (at_builtin; refine append1_new elemByte rfl _ _ rfl w.heap.size _ 4 _ rfl HJ.out.1 _ rfl rfl hn1 hn2 hle ?_; intro v' w' ho hg; have HJ' := Lib.hid (RMI.push HJ.out HG.out ho hg); clear ho hg)
              go_roundw
              case rel => exact ⟨0 + 1, by omega, by go_num, HJ'⟩
              case measure => simp [intOf]
            | false =>
              rw [hb] at q
              have HG : Hid (mdL N m 1 ++ (mdG m 1).take 1 = (mdL N m 1 ++ (mdG m 1).take 0) ++ [45]) := Lib.hid (by
                rw [List.take_succ_eq_append_getElem (show 0 < (mdG m 1).length from (by decide : 0 < 3)), ← List.append_assoc]
                congr 1
                simp [mdG, mdS, mdU, hb])
              generalize mdL N m 1 ++ (mdG m 1).take 0 = L at HJ HG
              clear hb
              go_wp2_with (at_builtin; refine append1_new elemByte rfl _ _ rfl w.heap.size _ 4 _ rfl HJ.out.1 _ rfl rfl hn1 hn2 hle ?_; intro v' w' ho hg; have HJ' := Lib.hid (RMI.push HJ.out HG.out ho hg); clear ho hg)
              go_roundw
              case rel => exact ⟨0 + 1, by omega, by go_num, HJ'⟩
              case measure => simp [intOf]
          · have HJ : Hid (RMI w wr u6 5 (mdL N m 1 ++ (mdG m 1).take 1)) := HJ
            have q : ((m : Int) / 8 % 8 / 2 % 2 == 1) = mdB m 4 := by have h := three_int m 3 1 (by omega) 8 2 rfl rfl; exact h
            have hn1 : 5 ≤ 4611686018427387904 := by decide
            have hn2 : (5 + 1) * 1 ≤ 140737488355328 := by decide
            have hle := HJ.out.2.size
            cases hb : mdB m 4 with
            | true =>
              rw [hb] at q
              have HG : Hid (mdL N m 1 ++ (mdG m 1).take 2 = (mdL N m 1 ++ (mdG m 1).take 1) ++ [119]) := Lib.hid (by
                rw [List.take_succ_eq_append_getElem (show 1 < (mdG m 1).length from (by decide : 1 < 3)), ← List.append_assoc]
                congr 1
                simp [mdG, mdS, mdU, hb])
              generalize mdL N m 1 ++ (mdG m 1).take 1 = L at HJ HG
              clear hb
              go_wp2_with (at_builtin; refine append1_new elemByte rfl _ _ rfl w.heap.size _ 5 _ rfl HJ.out.1 _ rfl rfl hn1 hn2 hle ?_; intro v' w' ho hg; have HJ' := Lib.hid (RMI.push HJ.out HG.out ho hg); clear ho hg)
              go_roundw
              case rel => exact ⟨1 + 1, by omega, by go_num, HJ'⟩
              case measure => simp [intOf]
            | false =>
              rw [hb] at q
              have HG : Hid (mdL N m 1 ++ (mdG m 1).take 2 = (mdL N m 1 ++ (mdG m 1).take 1) ++ [45]) := Lib.hid (by
                rw [List.take_succ_eq_append_getElem (show 1 < (mdG m 1).length from (by decide : 1 < 3)), ← List.append_assoc]
                congr 1
                simp [mdG, mdS, mdU, hb])
              generalize mdL N m 1 ++ (mdG m 1).take 1 = L at HJ HG
              clear hb
              go_wp2_with (at_builtin; refine append1_new elemByte rfl _ _ rfl w.heap.size _ 5 _ rfl HJ.out.1 _ rfl rfl hn1 hn2 hle ?_; intro v' w' ho hg; have HJ' := Lib.hid (RMI.push HJ.out HG.out ho hg); clear ho hg)
              go_roundw
              case rel => exact ⟨1 + 1, by omega, by go_num, HJ'⟩
              case measure => simp [intOf]
          · have HJ : Hid (RMI w wr u6 6 (mdL N m 1 ++ (mdG m 1).take 2)) := HJ
            have q : ((m : Int) / 8 % 8 % 2 == 1) = mdB m 3 := by have h := three_int m 3 0 (by omega) 8 1 rfl rfl; rw [Int.ediv_one] at h; exact h
            have hn1 : 6 ≤ 4611686018427387904 := by decide
            have hn2 : (6 + 1) * 1 ≤ 140737488355328 := by decide
            have hle := HJ.out.2.size
            cases hsp : mdB m 10 with
            | true =>
              cases hb : mdB m 3 with
              | true =>
                rw [hb] at q
                have HG : Hid (mdL N m 1 ++ (mdG m 1).take 3 = (mdL N m 1 ++ (mdG m 1).take 2) ++ [115]) := Lib.hid (by
                  rw [List.take_succ_eq_append_getElem (show 2 < (mdG m 1).length from (by decide : 2 < 3)), ← List.append_assoc]
                  congr 1
                  simp [mdG, mdS, mdU, hb, hsp])
                generalize mdL N m 1 ++ (mdG m 1).take 2 = L at HJ HG
                clear hb hsp
                go_wp2_with (at_builtin; refine append1_new elemByte rfl _ _ rfl w.heap.size _ 6 _ rfl HJ.out.1 _ rfl rfl hn1 hn2 hle ?_; intro v' w' ho hg; have HJ' := Lib.hid (RMI.push HJ.out HG.out ho hg); clear ho hg)
                go_roundw
                case rel => exact ⟨2 + 1, by omega, by go_num, HJ'⟩
                case measure => simp [intOf]
              | false =>
                rw [hb] at q
                have HG : Hid (mdL N m 1 ++ (mdG m 1).take 3 = (mdL N m 1 ++ (mdG m 1).take 2) ++ [83]) := Lib.hid (by
                  rw [List.take_succ_eq_append_getElem (show 2 < (mdG m 1).length from (by decide : 2 < 3)), ← List.append_assoc]
                  congr 1
                  simp [mdG, mdS, mdU, hb, hsp])
                generalize mdL N m 1 ++ (mdG m 1).take 2 = L at HJ HG
                clear hb hsp
                go_wp2_with (at_builtin; refine append1_new elemByte rfl _ _ rfl w.heap.size _ 6 _ rfl HJ.out.1 _ rfl rfl hn1 hn2 hle ?_; intro v' w' ho hg; have HJ' := Lib.hid (RMI.push HJ.out HG.out ho hg); clear ho hg)
                go_roundw
                case rel => exact ⟨2 + 1, by omega, by go_num, HJ'⟩
                case measure => simp [intOf]
            | false =>
              cases hb : mdB m 3 with
              | true =>
                rw [hb] at q
                have HG : Hid (mdL N m 1 ++ (mdG m 1).take 3 = (mdL N m 1 ++ (mdG m 1).take 2) ++ [120]) := Lib.hid (by
                  rw [List.take_succ_eq_append_getElem (show 2 < (mdG m 1).length from (by decide : 2 < 3)), ← List.append_assoc]
                  congr 1
                  simp [mdG, mdS, mdU, hb, hsp])
                generalize mdL N m 1 ++ (mdG m 1).take 2 = L at HJ HG
                clear hb hsp
                go_wp2_with (at_builtin; refine append1_new elemByte rfl _ _ rfl w.heap.size _ 6 _ rfl HJ.out.1 _ rfl rfl hn1 hn2 hle ?_; intro v' w' ho hg; have HJ' := Lib.hid (RMI.push HJ.out HG.out ho hg); clear ho hg)
                go_roundw
                case rel => exact ⟨2 + 1, by omega, by go_num, HJ'⟩
                case measure => simp [intOf]
              | false =>
                rw [hb] at q
                have HG : Hid (mdL N m 1 ++ (mdG m 1).take 3 = (mdL N m 1 ++ (mdG m 1).take 2) ++ [45]) := Lib.hid (by
                  rw [List.take_succ_eq_append_getElem (show 2 < (mdG m 1).length from (by decide : 2 < 3)), ← List.append_assoc]
                  congr 1
                  simp [mdG, mdS, mdU, hb, hsp])
                generalize mdL N m 1 ++ (mdG m 1).take 2 = L at HJ HG
                clear hb hsp
                go_wp2_with (at_builtin; refine append1_new elemByte rfl _ _ rfl w.heap.size _ 6 _ rfl HJ.out.1 _ rfl rfl hn1 hn2 hle ?_; intro v' w' ho hg; have HJ' := Lib.hid (RMI.push HJ.out HG.out ho hg); clear ho hg)
                go_roundw
                case rel => exact ⟨2 + 1, by omega, by go_num, HJ'⟩
                case measure => simp [intOf]
          · have HJ3 : Hid (RMI w wr u6 7 (mdL N m (1 + 1))) := HJ
            go_wp2
            go_roundw
            case rel => exact ⟨1 + 1, by omega, by go_num, HJ3⟩
            case measure => simp [intOf]
      · have HK : Hid (RMI w wo u6 7 (mdL N m 2)) := HK
        rw [show ((2 : Nat) : Int) = 2 from rfl]
        have r1 : ((m : Int) / 512 % 2 == 1) = mdB m 9 := two_ask m 9 512 rfl
        go_wp2_with fail
        go_loopw [6, 10] (fun v x wr => ∃ j : Nat, j ≤ 3 ∧ x = .int .i64 j ∧ Hid (RMI w wr v (7 + j) (mdL N m 2 ++ (mdG m 2).take j))) (fun _ x _ => 3 - (intOf x).toNat)
        case atStart => exact ⟨0, by omega, rfl, Lib.hid (by rw [List.take_zero, List.append_nil]; exact HK.out)⟩
        case round =>
          obtain ⟨j, hj, rfl, HJ⟩ := hrel
          clear HK
          have hj' : j = 0 ∨ j = 1 ∨ j = 2 ∨ j = 3 := by omega
          rcases hj' with rfl | rfl | rfl | rfl
          · have HJ : Hid (RMI w wr u6 7 (mdL N m 2 ++ (mdG m 2).take 0)) := HJ
            have q : ((m : Int) % 8 / 4 % 2 == 1) = mdB m 2 := by have h := three_int m 0 2 (by omega) 1 4 rfl rfl; rw [Int.ediv_one] at h; exact h
            have hn1 : 7 ≤ 4611686018427387904 := by decide
            have hn2 : (7 + 1) * 1 ≤ 140737488355328 := by decide
            have hle := HJ.out.2.size
            cases hb : mdB m 2 with
            | true =>
              rw [hb] at q
              have HG : Hid (mdL N m 2 ++ (mdG m 2).take 1 = (mdL N m 2 ++ (mdG m 2).take 0) ++ [114]) := Lib.hid (by
                rw [List.take_succ_eq_append_getElem (show 0 < (mdG m 2).length from (by decide : 0 < 3)), ← List.append_assoc]
                congr 1
                simp [mdG, mdS, mdU, hb])
              generalize mdL N m 2 ++ (mdG m 2).take 0 = L at HJ HG
              clear hb
              go_wp2_with (at_builtin; refine append1_new elemByte rfl _ _ rfl w.heap.size _ 7 _ rfl HJ.out.1 _ rfl rfl hn1 hn2 hle ?_; intro v' w' ho hg; have HJ' := Lib.hid (RMI.push HJ.out HG.out ho hg); clear ho hg)
              go_roundw
              case rel => exact ⟨0 + 1, by omega, by go_num, HJ'⟩
              case measure => simp [intOf]
            | false =>
              rw [hb] at q
              have HG : Hid (mdL N m 2 ++ (mdG m 2).take 1 = (mdL N m 2 ++ (mdG m 2).take 0) ++ [45]) := Lib.hid (by
                rw [List.take_succ_eq_append_getElem (show 0 < (mdG m 2).length from (by decide : 0 < 3)), ← List.append_assoc]
                congr 1
                simp [mdG, mdS, mdU, hb])
              generalize mdL N m 2 ++ (mdG m 2).take 0 = L at HJ HG
              clear hb
              go_wp2_with (at_builtin; refine append1_new elemByte rfl _ _ rfl w.heap.size _ 7 _ rfl HJ.out.1 _ rfl rfl hn1 hn2 hle ?_; intro v' w' ho hg; have HJ' := Lib.hid (RMI.push HJ.out HG.out ho hg); clear ho hg)
              go_roundw
              case rel => exact ⟨0 + 1, by omega, by go_num, HJ'⟩
              case measure => simp [intOf]
          · have HJ : Hid (RMI w wr u6 8 (mdL N m 2 ++ (mdG m 2).take 1)) := HJ
            have q : ((m : Int) % 8 / 2 % 2 == 1) = mdB m 1 := by have h := three_int m 0 1 (by omega) 1 2 rfl rfl; rw [Int.ediv_one] at h; exact h
            have hn1 : 8 ≤ 4611686018427387904 := by decide
            have hn2 : (8 + 1) * 1 ≤ 140737488355328 := by decide
            have hle := HJ.out.2.size
            cases hb : mdB m 1 with
            | true =>
              rw [hb] at q
              have HG : Hid (mdL N m 2 ++ (mdG m 2).take 2 = (mdL N m 2 ++ (mdG m 2).take 1) ++ [119]) := Lib.hid (by
                rw [List.take_succ_eq_append_getElem (show 1 < (mdG m 2).length from (by decide : 1 < 3)), ← List.append_assoc]
                congr 1
                simp [mdG, mdS, mdU, hb])
              generalize mdL N m 2 ++ (mdG m 2).take 1 = L at HJ HG
              clear hb
              go_wp2_with (at_builtin; refine append1_new elemByte rfl _ _ rfl w.heap.size _ 8 _ rfl HJ.out.1 _ rfl rfl hn1 hn2 hle ?_; intro v' w' ho hg; have HJ' := Lib.hid (RMI.push HJ.out HG.out ho hg); clear ho hg)
              go_roundw
              case rel => exact ⟨1 + 1, by omega, by go_num, HJ'⟩
              case measure => simp [intOf]
            | false =>
              rw [hb] at q
              have HG : Hid (mdL N m 2 ++ (mdG m 2).take 2 = (mdL N m 2 ++ (mdG m 2).take 1) ++ [45]) := Lib.hid (by
                rw [List.take_succ_eq_append_getElem (show 1 < (mdG m 2).length from (by decide : 1 < 3)), ← List.append_assoc]
                congr 1
                simp [mdG, mdS, mdU, hb])
              generalize mdL N m 2 ++ (mdG m 2).take 1 = L at HJ HG
              clear hb
              go_wp2_with (at_builtin; refine append1_new elemByte rfl _ _ rfl w.heap.size _ 8 _ rfl HJ.out.1 _ rfl rfl hn1 hn2 hle ?_; intro v' w' ho hg; have HJ' := Lib.hid (RMI.push HJ.out HG.out ho hg); clear ho hg)
              go_roundw
              case rel => exact ⟨1 + 1, by omega, by go_num, HJ'⟩
              case measure => simp [intOf]
          · have HJ : Hid (RMI w wr u6 9 (mdL N m 2 ++ (mdG m 2).take 2)) := HJ
            have q : ((m : Int) % 8 % 2 == 1) = mdB m 0 := by have h := three_int m 0 0 (by omega) 1 1 rfl rfl; rw [Int.ediv_one] at h; rw [Int.ediv_one] at h; exact h
            have hn1 : 9 ≤ 4611686018427387904 := by decide
            have hn2 : (9 + 1) * 1 ≤ 140737488355328 := by decide
            have hle := HJ.out.2.size
            cases hsp : mdB m 9 with
            | true =>
              cases hb : mdB m 0 with
              | true =>
                rw [hb] at q
                have HG : Hid (mdL N m 2 ++ (mdG m 2).take 3 = (mdL N m 2 ++ (mdG m 2).take 2) ++ [116]) := Lib.hid (by
                  rw [List.take_succ_eq_append_getElem (show 2 < (mdG m 2).length from (by decide : 2 < 3)), ← List.append_assoc]
                  congr 1
                  simp [mdG, mdS, mdU, hb, hsp])
                generalize mdL N m 2 ++ (mdG m 2).take 2 = L at HJ HG
                clear hb hsp
                go_wp2_with (at_builtin; refine append1_new elemByte rfl _ _ rfl w.heap.size _ 9 _ rfl HJ.out.1 _ rfl rfl hn1 hn2 hle ?_; intro v' w' ho hg; have HJ' := Lib.hid (RMI.push HJ.out HG.out ho hg); clear ho hg)
                go_roundw
                case rel => exact ⟨2 + 1, by omega, by go_num, HJ'⟩
                case measure => simp [intOf]
              | false =>
                rw [hb] at q
                have HG : Hid (mdL N m 2 ++ (mdG m 2).take 3 = (mdL N m 2 ++ (mdG m 2).take 2) ++ [84]) := Lib.hid (by
                  rw [List.take_succ_eq_append_getElem (show 2 < (mdG m 2).length from (by decide : 2 < 3)), ← List.append_assoc]
                  congr 1
                  simp [mdG, mdS, mdU, hb, hsp])
                generalize mdL N m 2 ++ (mdG m 2).take 2 = L at HJ HG
                clear hb hsp
                go_wp2_with (at_builtin; refine append1_new elemByte rfl _ _ rfl w.heap.size _ 9 _ rfl HJ.out.1 _ rfl rfl hn1 hn2 hle ?_; intro v' w' ho hg; have HJ' := Lib.hid (RMI.push HJ.out HG.out ho hg); clear ho hg)
                go_roundw
                case rel => exact ⟨2 + 1, by omega, by go_num, HJ'⟩
                case measure => simp [intOf]
            | false =>
              cases hb : mdB m 0 with
              | true =>
                rw [hb] at q
                have HG : Hid (mdL N m 2 ++ (mdG m 2).take 3 = (mdL N m 2 ++ (mdG m 2).take 2) ++ [120]) := Lib.hid (by
                  rw [List.take_succ_eq_append_getElem (show 2 < (mdG m 2).length from (by decide : 2 < 3)), ← List.append_assoc]
                  congr 1
                  simp [mdG, mdS, mdU, hb, hsp])
                generalize mdL N m 2 ++ (mdG m 2).take 2 = L at HJ HG
                clear hb hsp
                go_wp2_with (at_builtin; refine append1_new elemByte rfl _ _ rfl w.heap.size _ 9 _ rfl HJ.out.1 _ rfl rfl hn1 hn2 hle ?_; intro v' w' ho hg; have HJ' := Lib.hid (RMI.push HJ.out HG.out ho hg); clear ho hg)
                go_roundw
                case rel => exact ⟨2 + 1, by omega, by go_num, HJ'⟩
                case measure => simp [intOf]
              | false =>
                rw [hb] at q
                have HG : Hid (mdL N m 2 ++ (mdG m 2).take 3 = (mdL N m 2 ++ (mdG m 2).take 2) ++ [45]) := Lib.hid (by
                  rw [List.take_succ_eq_append_getElem (show 2 < (mdG m 2).length from (by decide : 2 < 3)), ← List.append_assoc]
                  congr 1
                  simp [mdG, mdS, mdU, hb, hsp])
                generalize mdL N m 2 ++ (mdG m 2).take 2 = L at HJ HG
                clear hb hsp
                go_wp2_with (at_builtin; refine append1_new elemByte rfl _ _ rfl w.heap.size _ 9 _ rfl HJ.out.1 _ rfl rfl hn1 hn2 hle ?_; intro v' w' ho hg; have HJ' := Lib.hid (RMI.push HJ.out HG.out ho hg); clear ho hg)
                go_roundw
                case rel => exact ⟨2 + 1, by omega, by go_num, HJ'⟩
                case measure => simp [intOf]
          · have HJ3 : Hid (RMI w wr u6 10 (mdL N m (2 + 1))) := HJ
            go_wp2
            go_roundw
            case rel => exact ⟨2 + 1, by omega, by go_num, HJ3⟩
            case measure => simp [intOf]
      · have HK : Hid (RMI w wo u6 10 (mdL N m 3)) := HK
        obtain ⟨A, c, rfl, hrd⟩ := own_reads HK.out.1
        rw [show ((3 : Nat) : Int) = 3 from rfl]
        obtain ⟨ad, rfl, hbl, hcl⟩ := reads_u8 hrd (by decide)
        have HC := Lib.hid hcl
        have HL : Hid ((mdL N m 3).length = 10) := Lib.hid (hrd.u8)
        clear hrd hcl hbl
        go_wp2_with (with_reducible refine conv_str_wp (e := 5) (by kernel_rfl) (by kernel_rfl) (by kernel_rfl) rfl _ rfl ad 10 c rfl (mdL N m 3) HL.out HC.out ?_)
        go_ret2
        exact ⟨by rw [E.out]; rfl, HK.out.2⟩
  · have E : Hid (mdR N m = (ByteArray.empty, 1)) := Lib.hid (if_neg (by unfold mdOK; rw [decide_eq_true_eq]; exact hok))
    have hb : N < 1 ∨ (1 ≤ N ∧ 3 < N) ∨ (1 ≤ N ∧ N ≤ 3 ∧ 4095 < m) := by omega
    clear hok
    go_enter Tryd.func19, Tryd.ntmps19
    rcases hb with h | ⟨h, h'⟩ | ⟨h, h', h3⟩
    all_goals
      go_wp2
      go_ret2
      exact ⟨by rw [E.out]; rfl, Below.refl _ _⟩
end Go.Proofs.YtpfccicahfncbaaDoor
