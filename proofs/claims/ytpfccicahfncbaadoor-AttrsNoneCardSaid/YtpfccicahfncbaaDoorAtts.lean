/- Lists of attributes in memory; streams of them, plainly. No conditions. -/
import Derived.Test.YtpfccicahfncbaaDoorAttPut
namespace Go.Proofs.YtpfccicahfncbaaDoor
open Go.RowKit Wir
set_option linter.unusedVariables false
/-- A set of attributes, and where its list lies. -/
structure AttM where
  a : Att
  A : Option Addr
  n : Nat
  c : Nat
def AttM.v (q : AttM) : List Value := (attV q.a q.A q.n q.c).toList
def attsV (M : List AttM) : List Value := M.flatMap AttM.v
theorem attM_len (q : AttM) : q.v.length = 7 := rfl
theorem attsV_length (M : List AttM) : (attsV M).length = M.length * 7 := by
  induction M with
  | nil => rfl
  | cons q M ih =>
    show (q.v ++ attsV M).length = _
    rw [List.length_append, ih, List.length_cons, attM_len]
    omega
theorem attsV_app (a b : List AttM) : attsV (a ++ b) = attsV a ++ attsV b := by unfold attsV; rw [List.flatMap_append]
theorem attsV_get (M : List AttM) (i j : Nat) (h : i < M.length) (hj : j < 7) : (attsV M)[i * 7 + j]? = (M[i]).v[j]? := by
  induction M generalizing i with
  | nil => simp at h
  | cons q M ih =>
    have e : attsV (q :: M) = q.v ++ attsV M := rfl
    rw [e]
    cases i with
    | zero => rw [Nat.zero_mul, Nat.zero_add, List.getElem?_append_left (by rw [attM_len]; exact hj)]; rfl
    | succ i =>
      rw [List.getElem?_append_right (by rw [attM_len]; omega), attM_len, show (i + 1) * 7 + j - 7 = i * 7 + j from by omega, ih i (by simpa using h), List.getElem_cons_succ]
theorem attsV_take (M : List AttM) (k : Nat) (hk : k < M.length) : attsV (M.take (k + 1)) = attsV (M.take k) ++ (M[k]).v := by
  rw [List.take_add_one, List.getElem?_eq_getElem hk, attsV_app]
  show _ ++ ((M[k]).v ++ []) = _
  rw [List.append_nil]
theorem attsV_one (M : List AttM) : ∀ u ∈ attsV M, u.oneCell' = true := fun u hu => by
  obtain ⟨q, _, hq⟩ := List.mem_flatMap.1 hu
  simp only [AttM.v, attV, List.mem_cons, List.not_mem_nil, or_false] at hq
  rcases hq with rfl | rfl | rfl | rfl | rfl | rfl | rfl <;> rfl
theorem Reads.attLen {w : World} {B n : Nat} {A : Option Addr} {M : List AttM} (h : Reads w B 7 A n (attsV M)) : M.length = n := by
  have := h.1; rw [attsV_length] at this; omega
/-- The i-th set's cells. -/
theorem atts_cells {w : World} {B n : Nat} {A : Option Addr} {M : List AttM} (h : Reads w B 7 A n (attsV M)) (i : Nat) (hi : i < n) :
    ∃ (ad : Addr) (hl : i < M.length), A = some ad ∧ ad.block < B ∧ ∀ j, j < 7 → w.cell? ((ad.add (i * 7)).add j) = (M[i]).v[j]? := by
  obtain ⟨ad, e, hb, hc⟩ := h.2 (by omega)
  have hl : i < M.length := by have := h.attLen; omega
  refine ⟨ad, hl, e, hb, fun j hj => ?_⟩
  have hz : j < (M[i]).v.length := by rw [attM_len]; exact hj
  rw [add_of_add, List.getElem?_eq_getElem hz]
  exact hc _ _ ((attsV_get M i j hl hj).trans (List.getElem?_eq_getElem hz))
/-- The lists of all of them read as they should. -/
def AllRd (w : World) (B : Nat) (M : List AttM) : Prop := ∀ q ∈ M, Reads w B 2 q.A q.n (xtV q.a.xs)
theorem AllRd.below {w w' : World} {B : Nat} {M : List AttM} (h : AllRd w B M) (hb : Below B w w') : AllRd w' B M := fun q hq => (h q hq).below hb
/-- Sizes that a set of attributes in memory has. -/
def Att.sized (a : Att) : Prop := a.fit ∧ a.tg.size ≤ 140737488355328 ∧ ∀ p ∈ a.xs, p.1.size ≤ 140737488355328 ∧ p.2.size ≤ 140737488355328
/-- A stream, s being there already. -/
def strF : ByteArray → List Att → ByteArray × Int
  | s, [] => (s, 0)
  | s, a :: l => if chkA a = 0 then strF (s ++ txL (layA a)) l else (ByteArray.empty, 1)
def strR (l : List Att) : ByteArray × Int := if l.length < 1 ∨ 257 < l.length then (ByteArray.empty, 1) else strF (bs (putL l.length)) l
theorem chkA_or (a : Att) : chkA a = 0 ∨ chkA a = 1 := by
  unfold chkA
  split
  · exact .inr rfl
  · exact .inl rfl
theorem layA_size {a : Att} (h : chkA a = 0) : (layA a).size ≤ 80000 := by
  obtain ⟨h1, h2, h3⟩ := chkA_zero h
  obtain ⟨_, q2, _, q4⟩ := chk2_false h2
  have a1 := numsB_size [a.md.toNat, a.ui.toNat, a.gi.toNat, a.mt.toNat]
  have a2 := numsB_size [a.xs.length]
  have a3 := layX_size a.xs (chkX_sizes a.xs _ h3)
  have a4 := txL_size a.tg
  have a5 : (if a.nd.toNat = 3 then txL a.tg else ByteArray.empty).size ≤ 1034 := by
    split
    · omega
    · exact Nat.zero_le _
  have a6 : (⟨#[a.nd]⟩ : ByteArray).size = 1 := rfl
  rw [layA, ByteArray.size_append, ByteArray.size_append, ByteArray.size_append, ByteArray.size_append]
  simp only [List.length_cons, List.length_nil] at a1 a2
  omega
end Go.Proofs.YtpfccicahfncbaaDoor
