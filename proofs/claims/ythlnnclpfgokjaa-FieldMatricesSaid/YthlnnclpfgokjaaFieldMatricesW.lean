/- Walk: the law FieldMatrices returns true. -/
import Derived.Test.YthlnnclpfgokjaaFieldMadeW
import Derived.Test.YthlnnclpfgokjaaRefProd
import Derived.Test.YthlnnclpfgokjaaInv
import Derived.BigRegion
namespace Go.Proofs.Ythlnnclpfgokjaa
open Go.RowKit Gf
set_option linter.unusedVariables false
/-- append of a list to a new list of none. -/
theorem appendE_wp {P : Program} {w : World} {t e : TypeId} {z : Value} {bytes : Nat} (E : Elem1 P t e z bytes) {ops : Array Oper} {rest : List Oper} {o : Oper} {a : Act} {Q : Exit → Act → World → Prop} (hgd : o.guard = none) (s x : Operand)
    (ho : o.op = .call { callee := .builtin .append, args := #[s, x], argTypes := #[t, t] })
    (hs : a.eval s = .slice (some ⟨w.heap.size, 0, none⟩) 0 0) (B : Nat) (A : Option Addr) (m c : Nat) (xs : List Value) (hx : a.eval x = .slice A m c) (hr : Reads w B 1 A m xs) (hB : B ≤ w.heap.size)
    (h1 : ∀ u ∈ xs, u.oneCell' = true) (hm : m ≤ 4611686018427387904) (hb : m * bytes ≤ 140737488355328)
    (h : ∀ v' w', w'.ownsRow w.heap.size e 1 v' m xs → w.grownBy w' none → wpList P ops Q rest (a.put o.dst v') w') : wpList P ops Q (o :: rest) a (w.alloc (.cells #[] e)) := by
  obtain ⟨i, hi, hz0, hz1, hz2⟩ := E.info
  refine wpList_append_any (w.alloc (.cells #[] e)) hgd s x t ho w.heap.size e i z 1 bytes E.ht hi hz0 hz1 hz2 E.hz (by decide) _ 0 [] hs (by
      have := World.ownsRow_lit (base := w.heap.size) (e := e) (size := 1) w #[] 0 (Nat.le_refl _) (Nat.zero_le _) (by simp)
      simpa using this) B A m c xs hx (hr.alloc hB _) h1 (by unfold maxLen; omega) (by rw [Nat.zero_add]; exact hb) (by simp) (fun v' w' h2 h3 h4 => h v' w' ?_ ?_)
  · rw [Nat.zero_add, List.nil_append] at h2; exact h2
  · refine ⟨h3.os, h3.tape, h3.output, Nat.le_trans (by simp) h3.size, fun k hk _ => (h3.block k (by simp; omega) (fun e => ?_)).trans (Below.heap_alloc w _ k hk)⟩
    simp [Value.ownBlock] at e
    omega
theorem oneStr (ss : List ByteArray) : ∀ u ∈ strV ss, u.oneCell' = true := by
  intro u hu
  obtain ⟨s, _, rfl⟩ := List.mem_map.1 hu
  rfl
theorem reads_init {w : World} {B n : Nat} {A : Option Addr} {ys : List Value} {u : Value} (h : Reads w B 1 A (n + 1) (ys ++ [u])) : Reads w B 1 A n ys := by
  have hl := h.1
  simp at hl
  refine ⟨by omega, fun hn => ?_⟩
  obtain ⟨ad, e, hb, hc⟩ := h.2 (by omega)
  refine ⟨ad, e, hb, fun j v hj => hc j v ?_⟩
  have : j < ys.length := by
    rcases Nat.lt_or_ge j ys.length with h | h
    · exact h
    · rw [List.getElem?_eq_none h] at hj; cases hj
  rw [List.getElem?_append_left this]; exact hj
/-- A list that is told twice and told by the reference is in new memory. -/
theorem fresh3 {w0 w1 w2 w3 : World} {v1 v2 v3 : Value} {l : Nat} {ss : List ByteArray} (hw : w0.heap.size ≤ w1.heap.size) (O1 : w1.ownsRow w0.heap.size 9 1 v1 l (strV ss)) (O2 : w2.ownsRow w1.heap.size 9 1 v2 l (strV ss))
    (O3 : w3.ownsRow w2.heap.size 9 1 v3 l (strV ss)) (B2 : Below w1.heap.size w1 w2) (B3 : Below w2.heap.size w2 w3) (hl : l ≤ 64) :
    Calls Try.prog 28 #[v2, v3, v1] w3 fun e w' => e = .returned (.bool true) ∧ Below w1.heap.size w3 w' := by
  obtain ⟨A1, c1, rfl, r1⟩ := own_reads O1
  obtain ⟨A3, c3, rfl, r3⟩ := own_reads O3
  have s2 := B2.size
  have s3 := B3.size
  refine (fresh_any w3 w1.heap.size v2 A3 A1 c3 c1 l ss w3.heap.size w1.heap.size (own_below O2 B3) r3 (r1.below (B2.trans (B3.mono s2))) (by omega) (Nat.le_refl _) (by omega) (own_apart O2 O3) (own_apart' O1 O2) (by omega)).mono ?_
  rintro e w' ⟨rfl, hg⟩
  refine ⟨rfl, hg.os, hg.tape, hg.output, by have := hg.size; omega, fun k hk => hg.block k (by omega) (fun e => ?_)⟩
  have := own_ge O2 k e.symm
  omega

/-- What stands at the head of a round: the two lists with a mark behind each. -/
def MxS (w wr : World) (n k g cap g' cap' : Nat) (xs b : List ByteArray) : Prop :=
  wr.ownsRow w.heap.size 9 1 (.slice (some ⟨g, 0, none⟩) (n + 1) cap) (n + 1) (strV xs ++ [.string ⟨#[109, 97, 114, 107]⟩]) ∧
  wr.ownsRow w.heap.size 9 1 (.slice (some ⟨g', 0, none⟩) (k + 1) cap') (k + 1) (strV b ++ [.string ⟨#[109, 97, 114, 107]⟩]) ∧ Below w.heap.size w wr ∧ g ≠ g'
section
variable {w wr w' : World} {n k g cap g' cap' : Nat} {xs b : List ByteArray}
theorem MxS.x (h : MxS w wr n k g cap g' cap' xs b) : Reads wr wr.heap.size 1 (some ⟨g, 0, none⟩) n (strV xs) := reads_init (Reads.of_own h.1)
theorem MxS.y (h : MxS w wr n k g cap g' cap' xs b) : Reads wr wr.heap.size 1 (some ⟨g', 0, none⟩) k (strV b) := reads_init (Reads.of_own h.2.1)
theorem MxS.below (h : MxS w wr n k g cap g' cap' xs b) (hb : Below wr.heap.size wr w') : MxS w w' n k g cap g' cap' xs b :=
  ⟨own_below h.1 hb, own_below h.2.1 hb, h.2.2.1.trans (hb.mono h.2.2.1.size), h.2.2.2⟩
theorem MxS.marks (h : MxS w wr n k g cap g' cap' xs b) : wr.cell? ⟨g, n, none⟩ = some (.string ⟨#[109, 97, 114, 107]⟩) ∧ wr.cell? ⟨g', k, none⟩ = some (.string ⟨#[109, 97, 114, 107]⟩) ∧ n + 1 ≤ cap ∧ k + 1 ≤ cap' := by
  have hx := h.x.1
  have hy := h.y.1
  refine ⟨?_, ?_, ?_, ?_⟩
  · rw [h.1.cellAt n (by omega), List.getElem?_append_right (by omega)]
    rw [show n - (strV xs).length = 0 from by omega]; rfl
  · rw [h.2.1.cellAt k (by omega), List.getElem?_append_right (by omega)]
    rw [show k - (strV b).length = 0 from by omega]; rfl
  · rcases h.1.2 with ⟨h0, _⟩ | ⟨g2, c2, cur, h0, _, _, hc, _⟩
    · cases h0
    · injection h0 with _ _ h0; omega
  · rcases h.2.1.2 with ⟨h0, _⟩ | ⟨g2, c2, cur, h0, _, _, hc, _⟩
    · cases h0
    · injection h0 with _ _ h0; omega
theorem MxS.set_ (h : MxS w wr n k g cap g' cap' xs b) {i : Nat} (hi : i < n) (s : ByteArray) : MxS w (wr.setCell ⟨g, i, none⟩ (.string s)) n k g cap g' cap' (xs.set i s) b := by
  have hx := h.x.1
  obtain ⟨h1, h2⟩ := h.1.stored i (.string s)
  have e : (strV xs ++ [Value.string ⟨#[109, 97, 114, 107]⟩]).set i (.string s) = strV (xs.set i s) ++ [.string ⟨#[109, 97, 114, 107]⟩] := by
    rw [List.set_append_left _ _ (by omega)]
    simp [strV, List.map_set]
  rw [e] at h1
  refine ⟨h1, h.2.1.kept h2 (.inr ?_), below_grown h.2.2.1 h2 (fun q hq => by injection hq with hq; have := own_ge h.1 g rfl; omega), h.2.2.2⟩
  simp [Value.ownBlock]
  exact fun e => h.2.2.2 e.symm
theorem MxS.drew (h : MxS w wr n k g cap g' cap' xs b) : MxS w wr.drew n k g cap g' cap' xs b := ⟨h.1, h.2.1, h.2.2.1.drew, h.2.2.2⟩
theorem MxS.cells (h : MxS w wr n k g cap g' cap' xs b) {i : Nat} (hi : i < n) : wr.cell? ⟨g, i, none⟩ = some (.string (sAt xs i)) ∧ wr.frozen? ⟨g, i, none⟩ = false := by
  have hx : xs.length = n := h.x.len
  have hl := h.x.1
  refine ⟨?_, h.1.frozenAt i⟩
  rw [h.1.cellAt i (by omega), List.getElem?_append_left (by omega), strV_get xs i (by omega), sAt_get (by omega)]
end
end Go.Proofs.Ythlnnclpfgokjaa
