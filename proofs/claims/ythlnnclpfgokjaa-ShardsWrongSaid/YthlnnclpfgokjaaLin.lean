/- Sums, rows made of rows, kernels and ranks over the field of 256 numbers; Cauchy's matrices. No program in sight. No conditions. -/
import Derived.Test.YthlnnclpfgokjaaElim
namespace Go.Proofs.Ythlnnclpfgokjaa.Gf
/-- The sum of the first n. -/
def sm (f : Nat → UInt8) : Nat → UInt8
  | 0 => 0
  | k + 1 => sm f k ^^^ f k
theorem sm_congr {f g : Nat → UInt8} {n : Nat} (h : ∀ k, k < n → f k = g k) : sm f n = sm g n := by
  induction n with
  | zero => rfl
  | succ n ih => rw [sm, sm, ih (fun k hk => h k (by omega)), h n (by omega)]
theorem sm_xor (f g : Nat → UInt8) (n : Nat) : sm (fun k => f k ^^^ g k) n = sm f n ^^^ sm g n := by
  induction n with
  | zero => simp [sm]
  | succ n ih => rw [sm, sm, sm, ih, x4]
theorem sm_left (c : UInt8) (f : Nat → UInt8) (n : Nat) : sm (fun k => gm c (f k)) n = gm c (sm f n) := by
  induction n with
  | zero => simp [sm, gm_zero]
  | succ n ih => rw [sm, sm, ih, gm_xor_right]
theorem sm_right (c : UInt8) (f : Nat → UInt8) (n : Nat) : sm (fun k => gm (f k) c) n = gm (sm f n) c := by
  induction n with
  | zero => simp [sm, zero_gm]
  | succ n ih => rw [sm, sm, ih, gm_xor_left]
theorem sm_zero (n : Nat) : sm (fun _ => 0) n = 0 := by
  induction n with
  | zero => rfl
  | succ n ih => rw [sm, ih, UInt8.xor_zero]
theorem sm_none {f : Nat → UInt8} {n : Nat} (h : ∀ k, k < n → f k = 0) : sm f n = 0 := by
  rw [sm_congr h, sm_zero]
theorem sm_swap (f : Nat → Nat → UInt8) (n m : Nat) : sm (fun i => sm (fun j => f i j) m) n = sm (fun j => sm (fun i => f i j) n) m := by
  induction n with
  | zero => simp [sm, sm_zero]
  | succ n ih =>
    rw [sm, ih, ← sm_xor]; rfl
/-- One part alone. -/
theorem sm_one (f : Nat → UInt8) (n i : Nat) (hi : i < n) : sm (fun k => if k = i then f k else 0) n = f i := by
  induction n with
  | zero => omega
  | succ n ih =>
    rw [sm]
    by_cases e : i = n
    · subst e
      rw [if_pos rfl, sm_none (fun k hk => if_neg (by omega)), UInt8.zero_xor]
    · rw [ih (by omega), if_neg (by omega), UInt8.xor_zero]
/-- (AB)x = A(Bx). -/
theorem sm_assoc (A : Nat → UInt8) (B : Nat → Nat → UInt8) (x : Nat → UInt8) (n m : Nat) :
    sm (fun j => gm (sm (fun k => gm (A k) (B k j)) n) (x j)) m = sm (fun k => gm (A k) (sm (fun j => gm (B k j) (x j)) m)) n := by
  have e1 : ∀ j, gm (sm (fun k => gm (A k) (B k j)) n) (x j) = sm (fun k => gm (A k) (gm (B k j) (x j))) n := fun j => by
    rw [← sm_right]; exact sm_congr fun k _ => gm_assoc _ _ _
  rw [sm_congr fun j _ => e1 j, ← sm_swap]
  exact sm_congr fun k _ => sm_left _ _ _
theorem xor_cancel {a b : UInt8} (h : a ^^^ b = 0) : a = b := by
  have : (a ^^^ b) ^^^ b = 0 ^^^ b := by rw [h]
  rwa [UInt8.xor_assoc, UInt8.xor_self, UInt8.xor_zero, UInt8.zero_xor] at this

/-- Each of the first n rows of M' is made of the first n of M. -/
def Comb (n : Nat) (M M' : Mat) : Prop := ∃ T : Mat, ∀ i, i < n → ∀ j, M' i j = sm (fun k => gm (T i k) (M k j)) n
theorem unit_left (n i : Nat) (hi : i < n) (M : Nat → UInt8) : sm (fun k => gm (if i = k then 1 else 0) (M k)) n = M i := by
  have e : ∀ k, gm (if i = k then 1 else 0) (M k) = if k = i then M k else 0 := fun k => by
    by_cases h : i = k
    · rw [if_pos h, if_pos h.symm, one_gm]
    · rw [if_neg h, if_neg (fun e => h e.symm), zero_gm]
  rw [sm_congr fun k _ => e k]
  exact sm_one M n i hi
theorem unit_right (n i : Nat) (hi : i < n) (M : Nat → UInt8) : sm (fun k => gm (M k) (if k = i then 1 else 0)) n = M i := by
  have e : ∀ k, gm (M k) (if k = i then 1 else 0) = if k = i then M k else 0 := fun k => by
    by_cases h : k = i
    · rw [if_pos h, if_pos h, gm_one]
    · rw [if_neg h, if_neg h, gm_zero]
  rw [sm_congr fun k _ => e k]
  exact sm_one M n i hi
theorem Comb.refl (n : Nat) (M : Mat) : Comb n M M := ⟨fun i k => if i = k then 1 else 0, fun i hi j => (unit_left n i hi (fun k => M k j)).symm⟩
theorem Comb.trans {n : Nat} {A B C : Mat} (h : Comb n A B) (k : Comb n B C) : Comb n A C := by
  obtain ⟨T, hT⟩ := h
  obtain ⟨S, hS⟩ := k
  refine ⟨fun i l => sm (fun k => gm (S i k) (T k l)) n, fun i hi j => ?_⟩
  rw [hS i hi j, sm_assoc (S i) T (fun l => A l j) n n]
  exact sm_congr fun k hk => by rw [hT k hk j]
theorem comb_of_two {n : Nat} {M M' : Mat} (h : ∀ i, i < n → ∃ k l c d, k < n ∧ l < n ∧ ∀ j, M' i j = gm c (M k j) ^^^ gm d (M l j)) : Comb n M M' := by
  have h2 : ∀ i, ∃ (T : Nat → UInt8), i < n → ∀ j, M' i j = sm (fun k => gm (T k) (M k j)) n := fun i => by
    by_cases hi : i < n
    · obtain ⟨k, l, c, d, hk, hl, e⟩ := h i hi
      refine ⟨fun x => (if x = k then c else 0) ^^^ (if x = l then d else 0), fun _ j => ?_⟩
      have e1 : ∀ x, gm ((if x = k then c else 0) ^^^ (if x = l then d else 0)) (M x j) = (if x = k then gm c (M x j) else 0) ^^^ (if x = l then gm d (M x j) else 0) := fun x => by
        rw [gm_xor_left]
        congr 1
        · by_cases hx : x = k
          · rw [if_pos hx, if_pos hx]
          · rw [if_neg hx, if_neg hx, zero_gm]
        · by_cases hx : x = l
          · rw [if_pos hx, if_pos hx]
          · rw [if_neg hx, if_neg hx, zero_gm]
      rw [sm_congr fun x _ => e1 x, sm_xor, sm_one (fun x => gm c (M x j)) n k hk, sm_one (fun x => gm d (M x j)) n l hl, e j]
    · exact ⟨fun _ => 0, fun h => absurd h hi⟩
  exact ⟨fun i => Classical.choose (h2 i), fun i hi j => Classical.choose_spec (h2 i) hi j⟩

/-- One column: rows before and behind are made of one another. -/
theorem estep_comb (n c : Nat) (s : Mat × Nat) (ha : s.2 ≤ n) : Comb n s.1 (estep n c s).1 ∧ Comb n (estep n c s).1 s.1 := by
  obtain ⟨M, a⟩ := s
  obtain ⟨p1, p2, p3, p4⟩ := pivot_spec M c n a ha
  unfold estep
  show Comb n M (if a < n ∧ pivot M c n a < n then _ else _ : Mat × Nat).1 ∧ Comb n (if a < n ∧ pivot M c n a < n then _ else _ : Mat × Nat).1 M
  by_cases hc : a < n ∧ pivot M c n a < n
  · rw [if_pos hc]
    obtain ⟨h1, h2⟩ := hc
    generalize hp : pivot M c n a = p at *
    have hpc := p4 h2
    have ra : ∀ j, red1 M p a c a j = gm (M p j) (inv (M p c)) := fun j => by
      have e : ∀ j, swapR M p a a j = M p j := fun j => by
        unfold swapR
        by_cases hp : a = p
        · rw [if_pos hp, hp]
        · rw [if_neg hp, if_pos rfl]
      unfold red1 scaleR; rw [if_pos rfl, e, e]
    have r1 : ∀ i j, i ≠ a → red1 M p a c i j = M (if i = p then a else i) j := fun i j e1 => by
      unfold red1 scaleR swapR; rw [if_neg e1]
      by_cases e2 : i = p
      · rw [if_pos e2, if_pos e2]
      · rw [if_neg e2, if_neg e1, if_neg e2]
    have ta : ∀ j, takeR (red1 M p a c) a c n a j = gm (M p j) (inv (M p c)) := fun j => by
      unfold takeR; rw [if_neg (by omega), ra]
    have t1 : ∀ i j, i < n → i ≠ a → takeR (red1 M p a c) a c n i j = M (if i = p then a else i) j ^^^ gm (M (if i = p then a else i) c) (gm (M p j) (inv (M p c))) := fun i j hi e => by
      unfold takeR; rw [if_pos ⟨hi, e⟩, r1 i j e, r1 i c e, ra]
    constructor
    · refine comb_of_two fun i hi => ?_
      by_cases e : i = a
      · subst e
        refine ⟨p, p, inv (M p c), 0, h2, h2, fun j => ?_⟩
        show takeR _ _ _ _ _ _ = _
        rw [ta, zero_gm, UInt8.xor_zero, gm_comm]
      · refine ⟨if i = p then a else i, p, 1, gm (M (if i = p then a else i) c) (inv (M p c)), by split <;> omega, h2, fun j => ?_⟩
        show takeR _ _ _ _ _ _ = _
        rw [t1 i j hi e, one_gm, gm_assoc, gm_comm (inv (M p c))]
    · refine comb_of_two fun i hi => ?_
      have back : ∀ j, gm (M p c) (takeR (red1 M p a c) a c n a j) = M p j := fun j => by
        rw [ta, gm_comm (M p j), ← gm_assoc, inv_gm _ hpc, one_gm]
      have far : ∀ k, k < n → k ≠ a → ∀ j, M (if k = p then a else k) j = gm 1 (takeR (red1 M p a c) a c n k j) ^^^ gm (M (if k = p then a else k) c) (takeR (red1 M p a c) a c n a j) := fun k hk e j => by
        rw [t1 k j hk e, ta, one_gm, UInt8.xor_assoc, UInt8.xor_self, UInt8.xor_zero]
      by_cases e : i = p
      · subst e
        exact ⟨a, a, M i c, 0, h1, h1, fun j => by show _ = gm _ (takeR _ _ _ _ _ _) ^^^ _; rw [back, zero_gm, UInt8.xor_zero]⟩
      · by_cases e2 : i = a
        · subst e2
          have hp : p ≠ i := fun h => e h.symm
          refine ⟨p, i, 1, M i c, h2, hi, fun j => ?_⟩
          have := far p h2 hp j
          rw [if_pos rfl] at this
          exact this
        · refine ⟨i, a, 1, M i c, hi, h1, fun j => ?_⟩
          have := far i hi e2 j
          rw [if_neg e] at this
          exact this
  · rw [if_neg hc]
    exact ⟨Comb.refl n M, Comb.refl n M⟩
theorem esteps_comb (n : Nat) (M : Mat) (c : Nat) : Comb n M (esteps n M c).1 ∧ Comb n (esteps n M c).1 M := by
  induction c with
  | zero => exact ⟨Comb.refl n M, Comb.refl n M⟩
  | succ c ih =>
    obtain ⟨h1, h2⟩ := estep_comb n c (esteps n M c) (esteps_le n M c).1
    exact ⟨ih.1.trans h1, h2.trans ih.2⟩

/-- What a matrix's rows send to 0, rows made of them send to 0. -/
theorem comb_kernel {n c : Nat} {M M' : Mat} (h : Comb n M M') (x : Nat → UInt8) (hx : ∀ i, i < n → sm (fun j => gm (M i j) (x j)) c = 0) (i : Nat) (hi : i < n) : sm (fun j => gm (M' i j) (x j)) c = 0 := by
  obtain ⟨T, hT⟩ := h
  have e : ∀ j, gm (M' i j) (x j) = gm (sm (fun k => gm (T i k) (M k j)) n) (x j) := fun j => by rw [hT i hi j]
  rw [sm_congr fun j _ => e j, sm_assoc]
  exact sm_none fun k hk => by rw [hx k hk, gm_zero]

theorem mono_ge {a : Nat} {piv : Nat → Nat} (h : ∀ i k, i < k → k < a → piv i < piv k) : ∀ i, i < a → i ≤ piv i
  | 0, _ => Nat.zero_le _
  | i + 1, hi => by
    have h1 := mono_ge h i (by omega)
    have h2 := h i (i + 1) (by omega) hi
    omega
/-- A column that is no row's own. -/
theorem free_col {a c : Nat} {piv : Nat → Nat} (hac : a < c) (h : ∀ i k, i < k → k < a → piv i < piv k) : ∃ j, j < c ∧ ∀ i, i < a → piv i ≠ j := by
  by_cases hall : ∀ i, i < a → piv i = i
  · exact ⟨a, hac, fun i hi => by rw [hall i hi]; omega⟩
  · have : ∃ i, i < a ∧ piv i ≠ i ∧ ∀ k, k < i → piv k = k := by
      apply Classical.byContradiction
      intro hno
      apply hall
      intro i
      induction i using Nat.strongRecOn with
      | _ i ih =>
        intro hi
        apply Classical.byContradiction
        intro hne
        exact hno ⟨i, hi, hne, fun k hk => ih k hk (by omega)⟩
    obtain ⟨i, hi, hne, hk⟩ := this
    have hge := mono_ge h i hi
    refine ⟨i, by omega, fun k hka => ?_⟩
    rcases Nat.lt_trichotomy k i with h1 | h1 | h1
    · rw [hk k h1]; omega
    · rw [h1]; exact hne
    · have := h i k h1 hka; omega
/-- Fewer steps than columns: something that is not 0 is sent to 0. -/
theorem kernel (n c : Nat) (M : Mat) (h : (esteps n M c).2 < c) : ∃ x : Nat → UInt8, (∃ j, j < c ∧ x j ≠ 0) ∧ ∀ i, i < n → sm (fun j => gm (M i j) (x j)) c = 0 := by
  obtain ⟨piv, S⟩ := steps_all n M c
  have hle := (esteps_le n M c).1
  have hcomb := (esteps_comb n M c).2
  generalize esteps n M c = s at *
  obtain ⟨D, a⟩ := s
  obtain ⟨j0, hj0, hfree⟩ := free_col h S.mono
  refine ⟨fun j => (if j = j0 then 1 else 0) ^^^ sm (fun i => if piv i = j then D i j0 else 0) a, ⟨j0, hj0, ?_⟩, fun i hi => comb_kernel hcomb _ (fun k hk => ?_) i hi⟩
  · show (if j0 = j0 then (1 : UInt8) else 0) ^^^ sm (fun i => if piv i = j0 then D i j0 else 0) a ≠ 0
    rw [if_pos rfl, sm_none fun i hi => if_neg (hfree i hi)]; decide
  · show sm (fun j => gm (D k j) ((if j = j0 then 1 else 0) ^^^ sm (fun i => if piv i = j then D i j0 else 0) a)) c = 0
    have e : ∀ j, gm (D k j) ((if j = j0 then 1 else 0) ^^^ sm (fun i => if piv i = j then D i j0 else 0) a) = gm (D k j) (if j = j0 then 1 else 0) ^^^ sm (fun i => if j = piv i then gm (D k j) (D i j0) else 0) a := fun j => by
      rw [gm_xor_right, ← sm_left]
      congr 1
      exact sm_congr fun i _ => by
        by_cases hp : piv i = j
        · rw [if_pos hp, if_pos hp.symm]
        · rw [if_neg hp, if_neg (fun e => hp e.symm), gm_zero]
    rw [sm_congr fun j _ => e j, sm_xor, unit_right c j0 hj0 (fun j => D k j), sm_swap]
    have e2 : ∀ i, i < a → sm (fun j => if j = piv i then gm (D k j) (D i j0) else 0) c = gm (D k (piv i)) (D i j0) := fun i hi => by
      rw [sm_one (fun j => gm (D k j) (D i j0)) c (piv i) (S.lt i hi)]
    rw [sm_congr e2]
    by_cases hka : k < a
    · have e3 : ∀ i, i < a → gm (D k (piv i)) (D i j0) = if i = k then D i j0 else 0 := fun i hi => by
        by_cases hik : i = k
        · subst hik; rw [if_pos rfl]; have : D i (piv i) = 1 := S.one i hi
          rw [this, one_gm]
        · rw [if_neg hik]; have : D k (piv i) = 0 := S.zero i k hi hk (fun e => hik e.symm)
          rw [this, zero_gm]
      rw [sm_congr e3, sm_one (fun i => D i j0) a k hka, UInt8.xor_self]
    · have z : ∀ j, j < c → D k j = 0 := fun j hj => S.low k j (by show a ≤ k; omega) hk hj
      rw [z j0 hj0, sm_none fun i hi => by rw [z _ (S.lt i hi), zero_gm], UInt8.xor_zero]

/-- Cauchy: what all rows send to 0 is 0. -/
theorem cauchy_kernel : ∀ (n : Nat) (u v x : Nat → UInt8), (∀ i k, i < n → k < n → i ≠ k → u i ≠ u k) → (∀ i k, i < n → k < n → i ≠ k → v i ≠ v k) → (∀ i k, i < n → k < n → u i ^^^ v k ≠ 0) →
    (∀ i, i < n → sm (fun j => gm (inv (u i ^^^ v j)) (x j)) n = 0) → ∀ j, j < n → x j = 0
  | 0, _, _, _, _, _, _, _, _, h => by omega
  | n + 1, u, v, x, hu, hv, huv, h, j, hj => by
    have key : ∀ i, i < n → ∀ k, k < n → gm (u i ^^^ v n) (inv (u i ^^^ v k)) = 1 ^^^ gm (v n ^^^ v k) (inv (u i ^^^ v k)) := fun i hi k hk => by
      have e : u i ^^^ v n = (u i ^^^ v k) ^^^ (v n ^^^ v k) := by
        rw [UInt8.xor_comm (v n), UInt8.xor_assoc, ← UInt8.xor_assoc (v k), UInt8.xor_self, UInt8.zero_xor]
      rw [e, gm_xor_left, inv_gm _ (huv i k (by omega) (by omega))]
    have keyn : ∀ k, k < n → gm (u n ^^^ v n) (inv (u n ^^^ v k)) = 1 ^^^ gm (v n ^^^ v k) (inv (u n ^^^ v k)) := fun k hk => by
      have e : u n ^^^ v n = (u n ^^^ v k) ^^^ (v n ^^^ v k) := by
        rw [UInt8.xor_comm (v n), UInt8.xor_assoc, ← UInt8.xor_assoc (v k), UInt8.xor_self, UInt8.zero_xor]
      rw [e, gm_xor_left, inv_gm _ (huv n k (by omega) (by omega))]
    -- each equation times (u i + v n): the sum of all x, and a rest
    have eq1 : ∀ i, i < n + 1 → (∀ k, k < n → gm (u i ^^^ v n) (inv (u i ^^^ v k)) = 1 ^^^ gm (v n ^^^ v k) (inv (u i ^^^ v k))) →
        sm x (n + 1) ^^^ sm (fun k => gm (gm (v n ^^^ v k) (inv (u i ^^^ v k))) (x k)) n = 0 := fun i hi hk => by
      have h1 := h i hi
      have h2 : gm (u i ^^^ v n) (sm (fun j => gm (inv (u i ^^^ v j)) (x j)) (n + 1)) = 0 := by rw [h1, gm_zero]
      rw [← sm_left, sm] at h2
      rw [← gm_assoc, inv_gm _ (huv i n hi (by omega)), one_gm] at h2
      have e : ∀ k, k < n → gm (u i ^^^ v n) (gm (inv (u i ^^^ v k)) (x k)) = x k ^^^ gm (gm (v n ^^^ v k) (inv (u i ^^^ v k))) (x k) := fun k hkn => by
        rw [← gm_assoc, hk k hkn, gm_xor_left, one_gm]
      rw [sm_congr e, sm_xor] at h2
      rw [sm, UInt8.xor_assoc, UInt8.xor_comm (x n), ← UInt8.xor_assoc]
      exact h2
    have eq2 : ∀ i, i < n → sm (fun k => gm (inv (u i ^^^ v k)) (gm (gm (v n ^^^ v k) (inv (u n ^^^ v k))) (x k))) n = 0 := fun i hi => by
      have a1 := eq1 i (by omega) (key i hi)
      have a2 := eq1 n (by omega) keyn
      have a3 : sm (fun k => gm (gm (v n ^^^ v k) (inv (u i ^^^ v k))) (x k)) n ^^^ sm (fun k => gm (gm (v n ^^^ v k) (inv (u n ^^^ v k))) (x k)) n = 0 := by
        rw [← xor_cancel a1, ← xor_cancel a2, UInt8.xor_self]
      rw [← sm_xor] at a3
      have e : ∀ k, k < n → gm (gm (v n ^^^ v k) (inv (u i ^^^ v k))) (x k) ^^^ gm (gm (v n ^^^ v k) (inv (u n ^^^ v k))) (x k) =
          gm (u i ^^^ u n) (gm (inv (u i ^^^ v k)) (gm (gm (v n ^^^ v k) (inv (u n ^^^ v k))) (x k))) := fun k hk => by
        have d1 := inv_gm _ (huv i k (by omega) (by omega))
        have d2 := inv_gm _ (huv n k (by omega) (by omega))
        generalize inv (u i ^^^ v k) = p at d1 ⊢
        generalize inv (u n ^^^ v k) = q at d2 ⊢
        have e3 : u i ^^^ u n = (u i ^^^ v k) ^^^ (u n ^^^ v k) := by
          rw [UInt8.xor_comm (u n), UInt8.xor_assoc, ← UInt8.xor_assoc (v k), UInt8.xor_self, UInt8.zero_xor]
        rw [e3]
        generalize u i ^^^ v k = P at d1 ⊢
        generalize u n ^^^ v k = Q at d2 ⊢
        generalize v n ^^^ v k = r
        generalize x k = y
        rw [gm_xor_left]
        have s1 : gm P (gm p (gm (gm r q) y)) = gm (gm r q) y := by rw [← gm_assoc, d1, one_gm]
        have s2 : gm Q (gm p (gm (gm r q) y)) = gm (gm r p) y := by
          rw [gm_comm r q, gm_assoc q, ← gm_assoc p, gm_comm p q, gm_assoc q, ← gm_assoc Q, d2, one_gm, ← gm_assoc, gm_comm p r]
        rw [s1, s2, UInt8.xor_comm]
      rw [sm_congr e, sm_left] at a3
      rcases (gm_eq_zero _ _).1 a3 with h0 | h0
      · exact absurd (xor_cancel h0) (hu i n (by omega) (by omega) (by omega))
      · exact h0
    have ih := cauchy_kernel n u v (fun k => gm (gm (v n ^^^ v k) (inv (u n ^^^ v k))) (x k)) (fun i k hi hk => hu i k (by omega) (by omega)) (fun i k hi hk => hv i k (by omega) (by omega)) (fun i k hi hk => huv i k (by omega) (by omega)) eq2
    have low : ∀ k, k < n → x k = 0 := fun k hk => by
      have := ih k hk
      rcases (gm_eq_zero _ _).1 this with h0 | h0
      · rcases (gm_eq_zero _ _).1 h0 with h1 | h1
        · exact absurd (xor_cancel h1) (hv n k (by omega) (by omega) (by omega))
        · exact absurd h1 (inv_ne _ (huv n k (by omega) (by omega)))
      · exact h0
    by_cases e : j = n
    · subst e
      have h1 := h 0 (by omega)
      rw [sm, sm_none fun k hk => by rw [low k hk, gm_zero], UInt8.zero_xor] at h1
      rcases (gm_eq_zero _ _).1 h1 with h0 | h0
      · exact absurd h0 (inv_ne _ (huv 0 j (by omega) (by omega)))
      · exact h0
    · exact low j (by omega)
theorem cauchy_full (n : Nat) (M : Mat) (u v : Nat → UInt8) (hu : ∀ i k, i < n → k < n → i ≠ k → u i ≠ u k) (hv : ∀ i k, i < n → k < n → i ≠ k → v i ≠ v k) (huv : ∀ i k, i < n → k < n → u i ^^^ v k ≠ 0)
    (hM : ∀ i j, i < n → j < n → M i j = inv (u i ^^^ v j)) : (esteps n M n).2 = n := by
  apply Classical.byContradiction
  intro hne
  have hle := (esteps_le n M n).1
  obtain ⟨x, ⟨j, hj, hxj⟩, hx⟩ := kernel n n M (by omega)
  exact hxj (cauchy_kernel n u v x hu hv huv (fun i hi => by rw [← hx i hi]; exact sm_congr fun j hj => by rw [hM i j hi hj]) j hj)

/-- Elimination looks at the columns it goes through alone. -/
theorem estep_agree (n c m : Nat) (s t : Mat × Nat) (hc : c < m) (h2 : s.2 = t.2) (h : ∀ i j, j < m → s.1 i j = t.1 i j) : (estep n c s).2 = (estep n c t).2 ∧ ∀ i j, j < m → (estep n c s).1 i j = (estep n c t).1 i j := by
  obtain ⟨M, a⟩ := s
  obtain ⟨M', a'⟩ := t
  obtain rfl : a = a' := h2
  have hf : ∀ f p, findP M c n f p = findP M' c n f p := fun f => by
    induction f with
    | zero => intro p; rfl
    | succ f ih => intro p; unfold findP; rw [show M p c = M' p c from h p c hc, ih]
  have hp : pivot M c n a = pivot M' c n a := hf _ _
  unfold estep
  show (if a < n ∧ pivot M c n a < n then _ else _ : Mat × Nat).2 = (if a < n ∧ pivot M' c n a < n then _ else _ : Mat × Nat).2 ∧ ∀ i j, j < m → (if a < n ∧ pivot M c n a < n then _ else _ : Mat × Nat).1 i j = (if a < n ∧ pivot M' c n a < n then _ else _ : Mat × Nat).1 i j
  rw [hp]
  by_cases hc2 : a < n ∧ pivot M' c n a < n
  · rw [if_pos hc2, if_pos hc2]
    refine ⟨rfl, fun i j hj => ?_⟩
    have h' : ∀ i j, j < m → M i j = M' i j := h
    have hs : ∀ i j, j < m → swapR M (pivot M' c n a) a i j = swapR M' (pivot M' c n a) a i j := fun i j hj => by
      unfold swapR; rw [h' a j hj, h' _ j hj, h' i j hj]
    have hr : ∀ i j, j < m → red1 M (pivot M' c n a) a c i j = red1 M' (pivot M' c n a) a c i j := fun i j hj => by
      unfold red1 scaleR; rw [hs i j hj, hs a c hc]
    show takeR _ _ _ _ _ _ = takeR _ _ _ _ _ _
    unfold takeR; rw [hr i j hj, hr i c hc, hr a j hj]
  · rw [if_neg hc2, if_neg hc2]
    exact ⟨rfl, h⟩
theorem esteps_agree (n m : Nat) (M M' : Mat) (h : ∀ i j, j < m → M i j = M' i j) : ∀ c, c ≤ m → (esteps n M c).2 = (esteps n M' c).2 ∧ ∀ i j, j < m → (esteps n M c).1 i j = (esteps n M' c).1 i j
  | 0, _ => ⟨rfl, h⟩
  | c + 1, hc => by
    obtain ⟨h1, h2⟩ := esteps_agree n m M M' h c (by omega)
    exact estep_agree n c m _ _ (by omega) h1 h2

/-- RANK: as few as a rows make all of them (in so many columns). -/
def Made (n m b : Nat) (M : Mat) : Prop := ∃ C R : Mat, ∀ i j, i < n → j < m → M i j = sm (fun k => gm (C i k) (R k j)) b
theorem sm_short {f : Nat → UInt8} {a n : Nat} (ha : a ≤ n) (h : ∀ k, a ≤ k → k < n → f k = 0) : sm f n = sm f a := by
  induction n with
  | zero => obtain rfl : a = 0 := by omega
            rfl
  | succ n ih =>
    by_cases e : a = n + 1
    · rw [e]
    · rw [sm, h n (by omega) (by omega), UInt8.xor_zero, ih (by omega) (fun k h1 h2 => h k h1 (by omega))]
theorem rank_made (n m : Nat) (M : Mat) : Made n m (esteps n M m).2 M := by
  obtain ⟨piv, S⟩ := steps_all n M m
  obtain ⟨T, hT⟩ := (esteps_comb n M m).2
  refine ⟨T, (esteps n M m).1, fun i j hi hj => ?_⟩
  rw [hT i hi j]
  exact sm_short (esteps_le n M m).1 fun k h1 h2 => by rw [S.low k j h1 h2 hj, gm_zero]
theorem rank_least (n m b : Nat) (M : Mat) (h : Made n m b M) : (esteps n M m).2 ≤ b := by
  apply Classical.byContradiction
  intro hlt
  obtain ⟨piv, S⟩ := steps_all n M m
  obtain ⟨T, hT⟩ := (esteps_comb n M m).1
  obtain ⟨C, R, hM⟩ := h
  have hle := (esteps_le n M m).1
  generalize esteps n M m = s at *
  obtain ⟨D, a⟩ := s
  have hab : b < a := by omega
  -- D's rows made of R's
  have hD : ∀ i j, i < a → j < m → D i j = sm (fun l => gm (sm (fun k => gm (T i k) (C k l)) n) (R l j)) b := fun i j hi hj => by
    have := hT i (by have : a ≤ n := hle; omega) j
    have this : D i j = sm (fun k => gm (T i k) (M k j)) n := this
    rw [this, sm_assoc (T i) C (fun l => R l j)]
    exact sm_congr fun k hk => by rw [hM k j hk hj]
  obtain ⟨E, hE⟩ : ∃ E : Mat, ∀ i l, E i l = sm (fun k => gm (T i k) (C k l)) n := ⟨_, fun _ _ => rfl⟩
  obtain ⟨y, ⟨j, hj, hyj⟩, hy⟩ := kernel b a (fun l i => E i l) (by have := (esteps_le b (fun l i => E i l) a).1; omega)
  have z : sm (fun i => gm (y i) (D i (piv j))) a = 0 := by
    have e : ∀ i, i < a → gm (y i) (D i (piv j)) = gm (y i) (sm (fun l => gm (E i l) (R l (piv j))) b) := fun i hi => by
      rw [hD i _ hi (S.lt j hj)]; congr 1; exact sm_congr fun l _ => by rw [hE]
    rw [sm_congr e, ← sm_assoc]
    refine sm_none fun l hl => ?_
    have e2 : sm (fun k => gm (y k) (E k l)) a = 0 := by
      rw [← hy l hl]; exact sm_congr fun k _ => gm_comm _ _
    rw [e2, zero_gm]
  have e3 : ∀ i, i < a → gm (y i) (D i (piv j)) = if i = j then y i else 0 := fun i hi => by
    by_cases e : i = j
    · subst e; rw [if_pos rfl]; have : D i (piv i) = 1 := S.one i hi
      rw [this, gm_one]
    · rw [if_neg e]; have : D i (piv j) = 0 := S.zero j i hj (by have : a ≤ n := hle; omega) e
      rw [this, gm_zero]
  rw [sm_congr e3, sm_one y a j hj] at z
  exact hyj z
theorem Made.left {n m l b : Nat} {M : Mat} (A : Mat) (h : Made l m b M) : Made n m b (fun i j => sm (fun k => gm (A i k) (M k j)) l) := by
  obtain ⟨C, R, e⟩ := h
  refine ⟨fun i k => sm (fun x => gm (A i x) (C x k)) l, R, fun i j hi hj => ?_⟩
  rw [sm_assoc (A i) C (fun k => R k j)]
  exact sm_congr fun k hk => by rw [e k j hk hj]
theorem Made.right {n m l b : Nat} {M : Mat} (A : Mat) (h : Made n l b M) : Made n m b (fun i j => sm (fun k => gm (M i k) (A k j)) l) := by
  obtain ⟨C, R, e⟩ := h
  refine ⟨C, fun i j => sm (fun x => gm (R i x) (A x j)) l, fun i j hi hj => ?_⟩
  rw [← sm_assoc (C i) R (fun k => A k j)]
  exact sm_congr fun k hk => by rw [e i k hi hk]
theorem Made.rows {n m b : Nat} {M : Mat} (h : Made n m b M) (p : Nat → Nat) (hp : ∀ i, i < n → p i < n) : Made n m b (fun i j => M (p i) j) := by
  obtain ⟨C, R, e⟩ := h
  exact ⟨fun i k => C (p i) k, R, fun i j hi hj => e (p i) j (hp i hi) hj⟩
theorem Made.congr {n m b : Nat} {M M' : Mat} (h : Made n m b M) (e : ∀ i j, i < n → j < m → M' i j = M i j) : Made n m b M' := by
  obtain ⟨C, R, k⟩ := h
  exact ⟨C, R, fun i j hi hj => by rw [e i j hi hj, k i j hi hj]⟩

/-- INVERSE: a square matrix beside the unit, eliminated to its full. -/
theorem inverse_both (n : Nat) (X A : Mat) (hA : ∀ i j, i < n → A i j = if j < n then X i j else if j = n + i then 1 else 0) (hfull : (esteps n A n).2 = n) :
    (∀ i j, i < n → j < n → sm (fun k => gm ((esteps n A n).1 i (n + k)) (X k j)) n = if i = j then 1 else 0) ∧ (∀ i j, i < n → j < n → sm (fun k => gm (X i k) ((esteps n A n).1 k (n + j))) n = if i = j then 1 else 0) := by
  obtain ⟨piv, S⟩ := steps_all n A n
  obtain ⟨T, hT⟩ := (esteps_comb n A n).1
  obtain ⟨U, hU⟩ := (esteps_comb n A n).2
  generalize esteps n A n = s at *
  obtain ⟨D, a⟩ := s
  obtain rfl : a = n := hfull
  have hpiv : ∀ i, i < a → piv i = i := by
    intro i hi
    have h1 := mono_ge S.mono i hi
    have h2 : ∀ k, k < a → piv (a - 1 - k) ≤ a - 1 - k := fun k => by
      induction k with
      | zero => intro hk; have := S.lt (a - 1 - 0) (by omega); omega
      | succ k ih => intro hk; have := ih (by omega); have := S.mono (a - 1 - (k + 1)) (a - 1 - k) (by omega) (by show a - 1 - k < a; omega); omega
    have h3 := h2 (a - 1 - i) (by omega)
    rw [show a - 1 - (a - 1 - i) = i from by omega] at h3
    omega
  have hI : ∀ i j, i < a → j < a → D i j = if i = j then 1 else 0 := fun i j hi hj => by
    by_cases e : i = j
    · subst e; rw [if_pos rfl]; have := S.one i hi; rw [hpiv i hi] at this; exact this
    · rw [if_neg e]; have := S.zero j i hj hi e; rw [hpiv j hj] at this; exact this
  have hAl : ∀ i j, i < a → j < a → A i j = X i j := fun i j hi hj => by rw [hA i j hi, if_pos hj]
  have hAr : ∀ i j, i < a → j < a → A i (a + j) = if i = j then 1 else 0 := fun i j hi hj => by
    rw [hA i _ hi, if_neg (by omega)]
    by_cases e : i = j
    · rw [if_pos e, if_pos (by omega)]
    · rw [if_neg e, if_neg (by omega)]
  have hJ : ∀ i j, i < a → j < a → D i (a + j) = T i j := fun i j hi hj => by
    have : D i (a + j) = sm (fun k => gm (T i k) (A k (a + j))) a := hT i hi (a + j)
    rw [this, sm_congr fun k hk => by rw [hAr k j hk hj]]
    exact unit_right a j hj (T i)
  have hX : ∀ i j, i < a → j < a → U i j = X i j := fun i j hi hj => by
    have : A i j = sm (fun k => gm (U i k) (D k j)) a := hU i hi j
    rw [hAl i j hi hj, sm_congr fun k hk => by rw [hI k j hk hj]] at this
    rw [this, unit_right a j hj (U i)]
  constructor
  · intro i j hi hj
    show sm (fun k => gm (D i (a + k)) (X k j)) a = _
    rw [← hI i j hi hj]
    have : D i j = sm (fun k => gm (T i k) (A k j)) a := hT i hi j
    rw [this]
    exact sm_congr fun k hk => by rw [hJ i k hi hk, hAl k j hk hj]
  · intro i j hi hj
    show sm (fun k => gm (X i k) (D k (a + j))) a = _
    rw [← hAr i j hi hj]
    have : A i (a + j) = sm (fun k => gm (U i k) (D k (a + j))) a := hU i hi (a + j)
    rw [this]
    exact sm_congr fun k hk => by rw [hX i k hi hk]
end Go.Proofs.Ythlnnclpfgokjaa.Gf
