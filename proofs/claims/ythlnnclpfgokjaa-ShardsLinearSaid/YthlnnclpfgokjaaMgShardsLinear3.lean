/- Several texts of the claim joined into one (part 3): plain facts and walks. No conditions but those that each theorem tells. -/
import Derived.Test.YthlnnclpfgokjaaMgShardsLinear1
import Derived.Test.YthlnnclpfgokjaaMgShardsLinear2
namespace Go.Proofs.Ythlnnclpfgokjaa.Gf
/-- The sum of the first n. -/
def sm (f : Nat → UInt8) : Nat → UInt8
  | 0 => 0
  | k + 1 => sm f k ^^^ f k
theorem sm_congr {f g : Nat → UInt8} {n : Nat} (h : ∀ k, k < n → f k = g k) : sm f n = sm g n := by
  induction n with
  | zero => rfl
  | succ n ih => rw [sm, sm, ih (fun k hk => h k (by omega)), h n (by omega)]
theorem sm_xor (f g : Nat → UInt8) (n : Nat) : sm (fun k => f k ^^^ g k) n = sm f n ^^^ sm g n := by
  induction n with
  | zero => simp [sm]
  | succ n ih => rw [sm, sm, sm, ih, x4]
theorem sm_left (c : UInt8) (f : Nat → UInt8) (n : Nat) : sm (fun k => gm c (f k)) n = gm c (sm f n) := by
  induction n with
  | zero => simp [sm, gm_zero]
  | succ n ih => rw [sm, sm, ih, gm_xor_right]
theorem sm_right (c : UInt8) (f : Nat → UInt8) (n : Nat) : sm (fun k => gm (f k) c) n = gm (sm f n) c := by
  induction n with
  | zero => simp [sm, zero_gm]
  | succ n ih => rw [sm, sm, ih, gm_xor_left]
theorem sm_zero (n : Nat) : sm (fun _ => 0) n = 0 := by
  induction n with
  | zero => rfl
  | succ n ih => rw [sm, ih, UInt8.xor_zero]
theorem sm_none {f : Nat → UInt8} {n : Nat} (h : ∀ k, k < n → f k = 0) : sm f n = 0 := by
  rw [sm_congr h, sm_zero]
theorem sm_swap (f : Nat → Nat → UInt8) (n m : Nat) : sm (fun i => sm (fun j => f i j) m) n = sm (fun j => sm (fun i => f i j) n) m := by
  induction n with
  | zero => simp [sm, sm_zero]
  | succ n ih =>
    rw [sm, ih, ← sm_xor]; rfl
/-- One part alone. -/
theorem sm_one (f : Nat → UInt8) (n i : Nat) (hi : i < n) : sm (fun k => if k = i then f k else 0) n = f i := by
  induction n with
  | zero => omega
  | succ n ih =>
    rw [sm]
    by_cases e : i = n
    · subst e
      rw [if_pos rfl, sm_none (fun k hk => if_neg (by omega)), UInt8.zero_xor]
    · rw [ih (by omega), if_neg (by omega), UInt8.xor_zero]
/-- (AB)x = A(Bx). -/
theorem sm_assoc (A : Nat → UInt8) (B : Nat → Nat → UInt8) (x : Nat → UInt8) (n m : Nat) :
    sm (fun j => gm (sm (fun k => gm (A k) (B k j)) n) (x j)) m = sm (fun k => gm (A k) (sm (fun j => gm (B k j) (x j)) m)) n := by
  have e1 : ∀ j, gm (sm (fun k => gm (A k) (B k j)) n) (x j) = sm (fun k => gm (A k) (gm (B k j) (x j))) n := fun j => by
    rw [← sm_right]; exact sm_congr fun k _ => gm_assoc _ _ _
  rw [sm_congr fun j _ => e1 j, ← sm_swap]
  exact sm_congr fun k _ => sm_left _ _ _
theorem xor_cancel {a b : UInt8} (h : a ^^^ b = 0) : a = b := by
  have : (a ^^^ b) ^^^ b = 0 ^^^ b := by rw [h]
  rwa [UInt8.xor_assoc, UInt8.xor_self, UInt8.xor_zero, UInt8.zero_xor] at this

/-- Each of the first n rows of M' is made of the first n of M. -/
def Comb (n : Nat) (M M' : Mat) : Prop := ∃ T : Mat, ∀ i, i < n → ∀ j, M' i j = sm (fun k => gm (T i k) (M k j)) n
theorem unit_left (n i : Nat) (hi : i < n) (M : Nat → UInt8) : sm (fun k => gm (if i = k then 1 else 0) (M k)) n = M i := by
  have e : ∀ k, gm (if i = k then 1 else 0) (M k) = if k = i then M k else 0 := fun k => by
    by_cases h : i = k
    · rw [if_pos h, if_pos h.symm, one_gm]
    · rw [if_neg h, if_neg (fun e => h e.symm), zero_gm]
  rw [sm_congr fun k _ => e k]
  exact sm_one M n i hi
theorem unit_right (n i : Nat) (hi : i < n) (M : Nat → UInt8) : sm (fun k => gm (M k) (if k = i then 1 else 0)) n = M i := by
  have e : ∀ k, gm (M k) (if k = i then 1 else 0) = if k = i then M k else 0 := fun k => by
    by_cases h : k = i
    · rw [if_pos h, if_pos h, gm_one]
    · rw [if_neg h, if_neg h, gm_zero]
  rw [sm_congr fun k _ => e k]
  exact sm_one M n i hi
theorem Comb.refl (n : Nat) (M : Mat) : Comb n M M := ⟨fun i k => if i = k then 1 else 0, fun i hi j => (unit_left n i hi (fun k => M k j)).symm⟩
theorem Comb.trans {n : Nat} {A B C : Mat} (h : Comb n A B) (k : Comb n B C) : Comb n A C := by
  obtain ⟨T, hT⟩ := h
  obtain ⟨S, hS⟩ := k
  refine ⟨fun i l => sm (fun k => gm (S i k) (T k l)) n, fun i hi j => ?_⟩
  rw [hS i hi j, sm_assoc (S i) T (fun l => A l j) n n]
  exact sm_congr fun k hk => by rw [hT k hk j]
theorem comb_of_two {n : Nat} {M M' : Mat} (h : ∀ i, i < n → ∃ k l c d, k < n ∧ l < n ∧ ∀ j, M' i j = gm c (M k j) ^^^ gm d (M l j)) : Comb n M M' := by
  have h2 : ∀ i, ∃ (T : Nat → UInt8), i < n → ∀ j, M' i j = sm (fun k => gm (T k) (M k j)) n := fun i => by
    by_cases hi : i < n
    · obtain ⟨k, l, c, d, hk, hl, e⟩ := h i hi
      refine ⟨fun x => (if x = k then c else 0) ^^^ (if x = l then d else 0), fun _ j => ?_⟩
      have e1 : ∀ x, gm ((if x = k then c else 0) ^^^ (if x = l then d else 0)) (M x j) = (if x = k then gm c (M x j) else 0) ^^^ (if x = l then gm d (M x j) else 0) := fun x => by
        rw [gm_xor_left]
        congr 1
        · by_cases hx : x = k
          · rw [if_pos hx, if_pos hx]
          · rw [if_neg hx, if_neg hx, zero_gm]
        · by_cases hx : x = l
          · rw [if_pos hx, if_pos hx]
          · rw [if_neg hx, if_neg hx, zero_gm]
      rw [sm_congr fun x _ => e1 x, sm_xor, sm_one (fun x => gm c (M x j)) n k hk, sm_one (fun x => gm d (M x j)) n l hl, e j]
    · exact ⟨fun _ => 0, fun h => absurd h hi⟩
  exact ⟨fun i => Classical.choose (h2 i), fun i hi j => Classical.choose_spec (h2 i) hi j⟩

/-- One column: rows before and behind are made of one another. -/
theorem estep_comb (n c : Nat) (s : Mat × Nat) (ha : s.2 ≤ n) : Comb n s.1 (estep n c s).1 ∧ Comb n (estep n c s).1 s.1 := by
  obtain ⟨M, a⟩ := s
  obtain ⟨p1, p2, p3, p4⟩ := pivot_spec M c n a ha
  unfold estep
  show Comb n M (if a < n ∧ pivot M c n a < n then _ else _ : Mat × Nat).1 ∧ Comb n (if a < n ∧ pivot M c n a < n then _ else _ : Mat × Nat).1 M
  by_cases hc : a < n ∧ pivot M c n a < n
  · rw [if_pos hc]
    obtain ⟨h1, h2⟩ := hc
    generalize hp : pivot M c n a = p at *
    have hpc := p4 h2
    have ra : ∀ j, red1 M p a c a j = gm (M p j) (inv (M p c)) := fun j => by
      have e : ∀ j, swapR M p a a j = M p j := fun j => by
        unfold swapR
        by_cases hp : a = p
        · rw [if_pos hp, hp]
        · rw [if_neg hp, if_pos rfl]
      unfold red1 scaleR; rw [if_pos rfl, e, e]
    have r1 : ∀ i j, i ≠ a → red1 M p a c i j = M (if i = p then a else i) j := fun i j e1 => by
      unfold red1 scaleR swapR; rw [if_neg e1]
      by_cases e2 : i = p
      · rw [if_pos e2, if_pos e2]
      · rw [if_neg e2, if_neg e1, if_neg e2]
    have ta : ∀ j, takeR (red1 M p a c) a c n a j = gm (M p j) (inv (M p c)) := fun j => by
      unfold takeR; rw [if_neg (by omega), ra]
    have t1 : ∀ i j, i < n → i ≠ a → takeR (red1 M p a c) a c n i j = M (if i = p then a else i) j ^^^ gm (M (if i = p then a else i) c) (gm (M p j) (inv (M p c))) := fun i j hi e => by
      unfold takeR; rw [if_pos ⟨hi, e⟩, r1 i j e, r1 i c e, ra]
    constructor
    · refine comb_of_two fun i hi => ?_
      by_cases e : i = a
      · subst e
        refine ⟨p, p, inv (M p c), 0, h2, h2, fun j => ?_⟩
        show takeR _ _ _ _ _ _ = _
        rw [ta, zero_gm, UInt8.xor_zero, gm_comm]
      · refine ⟨if i = p then a else i, p, 1, gm (M (if i = p then a else i) c) (inv (M p c)), by split <;> omega, h2, fun j => ?_⟩
        show takeR _ _ _ _ _ _ = _
        rw [t1 i j hi e, one_gm, gm_assoc, gm_comm (inv (M p c))]
    · refine comb_of_two fun i hi => ?_
      have back : ∀ j, gm (M p c) (takeR (red1 M p a c) a c n a j) = M p j := fun j => by
        rw [ta, gm_comm (M p j), ← gm_assoc, inv_gm _ hpc, one_gm]
      have far : ∀ k, k < n → k ≠ a → ∀ j, M (if k = p then a else k) j = gm 1 (takeR (red1 M p a c) a c n k j) ^^^ gm (M (if k = p then a else k) c) (takeR (red1 M p a c) a c n a j) := fun k hk e j => by
        rw [t1 k j hk e, ta, one_gm, UInt8.xor_assoc, UInt8.xor_self, UInt8.xor_zero]
      by_cases e : i = p
      · subst e
        exact ⟨a, a, M i c, 0, h1, h1, fun j => by show _ = gm _ (takeR _ _ _ _ _ _) ^^^ _; rw [back, zero_gm, UInt8.xor_zero]⟩
      · by_cases e2 : i = a
        · subst e2
          have hp : p ≠ i := fun h => e h.symm
          refine ⟨p, i, 1, M i c, h2, hi, fun j => ?_⟩
          have := far p h2 hp j
          rw [if_pos rfl] at this
          exact this
        · refine ⟨i, a, 1, M i c, hi, h1, fun j => ?_⟩
          have := far i hi e2 j
          rw [if_neg e] at this
          exact this
  · rw [if_neg hc]
    exact ⟨Comb.refl n M, Comb.refl n M⟩
theorem esteps_comb (n : Nat) (M : Mat) (c : Nat) : Comb n M (esteps n M c).1 ∧ Comb n (esteps n M c).1 M := by
  induction c with
  | zero => exact ⟨Comb.refl n M, Comb.refl n M⟩
  | succ c ih =>
    obtain ⟨h1, h2⟩ := estep_comb n c (esteps n M c) (esteps_le n M c).1
    exact ⟨ih.1.trans h1, h2.trans ih.2⟩

/-- What a matrix's rows send to 0, rows made of them send to 0. -/
theorem comb_kernel {n c : Nat} {M M' : Mat} (h : Comb n M M') (x : Nat → UInt8) (hx : ∀ i, i < n → sm (fun j => gm (M i j) (x j)) c = 0) (i : Nat) (hi : i < n) : sm (fun j => gm (M' i j) (x j)) c = 0 := by
  obtain ⟨T, hT⟩ := h
  have e : ∀ j, gm (M' i j) (x j) = gm (sm (fun k => gm (T i k) (M k j)) n) (x j) := fun j => by rw [hT i hi j]
  rw [sm_congr fun j _ => e j, sm_assoc]
  exact sm_none fun k hk => by rw [hx k hk, gm_zero]

theorem mono_ge {a : Nat} {piv : Nat → Nat} (h : ∀ i k, i < k → k < a → piv i < piv k) : ∀ i, i < a → i ≤ piv i
  | 0, _ => Nat.zero_le _
  | i + 1, hi => by
    have h1 := mono_ge h i (by omega)
    have h2 := h i (i + 1) (by omega) hi
    omega
/-- A column that is no row's own. -/
theorem free_col {a c : Nat} {piv : Nat → Nat} (hac : a < c) (h : ∀ i k, i < k → k < a → piv i < piv k) : ∃ j, j < c ∧ ∀ i, i < a → piv i ≠ j := by
  by_cases hall : ∀ i, i < a → piv i = i
  · exact ⟨a, hac, fun i hi => by rw [hall i hi]; omega⟩
  · have : ∃ i, i < a ∧ piv i ≠ i ∧ ∀ k, k < i → piv k = k := by
      apply Classical.byContradiction
      intro hno
      apply hall
      intro i
      induction i using Nat.strongRecOn with
      | _ i ih =>
        intro hi
        apply Classical.byContradiction
        intro hne
        exact hno ⟨i, hi, hne, fun k hk => ih k hk (by omega)⟩
    obtain ⟨i, hi, hne, hk⟩ := this
    have hge := mono_ge h i hi
    refine ⟨i, by omega, fun k hka => ?_⟩
    rcases Nat.lt_trichotomy k i with h1 | h1 | h1
    · rw [hk k h1]; omega
    · rw [h1]; exact hne
    · have := h i k h1 hka; omega
/-- Fewer steps than columns: something that is not 0 is sent to 0. -/
theorem kernel (n c : Nat) (M : Mat) (h : (esteps n M c).2 < c) : ∃ x : Nat → UInt8, (∃ j, j < c ∧ x j ≠ 0) ∧ ∀ i, i < n → sm (fun j => gm (M i j) (x j)) c = 0 := by
  obtain ⟨piv, S⟩ := steps_all n M c
  have hle := (esteps_le n M c).1
  have hcomb := (esteps_comb n M c).2
  generalize esteps n M c = s at *
  obtain ⟨D, a⟩ := s
  obtain ⟨j0, hj0, hfree⟩ := free_col h S.mono
  refine ⟨fun j => (if j = j0 then 1 else 0) ^^^ sm (fun i => if piv i = j then D i j0 else 0) a, ⟨j0, hj0, ?_⟩, fun i hi => comb_kernel hcomb _ (fun k hk => ?_) i hi⟩
  · show (if j0 = j0 then (1 : UInt8) else 0) ^^^ sm (fun i => if piv i = j0 then D i j0 else 0) a ≠ 0
    rw [if_pos rfl, sm_none fun i hi => if_neg (hfree i hi)]; decide
  · show sm (fun j => gm (D k j) ((if j = j0 then 1 else 0) ^^^ sm (fun i => if piv i = j then D i j0 else 0) a)) c = 0
    have e : ∀ j, gm (D k j) ((if j = j0 then 1 else 0) ^^^ sm (fun i => if piv i = j then D i j0 else 0) a) = gm (D k j) (if j = j0 then 1 else 0) ^^^ sm (fun i => if j = piv i then gm (D k j) (D i j0) else 0) a := fun j => by
      rw [gm_xor_right, ← sm_left]
      congr 1
      exact sm_congr fun i _ => by
        by_cases hp : piv i = j
        · rw [if_pos hp, if_pos hp.symm]
        · rw [if_neg hp, if_neg (fun e => hp e.symm), gm_zero]
    rw [sm_congr fun j _ => e j, sm_xor, unit_right c j0 hj0 (fun j => D k j), sm_swap]
    have e2 : ∀ i, i < a → sm (fun j => if j = piv i then gm (D k j) (D i j0) else 0) c = gm (D k (piv i)) (D i j0) := fun i hi => by
      rw [sm_one (fun j => gm (D k j) (D i j0)) c (piv i) (S.lt i hi)]
    rw [sm_congr e2]
    by_cases hka : k < a
    · have e3 : ∀ i, i < a → gm (D k (piv i)) (D i j0) = if i = k then D i j0 else 0 := fun i hi => by
        by_cases hik : i = k
        · subst hik; rw [if_pos rfl]; have : D i (piv i) = 1 := S.one i hi
          rw [this, one_gm]
        · rw [if_neg hik]; have : D k (piv i) = 0 := S.zero i k hi hk (fun e => hik e.symm)
          rw [this, zero_gm]
      rw [sm_congr e3, sm_one (fun i => D i j0) a k hka, UInt8.xor_self]
    · have z : ∀ j, j < c → D k j = 0 := fun j hj => S.low k j (by show a ≤ k; omega) hk hj
      rw [z j0 hj0, sm_none fun i hi => by rw [z _ (S.lt i hi), zero_gm], UInt8.xor_zero]

/-- Cauchy: what all rows send to 0 is 0. -/
theorem cauchy_kernel : ∀ (n : Nat) (u v x : Nat → UInt8), (∀ i k, i < n → k < n → i ≠ k → u i ≠ u k) → (∀ i k, i < n → k < n → i ≠ k → v i ≠ v k) → (∀ i k, i < n → k < n → u i ^^^ v k ≠ 0) →
    (∀ i, i < n → sm (fun j => gm (inv (u i ^^^ v j)) (x j)) n = 0) → ∀ j, j < n → x j = 0
  | 0, _, _, _, _, _, _, _, _, h => by omega
  | n + 1, u, v, x, hu, hv, huv, h, j, hj => by
    have key : ∀ i, i < n → ∀ k, k < n → gm (u i ^^^ v n) (inv (u i ^^^ v k)) = 1 ^^^ gm (v n ^^^ v k) (inv (u i ^^^ v k)) := fun i hi k hk => by
      have e : u i ^^^ v n = (u i ^^^ v k) ^^^ (v n ^^^ v k) := by
        rw [UInt8.xor_comm (v n), UInt8.xor_assoc, ← UInt8.xor_assoc (v k), UInt8.xor_self, UInt8.zero_xor]
      rw [e, gm_xor_left, inv_gm _ (huv i k (by omega) (by omega))]
    have keyn : ∀ k, k < n → gm (u n ^^^ v n) (inv (u n ^^^ v k)) = 1 ^^^ gm (v n ^^^ v k) (inv (u n ^^^ v k)) := fun k hk => by
      have e : u n ^^^ v n = (u n ^^^ v k) ^^^ (v n ^^^ v k) := by
        rw [UInt8.xor_comm (v n), UInt8.xor_assoc, ← UInt8.xor_assoc (v k), UInt8.xor_self, UInt8.zero_xor]
      rw [e, gm_xor_left, inv_gm _ (huv n k (by omega) (by omega))]
    -- each equation times (u i + v n): the sum of all x, and a rest
    have eq1 : ∀ i, i < n + 1 → (∀ k, k < n → gm (u i ^^^ v n) (inv (u i ^^^ v k)) = 1 ^^^ gm (v n ^^^ v k) (inv (u i ^^^ v k))) →
        sm x (n + 1) ^^^ sm (fun k => gm (gm (v n ^^^ v k) (inv (u i ^^^ v k))) (x k)) n = 0 := fun i hi hk => by
      have h1 := h i hi
      have h2 : gm (u i ^^^ v n) (sm (fun j => gm (inv (u i ^^^ v j)) (x j)) (n + 1)) = 0 := by rw [h1, gm_zero]
      rw [← sm_left, sm] at h2
      rw [← gm_assoc, inv_gm _ (huv i n hi (by omega)), one_gm] at h2
      have e : ∀ k, k < n → gm (u i ^^^ v n) (gm (inv (u i ^^^ v k)) (x k)) = x k ^^^ gm (gm (v n ^^^ v k) (inv (u i ^^^ v k))) (x k) := fun k hkn => by
        rw [← gm_assoc, hk k hkn, gm_xor_left, one_gm]
      rw [sm_congr e, sm_xor] at h2
      rw [sm, UInt8.xor_assoc, UInt8.xor_comm (x n), ← UInt8.xor_assoc]
      exact h2
    have eq2 : ∀ i, i < n → sm (fun k => gm (inv (u i ^^^ v k)) (gm (gm (v n ^^^ v k) (inv (u n ^^^ v k))) (x k))) n = 0 := fun i hi => by
      have a1 := eq1 i (by omega) (key i hi)
      have a2 := eq1 n (by omega) keyn
      have a3 : sm (fun k => gm (gm (v n ^^^ v k) (inv (u i ^^^ v k))) (x k)) n ^^^ sm (fun k => gm (gm (v n ^^^ v k) (inv (u n ^^^ v k))) (x k)) n = 0 := by
        rw [← xor_cancel a1, ← xor_cancel a2, UInt8.xor_self]
      rw [← sm_xor] at a3
      have e : ∀ k, k < n → gm (gm (v n ^^^ v k) (inv (u i ^^^ v k))) (x k) ^^^ gm (gm (v n ^^^ v k) (inv (u n ^^^ v k))) (x k) =
          gm (u i ^^^ u n) (gm (inv (u i ^^^ v k)) (gm (gm (v n ^^^ v k) (inv (u n ^^^ v k))) (x k))) := fun k hk => by
        have d1 := inv_gm _ (huv i k (by omega) (by omega))
        have d2 := inv_gm _ (huv n k (by omega) (by omega))
        generalize inv (u i ^^^ v k) = p at d1 ⊢
        generalize inv (u n ^^^ v k) = q at d2 ⊢
        have e3 : u i ^^^ u n = (u i ^^^ v k) ^^^ (u n ^^^ v k) := by
          rw [UInt8.xor_comm (u n), UInt8.xor_assoc, ← UInt8.xor_assoc (v k), UInt8.xor_self, UInt8.zero_xor]
        rw [e3]
        generalize u i ^^^ v k = P at d1 ⊢
        generalize u n ^^^ v k = Q at d2 ⊢
        generalize v n ^^^ v k = r
        generalize x k = y
        rw [gm_xor_left]
        have s1 : gm P (gm p (gm (gm r q) y)) = gm (gm r q) y := by rw [← gm_assoc, d1, one_gm]
        have s2 : gm Q (gm p (gm (gm r q) y)) = gm (gm r p) y := by
          rw [gm_comm r q, gm_assoc q, ← gm_assoc p, gm_comm p q, gm_assoc q, ← gm_assoc Q, d2, one_gm, ← gm_assoc, gm_comm p r]
        rw [s1, s2, UInt8.xor_comm]
      rw [sm_congr e, sm_left] at a3
      rcases (gm_eq_zero _ _).1 a3 with h0 | h0
      · exact absurd (xor_cancel h0) (hu i n (by omega) (by omega) (by omega))
      · exact h0
    have ih := cauchy_kernel n u v (fun k => gm (gm (v n ^^^ v k) (inv (u n ^^^ v k))) (x k)) (fun i k hi hk => hu i k (by omega) (by omega)) (fun i k hi hk => hv i k (by omega) (by omega)) (fun i k hi hk => huv i k (by omega) (by omega)) eq2
    have low : ∀ k, k < n → x k = 0 := fun k hk => by
      have := ih k hk
      rcases (gm_eq_zero _ _).1 this with h0 | h0
      · rcases (gm_eq_zero _ _).1 h0 with h1 | h1
        · exact absurd (xor_cancel h1) (hv n k (by omega) (by omega) (by omega))
        · exact absurd h1 (inv_ne _ (huv n k (by omega) (by omega)))
      · exact h0
    by_cases e : j = n
    · subst e
      have h1 := h 0 (by omega)
      rw [sm, sm_none fun k hk => by rw [low k hk, gm_zero], UInt8.zero_xor] at h1
      rcases (gm_eq_zero _ _).1 h1 with h0 | h0
      · exact absurd h0 (inv_ne _ (huv 0 j (by omega) (by omega)))
      · exact h0
    · exact low j (by omega)
theorem cauchy_full (n : Nat) (M : Mat) (u v : Nat → UInt8) (hu : ∀ i k, i < n → k < n → i ≠ k → u i ≠ u k) (hv : ∀ i k, i < n → k < n → i ≠ k → v i ≠ v k) (huv : ∀ i k, i < n → k < n → u i ^^^ v k ≠ 0)
    (hM : ∀ i j, i < n → j < n → M i j = inv (u i ^^^ v j)) : (esteps n M n).2 = n := by
  apply Classical.byContradiction
  intro hne
  have hle := (esteps_le n M n).1
  obtain ⟨x, ⟨j, hj, hxj⟩, hx⟩ := kernel n n M (by omega)
  exact hxj (cauchy_kernel n u v x hu hv huv (fun i hi => by rw [← hx i hi]; exact sm_congr fun j hj => by rw [hM i j hi hj]) j hj)

/-- Elimination looks at the columns it goes through alone. -/
theorem estep_agree (n c m : Nat) (s t : Mat × Nat) (hc : c < m) (h2 : s.2 = t.2) (h : ∀ i j, j < m → s.1 i j = t.1 i j) : (estep n c s).2 = (estep n c t).2 ∧ ∀ i j, j < m → (estep n c s).1 i j = (estep n c t).1 i j := by
  obtain ⟨M, a⟩ := s
  obtain ⟨M', a'⟩ := t
  obtain rfl : a = a' := h2
  have hf : ∀ f p, findP M c n f p = findP M' c n f p := fun f => by
    induction f with
    | zero => intro p; rfl
    | succ f ih => intro p; unfold findP; rw [show M p c = M' p c from h p c hc, ih]
  have hp : pivot M c n a = pivot M' c n a := hf _ _
  unfold estep
  show (if a < n ∧ pivot M c n a < n then _ else _ : Mat × Nat).2 = (if a < n ∧ pivot M' c n a < n then _ else _ : Mat × Nat).2 ∧ ∀ i j, j < m → (if a < n ∧ pivot M c n a < n then _ else _ : Mat × Nat).1 i j = (if a < n ∧ pivot M' c n a < n then _ else _ : Mat × Nat).1 i j
  rw [hp]
  by_cases hc2 : a < n ∧ pivot M' c n a < n
  · rw [if_pos hc2, if_pos hc2]
    refine ⟨rfl, fun i j hj => ?_⟩
    have h' : ∀ i j, j < m → M i j = M' i j := h
    have hs : ∀ i j, j < m → swapR M (pivot M' c n a) a i j = swapR M' (pivot M' c n a) a i j := fun i j hj => by
      unfold swapR; rw [h' a j hj, h' _ j hj, h' i j hj]
    have hr : ∀ i j, j < m → red1 M (pivot M' c n a) a c i j = red1 M' (pivot M' c n a) a c i j := fun i j hj => by
      unfold red1 scaleR; rw [hs i j hj, hs a c hc]
    show takeR _ _ _ _ _ _ = takeR _ _ _ _ _ _
    unfold takeR; rw [hr i j hj, hr i c hc, hr a j hj]
  · rw [if_neg hc2, if_neg hc2]
    exact ⟨rfl, h⟩
theorem esteps_agree (n m : Nat) (M M' : Mat) (h : ∀ i j, j < m → M i j = M' i j) : ∀ c, c ≤ m → (esteps n M c).2 = (esteps n M' c).2 ∧ ∀ i j, j < m → (esteps n M c).1 i j = (esteps n M' c).1 i j
  | 0, _ => ⟨rfl, h⟩
  | c + 1, hc => by
    obtain ⟨h1, h2⟩ := esteps_agree n m M M' h c (by omega)
    exact estep_agree n c m _ _ (by omega) h1 h2

/-- RANK: as few as a rows make all of them (in so many columns). -/
def Made (n m b : Nat) (M : Mat) : Prop := ∃ C R : Mat, ∀ i j, i < n → j < m → M i j = sm (fun k => gm (C i k) (R k j)) b
theorem sm_short {f : Nat → UInt8} {a n : Nat} (ha : a ≤ n) (h : ∀ k, a ≤ k → k < n → f k = 0) : sm f n = sm f a := by
  induction n with
  | zero => obtain rfl : a = 0 := by omega
            rfl
  | succ n ih =>
    by_cases e : a = n + 1
    · rw [e]
    · rw [sm, h n (by omega) (by omega), UInt8.xor_zero, ih (by omega) (fun k h1 h2 => h k h1 (by omega))]
theorem rank_made (n m : Nat) (M : Mat) : Made n m (esteps n M m).2 M := by
  obtain ⟨piv, S⟩ := steps_all n M m
  obtain ⟨T, hT⟩ := (esteps_comb n M m).2
  refine ⟨T, (esteps n M m).1, fun i j hi hj => ?_⟩
  rw [hT i hi j]
  exact sm_short (esteps_le n M m).1 fun k h1 h2 => by rw [S.low k j h1 h2 hj, gm_zero]
theorem rank_least (n m b : Nat) (M : Mat) (h : Made n m b M) : (esteps n M m).2 ≤ b := by
  apply Classical.byContradiction
  intro hlt
  obtain ⟨piv, S⟩ := steps_all n M m
  obtain ⟨T, hT⟩ := (esteps_comb n M m).1
  obtain ⟨C, R, hM⟩ := h
  have hle := (esteps_le n M m).1
  generalize esteps n M m = s at *
  obtain ⟨D, a⟩ := s
  have hab : b < a := by omega
  -- D's rows made of R's
  have hD : ∀ i j, i < a → j < m → D i j = sm (fun l => gm (sm (fun k => gm (T i k) (C k l)) n) (R l j)) b := fun i j hi hj => by
    have := hT i (by have : a ≤ n := hle; omega) j
    have this : D i j = sm (fun k => gm (T i k) (M k j)) n := this
    rw [this, sm_assoc (T i) C (fun l => R l j)]
    exact sm_congr fun k hk => by rw [hM k j hk hj]
  obtain ⟨E, hE⟩ : ∃ E : Mat, ∀ i l, E i l = sm (fun k => gm (T i k) (C k l)) n := ⟨_, fun _ _ => rfl⟩
  obtain ⟨y, ⟨j, hj, hyj⟩, hy⟩ := kernel b a (fun l i => E i l) (by have := (esteps_le b (fun l i => E i l) a).1; omega)
  have z : sm (fun i => gm (y i) (D i (piv j))) a = 0 := by
    have e : ∀ i, i < a → gm (y i) (D i (piv j)) = gm (y i) (sm (fun l => gm (E i l) (R l (piv j))) b) := fun i hi => by
      rw [hD i _ hi (S.lt j hj)]; congr 1; exact sm_congr fun l _ => by rw [hE]
    rw [sm_congr e, ← sm_assoc]
    refine sm_none fun l hl => ?_
    have e2 : sm (fun k => gm (y k) (E k l)) a = 0 := by
      rw [← hy l hl]; exact sm_congr fun k _ => gm_comm _ _
    rw [e2, zero_gm]
  have e3 : ∀ i, i < a → gm (y i) (D i (piv j)) = if i = j then y i else 0 := fun i hi => by
    by_cases e : i = j
    · subst e; rw [if_pos rfl]; have : D i (piv i) = 1 := S.one i hi
      rw [this, gm_one]
    · rw [if_neg e]; have : D i (piv j) = 0 := S.zero j i hj (by have : a ≤ n := hle; omega) e
      rw [this, gm_zero]
  rw [sm_congr e3, sm_one y a j hj] at z
  exact hyj z
theorem Made.left {n m l b : Nat} {M : Mat} (A : Mat) (h : Made l m b M) : Made n m b (fun i j => sm (fun k => gm (A i k) (M k j)) l) := by
  obtain ⟨C, R, e⟩ := h
  refine ⟨fun i k => sm (fun x => gm (A i x) (C x k)) l, R, fun i j hi hj => ?_⟩
  rw [sm_assoc (A i) C (fun k => R k j)]
  exact sm_congr fun k hk => by rw [e k j hk hj]
theorem Made.right {n m l b : Nat} {M : Mat} (A : Mat) (h : Made n l b M) : Made n m b (fun i j => sm (fun k => gm (M i k) (A k j)) l) := by
  obtain ⟨C, R, e⟩ := h
  refine ⟨C, fun i j => sm (fun x => gm (R i x) (A x j)) l, fun i j hi hj => ?_⟩
  rw [← sm_assoc (C i) R (fun k => A k j)]
  exact sm_congr fun k hk => by rw [e i k hi hk]
theorem Made.rows {n m b : Nat} {M : Mat} (h : Made n m b M) (p : Nat → Nat) (hp : ∀ i, i < n → p i < n) : Made n m b (fun i j => M (p i) j) := by
  obtain ⟨C, R, e⟩ := h
  exact ⟨fun i k => C (p i) k, R, fun i j hi hj => e (p i) j (hp i hi) hj⟩
theorem Made.congr {n m b : Nat} {M M' : Mat} (h : Made n m b M) (e : ∀ i j, i < n → j < m → M' i j = M i j) : Made n m b M' := by
  obtain ⟨C, R, k⟩ := h
  exact ⟨C, R, fun i j hi hj => by rw [e i j hi hj, k i j hi hj]⟩

/-- INVERSE: a square matrix beside the unit, eliminated to its full. -/
theorem inverse_both (n : Nat) (X A : Mat) (hA : ∀ i j, i < n → A i j = if j < n then X i j else if j = n + i then 1 else 0) (hfull : (esteps n A n).2 = n) :
    (∀ i j, i < n → j < n → sm (fun k => gm ((esteps n A n).1 i (n + k)) (X k j)) n = if i = j then 1 else 0) ∧ (∀ i j, i < n → j < n → sm (fun k => gm (X i k) ((esteps n A n).1 k (n + j))) n = if i = j then 1 else 0) := by
  obtain ⟨piv, S⟩ := steps_all n A n
  obtain ⟨T, hT⟩ := (esteps_comb n A n).1
  obtain ⟨U, hU⟩ := (esteps_comb n A n).2
  generalize esteps n A n = s at *
  obtain ⟨D, a⟩ := s
  obtain rfl : a = n := hfull
  have hpiv : ∀ i, i < a → piv i = i := by
    intro i hi
    have h1 := mono_ge S.mono i hi
    have h2 : ∀ k, k < a → piv (a - 1 - k) ≤ a - 1 - k := fun k => by
      induction k with
      | zero => intro hk; have := S.lt (a - 1 - 0) (by omega); omega
      | succ k ih => intro hk; have := ih (by omega); have := S.mono (a - 1 - (k + 1)) (a - 1 - k) (by omega) (by show a - 1 - k < a; omega); omega
    have h3 := h2 (a - 1 - i) (by omega)
    rw [show a - 1 - (a - 1 - i) = i from by omega] at h3
    omega
  have hI : ∀ i j, i < a → j < a → D i j = if i = j then 1 else 0 := fun i j hi hj => by
    by_cases e : i = j
    · subst e; rw [if_pos rfl]; have := S.one i hi; rw [hpiv i hi] at this; exact this
    · rw [if_neg e]; have := S.zero j i hj hi e; rw [hpiv j hj] at this; exact this
  have hAl : ∀ i j, i < a → j < a → A i j = X i j := fun i j hi hj => by rw [hA i j hi, if_pos hj]
  have hAr : ∀ i j, i < a → j < a → A i (a + j) = if i = j then 1 else 0 := fun i j hi hj => by
    rw [hA i _ hi, if_neg (by omega)]
    by_cases e : i = j
    · rw [if_pos e, if_pos (by omega)]
    · rw [if_neg e, if_neg (by omega)]
  have hJ : ∀ i j, i < a → j < a → D i (a + j) = T i j := fun i j hi hj => by
    have : D i (a + j) = sm (fun k => gm (T i k) (A k (a + j))) a := hT i hi (a + j)
    rw [this, sm_congr fun k hk => by rw [hAr k j hk hj]]
    exact unit_right a j hj (T i)
  have hX : ∀ i j, i < a → j < a → U i j = X i j := fun i j hi hj => by
    have : A i j = sm (fun k => gm (U i k) (D k j)) a := hU i hi j
    rw [hAl i j hi hj, sm_congr fun k hk => by rw [hI k j hk hj]] at this
    rw [this, unit_right a j hj (U i)]
  constructor
  · intro i j hi hj
    show sm (fun k => gm (D i (a + k)) (X k j)) a = _
    rw [← hI i j hi hj]
    have : D i j = sm (fun k => gm (T i k) (A k j)) a := hT i hi j
    rw [this]
    exact sm_congr fun k hk => by rw [hJ i k hi hk, hAl k j hk hj]
  · intro i j hi hj
    show sm (fun k => gm (X i k) (D k (a + j))) a = _
    rw [← hAr i j hi hj]
    have : A i (a + j) = sm (fun k => gm (U i k) (D k (a + j))) a := hU i hi (a + j)
    rw [this]
    exact sm_congr fun k hk => by rw [hX i k hi hk]
end Go.Proofs.Ythlnnclpfgokjaa.Gf
namespace Go.Proofs.Ythlnnclpfgokjaa.Gf
/-- Row i of the unit's k rows with Cauchy's below them. -/
def genF (k i j : Nat) : UInt8 := if i < k then (if i = j then 1 else 0) else inv (UInt8.ofNat (128 + (i - k)) ^^^ UInt8.ofNat j)
theorem ofNat_neq {a b : Nat} (ha : a < 256) (hb : b < 256) (h : a ≠ b) : UInt8.ofNat a ≠ UInt8.ofNat b := by
  intro e
  have := congrArg UInt8.toNat e
  rw [UInt8.toNat_ofNat', UInt8.toNat_ofNat'] at this
  omega
theorem cau_xor_ne (i j : Nat) (hi : i < 64) (hj : j < 64) : UInt8.ofNat (128 + i) ^^^ UInt8.ofNat j ≠ 0 := by
  intro h
  exact ofNat_neq (by omega) (by omega) (by omega) (xor_cancel h)
theorem genF_ne (k i j : Nat) (hk : k ≤ i) (hi : i - k < 64) (hj : j < 64) : genF k i j ≠ 0 := by
  unfold genF
  rw [if_neg (by omega)]
  exact inv_ne _ (cau_xor_ne _ _ hi hj)
/-- A sum whose terms are 0 outside some places. -/
theorem sm_filter (P : Nat → Bool) (f : Nat → UInt8) (k : Nat) (h : ∀ j, j < k → P j = false → f j = 0) :
    sm f k = sm (fun t => f (((List.range k).filter P).getD t 0)) ((List.range k).filter P).length := by
  induction k with
  | zero => rfl
  | succ k ih =>
    rw [sm, ih (fun j hj => h j (by omega)), List.range_succ, List.filter_append]
    by_cases hp : P k = true
    · have e : List.filter P [k] = [k] := by simp [hp]
      rw [e, List.length_append]
      show _ = sm _ (_ + 1)
      rw [sm]
      congr 1
      · refine sm_congr fun t ht => ?_
        rw [List.getD_eq_getElem?_getD, List.getD_eq_getElem?_getD, List.getElem?_append_left ht]
      · rw [List.getD_eq_getElem?_getD, List.getElem?_append_right (Nat.le_refl _)]; simp
    · have hp' : P k = false := by simpa using hp
      have e : List.filter P [k] = [] := by simp [hp']
      rw [e, List.append_nil, h k (by omega) hp', UInt8.xor_zero]
theorem filter_at (P : Nat → Bool) (k t : Nat) (ht : t < ((List.range k).filter P).length) : ((List.range k).filter P).getD t 0 < k ∧ P (((List.range k).filter P).getD t 0) = true := by
  have hm : ((List.range k).filter P).getD t 0 ∈ (List.range k).filter P := by
    rw [List.getD_eq_getElem?_getD, List.getElem?_eq_getElem ht]; exact List.getElem_mem ht
  have := List.mem_filter.1 hm
  exact ⟨by simpa using this.1, this.2⟩
theorem filter_mono (P : Nat → Bool) (k i j : Nat) (hij : i < j) (hj : j < ((List.range k).filter P).length) : ((List.range k).filter P).getD i 0 < ((List.range k).filter P).getD j 0 := by
  have h : ((List.range k).filter P).Pairwise (· < ·) := List.Pairwise.filter _ List.pairwise_lt_range
  have := List.pairwise_iff_getElem.1 h i j (by omega) hj hij
  rw [List.getD_eq_getElem?_getD, List.getD_eq_getElem?_getD, List.getElem?_eq_getElem (by omega), List.getElem?_eq_getElem hj]
  exact this
theorem filter_has (P : Nat → Bool) (k j : Nat) (hj : j < k) (h : P j = true) : ∃ t, t < ((List.range k).filter P).length ∧ ((List.range k).filter P).getD t 0 = j := by
  have hm : j ∈ (List.range k).filter P := List.mem_filter.2 ⟨by simpa using hj, h⟩
  obtain ⟨t, ht, e⟩ := List.getElem_of_mem hm
  exact ⟨t, ht, by rw [List.getD_eq_getElem?_getD, List.getElem?_eq_getElem ht]; exact e⟩
def hitB (a : Nat) (p : Nat → Nat) (j : Nat) : Bool := (List.range a).any fun i => p i == j
theorem hitB_iff (a : Nat) (p : Nat → Nat) (j : Nat) : hitB a p j = true ↔ ∃ i, i < a ∧ p i = j := by
  unfold hitB; rw [List.any_eq_true]
  constructor
  · rintro ⟨i, hi, e⟩; exact ⟨i, by simpa using hi, by simpa using e⟩
  · rintro ⟨i, hi, e⟩; exact ⟨i, by simpa using hi, by simpa using e⟩
/-- Places that no row of the first a has: at most m - t below m, if t rows lie there. -/
theorem miss_count (a : Nat) (p : Nat → Nat) (hp : ∀ i j, i < j → j < a → p i < p j) : ∀ m t, t ≤ a → (∀ i, i < t → p i < m) → t + ((List.range m).filter fun j => !hitB a p j).length ≤ m
  | 0, 0, _, _ => by simp
  | 0, t + 1, _, h => by have := h 0 (by omega); omega
  | m + 1, t, ht, h => by
    rw [List.range_succ, List.filter_append, List.length_append]
    by_cases hm : hitB a p m = true
    · have e : List.filter (fun j => !hitB a p j) [m] = [] := by simp [hm]
      rw [e, List.length_nil, Nat.add_zero]
      match t, ht, h with
      | 0, _, _ => have := miss_count a p hp m 0 (by omega) (fun i hi => by omega); omega
      | t + 1, ht, h =>
        have h1 := h t (by omega)
        have := miss_count a p hp m t (by omega) (fun i hi => by have := hp i t hi (by omega); omega)
        omega
    · have e : (List.filter (fun j => !hitB a p j) [m]).length ≤ 1 := List.length_filter_le _ _
      have := miss_count a p hp m t ht (fun i hi => by
        have h1 := h i hi
        have h2 : p i ≠ m := fun e => hm ((hitB_iff a p m).2 ⟨i, by omega, e⟩)
        omega)
      omega
theorem split_at (k : Nat) (p : Nat → Nat) : ∀ n, (∀ i j, i < j → j < n → p i < p j) → ∃ a, a ≤ n ∧ (∀ i, i < a → p i < k) ∧ ∀ i, a ≤ i → i < n → k ≤ p i
  | 0, _ => ⟨0, by omega, fun i hi => by omega, fun i _ hi => by omega⟩
  | n + 1, hp => by
    obtain ⟨a, h1, h2, h3⟩ := split_at k p n (fun i j hij hj => hp i j hij (by omega))
    by_cases ha : a < n
    · refine ⟨a, by omega, h2, fun i hi hn => ?_⟩
      by_cases e : i = n
      · subst e
        have := h3 a (by omega) ha
        have := hp a i (by omega) (by omega)
        omega
      · exact h3 i hi (by omega)
    · by_cases hk : p n < k
      · refine ⟨n + 1, by omega, fun i hi => ?_, fun i hi hn => by omega⟩
        by_cases e : i = n
        · subst e; exact hk
        · exact h2 i (by omega)
      · refine ⟨n, by omega, fun i hi => h2 i (by omega), fun i hi hn => ?_⟩
        obtain rfl : i = n := by omega
        omega
theorem gen_zero (k : Nat) (hk : k ≤ 64) (p : Nat → Nat) (hp : ∀ i j, i < j → j < k → p i < p j) (hpN : ∀ i, i < k → p i < k + 64) (x : Nat → UInt8)
    (hx : ∀ i, i < k → sm (fun j => gm (genF k (p i) j) (x j)) k = 0) : ∀ j, j < k → x j = 0 := by
  obtain ⟨a, ha, h2, h3⟩ := split_at k p k hp
  have hpa : ∀ i j, i < j → j < a → p i < p j := fun i j hij hj => hp i j hij (by omega)
  have hit0 : ∀ j, hitB a p j = true → x j = 0 := fun j hj => by
    obtain ⟨i, hi, rfl⟩ := (hitB_iff a p j).1 hj
    have h := hx i (by omega)
    have e : ∀ j, j < k → gm (genF k (p i) j) (x j) = gm (if p i = j then 1 else 0) (x j) := fun j _ => by unfold genF; rw [if_pos (h2 i hi)]
    rw [sm_congr e, unit_left k (p i) (h2 i hi) x] at h
    exact h
  have hcnt := miss_count a p hpa k a (Nat.le_refl _) h2
  obtain ⟨q, hq⟩ : ∃ q, q = (List.range k).filter fun j => !hitB a p j := ⟨_, rfl⟩
  rw [← hq] at hcnt
  have key : ∀ t, t < q.length → x (q.getD t 0) = 0 := by
    refine cauchy_kernel q.length (fun t => UInt8.ofNat (128 + (p (a + t) - k))) (fun t => UInt8.ofNat (q.getD t 0)) (fun t => x (q.getD t 0)) (fun i j hi hj hne => ?_) (fun i j hi hj hne => ?_) (fun i j hi hj => ?_) (fun i hi => ?_)
    · have b1 := hpN (a + i) (by omega)
      have b2 := hpN (a + j) (by omega)
      have c1 := h3 (a + i) (by omega) (by omega)
      have c2 := h3 (a + j) (by omega) (by omega)
      refine ofNat_neq (by omega) (by omega) ?_
      rcases Nat.lt_or_gt_of_ne hne with h | h
      · have := hp (a + i) (a + j) (by omega) (by omega); omega
      · have := hp (a + j) (a + i) (by omega) (by omega); omega
    · subst hq
      have b1 := (filter_at _ k i hi).1
      have b2 := (filter_at _ k j hj).1
      refine ofNat_neq (by omega) (by omega) ?_
      rcases Nat.lt_or_gt_of_ne hne with h | h
      · have := filter_mono _ k i j h hj; omega
      · have := filter_mono _ k j i h hi; omega
    · have b1 := hpN (a + i) (by omega)
      have c1 := h3 (a + i) (by omega) (by omega)
      have b2 : q.getD j 0 < k := by subst hq; exact (filter_at _ k j hj).1
      exact cau_xor_ne _ _ (by omega) (by omega)
    · have h := hx (a + i) (by omega)
      rw [sm_filter (fun j => !hitB a p j) _ k (fun j hj hn => by
        have : hitB a p j = true := by simpa using hn
        rw [hit0 j this, gm_zero]), ← hq] at h
      rw [← h]
      refine sm_congr fun t ht => ?_
      have c1 := h3 (a + i) (by omega) (by omega)
      unfold genF
      rw [if_neg (by omega)]
  intro j hj
  by_cases hh : hitB a p j = true
  · exact hit0 j hh
  · obtain ⟨t, ht, e⟩ := filter_has (fun j => !hitB a p j) k j hj (by simp [hh])
    rw [← hq] at ht e
    rw [← e]; exact key t ht
theorem gen_full (k : Nat) (hk : k ≤ 64) (p : Nat → Nat) (hp : ∀ i j, i < j → j < k → p i < p j) (hpN : ∀ i, i < k → p i < k + 64) (A : Mat) (hA : ∀ i j, i < k → j < k → A i j = genF k (p i) j) : (esteps k A k).2 = k := by
  apply Classical.byContradiction
  intro hne
  have hle := (esteps_le k A k).1
  obtain ⟨x, ⟨j, hj, hxj⟩, hx⟩ := kernel k k A (by omega)
  exact hxj (gen_zero k hk p hp hpN x (fun i hi => by rw [← hx i hi]; exact sm_congr fun j hj => by rw [hA i j hi hj]) j hj)
end Go.Proofs.Ythlnnclpfgokjaa.Gf
namespace Go.Proofs.Ythlnnclpfgokjaa
open Go.RowKit Gf
theorem genF_cau (k i j : Nat) (h : k ≤ i) : genF k i j = cauF (i - k) j := by unfold genF; rw [if_neg (by omega)]; rfl
/-- Have texts one length? -/
def alikeB (l : List ByteArray) : Bool := l.all fun s => s.size == (sAt l 0).size
theorem alikeB_iff (l : List ByteArray) : alikeB l = true ↔ ∀ k, k < l.length → (sAt l k).size = (sAt l 0).size := by
  unfold alikeB
  rw [List.all_eq_true]
  constructor
  · intro h k hk; simpa using h _ (sAt_mem hk)
  · intro h s hs
    obtain ⟨j, hj, rfl⟩ := List.getElem_of_mem hs
    have := h j hj
    rw [sAt_get hj] at this
    simpa using this
/-- Shards, each times a number, summed up. -/
def sumL (b : ByteArray) (l : List ByteArray) : ByteArray := bs ((List.range (sAt l 0).size).map fun i => sm (fun j => gm (byteAt b j) (byteAt (sAt l j) i)) l.length)
theorem sumL_size (b : ByteArray) (l : List ByteArray) : (sumL b l).size = (sAt l 0).size := by unfold sumL; rw [bs_size]; simp
theorem byteAt_map (n i : Nat) (f : Nat → UInt8) (hi : i < n) : byteAt (bs ((List.range n).map f)) i = f i := by
  rw [byteAt_bs, List.getD_eq_getElem?_getD, List.getElem?_map, List.getElem?_range hi]; rfl
theorem sumL_at (b : ByteArray) (l : List ByteArray) (i : Nat) (hi : i < (sAt l 0).size) : byteAt (sumL b l) i = sm (fun j => gm (byteAt b j) (byteAt (sAt l j) i)) l.length := byteAt_map _ _ _ hi
theorem sAt_map (n i : Nat) (f : Nat → ByteArray) (hi : i < n) : sAt ((List.range n).map f) i = f i := by
  rw [sAt_get (by simpa using hi)]; simp
theorem byteAt_high (s : ByteArray) (k : Nat) (h : s.size ≤ k) : byteAt s k = 0 := by
  unfold byteAt
  rw [List.getD_eq_getElem?_getD, List.getElem?_eq_none (by rw [Array.length_toList]; exact h)]; rfl
theorem str_ext {a b : ByteArray} (hs : a.size = b.size) (h : ∀ i, i < a.size → byteAt a i = byteAt b i) : a = b := by
  rw [← bs_of a, ← bs_of b]
  congr 1
  refine List.ext_getElem (by rw [Array.length_toList, Array.length_toList]; exact hs) fun i h1 h2 => ?_
  have := h i (by rw [Array.length_toList] at h1; exact h1)
  unfold byteAt at this
  rw [List.getD_eq_getElem?_getD, List.getD_eq_getElem?_getD, List.getElem?_eq_getElem h1, List.getElem?_eq_getElem h2] at this
  exact this
/-- Parity shards. -/
def parL (data : List ByteArray) (m : Nat) : List ByteArray := (List.range m).map fun i => sumL (sAt (mat m data.length cauF) i) data
theorem parL_length (d : List ByteArray) (m : Nat) : (parL d m).length = m := by simp [parL]
theorem parL_at (d : List ByteArray) (m i : Nat) (hi : i < m) : sAt (parL d m) i = sumL (bs ((List.range d.length).map fun j => cauF i j)) d := by
  unfold parL
  rw [sAt_map _ _ _ hi, sAt_mat _ _ _ _ hi]
theorem parL_byte (d : List ByteArray) (m i x : Nat) (hi : i < m) (hx : x < (sAt d 0).size) : byteAt (sAt (parL d m) i) x = sm (fun j => gm (cauF i j) (byteAt (sAt d j) x)) d.length := by
  rw [parL_at d m i hi, sumL_at _ _ _ hx]
  exact sm_congr fun j hj => by rw [byteAt_map _ _ _ hj]
def encOk (d : List ByteArray) (m : Int) : Prop := 1 ≤ d.length ∧ d.length ≤ 32 ∧ alikeB d = true ∧ 0 ≤ m ∧ m ≤ 64 - (d.length : Int)
instance (d : List ByteArray) (m : Int) : Decidable (encOk d m) := by unfold encOk; infer_instance
def encR (d : List ByteArray) (m : Int) : List ByteArray × Int := if encOk d m then (parL d m.toNat, 0) else ([], 1)
/-- The places of the shards that are there. -/
def pickL (there : List Bool) (n : Nat) : List Nat := (List.range n).filter fun i => there.getD i false
theorem pickL_succ (t : List Bool) (n : Nat) : pickL t (n + 1) = pickL t n ++ if t.getD n false then [n] else [] := by
  unfold pickL
  rw [List.range_succ, List.filter_append]
  congr 1
  rw [List.filter_cons]; rfl
theorem pickL_len (t : List Bool) (n : Nat) : (pickL t n).length ≤ n := by
  unfold pickL
  have := List.length_filter_le (fun i => t.getD i false) (List.range n)
  simpa using this
def someL (all : List ByteArray) (there : List Bool) (n : Nat) : List ByteArray := (pickL there n).map (sAt all)
def genRow (k i : Nat) : ByteArray := bs ((List.range k).map (genF k i))
def rowsL (k : Nat) (there : List Bool) (n : Nat) : List ByteArray := (pickL there n).map (genRow k)
theorem someL_length (a : List ByteArray) (t : List Bool) (n : Nat) : (someL a t n).length = (pickL t n).length := by simp [someL]
theorem rowsL_length (k : Nat) (t : List Bool) (n : Nat) : (rowsL k t n).length = (pickL t n).length := by simp [rowsL]
theorem getD_lt {l : List Nat} {i : Nat} (h : i < l.length) : l.getD i 0 = l[i] := by rw [List.getD_eq_getElem?_getD, List.getElem?_eq_getElem h]; rfl
theorem someL_at (a : List ByteArray) (t : List Bool) (n i : Nat) (hi : i < (pickL t n).length) : sAt (someL a t n) i = sAt a ((pickL t n).getD i 0) := by
  rw [sAt_get (by rw [someL_length]; exact hi), getD_lt hi]; simp [someL]
theorem rowsL_take (k : Nat) (t : List Bool) (n : Nat) (h : k ≤ (pickL t n).length) : (rowsL k t n).take k = mat k k fun i j => genF k ((pickL t n).getD i 0) j := by
  refine List.ext_getElem (by rw [mat_length, List.length_take, rowsL_length]; omega) fun i h1 h2 => ?_
  rw [mat_length] at h2
  rw [List.getElem_take]
  simp only [rowsL, mat, List.getElem_map, List.getElem_range]
  rw [getD_lt (by omega)]; rfl
/-- The rows of the first k shards that are there can be undone. -/
theorem back_is (k : Nat) (t : List Bool) (n : Nat) (h1 : 1 ≤ k) (h2 : k ≤ 32) (hn : n ≤ 64) (h : k ≤ (pickL t n).length) :
    ∃ B : Mat, invR ((rowsL k t n).take k) = (mat k k B, 0) ∧ ∀ i j, i < k → j < k → sm (fun l => gm (B i l) (genF k ((pickL t n).getD l 0) j)) k = if i = j then 1 else 0 := by
  rw [rowsL_take k t n h]
  have hA : ∀ i j, i < k → augM (mat k k fun i j => genF k ((pickL t n).getD i 0) j) k i j = if j < k then genF k ((pickL t n).getD i 0) j else if j = k + i then 1 else 0 := fun i j hi => by
    unfold augM
    by_cases hj : j < k
    · rw [if_pos hj, if_pos hj, ent_mat _ _ _ _ _ hi hj]
    · rw [if_neg hj, if_neg hj]
  have hp : ∀ i, i < k → (pickL t n).getD i 0 < n := fun i hi => (filter_at _ n i (by unfold pickL at h; omega)).1
  have hfull : (esteps k (augM (mat k k fun i j => genF k ((pickL t n).getD i 0) j) k) k).2 = k := by
    refine gen_full k (by omega) (fun i => (pickL t n).getD i 0) (fun i j hij hj => filter_mono _ n i j hij (by unfold pickL at h; omega)) (fun i hi => by have := hp i hi; omega) _ (fun i j hi hj => ?_)
    rw [hA i j hi, if_pos hj]
  have hb := inverse_both k _ _ hA hfull
  refine ⟨fun i j => (esteps k (augM (mat k k fun i j => genF k ((pickL t n).getD i 0) j) k) k).1 i (k + j), ?_, hb.1⟩
  unfold invR
  rw [if_pos ⟨ok_mat k k _ h1 (by omega) h1 (by omega), by rw [mat_length]; unfold col; rw [col_mat k k _ 0 (by omega)]⟩]
  unfold invE
  rw [mat_length, hfull, if_neg (by omega)]
def backL (k : Nat) (t : List Bool) (n : Nat) : List ByteArray := (invR ((rowsL k t n).take k)).1
def outL (all : List ByteArray) (t : List Bool) (k : Nat) : List ByteArray := (List.range k).map fun i => sumL (sAt (backL k t all.length) i) ((someL all t all.length).take k)
def rebL (all : List ByteArray) (t : List Bool) (k : Nat) : List ByteArray := outL all t k ++ parL (outL all t k) (all.length - k)
def rebOk (all : List ByteArray) (t : List Bool) (k : Int) : Prop := 1 ≤ k ∧ k ≤ 32 ∧ k ≤ (all.length : Int) ∧ all.length ≤ 64 ∧ t.length = all.length
instance (a : List ByteArray) (t : List Bool) (k : Int) : Decidable (rebOk a t k) := by unfold rebOk; infer_instance
def rebR (all : List ByteArray) (t : List Bool) (k : Int) : List ByteArray × Int :=
  if rebOk all t k then (if alikeB (someL all t all.length) = false then ([], 1) else if (pickL t all.length).length < k.toNat then ([], 70) else (rebL all t k.toNat, 0)) else ([], 1)
theorem outL_length (a : List ByteArray) (t : List Bool) (k : Nat) : (outL a t k).length = k := by simp [outL]
theorem rebL_length (a : List ByteArray) (t : List Bool) (k : Nat) (h : k ≤ a.length) : (rebL a t k).length = a.length := by
  unfold rebL; rw [List.length_append, outL_length, parL_length]; omega
def fitOk (all : List ByteArray) (k : Int) : Prop := 1 ≤ k ∧ k ≤ 32 ∧ k ≤ (all.length : Int) ∧ all.length ≤ 64 ∧ alikeB all = true
instance (a : List ByteArray) (k : Int) : Decidable (fitOk a k) := by unfold fitOk; infer_instance
def fitB (all : List ByteArray) (k : Nat) : Bool := decide (parL (all.take k) (all.length - k) = all.drop k)
def fitR (all : List ByteArray) (k : Int) : Bool × Int := if fitOk all k then (fitB all k.toNat, 0) else (false, 1)
/-- A text cut. -/
def cutN (s : ByteArray) (k : Nat) : Nat := (s.size + k - 1) / k
def cutL (s : ByteArray) (k : Nat) : List ByteArray := (List.range k).map fun i => bs ((List.range (cutN s k)).map fun j => byteAt s (i * cutN s k + j))
def cutR (s : ByteArray) (k : Int) : List ByteArray × Int := if 1 ≤ k ∧ k ≤ 32 then (cutL s k.toNat, 0) else ([], 1)
theorem cutL_length (s : ByteArray) (k : Nat) : (cutL s k).length = k := by simp [cutL]
end Go.Proofs.Ythlnnclpfgokjaa
namespace Go.Proofs.Ythlnnclpfgokjaa
open Go.RowKit Gf
set_option linter.unusedVariables false
theorem alikeB_no {ss : List ByteArray} {k : Nat} (hk : k < ss.length) (e : ¬ (sAt ss k).size = (sAt ss 0).size) : alikeB ss = false := by
  rw [Bool.eq_false_iff]; intro h; exact e ((alikeB_iff ss).1 h k hk)
theorem alike_any (A : Option Addr) (n c : Nat) (ss : List ByteArray) (w : World) (B : Nat) (h : Reads w B 1 A n (strV ss)) (hn : n ≤ 9223372036854775807) :
    Calls Try.prog 64 #[.slice A n c] w fun e w' => e = .returned (.bool (alikeB ss)) ∧ w = w' := by
  have hl : ss.length = n := h.len
  have HH := Lib.hid h
  have HL := Lib.hid hl
  clear hl h
  go_enter Try.func64, Try.ntmps64
  go_wp2
  go_loop [7] (fun i => ∃ k : Nat, k ≤ n ∧ i = .int .i64 k ∧ Hid (∀ j, j < k → (sAt ss j).size = (sAt ss 0).size)) (fun i => n - (intOf i).toNat)
  case atStart => exact ⟨0, by omega, rfl, Lib.hid (fun j h => by omega)⟩
  case round =>
    obtain ⟨k, hk, rfl, H⟩ := hrel
    by_cases hlt : k < n
    · obtain ⟨ad, rfl, hb, hc⟩ := HH.out.str (k := 0) (by omega)
      have hc0 : w.cell? ad = some (.string (sAt ss 0)) := by have := hc 0 (by omega); simpa [Addr.add] using this
      have hck := hc k hlt
      clear hc
      by_cases e : (sAt ss k).size = (sAt ss 0).size
      · have e1 : (sAt ss k).size ≤ (sAt ss 0).size := by omega
        have e2 : (sAt ss 0).size ≤ (sAt ss k).size := by omega
        have E := Lib.hid e
        clear e
        go_wp2
        go_round
        case rel => exact ⟨k + 1, by omega, by go_num, Lib.hid (fun j hj => by
          by_cases hjk : j < k
          · exact H.out j hjk
          · obtain rfl : j = k := by omega
            exact E.out)⟩
        case measure => simp [intOf]; omega
      · have X : Hid (alikeB ss = false) := Lib.hid (alikeB_no (by rw [HL.out]; exact hlt) e)
        go_wp2
        go_ret
        exact ⟨by rw [X.out]; rfl, rfl⟩
    · obtain rfl : k = n := by omega
      have X : Hid (alikeB ss = true) := Lib.hid ((alikeB_iff ss).2 fun j hj => H.out j (by rw [← HL.out]; exact hj))
      go_wp2
      go_ret
      exact ⟨by rw [X.out]; rfl, rfl⟩
theorem ralike_any (A : Option Addr) (n c : Nat) (ss : List ByteArray) (w : World) (B : Nat) (h : Reads w B 1 A n (strV ss)) (hn : n ≤ 9223372036854775807) :
    Calls Try.prog 63 #[.slice A n c] w fun e w' => e = .returned (.bool (alikeB ss)) ∧ ∃ m, w' = w.drewN m := by
  have hl : ss.length = n := h.len
  have HH := Lib.hid h
  have HL := Lib.hid hl
  clear hl h
  go_enter Try.func63, Try.ntmps63
  go_wp2
  go_loopw [3] (fun i wr => ∃ k : Nat, k ≤ n ∧ i = .int .i64 k ∧ Hid (∀ j, j < k → (sAt ss j).size = (sAt ss 0).size) ∧ ∃ m, wr = w.drewN m) (fun i _ => n - (intOf i).toNat)
  case atStart => exact ⟨0, by omega, rfl, Lib.hid (fun j h => by omega), 0, rfl⟩
  case round =>
    obtain ⟨k, hk, rfl, H, m, rfl⟩ := hrel
    by_cases hlt : k < n
    · obtain ⟨ad, rfl, hb, hc⟩ := HH.out.str (k := 0) (by omega)
      have hc0 : w.cell? ad = some (.string (sAt ss 0)) := by have := hc 0 (by omega); simpa [Addr.add] using this
      have hck := hc k hlt
      clear hc
      by_cases e : (sAt ss k).size = (sAt ss 0).size
      · have e1 : (sAt ss k).size ≤ (sAt ss 0).size := by omega
        have e2 : (sAt ss 0).size ≤ (sAt ss k).size := by omega
        have E := Lib.hid e
        clear e
        go_wp2
        go_quiet (fail)
        go_wp2
        go_roundw
        case rel => exact ⟨k + 1, by omega, by go_num, Lib.hid (fun j hj => by
          by_cases hjk : j < k
          · exact H.out j hjk
          · obtain rfl : j = k := by omega
            exact E.out), _, rfl⟩
        case measure => simp [intOf]; omega
      · have X : Hid (alikeB ss = false) := Lib.hid (alikeB_no (by rw [HL.out]; exact hlt) e)
        go_wp2
        go_quiet (fail)
        go_wp2
        go_ret
        exact ⟨by rw [X.out]; rfl, _, World.drewN_drewN _ _ _⟩
    · obtain rfl : k = n := by omega
      have X : Hid (alikeB ss = true) := Lib.hid ((alikeB_iff ss).2 fun j hj => H.out j (by rw [← HL.out]; exact hj))
      go_wp2
      go_ret
      exact ⟨by rw [X.out]; rfl, _, rfl⟩
end Go.Proofs.Ythlnnclpfgokjaa
namespace Go.Proofs.Ythlnnclpfgokjaa.Gf
def R1 (a b : Nat) : Nat → Nat
  | 0 => 0
  | k + 1 => if b / 2 ^ k % 2 = 1 then R1 a b k ^^^ (a * 2 ^ k) else R1 a b k
def R2 (n : Nat) : Nat → Nat
  | 0 => n
  | k + 1 => if R2 n k / 2 ^ (14 - k) % 2 = 1 then R2 n k ^^^ (285 * 2 ^ (14 - k - 8)) else R2 n k
theorem n4 (a b c d : Nat) : (a ^^^ b) ^^^ (c ^^^ d) = (a ^^^ c) ^^^ (b ^^^ d) := by
  rw [Nat.xor_assoc, Nat.xor_assoc, ← Nat.xor_assoc b c d, ← Nat.xor_assoc c b d, Nat.xor_comm b c]
theorem R1_left (a a' b k : Nat) : R1 (a ^^^ a') b k = R1 a b k ^^^ R1 a' b k := by
  induction k with
  | zero => simp [R1]
  | succ k ih =>
    simp only [R1, ih]
    by_cases h : b / 2 ^ k % 2 = 1
    · have e : (a ^^^ a') * 2 ^ k = (a * 2 ^ k) ^^^ (a' * 2 ^ k) := by
        rw [← Nat.shiftLeft_eq, ← Nat.shiftLeft_eq, ← Nat.shiftLeft_eq]; exact Nat.shiftLeft_xor_distrib
      simp only [h, if_true, e, n4]
    · simp only [h, if_false]
theorem R1_right (a b b' k : Nat) : R1 a (b ^^^ b') k = R1 a b k ^^^ R1 a b' k := by
  induction k with
  | zero => simp [R1]
  | succ k ih =>
    simp only [R1, ih, Nat.xor_div_two_pow]
    have e := @Nat.xor_mod_two_eq_one (b / 2 ^ k) (b' / 2 ^ k)
    by_cases h : b / 2 ^ k % 2 = 1 <;> by_cases h' : b' / 2 ^ k % 2 = 1
    · rw [if_neg (by rw [e]; simp [h, h']), if_pos h, if_pos h', n4, Nat.xor_self, Nat.xor_zero]
    · rw [if_pos (by rw [e]; simp [h, h']), if_pos h, if_neg h', Nat.xor_assoc, Nat.xor_comm (R1 a b' k), ← Nat.xor_assoc]
    · rw [if_pos (by rw [e]; simp [h, h']), if_neg h, if_pos h', Nat.xor_assoc]
    · rw [if_neg (by rw [e]; simp [h, h']), if_neg h, if_neg h']
theorem R2_xor (n m k : Nat) : R2 (n ^^^ m) k = R2 n k ^^^ R2 m k := by
  induction k with
  | zero => simp [R2]
  | succ k ih =>
    simp only [R2, ih, Nat.xor_div_two_pow]
    have e := @Nat.xor_mod_two_eq_one (R2 n k / 2 ^ (14 - k)) (R2 m k / 2 ^ (14 - k))
    by_cases h : R2 n k / 2 ^ (14 - k) % 2 = 1 <;> by_cases h' : R2 m k / 2 ^ (14 - k) % 2 = 1
    · rw [if_neg (by rw [e]; simp [h, h']), if_pos h, if_pos h', n4, Nat.xor_self, Nat.xor_zero]
    · rw [if_pos (by rw [e]; simp [h, h']), if_pos h, if_neg h', Nat.xor_assoc, Nat.xor_comm (R2 m k), ← Nat.xor_assoc]
    · rw [if_pos (by rw [e]; simp [h, h']), if_neg h, if_pos h', Nat.xor_assoc]
    · rw [if_neg (by rw [e]; simp [h, h']), if_neg h, if_neg h']
theorem R_basis : (basis.all fun a => basis.all fun b => UInt8.ofNat (R2 (R1 a.toNat b.toNat 8) 7) == gm a b) = true := by decide +kernel
theorem R_gm (a b : UInt8) : R2 (R1 a.toNat b.toNat 8) 7 % 256 = (gm a b).toNat := by
  have h : UInt8.ofNat (R2 (R1 a.toNat b.toNat 8) 7) = gm a b := by
    refine lin_ext (fun a => UInt8.ofNat (R2 (R1 a.toNat b.toNat 8) 7)) (fun a => gm a b) (fun _ _ => by simp only [UInt8.toNat_xor, R1_left, R2_xor, UInt8.ofNat_xor]) (fun _ _ => gm_xor_left _ _ _) (fun x hx => ?_) a
    refine lin_ext (fun b => UInt8.ofNat (R2 (R1 x.toNat b.toNat 8) 7)) (fun b => gm x b) (fun _ _ => by simp only [UInt8.toNat_xor, R1_right, R2_xor, UInt8.ofNat_xor]) (fun _ _ => gm_xor_right _ _ _) (fun y hy => ?_) b
    have := R_basis
    rw [List.all_eq_true] at this
    have := this x hx
    rw [List.all_eq_true] at this
    exact eq_of_beq (this y hy)
  rw [← h, UInt8.toNat_ofNat']
theorem R1_lt (a b k : Nat) (ha : a < 256) (hk : k ≤ 8) : R1 a b k < 65536 := by
  induction k with
  | zero => simp [R1]
  | succ k ih =>
    have := ih (by omega)
    have h2 : a * 2 ^ k < 2 ^ 16 := by
      have : 2 ^ k ≤ 2 ^ 7 := Nat.pow_le_pow_right (by omega) (by omega)
      calc a * 2 ^ k ≤ 255 * 2 ^ 7 := Nat.mul_le_mul (by omega) this
        _ < 2 ^ 16 := by decide
    unfold R1
    split
    · exact Nat.xor_lt_two_pow (n := 16) (by omega) h2
    · omega
theorem shl_small (a k : Nat) (ha : a < 286) (hk : k < 8) : (a : Int) * 2 ^ k % 4294967296 = ((a * 2 ^ k : Nat) : Int) := by
  have : 2 ^ k ≤ 2 ^ 7 := Nat.pow_le_pow_right (by omega) (by omega)
  have h2 : a * 2 ^ k ≤ 286 * 2 ^ 7 := Nat.mul_le_mul (by omega) this
  have : ((a * 2 ^ k : Nat) : Int) = (a : Int) * 2 ^ k := by simp
  rw [← this]
  omega
theorem R2_lt (n k : Nat) (hn : n < 65536) : R2 n k < 65536 := by
  induction k with
  | zero => simpa [R2] using hn
  | succ k ih =>
    unfold R2
    split
    · refine Nat.xor_lt_two_pow (n := 16) (by omega) ?_
      have : 2 ^ (14 - k - 8) ≤ 2 ^ 6 := Nat.pow_le_pow_right (by omega) (by omega)
      calc 285 * 2 ^ (14 - k - 8) ≤ 285 * 2 ^ 6 := Nat.mul_le_mul_left _ this
        _ < 2 ^ 16 := by decide
    · omega
/-- The document's quotient, sought from 0 on. -/
theorem over_find (a b : UInt8) (hb : b ≠ 0) (x : UInt8) : gm x b = a ↔ x = gm a (inv b) := by
  constructor
  · intro h; rw [← h, gm_assoc, inv_gm b hb, gm_one]
  · intro h; rw [h, over_back a b hb]
end Go.Proofs.Ythlnnclpfgokjaa.Gf
namespace Go.Proofs.Ythlnnclpfgokjaa
open Go.RowKit Gf
theorem bit_test (B k : Nat) : (((B : Int) / 2 ^ k).tmod 2 == 1) = decide (B / 2 ^ k % 2 = 1) := by
  have e : ((B : Int) / 2 ^ k).tmod 2 = ((B / 2 ^ k % 2 : Nat) : Int) := by
    rw [Int.tmod_eq_emod_of_nonneg (Int.ediv_nonneg (by omega) (by simpa using Int.natCast_nonneg (2 ^ k)))]
    simp
  rw [e]
  by_cases h : B / 2 ^ k % 2 = 1
  · simp [h]
  · rw [decide_eq_false h, beq_eq_false_iff_ne]; omega

theorem rtimes_any (a b : UInt8) (w : World) :
    Calls Try.prog 23 #[.int .u8 (a.toNat : Int), .int .u8 (b.toNat : Int)] w fun e w' => e = .returned (.int .u8 ((gm a b).toNat : Int)) ∧ w = w' := by
  have ha : a.toNat < 256 := a.toNat_lt
  have hb : b.toNat < 256 := b.toNat_lt
  have Hr := Lib.hid (R_gm a b)
  obtain ⟨r, hr⟩ : ∃ r, r = gm a b := ⟨_, rfl⟩
  rw [← hr] at Hr ⊢
  clear hr
  generalize a.toNat = A at *
  generalize b.toNat = B at *
  go_enter Try.func23, Try.ntmps23
  go_wp2
  go_loop [5, 6] (fun x i => ∃ (k n : Nat), k ≤ 8 ∧ n < 65536 ∧ i = .int .i64 k ∧ x = .int .u32 n ∧ Hid (n = R1 A B k)) (fun _ i => 8 - (intOf i).toNat)
  case atStart => exact ⟨0, 0, by omega, by omega, rfl, rfl, Lib.hid rfl⟩
  case round =>
    obtain ⟨k, n, h1, h2, rfl, rfl, H⟩ := hrel
    by_cases hk : k < 8
    · have hlt := R1_lt A B (k + 1) ha (by omega)
      by_cases hbit : B / 2 ^ k % 2 = 1
      · have ht : (((B : Int) / 2 ^ k).tmod 2 == 1) = true := by rw [bit_test]; simpa using hbit
        have E : Hid (bits BinOp.xor IntKind.u32 (↑n) (↑A * 2 ^ k % 4294967296) = ((R1 A B (k + 1) : Nat) : Int)) := Lib.hid (by
          rw [shl_small A k (by omega) hk, u32_xor_nat n _ (by omega) (by
            have : 2 ^ k ≤ 2 ^ 7 := Nat.pow_le_pow_right (by omega) (by omega)
            have : A * 2 ^ k ≤ 286 * 2 ^ 7 := Nat.mul_le_mul (by omega) this
            omega), H.out, R1, if_pos hbit])
        clear hbit
        go_wp2
        go_round
        case rel => exact ⟨k + 1, R1 A B (k + 1), by omega, hlt, by go_num, by rw [E.out], Lib.hid rfl⟩
        case measure => simp [intOf]; omega
      · have ht : (((B : Int) / 2 ^ k).tmod 2 == 1) = false := by rw [bit_test]; simpa using hbit
        have E : Hid (n = R1 A B (k + 1)) := Lib.hid (by rw [R1, if_neg hbit]; exact H.out)
        clear hbit
        go_wp2
        go_round
        case rel => exact ⟨k + 1, n, by omega, h2, by go_num, rfl, E⟩
        case measure => simp [intOf]; omega
    · obtain rfl : k = 8 := by omega
      go_wp2
      clear h2
      go_loop [5, 7] (fun x i => ∃ (k n : Nat), k ≤ 7 ∧ n < 65536 ∧ i = .int .i64 (14 - (k : Int)) ∧ x = .int .u32 n ∧ Hid (n = R2 (R1 A B 8) k)) (fun _ i => (intOf i - 7).toNat)
      case atStart => exact ⟨0, n, by omega, by rw [H.out]; exact R1_lt A B 8 ha (by omega), rfl, rfl, Lib.hid (by rw [R2]; exact H.out)⟩
      case round =>
        obtain ⟨k, m, h1, h2, rfl, rfl, H2⟩ := hrel
        by_cases hk : k < 7
        · have hlt := R2_lt (R1 A B 8) (k + 1) (R1_lt A B 8 ha (by omega))
          by_cases hbit : m / 2 ^ (14 - k) % 2 = 1
          · have ht : (((m : Int) / 2 ^ (14 - k)).tmod 2 == 1) = true := by rw [bit_test]; simpa using hbit
            have E : Hid (bits BinOp.xor IntKind.u32 (↑m) (285 * 2 ^ (14 - k - 8) % 4294967296) = ((R2 (R1 A B 8) (k + 1) : Nat) : Int)) := Lib.hid (by
              have e := shl_small 285 (14 - k - 8) (by omega) (by omega)
              have : 2 ^ (14 - k - 8) ≤ 2 ^ 7 := Nat.pow_le_pow_right (by omega) (by omega)
              have h3 : 285 * 2 ^ (14 - k - 8) ≤ 286 * 2 ^ 7 := Nat.mul_le_mul (by omega) this
              have e' : (285 : Int) * 2 ^ (14 - k - 8) % 4294967296 = ((285 * 2 ^ (14 - k - 8) : Nat) : Int) := e
              rw [e', u32_xor_nat m _ (by omega) (by omega), R2, ← H2.out, if_pos hbit])
            clear hbit
            go_wp2
            go_round
            case rel => exact ⟨k + 1, R2 (R1 A B 8) (k + 1), by omega, hlt, by go_num, by rw [E.out], Lib.hid rfl⟩
            case measure => simp [intOf]; omega
          · have ht : (((m : Int) / 2 ^ (14 - k)).tmod 2 == 1) = false := by rw [bit_test]; simpa using hbit
            have E : Hid (m = R2 (R1 A B 8) (k + 1)) := Lib.hid (by rw [R2, ← H2.out, if_neg hbit])
            clear hbit
            go_wp2
            go_round
            case rel => exact ⟨k + 1, m, by omega, h2, by go_num, rfl, E⟩
            case measure => simp [intOf]; omega
        · obtain rfl : k = 7 := by omega
          have E : Hid ((m : Int) % 256 = ((r.toNat : Nat) : Int)) := Lib.hid (by rw [← Hr.out, ← H2.out]; omega)
          go_wp2
          go_ret
          exact ⟨by rw [← E.out]; rfl, rfl⟩

theorem rtimes_k (k : Nat) (hk : k < 256) (b : UInt8) (w : World) :
    Calls Try.prog 23 #[.int .u8 (k : Int), .int .u8 (b.toNat : Int)] w fun e w' => e = .returned (.int .u8 ((gm (UInt8.ofNat k) b).toNat : Int)) ∧ w = w' := by
  have h := rtimes_any (UInt8.ofNat k) b w
  have e : (UInt8.ofNat k).toNat = k := by rw [UInt8.toNat_ofNat']; omega
  rw [e] at h
  exact h

theorem u8_eq {a b : UInt8} : (((a.toNat : Int) == (b.toNat : Int)) = true) ↔ a = b := by
  rw [beq_iff_eq]
  constructor
  · intro h; exact UInt8.toNat_inj.1 (by omega)
  · intro h; rw [h]

theorem rover_any (a b : UInt8) (w : World) :
    Calls Try.prog 17 #[.int .u8 (a.toNat : Int), .int .u8 (b.toNat : Int)] w fun e w' => e = .returned (num (overB a b)) ∧ w = w' := by
  by_cases h : b = 0
  · subst h
    go_enter Try.func17, Try.ntmps17
    go_wp2
    go_ret2
    exact ⟨rfl, rfl⟩
  · have ht := u8_ne h
    have X : Hid (overB a b = (gm a (inv b), 0)) := Lib.hid (by unfold overB; rw [if_neg h])
    have Y : Hid (∀ x, gm x b = a ↔ x = gm a (inv b)) := Lib.hid (over_find a b h)
    clear h
    obtain ⟨r, hr⟩ : ∃ r, r = gm a (inv b) := ⟨_, rfl⟩
    rw [← hr] at X Y
    clear hr
    have hr : r.toNat < 256 := r.toNat_lt
    go_enter Try.func17, Try.ntmps17
    go_wp2
    go_loop [6] (fun x => ∃ k : Nat, k ≤ r.toNat ∧ x = .int .i64 k) (fun x => r.toNat - (intOf x).toNat)
    case atStart => exact ⟨0, by omega, rfl⟩
    case round =>
      obtain ⟨k, hk, rfl⟩ := hrel
      by_cases hlt : k < r.toNat
      · have tt : (((gm (UInt8.ofNat k) b).toNat : Int) != (a.toNat : Int)) = true := by
          rw [bne, Bool.not_eq_true', ← Bool.not_eq_true, u8_eq, Y.out]
          intro h2
          rw [← h2, UInt8.toNat_ofNat'] at hlt
          omega
        go_wp2_with (go_at_call 23; refine (rtimes_k _ (by omega) _ _).mono ?_; rintro e w' ⟨rfl, rfl⟩)
        go_round
        case rel => exact ⟨k + 1, by omega, by go_num⟩
        case measure => simp [intOf]; omega
      · have ek : k = r.toNat := by omega
        have tt : (((gm (UInt8.ofNat k) b).toNat : Int) != (a.toNat : Int)) = false := by
          rw [bne, Bool.not_eq_false', u8_eq, Y.out, ek, UInt8.ofNat_toNat]
        have Ek := Lib.hid ek
        clear ek
        go_wp2_with (go_at_call 23; refine (rtimes_k _ (by omega) _ _).mono ?_; rintro e w' ⟨rfl, rfl⟩)
        go_ret2
        exact ⟨by rw [X.out, num]; rw [← Ek.out]; rfl, rfl⟩

theorem rpower_any (a : UInt8) (n : Int) (h1 : -9223372036854775808 ≤ n) (h2 : n ≤ 9223372036854775807) (w : World) :
    Calls Try.prog 19 #[.int .u8 (a.toNat : Int), .int .i64 n] w fun e w' => e = .returned (num (powB a n)) ∧ w = w' := by
  by_cases h0 : n = 0
  · subst h0
    go_enter Try.func19, Try.ntmps19
    go_wp2
    go_ret2
    exact ⟨rfl, rfl⟩
  · have hn : (n == 0) = false := by rw [beq_eq_false_iff_ne]; exact h0
    by_cases ha : a = 0
    · subst ha
      by_cases hneg : n < 0
      · have X : Hid (powB 0 n = (0, 1)) := Lib.hid (by unfold powB; rw [if_neg h0, if_pos rfl, if_pos hneg])
        clear h0
        go_enter Try.func19, Try.ntmps19
        go_wp2
        go_ret2
        exact ⟨by rw [X.out]; rfl, rfl⟩
      · have X : Hid (powB 0 n = (0, 0)) := Lib.hid (by unfold powB; rw [if_neg h0, if_pos rfl, if_neg hneg])
        clear h0
        go_enter Try.func19, Try.ntmps19
        go_wp2
        go_ret2
        exact ⟨by rw [X.out]; rfl, rfl⟩
    · have ht := u8_ne ha
      have X : Hid (powB a n = (pw a (powE n), 0)) := Lib.hid (by unfold powB; rw [if_neg h0, if_neg ha])
      clear h0 ha
      have b1 : -255 < n.tmod 255 := by rw [Int.tmod_eq_emod]; split <;> omega
      have b2 : n.tmod 255 < 255 := by rw [Int.tmod_eq_emod]; split <;> omega
      have hp : powE n < 256 := by unfold powE; omega
      obtain ⟨m, hm⟩ : ∃ m, m = powE n := ⟨_, rfl⟩
      rw [← hm] at X hp
      by_cases hneg : n.tmod 255 < 0
      · have e : Hid (n.tmod 255 + 255 = (m : Int)) := Lib.hid (by
          rw [hm]; unfold powE
          rw [Int.tmod_eq_emod] at hneg ⊢; split at hneg <;> (split <;> omega))
        clear hm
        go_enter Try.func19, Try.ntmps19
        go_wp2
        rw [e.out]
        clear e hneg b1 b2
        go_loop [7, 8] (fun p i => ∃ k : Nat, k ≤ m ∧ i = .int .i64 k ∧ p = .int .u8 ((pw a k).toNat : Int)) (fun _ i => m - (intOf i).toNat)
        case atStart => exact ⟨0, by omega, rfl, rfl⟩
        case round =>
          obtain ⟨k, hk, rfl, rfl⟩ := hrel
          by_cases hlt : k < m
          · go_wp2_with (go_at_call 23; refine (rtimes_any _ _ _).mono ?_; rintro e w' ⟨rfl, rfl⟩)
            go_round
            case rel => exact ⟨k + 1, by omega, by go_num, rfl⟩
            case measure => simp [intOf]; omega
          · obtain rfl : k = m := by omega
            go_wp2
            go_ret2
            exact ⟨by rw [X.out]; rfl, rfl⟩
      · have e : Hid (n.tmod 255 = (m : Int)) := Lib.hid (by
          rw [hm]; unfold powE
          rw [Int.tmod_eq_emod] at hneg ⊢; split at hneg <;> (split <;> omega))
        clear hm
        go_enter Try.func19, Try.ntmps19
        go_wp2
        rw [e.out]
        clear e hneg b1 b2
        go_loop [7, 8] (fun p i => ∃ k : Nat, k ≤ m ∧ i = .int .i64 k ∧ p = .int .u8 ((pw a k).toNat : Int)) (fun _ i => m - (intOf i).toNat)
        case atStart => exact ⟨0, by omega, rfl, rfl⟩
        case round =>
          obtain ⟨k, hk, rfl, rfl⟩ := hrel
          by_cases hlt : k < m
          · go_wp2_with (go_at_call 23; refine (rtimes_any _ _ _).mono ?_; rintro e w' ⟨rfl, rfl⟩)
            go_round
            case rel => exact ⟨k + 1, by omega, by go_num, rfl⟩
            case measure => simp [intOf]; omega
          · obtain rfl : k = m := by omega
            go_wp2
            go_ret2
            exact ⟨by rw [X.out]; rfl, rfl⟩
end Go.Proofs.Ythlnnclpfgokjaa
namespace Go.Proofs.Ythlnnclpfgokjaa
open Go.RowKit Gf
set_option linter.unusedVariables false
theorem bytes_made (w : World) (n : Nat) (hn : n ≤ 70368744177664) :
    (Instr.makeSlice 44 (.int .i64 (n : Int)) (.int .i64 (n : Int))).run Try.prog w = .ok (.slice (some ⟨w.heap.size, 0, none⟩) n n) (w.alloc (.cells (madeCells #[.int .u8 0] n) 5)) := by
  obtain ⟨i, hi, h1, h2, h3⟩ := elemByte.info
  have := run_make_rowN (P := Try.prog) 44 5 i _ (by kernel_rfl) hi h1 .i64 .i64 n n (Nat.le_refl _) (by rw [h3]; omega) (by omega) w
  rw [h2, Nat.mul_one] at this
  exact this
theorem made_set (w : World) (z v : Value) (n k : Nat) (T : TypeId) : (w.alloc (.cells ((madeCells #[z] n).setIfInBounds k v) T)).rowIs w.heap.size T n (fun x => if x = k then v else z) := by
  have := World.rowIs_alloc w ((madeCells #[z] n).setIfInBounds k v) T (fun x => if x = k then v else z) (fun i hi => by
    rw [Array.size_setIfInBounds, size_madeCells] at hi
    rw [Array.getElem?_setIfInBounds]
    by_cases e : i = k
    · subst e; simp [size_madeCells, hi]
    · rw [if_neg (fun h => e h.symm), if_neg e]
      simp [madeCells, hi, Nat.mod_one])
  rw [Array.size_setIfInBounds, size_madeCells] at this
  exact this
theorem add0 (g j : Nat) : ({ block := g, off := 0, spot := none } : Addr).add j = ⟨g, j, none⟩ := by unfold Addr.add; split <;> simp_all
theorem unit_cell (w : World) (m k : Nat) (T : TypeId) : ∀ j, j < m → (w.alloc (.cells ((madeCells #[.int .u8 0] m).setIfInBounds k (.int .u8 1)) T)).cell? (({ block := w.heap.size, off := 0 } : Addr).add j) = some (.int .u8 ((((List.range m).map fun j => if k = j then (1 : UInt8) else 0).getD j 0).toNat : Int)) := by
  intro j hj
  rw [add0, (made_set w (.int .u8 0) (.int .u8 1) m k T).cell hj]
  by_cases e : j = k
  · subst e; simp [hj]
  · have : ¬ k = j := fun h => e h.symm
    simp [hj, e, this]
theorem ref_step {w wr w' : World} {T : TypeId} {o : Obj} {v v' : Value} {k : Nat} {l : List ByteArray} {u : ByteArray} (h : wr.ownsRow w.heap.size T 1 v k (strV l) ∧ Below w.heap.size w wr)
    (ho : w'.ownsRow w.heap.size T 1 v' (k + 1) (strV l ++ [.string u])) (hg : (wr.alloc o).grownBy w' v.ownBlock) : w'.ownsRow w.heap.size T 1 v' (k + 1) (strV (l ++ [u])) ∧ Below w.heap.size w w' :=
  ⟨by simpa [strV] using ho, below_own (h.2.alloc h.2.size o) (h.1.alloc o) hg⟩
def matP (c : Nat) (F : Nat → Nat → UInt8) (k : Nat) : List ByteArray := mat k c F
theorem mat_succ (k c : Nat) (F : Nat → Nat → UInt8) : mat (k + 1) c F = mat k c F ++ [bs ((List.range c).map fun j => F k j)] := by
  simp [mat, List.range_succ]
set_option maxRecDepth 100000 in
theorem runit_any (n : Int) (w : World) :
    Calls Try.prog 24 #[.int .i64 n] w fun e w' => RetStrs w w' e (unitR n) := by
  by_cases h : n < 1 ∨ 64 < n
  · have X : Hid (unitR n = ([], 1)) := Lib.hid (by unfold unitR; rw [if_neg]; omega)
    rcases h with h | h
    · go_enter Try.func24, Try.ntmps24
      go_wp2
      go_ret2
      exact retNil w 1 _ X.out (Below.refl _ _)
    · go_enter Try.func24, Try.ntmps24
      go_wp2
      go_ret2
      exact retNil w 1 _ X.out (Below.refl _ _)
  · obtain ⟨m, rfl⟩ : ∃ m : Nat, n = m := ⟨n.toNat, by omega⟩
    have h1 : 1 ≤ m := by omega
    have h2 : m ≤ 64 := by omega
    have X : Hid (unitR (m : Int) = (mat m m (fun i j => if i = j then 1 else 0), 0)) := Lib.hid (by unfold unitR; rw [if_pos (by omega)]; rfl)
    clear h
    go_enter Try.func24, Try.ntmps24
    go_wp2
    go_loopw [4, 5, 6] (fun v i _ wr => ∃ k : Nat, k ≤ m ∧ i = .int .i64 k ∧ Hid (wr.ownsRow w.heap.size 9 1 v k (strV (mat k m (fun i j => if i = j then 1 else 0))) ∧ Below w.heap.size w wr)) (fun _ i _ _ => m - (intOf i).toNat)
    case atStart => exact ⟨0, by omega, rfl, Lib.hid ⟨World.ownsRow_nil _ _ _ _, Below.refl _ _⟩⟩
    case round =>
      obtain ⟨k, hk, rfl, HR⟩ := hrel
      by_cases hlt : k < m
      · have hmk := fun W => bytes_made W m (by omega)
        have hle := HR.out.2.size
        have hc0 : (wr.alloc (.cells (madeCells #[.int .u8 0] m) 5)).cell? ⟨wr.heap.size, k, none⟩ = some (.int .u8 0) := (World.rowIs_made wr (.int .u8 0) m 5).cell hlt
        have hk1 : k ≤ 4611686018427387904 := by omega
        have hk2 : (k + 1) * 16 ≤ 140737488355328 := by omega
        go_wp2_with (first
          | (with_reducible refine conv_str_wp (e := 5) (by kernel_rfl) (by kernel_rfl) (by kernel_rfl) rfl _ rfl ⟨wr.heap.size, 0, none⟩ m m rfl ((List.range m).map fun j => if k = j then 1 else 0) (by simp) (unit_cell wr m k _) ?_)
          | (at_builtin; refine append1_at elemStr rfl _ _ rfl w.heap.size _ k _ rfl (HR.out.1.alloc _) _ _ rfl (size1 _ _) rfl hk1 hk2 (alloc_le hle _) ?_; intro v' w' ho hg))
        have H' := Lib.hid (ref_step HR.out ho hg)
        go_roundw
        case rel => exact ⟨k + 1, by omega, by go_num, by rw [mat_succ]; exact H'⟩
        case measure => simp [intOf]; omega
      · obtain rfl : k = m := by omega
        go_wp2
        go_ret2
        refine ⟨_, by rw [X.out]; rfl, ?_, HR.out.2⟩
        rw [X.out]
        show wr.ownsRow w.heap.size _ 1 _ (mat k k _).length _
        rw [mat_length]
        exact HR.out.1

theorem rover_x (x y : Int) (a b : UInt8) (hx : x = (a.toNat : Int)) (hy : y = (b.toNat : Int)) (hb : b ≠ 0) (r : UInt8) (hr : r = gm a (inv b)) (w : World) :
    Calls Try.prog 17 #[.int .u8 x, .int .u8 y] w fun e w' => e = .returned (.tuple #[.int .u8 (r.toNat : Int), .int .i64 0]) ∧ w = w' := by
  subst hx hy hr
  have h := rover_any a b w
  unfold overB at h
  rw [if_neg hb] at h
  exact h
/-- 1 over each number below x, but 0. -/
def overV (x : Nat) : Nat → Value := fun i => .int .u8 (((if 1 ≤ i ∧ i < x then inv (UInt8.ofNat i) else 0).toNat : Int))
theorem over_step (x i : Nat) (h : 1 ≤ x) : (if i = x then (.int .u8 ((inv (UInt8.ofNat x)).toNat : Int)) else overV x i) = overV (x + 1) i := by
  unfold overV
  by_cases e : i = x
  · rw [if_pos e, if_pos ⟨by omega, by omega⟩, e]
  · rw [if_neg e]
    by_cases h2 : 1 ≤ i ∧ i < x
    · rw [if_pos h2, if_pos ⟨by omega, by omega⟩]
    · rw [if_neg h2, if_neg (by omega)]
theorem zeros_u8 : Try.zeroCells74 = Array.replicate 256 (.int .u8 0) := by kernel_rfl
theorem cauA_ne (i j : Nat) (hi : i < 64) (hj : j < 64) : cauA i j ≠ 0 := by
  intro h
  have h2 := congrArg (fun x => (x ^^^ UInt8.ofNat j).toNat) h
  simp only [cauA] at h2
  rw [UInt8.xor_assoc, UInt8.xor_self, UInt8.xor_zero, UInt8.zero_xor, UInt8.toNat_ofNat', UInt8.toNat_ofNat'] at h2
  omega
theorem cau_over (i j : Nat) (hi : i < 64) (hj : j < 64) : overV 256 (cauA i j).toNat = .int .u8 ((cauF i j).toNat : Int) := by
  unfold overV
  have h1 : (cauA i j).toNat ≠ 0 := fun h => cauA_ne i j hi hj (UInt8.toNat_inj.1 (by simpa using h))
  have h2 : (cauA i j).toNat < 256 := (cauA i j).toNat_lt
  rw [if_pos ⟨by omega, h2⟩, UInt8.ofNat_toNat]
  rfl
def cauRow (i n : Nat) : List UInt8 := (List.range n).map fun j => cauF i j
theorem cauRow_succ (i n : Nat) : cauRow i (n + 1) = cauRow i n ++ [cauF i n] := by simp [cauRow, List.range_succ]
theorem cau_bits2 (i j : Nat) (hi : i < 64) (hj : j < 64) : bits .xor .u8 (128 + (i : Int)) (j : Int) = ((cauA i j).toNat : Int) := cau_bits i j hi hj

theorem reads_u8 {w : World} {B n : Nat} {A : Option Addr} {l : List UInt8} (h : Reads w B 1 A n (u8s l)) (hn : 1 ≤ n) : ∃ ad, A = some ad ∧ ad.block < B ∧ ∀ j, j < n → w.cell? (ad.add j) = some (.int .u8 ((l.getD j 0).toNat : Int)) := by
  obtain ⟨ad, e, hb, hc⟩ := h.2 (by omega)
  refine ⟨ad, e, hb, fun j hj => hc j _ ?_⟩
  have hl : l.length = n := by have := h.1; rw [u8s_length] at this; omega
  simp [u8s, hl, hj, List.getD]

theorem rcauchy_bad (r c : Int) (w : World) (h : r < 1 ∨ 64 < r ∨ c < 1 ∨ 64 < c) :
    Calls Try.prog 26 #[.int .i64 r, .int .i64 c] w fun e w' => RetStrs w w' e (cauR r c) := by
  have X : Hid (cauR r c = ([], 1)) := Lib.hid (by unfold cauR; rw [if_neg]; omega)
  by_cases h1 : r < 1
  · go_enter Try.func26, Try.ntmps26
    go_wp2
    go_ret2
    exact retNil w 1 _ X.out (Below.refl _ _)
  by_cases h2 : 64 < r
  · go_enter Try.func26, Try.ntmps26
    go_wp2
    go_ret2
    exact retNil w 1 _ X.out (Below.refl _ _)
  by_cases h3 : c < 1
  · go_enter Try.func26, Try.ntmps26
    go_wp2
    go_ret2
    exact retNil w 1 _ X.out (Below.refl _ _)
  have h4 : 64 < c := by omega
  clear h
  go_enter Try.func26, Try.ntmps26
  go_wp2
  go_ret2
  exact retNil w 1 _ X.out (Below.refl _ _)

set_option maxRecDepth 100000 in
set_option maxHeartbeats 1000000 in
theorem rcauchy_any (r c : Int) (w : World) :
    Calls Try.prog 26 #[.int .i64 r, .int .i64 c] w fun e w' => RetStrs w w' e (cauR r c) := by
  by_cases h : r < 1 ∨ 64 < r ∨ c < 1 ∨ 64 < c
  · exact rcauchy_bad r c w h
  obtain ⟨m, rfl⟩ : ∃ m : Nat, r = m := ⟨r.toNat, by omega⟩
  obtain ⟨n, rfl⟩ : ∃ m : Nat, c = m := ⟨c.toNat, by omega⟩
  have h1 : 1 ≤ m := by omega
  have h2 : m ≤ 64 := by omega
  have h3 : 1 ≤ n := by omega
  have h4 : n ≤ 64 := by omega
  have X : Hid (cauR (m : Int) (n : Int) = (mat m n cauF, 0)) := Lib.hid (by unfold cauR; rw [if_pos (by omega)]; rfl)
  clear h
  have Z := Lib.hid (zeros_row w (T := 74) zeros_u8)
  have ZB : Hid (Below w.heap.size w (w.alloc (.cells Try.zeroCells74 74))) := Lib.hid ((Below.refl _ _).alloc (Nat.le_refl _) _)
  go_enter Try.func26, Try.ntmps26
  go_wp2
  go_loopw [7] (fun i wr => ∃ x : Nat, 1 ≤ x ∧ x ≤ 256 ∧ i = .int .i64 x ∧ Hid (wr.rowIs w.heap.size 74 256 (overV x) ∧ Below w.heap.size w wr)) (fun i _ => 256 - (intOf i).toNat)
  case atStart => exact ⟨1, by omega, by omega, rfl, Lib.hid ⟨Z.out.congr fun i _ => by unfold overV; rw [if_neg (by omega)]; rfl, ZB.out⟩⟩
  case round =>
    obtain ⟨x, hx1, hx2, rfl, HR⟩ := hrel
    by_cases hlt : x < 256
    · have hc1 : ∃ v, wr.cell? ⟨w.heap.size, x, none⟩ = some v := ⟨_, HR.out.1.cell hlt⟩
      obtain ⟨v1, hc1⟩ := hc1
      have hf1 : wr.frozen? ⟨w.heap.size, x, none⟩ = false := HR.out.1.frozen _
      have hxn : (x : Int) < 256 := by omega
      go_wp2_with fail
      refine (rover_x 1 x 1 (UInt8.ofNat x) rfl (u8_nat x hlt) (fun h => by have := congrArg UInt8.toNat h; rw [UInt8.toNat_ofNat'] at this; simp at this; omega) (inv (UInt8.ofNat x)) (one_gm _).symm _).mono ?_
      rintro e w' ⟨rfl, rfl⟩
      go_wp2
      go_roundw
      case rel => exact ⟨x + 1, by omega, by omega, by go_num, Lib.hid ⟨(HR.out.1.set x _).congr fun i _ => over_step x i hx1, HR.out.2.setCell (Nat.le_refl _) _⟩⟩
      case measure => simp [intOf]; omega
    · have HO : Hid (wr.rowIs w.heap.size 74 256 (overV 256) ∧ Below w.heap.size w wr) := Lib.hid (by
        have h := HR.out
        rw [show x = 256 from by omega] at h
        exact h)
      clear HR
      go_wp2
      go_loopw [8, 9, 10, 11] (fun v i _ _ wr => ∃ k : Nat, k ≤ m ∧ i = .int .i64 k ∧ Hid (wr.rowIs w.heap.size 74 256 (overV 256) ∧ wr.ownsRow w.heap.size 9 1 v k (strV (mat k n cauF)) ∧ Below w.heap.size w wr)) (fun _ i _ _ _ => m - (intOf i).toNat)
      case atStart => exact ⟨0, by omega, rfl, Lib.hid ⟨HO.out.1, World.ownsRow_nil _ _ _ _, HO.out.2⟩⟩
      case round =>
        obtain ⟨k, hk, rfl, HR⟩ := hrel
        by_cases hlt2 : k < m
        · go_wp2
          obtain ⟨wo, rfl⟩ : ∃ wo : World, wo = wr := ⟨_, rfl⟩
          have HK := Lib.hid HR.out
          clear HR
          go_loopw [10, 11] (fun v i wr => ∃ j : Nat, j ≤ n ∧ i = .int .i64 j ∧ Hid (wr.rowIs w.heap.size 74 256 (overV 256) ∧ wr.ownsRow w.heap.size 9 1 u8 k (strV (mat k n cauF)) ∧ wr.ownsRow w.heap.size 5 1 v j (u8s (cauRow k j)) ∧ Below w.heap.size w wr)) (fun _ i _ => n - (intOf i).toNat)
          case atStart => exact ⟨0, by omega, rfl, Lib.hid ⟨HK.out.1, HK.out.2.1, World.ownsRow_nil _ _ _ _, HK.out.2.2⟩⟩
          case round =>
            obtain ⟨j, hj, rfl, HJ⟩ := hrel
            by_cases hjl : j < n
            · have eb := cau_bits2 k j (by omega) (by omega)
              have hlt3 : (cauA k j).toNat < 256 := (cauA k j).toNat_lt
              have hb1 : 0 ≤ bits .xor .u8 (128 + (k : Int)) (j : Int) := by rw [eb]; omega
              have hb2 : bits .xor .u8 (128 + (k : Int)) (j : Int) < 256 := by rw [eb]; omega
              have hc1 : wr.cell? ⟨w.heap.size, (bits .xor .u8 (128 + (k : Int)) (j : Int)).toNat, none⟩ = some (.int .u8 ((cauF k j).toNat : Int)) := by
                rw [eb, Int.toNat_natCast, HJ.out.1.cell hlt3, cau_over k j (by omega) (by omega)]
              have hj1 : j ≤ 4611686018427387904 := by omega
              have hj2 : (j + 1) * 1 ≤ 140737488355328 := by omega
              clear eb
              go_wp2_with (at_builtin; refine append1_new elemByte rfl _ _ rfl w.heap.size _ j _ rfl HJ.out.2.2.1 _ rfl rfl hj1 hj2 HJ.out.2.2.2.size ?_; intro v' w' ho hg)
              have HJ' : Hid (w'.rowIs w.heap.size 74 256 (overV 256) ∧ w'.ownsRow w.heap.size 9 1 u8 k (strV (mat k n cauF)) ∧ w'.ownsRow w.heap.size 5 1 v' (j + 1) (u8s (cauRow k (j + 1))) ∧ Below w.heap.size w w') :=
                Lib.hid ⟨row_keep HJ.out.1 HJ.out.2.2.1 (by decide) hg, own_keep HJ.out.2.1 HJ.out.2.2.1 (by decide) hg, by rw [cauRow_succ]; simpa [u8s] using ho, below_own HJ.out.2.2.2 HJ.out.2.2.1 hg⟩
              clear ho hg
              go_roundw
              case rel => exact ⟨j + 1, by omega, by go_num, HJ'⟩
              case measure => simp [intOf]; omega
            · obtain rfl : j = n := by omega
              obtain ⟨A, cc, rfl, hrb⟩ := own_reads HJ.out.2.2.1
              obtain ⟨ad, rfl, _, hcell⟩ := reads_u8 hrb h3
              have HC := Lib.hid hcell
              have hle := HJ.out.2.2.2.size
              have hk1 : k ≤ 4611686018427387904 := by omega
              have hk2 : (k + 1) * 16 ≤ 140737488355328 := by omega
              have hlen : (cauRow k j).length = j := by simp [cauRow]
              have HL := Lib.hid hlen
              clear hrb hcell hlen
              go_wp2_with (first
                | (with_reducible refine conv_str_wp (e := 5) (by kernel_rfl) (by kernel_rfl) (by kernel_rfl) rfl _ rfl ad j cc rfl (cauRow k j) HL.out HC.out ?_)
                | (at_builtin; refine append1_new elemStr rfl _ _ rfl w.heap.size _ k _ rfl HJ.out.2.1 _ rfl rfl hk1 hk2 hle ?_; intro v' w' ho hg))
              have HK' : Hid (w'.rowIs w.heap.size 74 256 (overV 256) ∧ w'.ownsRow w.heap.size 9 1 v' (k + 1) (strV (mat (k + 1) j cauF)) ∧ Below w.heap.size w w') :=
                Lib.hid ⟨row_keep HJ.out.1 HJ.out.2.1 (by decide) hg, by rw [mat_succ]; simpa [strV, cauRow] using ho, below_own HJ.out.2.2.2 HJ.out.2.1 hg⟩
              clear ho hg
              go_roundw
              case rel => exact ⟨k + 1, by omega, by go_num, HK'⟩
              case measure => simp [intOf]; omega
        · obtain rfl : k = m := by omega
          go_wp2
          go_ret2
          refine ⟨_, by rw [X.out]; rfl, ?_, HR.out.2.2⟩
          rw [X.out]
          show wr.ownsRow w.heap.size _ 1 _ (mat k n _).length _
          rw [mat_length]
          exact HR.out.2.1
end Go.Proofs.Ythlnnclpfgokjaa
