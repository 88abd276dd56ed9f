/- Several texts of the claim joined into one (part 2): plain facts and walks. No conditions but those that each theorem tells. -/
import Derived.Test.YtbfmdingbgdflaaBlo
import Derived.Test.YtbfmdingbgdflaaBloD
import Derived.Test.YtbfmdingbgdflaaMgBloomDecodes1
import Derived.Deep.DeepCutAuto
import Derived.Test.YtbfmdingbgdflaaRefS
import Derived.Test.YtbfmdingbgdflaaRefK
import Derived.Test.YtbfmdingbgdflaaDig4
import Derived.Test.YtbfmdingbgdflaaGen
import Derived.BigQuiet
namespace Go.Proofs.Ytbfmdingbgdflaa.Blo
theorem recon_ok (a : UInt8) : ((List.range 8).foldl (fun (x : UInt8) k => x ||| (if (a >>> UInt8.ofNat k &&& 1 == 1) = true then (1 : UInt8) <<< UInt8.ofNat k else 0)) 0 == a) = true :=
  all256 (fun a => (List.range 8).foldl (fun (x : UInt8) k => x ||| (if (a >>> UInt8.ofNat k &&& 1 == 1) = true then (1 : UInt8) <<< UInt8.ofNat k else 0)) 0 == a) (by decide +kernel) a
theorem byte_ext {a b : UInt8} (h : ∀ k, k < 8 → (a >>> UInt8.ofNat k &&& 1 == 1) = (b >>> UInt8.ofNat k &&& 1 == 1)) : a = b := by
  have ha := eq_of_beq (recon_ok a)
  have hb := eq_of_beq (recon_ok b)
  rw [← ha, ← hb]
  have e : ∀ (l : List Nat) (x : UInt8), (∀ k ∈ l, k < 8) → l.foldl (fun (x : UInt8) k => x ||| (if (a >>> UInt8.ofNat k &&& 1 == 1) = true then (1 : UInt8) <<< UInt8.ofNat k else 0)) x = l.foldl (fun (x : UInt8) k => x ||| (if (b >>> UInt8.ofNat k &&& 1 == 1) = true then (1 : UInt8) <<< UInt8.ofNat k else 0)) x := by
    intro l
    induction l with
    | nil => intro x _; rfl
    | cons k l ih =>
      intro x hk
      rw [List.foldl_cons, List.foldl_cons, h k (hk k (by simp)), ih _ (fun j hj => hk j (by simp [hj]))]
  exact e _ _ (fun k hk => by simpa using hk)
theorem bytes_ext {F G : Nat → UInt8} {n : Nat} (h : ∀ i, i < 8 * n → bitF F i = bitF G i) (j : Nat) (hj : j < n) : F j = G j := by
  refine byte_ext fun k hk => ?_
  have := h (8 * j + k) (by omega)
  unfold bitF at this
  rw [show (8 * j + k) / 8 = j from by omega, show (8 * j + k) % 8 = k from by omega] at this
  exact this
theorem and1_or (x y : UInt8) : ((x ||| y) &&& 1 == 1) = ((x &&& 1 == 1) || (y &&& 1 == 1)) := by
  have e : (x ||| y) &&& 1 = (x &&& 1) ||| (y &&& 1) := by
    apply UInt8.toBitVec_inj.1
    simp only [UInt8.toBitVec_and, UInt8.toBitVec_or]
    exact BitVec.and_or_distrib_right
  rw [e]
  have h01 : ∀ z : UInt8, z &&& 1 = 0 ∨ z &&& 1 = 1 := fun z => by
    have := all256 (fun z => z &&& 1 == 0 || z &&& 1 == 1) (by decide +kernel) z
    rw [Bool.or_eq_true, beq_iff_eq, beq_iff_eq] at this
    exact this
  rcases h01 x with hx | hx <;> rcases h01 y with hy | hy <;> rw [hx, hy] <;> rfl
theorem bitF_or (F G : Nat → UInt8) (n i : Nat) (hi : i < 8 * n) : bitF (fun j => if j < n then F j ||| G j else F j) i = (bitF F i || bitF G i) := by
  unfold bitF
  show ((if i / 8 < n then F (i / 8) ||| G (i / 8) else F (i / 8)) >>> UInt8.ofNat (i % 8) &&& 1 == 1) = _
  rw [if_pos (by omega), UInt8.shiftRight_or]
  exact and1_or _ _
/-- Both sets in one. -/
theorem join_sets (n H : Nat) (A B : List (Nat → UInt8)) (j : Nat) (hj : j < n) : (if j < n then addL n H (fun _ => 0) A j ||| addL n H (fun _ => 0) B j else addL n H (fun _ => 0) A j) = addL n H (fun _ => 0) (A ++ B) j := by
  have := bytes_ext (F := fun j => if j < n then addL n H (fun _ => 0) A j ||| addL n H (fun _ => 0) B j else addL n H (fun _ => 0) A j) (G := addL n H (fun _ => 0) (A ++ B)) (n := n) (fun i hi => by
    rw [bitF_or _ _ _ _ hi, bitF_addL, bitF_addL, bitF_addL, bitF_zero, List.any_append]; simp) j hj
  exact this
/-- What hangs on the set of names alone. -/
theorem addL_same (n H : Nat) (A B : List (Nat → UInt8)) (h : ∀ I, I ∈ A ↔ I ∈ B) (j : Nat) (hj : j < n) : addL n H (fun _ => 0) A j = addL n H (fun _ => 0) B j := by
  refine bytes_ext (n := n) (fun i hi => ?_) j hj
  rw [bitF_addL, bitF_addL]
  congr 1
  rw [Bool.eq_iff_iff, List.any_eq_true, List.any_eq_true]
  exact ⟨fun ⟨I, h1, h2⟩ => ⟨I, (h I).1 h1, h2⟩, fun ⟨I, h1, h2⟩ => ⟨I, (h I).2 h1, h2⟩⟩
theorem has_added (n H : Nat) (A : List (Nat → UInt8)) (I : Nat → UInt8) (h : I ∈ A) : hasF (addL n H (fun _ => 0) A) I n H = true := by
  rw [hasF_iff]
  intro k hk
  rw [bitF_addL, Bool.or_eq_true]
  right
  rw [List.any_eq_true]
  refine ⟨I, h, ?_⟩
  rw [List.any_eq_true]
  exact ⟨k, List.mem_range.2 hk, beq_self_eq_true _⟩
theorem has_none (n H : Nat) (I : Nat → UInt8) (h : 0 < H) : hasF (fun _ => 0) I n H = false := has_false _ I n H 0 h (bitF_zero _)
theorem hasF_congr {F G : Nat → UInt8} {n : Nat} (hn : 0 < n) (h : ∀ j, j < n → F j = G j) (I : Nat → UInt8) (H : Nat) : hasF F I n H = hasF G I n H := by
  induction H with
  | zero => rfl
  | succ H ih => rw [hasF, hasF, ih, bitF_congr h (show plc I n H < 8 * n from Nat.mod_lt _ (by omega))]
theorem pop_set (a : UInt8) : ((List.range 8).all fun i => decide (popB (a ||| ((1 : UInt8) <<< UInt8.ofNat i)) ≤ popB a + 1)) = true :=
  all256 (fun a => (List.range 8).all fun i => decide (popB (a ||| ((1 : UInt8) <<< UInt8.ofNat i)) ≤ popB a + 1)) (by decide +kernel) a
theorem ones_set (F : Nat → UInt8) (i n : Nat) : onesF (setF F i) n ≤ onesF F n + 1 ∧ (n ≤ i / 8 → onesF (setF F i) n = onesF F n) := by
  induction n with
  | zero => exact ⟨by simp [onesF], fun _ => rfl⟩
  | succ n ih =>
    rw [onesF, onesF]
    by_cases h : n = i / 8
    · have e := ih.2 (by omega)
      have := pop_set (F n)
      rw [List.all_eq_true] at this
      have := of_decide_eq_true (this (i % 8) (List.mem_range.2 (Nat.mod_lt _ (by omega))))
      have e2 : setF F i n = F n ||| ((1 : UInt8) <<< UInt8.ofNat (i % 8)) := if_pos h
      rw [e2, e]
      exact ⟨by omega, fun h2 => by omega⟩
    · have e2 : setF F i n = F n := if_neg h
      rw [e2]
      exact ⟨by have := ih.1; omega, fun h2 => by rw [ih.2 (by omega)]⟩
theorem ones_add (F : Nat → UInt8) (I : Nat → UInt8) (n H m : Nat) : onesF (addF F I n H) m ≤ onesF F m + H := by
  induction H with
  | zero => simp [addF]
  | succ H ih => rw [addF]; have := (ones_set (addF F I n H) (plc I n H) m).1; omega
theorem ones_addL (n H m : Nat) (F : Nat → UInt8) (A : List (Nat → UInt8)) : onesF (addL n H F A) m ≤ onesF F m + A.length * H := by
  induction A generalizing F with
  | nil => simp [addL]
  | cons I A ih =>
    have h1 := ih (addF F I n H)
    have h2 := ones_add F I n H m
    rw [addL, List.length_cons, Nat.succ_mul]; omega
theorem ones_zero (n : Nat) : onesF (fun _ => 0) n = 0 := by
  induction n with
  | zero => rfl
  | succ n ih => rw [onesF, ih]; rfl
theorem ones_le (n H : Nat) (A : List (Nat → UInt8)) : onesF (addL n H (fun _ => 0) A) n ≤ A.length * H := by
  have := ones_addL n H n (fun _ => 0) A
  rw [ones_zero] at this; omega
theorem pop_bit (a : UInt8) : ((List.range 8).all fun k => !(a >>> UInt8.ofNat k &&& 1 == 1) || decide (1 ≤ popB a)) = true :=
  all256 (fun a => (List.range 8).all fun k => !(a >>> UInt8.ofNat k &&& 1 == 1) || decide (1 ≤ popB a)) (by decide +kernel) a
theorem ones_pos (F : Nat → UInt8) (n i : Nat) (hi : i < 8 * n) (h : bitF F i = true) : 0 < onesF F n := by
  induction n with
  | zero => omega
  | succ n ih =>
    rw [onesF]
    by_cases e : i / 8 = n
    · have := pop_bit (F n)
      rw [List.all_eq_true] at this
      have := this (i % 8) (List.mem_range.2 (Nat.mod_lt _ (by omega)))
      unfold bitF at h
      rw [e] at h
      rw [h] at this
      have := of_decide_eq_true (by simpa using this : decide (1 ≤ popB (F n)) = true)
      omega
    · have := ih (by omega); omega
theorem ones_iff (n H : Nat) (A : List (Nat → UInt8)) (hn : 0 < n) (hH : 0 < H) : onesF (addL n H (fun _ => 0) A) n = 0 ↔ A.length = 0 := by
  constructor
  · intro h
    cases A with
    | nil => rfl
    | cons I A =>
      have h1 := (hasF_iff _ I n H).1 (has_added n H (I :: A) I (by simp)) 0 hH
      have := ones_pos _ n (plc I n 0) (Nat.mod_lt _ (by omega)) h1
      omega
  · intro h
    have := ones_le n H A
    rw [h, Nat.zero_mul] at this; omega
theorem pop_full (a : UInt8) : (!((List.range 8).all fun k => a >>> UInt8.ofNat k &&& 1 == 1) || popB a == 8) = true :=
  all256 (fun a => !((List.range 8).all fun k => a >>> UInt8.ofNat k &&& 1 == 1) || popB a == 8) (by decide +kernel) a
theorem ones_full (F : Nat → UInt8) (n : Nat) (h : ∀ i, i < 8 * n → bitF F i = true) : onesF F n = 8 * n := by
  induction n with
  | zero => rfl
  | succ n ih =>
    rw [onesF, ih (fun i hi => h i (by omega))]
    have hf : ((List.range 8).all fun k => F n >>> UInt8.ofNat k &&& 1 == 1) = true := by
      rw [List.all_eq_true]
      intro k hk
      have hk : k < 8 := by simpa using hk
      have := h (8 * n + k) (by omega)
      unfold bitF at this
      rw [show (8 * n + k) / 8 = n from by omega, show (8 * n + k) % 8 = k from by omega] at this
      exact this
    have := pop_full (F n)
    rw [hf] at this
    have := eq_of_beq (by simpa using this : (popB (F n) == 8) = true)
    omega
end Go.Proofs.Ytbfmdingbgdflaa.Blo
namespace Go.Proofs.Ytbfmdingbgdflaa.Blo
theorem pow2_of (n : Nat) (h1 : 64 ≤ n) (h2 : n ≤ 16777216) (h : n &&& (n - 1) = 0) : ∃ m, 6 ≤ m ∧ m ≤ 24 ∧ n = 2 ^ m := by
  have hle : 2 ^ Nat.log2 n ≤ n := Nat.log2_self_le (by omega)
  have hlt : n < 2 ^ (Nat.log2 n + 1) := Nat.lt_log2_self
  generalize Nat.log2 n = m at hle hlt
  have hp : 2 ^ (m + 1) = 2 ^ m + 2 ^ m := by rw [Nat.pow_succ]; omega
  rcases Nat.eq_or_lt_of_le hle with e | hl
  · refine ⟨m, ?_, ?_, e.symm⟩
    · apply Classical.byContradiction
      intro hm
      have : 2 ^ m ≤ 2 ^ 5 := Nat.pow_le_pow_right (by omega) (by omega)
      omega
    · apply Classical.byContradiction
      intro hm
      have : 2 ^ 25 ≤ 2 ^ m := Nat.pow_le_pow_right (by omega) (by omega)
      omega
  · have d1 : n / 2 ^ m = 1 := Nat.div_eq_of_lt_le (by omega) (by omega)
    have d2 : (n - 1) / 2 ^ m = 1 := Nat.div_eq_of_lt_le (by omega) (by omega)
    have t1 : n.testBit m = true := by rw [Nat.testBit_eq_decide_div_mod_eq, d1]; rfl
    have t2 : (n - 1).testBit m = true := by rw [Nat.testBit_eq_decide_div_mod_eq, d2]; rfl
    have t3 : (n &&& (n - 1)).testBit m = true := by rw [Nat.testBit_and, t1, t2]; rfl
    rw [h, Nat.zero_testBit] at t3
    cases t3
def Bt (B : Nat → Bool) (F : Nat → UInt8) (n : Nat) : Prop := ∀ i, i < 8 * n → B i = bitF F i
def addB (B : Nat → Bool) (I : Nat → UInt8) (n : Nat) : Nat → (Nat → Bool)
  | 0 => B
  | h + 1 => fun j => if j = plc I n h then true else addB B I n h j
theorem Bt.add {B : Nat → Bool} {F : Nat → UInt8} {n : Nat} (h : Bt B F n) (I : Nat → UInt8) (H : Nat) : Bt (addB B I n H) (addF F I n H) n := by
  intro i hi
  induction H with
  | zero => exact h i hi
  | succ H ih =>
    rw [addB, addF, bitF_set]
    by_cases e : i = plc I n H
    · simp [e]
    · simp [e, ih]
def onesB (B : Nat → Bool) : Nat → Nat
  | 0 => 0
  | k + 1 => onesB B k + (if B k = true then 1 else 0)
theorem onesB_le (B : Nat → Bool) (k : Nat) : onesB B k ≤ k := by
  induction k with
  | zero => exact Nat.le_refl _
  | succ k ih => rw [onesB]; split <;> omega
def cntB (p : Nat → Bool) (k : Nat) : Nat := ((List.range k).filter p).length
theorem cntB_succ (p : Nat → Bool) (k : Nat) : cntB p (k + 1) = cntB p k + (if p k = true then 1 else 0) := by
  unfold cntB
  rw [List.range_succ, List.filter_append, List.length_append]
  by_cases h : p k = true
  · simp [h]
  · simp [h]
theorem onesB_block (B : Nat → Bool) (F : Nat → UInt8) (n : Nat) (h : ∀ k, k < 8 → B (8 * n + k) = bitF F (8 * n + k)) : ∀ k, k ≤ 8 → onesB B (8 * n + k) = onesB B (8 * n) + cntB (fun k => F n >>> UInt8.ofNat k &&& 1 == 1) k
  | 0, _ => rfl
  | k + 1, hk => by
    rw [← Nat.add_assoc, onesB, onesB_block B F n h k (by omega), cntB_succ, Nat.add_assoc, h k (by omega)]
    have e1 : (8 * n + k) / 8 = n := by omega
    have e2 : (8 * n + k) % 8 = k := by omega
    unfold bitF
    rw [e1, e2]
theorem Bt.ones {B : Nat → Bool} {F : Nat → UInt8} : ∀ {n : Nat}, Bt B F n → onesB B (8 * n) = onesF F n
  | 0, _ => rfl
  | n + 1, h => by
    have h' : Bt B F n := fun i hi => h i (by omega)
    rw [show 8 * (n + 1) = 8 * n + 8 from by omega, onesB_block B F n (fun k hk => h _ (by omega)) 8 (Nat.le_refl _), h'.ones, onesF]
    rfl
def orB (B C : Nat → Bool) (k : Nat) : Nat → Bool := fun j => if j < k then B j || C j else B j
/-- The bytes that have just those bits. -/
def encF (B : Nat → Bool) : Nat → (Nat → UInt8)
  | 0 => fun _ => 0
  | i + 1 => if B i = true then setF (encF B i) i else encF B i
theorem bitF_enc (B : Nat → Bool) (m j : Nat) : bitF (encF B m) j = (decide (j < m) && B j) := by
  induction m with
  | zero => rw [encF, bitF_zero]; simp
  | succ m ih =>
    rw [encF]
    by_cases h : B m = true
    · rw [if_pos h, bitF_set, ih]
      by_cases e : j = m
      · subst e; simp [h]
      · have : (j < m + 1) ↔ (j < m) := by omega
        simp [e, this]
    · rw [if_neg h, ih]
      by_cases e : j = m
      · subst e; simp [h]
      · have : (j < m + 1) ↔ (j < m) := by omega
        simp [this]
theorem Bt.enc {B : Nat → Bool} {F : Nat → UInt8} {n : Nat} (h : Bt B F n) (j : Nat) (hj : j < n) : encF B (8 * n) j = F j :=
  bytes_ext (fun i hi => by rw [bitF_enc, h i hi]; simp [hi]) j hj
theorem Bt.zero (n : Nat) : Bt (fun _ => false) (fun _ => 0) n := fun i _ => (bitF_zero i).symm
theorem Bt.congr {B : Nat → Bool} {F G : Nat → UInt8} {n : Nat} (h : Bt B F n) (e : ∀ j, j < n → F j = G j) : Bt B G n := fun i hi => by rw [h i hi, bitF_congr e hi]
theorem Bt.or {B C : Nat → Bool} {F G : Nat → UInt8} {n : Nat} (h : Bt B F n) (k : Bt C G n) : Bt (orB B C (8 * n)) (fun j => if j < n then F j ||| G j else F j) n := fun i hi => by
  rw [bitF_or F G n i hi, orB, if_pos hi, h i hi, k i hi]
theorem plc_lt (I : Nat → UInt8) (n h : Nat) (hn : 0 < n) : plc I n h < 8 * n := Nat.mod_lt _ (by omega)
theorem Bt.has {B : Nat → Bool} {F : Nat → UInt8} {n : Nat} (h : Bt B F n) (hn : 0 < n) (I : Nat → UInt8) (H : Nat) : (hasF F I n H = true ↔ ∀ k, k < H → B (plc I n k) = true) := by
  rw [hasF_iff]
  exact ⟨fun e k hk => by rw [h _ (plc_lt I n k hn)]; exact e k hk, fun e k hk => by rw [← h _ (plc_lt I n k hn)]; exact e k hk⟩
end Go.Proofs.Ytbfmdingbgdflaa.Blo
namespace Go.Proofs.Ytbfmdingbgdflaa
open Go.RowKit Blo
set_option linter.unusedVariables false
theorem pow_bd (j : Nat) (h1 : 6 ≤ j) (h2 : j ≤ 24) : 64 ≤ 2 ^ j ∧ 2 ^ j ≤ 16777216 :=
  ⟨Nat.pow_le_pow_right (n := 2) (by omega) h1, Nat.pow_le_pow_right (n := 2) (by omega) h2⟩
theorem sz_no {n h : Int} {j : Nat} (h1 : 6 ≤ j) (h2 : j ≤ 24) (hp : j = 6 ∨ ((2 ^ (j - 1) : Nat) : Int) < n) (hstop : ¬ ((2 ^ j : Nat) : Int) < n ∨ j = 24) (hne : ((2 ^ j : Nat) : Int) ≠ n) : szB n h = false := by
  rw [Bool.eq_false_iff]
  intro hs
  unfold szB at hs
  rw [Bool.and_eq_true, decide_eq_true_eq, beq_iff_eq] at hs
  obtain ⟨⟨a1, a2, _, _⟩, a3⟩ := hs
  obtain ⟨N, rfl⟩ : ∃ N : Nat, n = N := ⟨n.toNat, by omega⟩
  rw [Int.toNat_natCast] at a3
  obtain ⟨m, m1, m2, rfl⟩ := pow2_of N (by omega) (by omega) a3
  have hmj : m ≠ j := fun e => hne (by rw [e])
  have hlt : m < j := by
    rcases hstop with hs | hs
    · have : ¬ 2 ^ j < 2 ^ m := by omega
      have : ¬ j < m := fun e => this (Nat.pow_lt_pow_right (by omega) e)
      omega
    · omega
  rcases hp with hp | hp
  · omega
  · have h3 : 2 ^ (j - 1) < 2 ^ m := by omega
    have h4 : 2 ^ m ≤ 2 ^ (j - 1) := Nat.pow_le_pow_right (by omega) (by omega)
    omega
theorem sz_at {h : Int} {j : Nat} (h1 : 6 ≤ j) (h2 : j ≤ 24) : szB ((2 ^ j : Nat) : Int) h = decide (1 ≤ h ∧ h ≤ 8) := by
  have b := pow_bd j h1 h2
  unfold szB
  rw [Int.toNat_natCast, Nat.and_two_pow_sub_one_eq_mod, Nat.mod_self]
  have e : (64 ≤ ((2 ^ j : Nat) : Int) ∧ ((2 ^ j : Nat) : Int) ≤ 16777216 ∧ 1 ≤ h ∧ h ≤ 8) ↔ (1 ≤ h ∧ h ≤ 8) := ⟨fun x => x.2.2, fun x => ⟨by omega, by omega, x⟩⟩
  rw [show decide (64 ≤ ((2 ^ j : Nat) : Int) ∧ ((2 ^ j : Nat) : Int) ≤ 16777216 ∧ 1 ≤ h ∧ h ≤ 8) = decide (1 ≤ h ∧ h ≤ 8) from decide_eq_decide.2 e]
  simp
theorem sz_yes {n h : Int} (hs : szB n h = true) : ∃ k H m : Nat, n = ((8 * k : Nat) : Int) ∧ h = (H : Int) ∧ 8 * k = 2 ^ m ∧ 6 ≤ m ∧ m ≤ 24 ∧ 1 ≤ H ∧ H ≤ 8 := by
  have hs' := hs
  unfold szB at hs
  rw [Bool.and_eq_true, decide_eq_true_eq, beq_iff_eq] at hs
  obtain ⟨⟨a1, a2, a3, a4⟩, a5⟩ := hs
  obtain ⟨m, m1, m2, hm⟩ := pow2_of n.toNat (by omega) (by omega) a5
  refine ⟨2 ^ (m - 3), h.toNat, m, ?_, by omega, ?_, m1, m2, by omega, by omega⟩
  · have e : 8 * 2 ^ (m - 3) = 2 ^ m := by
      rw [show (8 : Nat) = 2 ^ 3 from rfl, ← Nat.pow_add]; congr 1; omega
    omega
  · rw [show (8 : Nat) = 2 ^ 3 from rfl, ← Nat.pow_add]; congr 1; omega
set_option maxRecDepth 100000 in
theorem rsize_any (n h : Int) (w : World) (n1 : -9223372036854775808 ≤ n) (n2 : n ≤ 9223372036854775807) (h3 : -9223372036854775808 ≤ h) (h4 : h ≤ 9223372036854775807) :
    Calls Try.prog 71 #[.int .i64 n, .int .i64 h] w fun e w' => e = .returned (.bool (szB n h)) ∧ w = w' := by
  go_enter Try.func71, Try.ntmps71
  go_wp2
  go_loopw [5] (fun b wr => ∃ j B : Nat, 6 ≤ j ∧ j ≤ 24 ∧ 64 ≤ B ∧ B ≤ 16777216 ∧ b = .int .i64 (B : Int) ∧ Hid (2 ^ j = B ∧ (j = 6 ∨ ((2 ^ (j - 1) : Nat) : Int) < n)) ∧ w = wr) (fun b _ => 16777216 - (intOf b).toNat)
  case atStart => exact ⟨6, 64, by omega, by omega, by omega, by omega, rfl, Lib.hid ⟨rfl, .inl rfl⟩, rfl⟩
  case round =>
    obtain ⟨j, B, hj1, hj2, hb1, hb2, rfl, HJ, rfl⟩ := hrel
    by_cases hlt : (B : Int) < n
    · by_cases hlt2 : B < 16777216
      · have hlt2i : (B : Int) < 16777216 := by omega
        have hj24 : j + 1 ≤ 24 := by
          apply Classical.byContradiction
          intro hj
          have e : j = 24 := by omega
          have := HJ.out.1
          rw [e] at this
          omega
        obtain ⟨C, hC⟩ : ∃ C, 2 * B = C := ⟨_, rfl⟩
        have E : (2 : Int) * (B : Int) = (C : Int) := by omega
        have HN : Hid (2 ^ (j + 1) = C ∧ (j + 1 = 6 ∨ ((2 ^ (j + 1 - 1) : Nat) : Int) < n)) := Lib.hid ⟨by rw [Nat.pow_succ, HJ.out.1]; omega, .inr (by rw [Nat.add_sub_cancel, HJ.out.1]; exact hlt)⟩
        have hc2 : C ≤ 16777216 := by rw [← HN.out.1]; exact (pow_bd (j + 1) (by omega) hj24).2
        go_wp2
        go_roundw
        case rel => exact ⟨j + 1, C, by omega, hj24, by omega, hc2, by first | rfl | go_num, HN, by first | rfl | trivial⟩
        case measure => simp [intOf]; omega
      · have hlt2i : ¬ (B : Int) < 16777216 := by omega
        have hne : ¬ (B : Int) = n := by omega
        have e24 : j = 24 := by
          apply Classical.byContradiction
          intro hj
          have : 2 ^ j ≤ 2 ^ 23 := Nat.pow_le_pow_right (by omega) (by omega)
          have := HJ.out.1
          omega
        have X : Hid (szB n h = false) := Lib.hid (sz_no hj1 hj2 HJ.out.2 (.inr e24) (by rw [HJ.out.1]; exact hne))
        go_wp2
        go_ret
        exact ⟨by rw [X.out]; rfl, rfl⟩
    · by_cases heq : (B : Int) = n
      · subst heq
        have X : Hid (szB (B : Int) h = decide (1 ≤ h ∧ h ≤ 8)) := Lib.hid (by rw [← HJ.out.1]; exact sz_at hj1 hj2)
        by_cases a1 : 1 ≤ h
        · by_cases a2 : h ≤ 8
          · have Y : Hid (szB (B : Int) h = true) := Lib.hid (by rw [X.out, decide_eq_true_eq]; exact ⟨a1, a2⟩)
            go_wp2
            go_ret
            exact ⟨by rw [Y.out]; first | rfl | simp, rfl⟩
          · have Y : Hid (szB (B : Int) h = false) := Lib.hid (by rw [X.out, decide_eq_false_iff_not]; omega)
            go_wp2
            go_ret
            exact ⟨by rw [Y.out]; first | rfl | simp, rfl⟩
        · have Y : Hid (szB (B : Int) h = false) := Lib.hid (by rw [X.out, decide_eq_false_iff_not]; omega)
          go_wp2
          go_ret
          exact ⟨by rw [Y.out]; first | rfl | simp, rfl⟩
      · have X : Hid (szB n h = false) := Lib.hid (sz_no hj1 hj2 HJ.out.2 (.inl (by rw [HJ.out.1]; exact hlt)) (by rw [HJ.out.1]; exact heq))
        go_wp2
        go_ret
        exact ⟨by rw [X.out]; rfl, rfl⟩
theorem elemBool : Elem1 Try.prog 65 4 (.bool false) 1 := Elem1.of (by kernel_rfl) (by kernel_rfl) rfl
theorem bools_made (w : World) (n : Nat) (hn : n ≤ 70368744177664) :
    (Instr.makeSlice 65 (.int .i64 (n : Int)) (.int .i64 (n : Int))).run Try.prog w = .ok (.slice (some ⟨w.heap.size, 0, none⟩) n n) (w.alloc (.cells (madeCells #[.bool false] n) 4)) := by
  obtain ⟨i, hi, h1, h2, h3⟩ := elemBool.info
  have := run_make_rowN (P := Try.prog) 65 4 i _ (by kernel_rfl) hi h1 .i64 .i64 n n (Nat.le_refl _) (by rw [h3]; omega) (by omega) w
  rw [h2, Nat.mul_one] at this
  exact this
/-- A filter of the reference's in memory: which places are set. -/
structure Rf (w : World) (P g N H : Nat) (B : Nat → Bool) : Prop where
  blk : Blk w P 67 #[.int .i64 (N : Int), .int .i64 (H : Int), .slice (some ⟨g, 0, none⟩) N N]
  row : w.rowIs g 4 N (fun i => .bool (B i))
theorem Rf.below {w w' : World} {P g N H : Nat} {B : Nat → Bool} (h : Rf w P g N H B) (hb : Below w.heap.size w w') : Rf w' P g N H B := ⟨h.blk.below hb h.blk.lt, h.row.of_block (hb.block _ h.row.lt)⟩
theorem Rf.ne {w : World} {P g N H : Nat} {B : Nat → Bool} (h : Rf w P g N H B) : P ≠ g := by
  rintro rfl
  obtain ⟨c, hh, _⟩ := h.row
  have hb := h.blk
  unfold Blk at hb
  rw [hb] at hh
  injection hh with hh
  injection hh with _ h2 _
  exact absurd h2 (by decide)
theorem Rf.congr {w : World} {P g N H : Nat} {B C : Nat → Bool} (h : Rf w P g N H B) (e : ∀ j, j < N → B j = C j) : Rf w P g N H C := ⟨h.blk, h.row.congr fun j hj => by rw [e j hj]⟩
theorem rnew_no (n h : Int) (w : World) (n1 : -9223372036854775808 ≤ n) (n2 : n ≤ 9223372036854775807) (h3 : -9223372036854775808 ≤ h) (h4 : h ≤ 9223372036854775807) (hz : szB n h = false) :
    Calls Try.prog 30 #[.int .i64 n, .int .i64 h] w fun e w' => e = .returned (.tuple #[.pointer none, .int .i64 1]) ∧ w = w' := by
  have Z := Lib.hid hz
  clear hz
  go_enter Try.func30, Try.ntmps30
  go_wp2_with fail
  refine (rsize_any n h _ n1 n2 h3 h4).mono ?_; rintro e w' ⟨rfl, rfl⟩
  rw [Z.out]
  go_wp2
  go_ret2
  exact ⟨rfl, rfl⟩
set_option maxRecDepth 100000 in
theorem rnew_any (N H : Nat) (w : World) (hn : N ≤ 16777216) (hH : H ≤ 8) (hz : szB (N : Int) (H : Int) = true) :
    Calls Try.prog 30 #[.int .i64 (N : Int), .int .i64 (H : Int)] w fun e w' => e = .returned (.tuple #[.pointer (some ⟨w.heap.size + 1, 0, none⟩), .int .i64 0]) ∧
      Rf w' (w.heap.size + 1) w.heap.size N H (fun _ => false) ∧ Below w.heap.size w w' := by
  have Z := Lib.hid hz
  clear hz
  have hmk := fun W => bools_made W N (by omega)
  go_enter Try.func30, Try.ntmps30
  go_wp2_with fail
  refine (rsize_any _ _ _ (by omega) (by omega) (by omega) (by omega)).mono ?_; rintro e w' ⟨rfl, rfl⟩
  rw [Z.out]
  go_wp2
  go_ret2
  refine ⟨rfl, ⟨?_, ?_⟩, ((Below.refl _ _).alloc (Nat.le_refl _) _).alloc (by simp) _⟩
  · have := Blk.new (w.alloc (.cells (madeCells #[.bool false] N) 4)) 67 #[.int .i64 (N : Int), .int .i64 (H : Int), .slice (some ⟨w.heap.size, 0, none⟩) N N]
    rw [show (w.alloc (.cells (madeCells #[.bool false] N) 4)).heap.size = w.heap.size + 1 from by simp] at this
    exact this
  · exact ((World.rowIs_made w (.bool false) N 4).alloc _).congr fun i _ => rfl
end Go.Proofs.Ytbfmdingbgdflaa
namespace Go.Proofs.Ytbfmdingbgdflaa
open Go.RowKit Blo Wir
set_option linter.unusedVariables false
set_option linter.unusedSimpArgs false
def RDecR (w w' : World) (e : Ending) (s : ByteArray) : Prop := match decO s with
  | none => e = .returned (.tuple #[.pointer none, .int .i64 4]) ∧ Below w.heap.size w w'
  | some (n, H, t) => ∃ Q h, e = .returned (.tuple #[.pointer (some ⟨Q, 0, none⟩), .int .i64 0]) ∧ w.heap.size ≤ Q ∧ w.heap.size ≤ h ∧ Rf w' Q h (8 * n) H (fun i => bitF (byteAt t) i) ∧ Below w.heap.size w w'
theorem rdec_none {w w' : World} {s : ByteArray} (h : decO s = none) (hb : Below w.heap.size w w') : RDecR w w' (.returned (.tuple #[.pointer none, .int .i64 4])) s := by
  unfold RDecR; rw [h]; exact ⟨rfl, hb⟩
theorem bit_all (a : UInt8) : ((List.range 8).all fun k => (a.toNat / 2 ^ k % 2 == 1) == (a >>> UInt8.ofNat k &&& 1 == 1)) = true :=
  all256 (fun a => (List.range 8).all fun k => (a.toNat / 2 ^ k % 2 == 1) == (a >>> UInt8.ofNat k &&& 1 == 1)) (by decide +kernel) a
theorem bit_at (F : Nat → UInt8) (i : Nat) : ((F (i / 8)).toNat / 2 ^ (i % 8) % 2 == 1) = bitF F i := by
  have := List.all_eq_true.1 (bit_all (F (i / 8))) (i % 8) (List.mem_range.2 (Nat.mod_lt _ (by omega)))
  exact eq_of_beq this
theorem magic_iff {s : ByteArray} (h : 4 ≤ s.size) : s.extract 0 4 = bs [77, 66, 70, 49] ↔ magicB s = true := by
  have e : s.extract 0 4 = bs [byteAt s 0, byteAt s 1, byteAt s 2, byteAt s 3] := by
    apply ext_byteAt
    · rw [ByteArray.size_extract, bs_size]; show min 4 s.size - 0 = 4; omega
    · intro i hi
      rw [ByteArray.size_extract] at hi
      rw [byteAt_cut s 0 4 i (by omega) (by omega), Nat.zero_add, bytes_bs]
      have : i = 0 ∨ i = 1 ∨ i = 2 ∨ i = 3 := by omega
      rcases this with rfl | rfl | rfl | rfl <;> rfl
  unfold magicB
  rw [e, beq_iff_eq]
  exact ⟨fun h => bs_inj h, fun h => by rw [h]⟩
set_option maxRecDepth 100000 in
set_option maxHeartbeats 0 in
theorem rdecode_any (s : ByteArray) (w : World) (hs : s.size ≤ 140737488351232) :
    Calls Try.prog 47 #[.string s] w fun e w' => RDecR w w' e s := by
  by_cases h4 : s.size < 4
  · have X : Hid (decO s = none) := Lib.hid (by unfold decO badM; rw [if_pos (by rw [decide_eq_true h4]; rfl)])
    have h4i : (s.size : Int) < 4 := by omega
    go_enter Try.func47, Try.ntmps47
    go_wp2
    go_ret2
    exact rdec_none X.out (Below.refl _ _)
  have h4i : ¬ (s.size : Int) < 4 := by omega
  have h4i' : (4 : Int) ≤ (s.size : Int) := by omega
  obtain ⟨a, ha⟩ : ∃ a, s.extract 0 4 = a := ⟨_, rfl⟩
  have HA := Lib.hid ha
  by_cases hm : a = bs [77, 66, 70, 49]
  case neg =>
    have X : Hid (decO s = none) := Lib.hid (by
      unfold decO badM
      rw [if_pos]
      rw [Bool.or_eq_true]; right
      cases hmb : magicB s with
      | true => exact absurd (ha.symm.trans ((magic_iff (by omega)).2 hmb)) hm
      | false => rfl)
    have g1 : (a.toList == [77, 66, 70, 49]) = false := str_no hm
    clear hm
    go_enter Try.func47, Try.ntmps47
    go_wp2
    go_ret2
    exact rdec_none X.out (Below.refl _ _)
  have g1 : (a.toList == [77, 66, 70, 49]) = true := str_yes hm
  have BM : Hid (badM s = false) := Lib.hid (by
    unfold badM
    rw [(magic_iff (by omega)).1 (ha.trans hm), decide_eq_false h4]; rfl)
  obtain ⟨t0, ht0⟩ : ∃ t0, s.extract 4 s.size = t0 := ⟨_, rfl⟩
  have HT0 := Lib.hid ht0
  have hs0 : t0.size ≤ 9223372036854775807 := by rw [← ht0, ByteArray.size_extract]; omega
  obtain ⟨t1, ht1⟩ : ∃ t1, uintS t0 = t1 := ⟨_, rfl⟩
  have hs1 : t1.size ≤ 9223372036854775807 := by rw [← ht1]; exact Nat.le_trans (uintS_le t0) hs0
  obtain ⟨t2, ht2⟩ : ∃ t2, uintS t1 = t2 := ⟨_, rfl⟩
  obtain ⟨N, hN⟩ : ∃ N, (short (byteAt t0) t0.size).1 = N := ⟨_, rfl⟩
  obtain ⟨H, hH⟩ : ∃ H, (short (byteAt t1) t1.size).1 = H := ⟨_, rfl⟩
  obtain ⟨e0, he0⟩ : ∃ e, uintE t0 = e := ⟨_, rfl⟩
  obtain ⟨e1, he1⟩ : ∃ e, uintE t1 = e := ⟨_, rfl⟩
  have DO : Hid (decO s = if e0 ≠ 0 then none else if e1 ≠ 0 then none else if 16777216 < N ∨ 8 < H ∨ szB (N : Int) (H : Int) = false ∨ t2.size ≠ N / 8 then none else some (N / 8, H, t2)) := Lib.hid (by
    unfold decO
    rw [if_neg (by rw [BM.out]; decide), ht0, ht1, ht2, hN, hH, he0, he1])
  have U0 : ∀ R W, RRdr W R t0 → Calls Try.prog 83 #[.pointer (some ⟨R, 0, none⟩)] W fun e w' => e = .returned (.tuple #[.int .u64 (N : Int), .int .i64 e0]) ∧ RRdr w' R t1 ∧ ∀ B, B ≤ R → Below B W w' := fun R W h => by
    rw [← hN, ← he0, ← ht1]; exact ruint_any t0 R W h hs0
  have U1 : ∀ R W, RRdr W R t1 → Calls Try.prog 83 #[.pointer (some ⟨R, 0, none⟩)] W fun e w' => e = .returned (.tuple #[.int .u64 (H : Int), .int .i64 e1]) ∧ RRdr w' R t2 ∧ ∀ B, B ≤ R → Below B W w' := fun R W h => by
    rw [← hH, ← he1, ← ht2]; exact ruint_any t1 R W h hs1
  have E0 : e0 = 0 ∨ e0 = 4 := by rw [← he0]; exact uintE_or t0
  have E1 : e1 = 0 ∨ e1 = 4 := by rw [← he1]; exact uintE_or t1
  have NL : N < 18446744073709551616 := by rw [← hN]; exact (shG_bound (byteAt t0) t0.size 11 0 0 (by decide) (by omega)).1
  have HLt : H < 18446744073709551616 := by rw [← hH]; exact (shG_bound (byteAt t1) t1.size 11 0 0 (by decide) (by omega)).1
  have ht2s : t2.size ≤ 9223372036854775807 := by rw [← ht2]; exact Nat.le_trans (uintS_le t1) hs1
  clear ht1 ht2 hN hH he0 he1 hm
  have R0 := Lib.hid (And.intro (Blk.new w 119 #[.string t0]) ((Below.refl w.heap.size w).alloc (Nat.le_refl _) (.cells #[.string t0] 119)))
  go_enter Try.func47, Try.ntmps47
  go_upto_region 4 with fail
  clear g1 ha
  generalize w.alloc (.cells #[.string t0] 119) = w1 at R0 ⊢
  go_wp2_with fail
  refine (U0 _ _ R0.out.1).mono ?_; rintro e w2 ⟨rfl, hr2, hb2⟩
  have R2 := Lib.hid (And.intro hr2 (R0.out.2.trans (hb2 w.heap.size (Nat.le_refl _))))
  clear hr2 hb2 ht0 U0
  rcases E0 with rfl | rfl
  case inr =>
    have X : Hid (decO s = none) := Lib.hid (by rw [DO.out, if_pos (by decide)])
    go_wp2
    go_ret2
    exact rdec_none X.out R2.out.2
  go_wp2_with fail
  refine (U1 _ _ R2.out.1).mono ?_; rintro e w3 ⟨rfl, hr3, hb3⟩
  have R3 := Lib.hid (And.intro hr3 (R2.out.2.trans (hb3 w.heap.size (Nat.le_refl _))))
  clear hr3 hb3 U1
  rcases E1 with rfl | rfl
  case inr =>
    have X : Hid (decO s = none) := Lib.hid (by rw [DO.out, if_neg (by decide), if_pos (by decide)])
    go_wp2
    go_ret2
    exact rdec_none X.out R3.out.2
  have DO2 : Hid (decO s = if 16777216 < N ∨ 8 < H ∨ szB (N : Int) (H : Int) = false ∨ t2.size ≠ N / 8 then none else some (N / 8, H, t2)) := Lib.hid (by rw [DO.out, if_neg (by decide), if_neg (by decide)])
  clear DO
  have cR : w3.cell? ⟨w.heap.size, 0, none⟩ = some (.string t2) := R3.out.1.cell 0
  by_cases hN24 : 16777216 < N
  · have X : Hid (decO s = none) := Lib.hid (by rw [DO2.out, if_pos (.inl hN24)])
    have a1 : (16777216 : Int) < (N : Int) := by omega
    go_wp2
    go_ret2
    exact rdec_none X.out R3.out.2
  have a1 : ¬ (16777216 : Int) < (N : Int) := by omega
  by_cases hH8 : 8 < H
  · have X : Hid (decO s = none) := Lib.hid (by rw [DO2.out, if_pos (.inr (.inl hH8))])
    have a2 : (8 : Int) < (H : Int) := by omega
    go_wp2
    go_ret2
    exact rdec_none X.out R3.out.2
  have a2 : ¬ (8 : Int) < (H : Int) := by omega
  have WN : IntKind.i64.wrap (N : Int) = (N : Int) := IntWalk.i64_in _ (by omega)
  have WH : IntKind.i64.wrap (H : Int) = (H : Int) := IntWalk.i64_in _ (by omega)
  have NL2 : N ≤ 16777216 := by omega
  have HL2 : H ≤ 8 := by omega
  clear NL HLt hN24 hH8
  cases hsz : szB (N : Int) (H : Int) with
  | false =>
    have X : Hid (decO s = none) := Lib.hid (by rw [DO2.out, if_pos (.inr (.inr (.inl hsz)))])
    have HSZ := Lib.hid hsz
    clear hsz
    go_wp2_with fail
    refine (rsize_any _ _ _ (by omega) (by omega) (by omega) (by omega)).mono ?_; rintro e w4 ⟨rfl, rfl⟩
    rw [HSZ.out]
    go_wp2
    go_ret2
    exact rdec_none X.out R3.out.2
  | true =>
    have HSZ := Lib.hid hsz
    obtain ⟨d8, hd8⟩ : ∃ d, N / 8 = d := ⟨_, rfl⟩
    have hd8i : (N : Int) / 8 = (d8 : Int) := by omega
    have hN8 : 8 * d8 = N := by
      obtain ⟨k, _, m, q1, _, _, _, _, _, _⟩ := sz_yes hsz
      omega
    have HN8 := Lib.hid hN8
    rw [hd8] at DO2
    clear hsz hd8 hN8
    by_cases hle : t2.size = d8
    case neg =>
      have X : Hid (decO s = none) := Lib.hid (by rw [DO2.out, if_pos (.inr (.inr (.inr hle)))])
      have a3 : ¬ (t2.size : Int) = (d8 : Int) := by omega
      have a4 : ((t2.size : Int) != (d8 : Int)) = true := by rw [bne_iff_ne]; exact a3
      clear hle DO2
      go_wp2_with fail
      refine (rsize_any _ _ _ (by omega) (by omega) (by omega) (by omega)).mono ?_; rintro e w4 ⟨rfl, rfl⟩
      rw [HSZ.out]
      go_wp2
      go_ret2
      exact rdec_none X.out R3.out.2
    have X : Hid (decO s = some (d8, H, t2)) := Lib.hid (by rw [DO2.out, if_neg (by rw [HSZ.out]; simp; omega)])
    have a3 : (t2.size : Int) = (d8 : Int) := by omega
    have HLE := Lib.hid hle
    clear hle DO2
    go_wp2_with fail
    refine (rsize_any _ _ _ (by omega) (by omega) (by omega) (by omega)).mono ?_; rintro e w4 ⟨rfl, rfl⟩
    rw [HSZ.out]
    go_wp2_with fail
    refine (rnew_any N H w3 NL2 HL2 HSZ.out).mono ?_; rintro e w5 ⟨rfl, hr5, hb5⟩
    have R5 : Hid (Rf w5 (w3.heap.size + 1) w3.heap.size N H (fun j => if j < 0 then bitF (byteAt t2) j else false) ∧ RRdr w5 w.heap.size t2 ∧ Below w.heap.size w w5 ∧ w.heap.size ≤ w3.heap.size ∧ w.heap.size ≤ w3.heap.size + 1) := Lib.hid ⟨hr5.congr fun j _ => by rw [if_neg (by omega)], Blk.below R3.out.1 hb5 R3.out.1.lt, R3.out.2.trans (hb5.mono R3.out.2.size), R3.out.2.size, Nat.le_trans R3.out.2.size (Nat.le_succ _)⟩
    clear hr5 hb5 cR a3 R3
    generalize w3.heap.size + 1 = Q at R5 ⊢
    generalize w3.heap.size = h at R5 ⊢
    obtain ⟨b, hb⟩ : ∃ b, w.heap.size = b := ⟨_, rfl⟩
    have HB := Lib.hid hb
    rw [hb] at R5
    try rw [hb]
    clear hb
    go_wp2
    go_loopw [10] (fun i wr => ∃ k : Nat, k ≤ N ∧ i = .int .i64 (k : Int) ∧ Hid (Rf wr Q h N H (fun j => if j < k then bitF (byteAt t2) j else false) ∧ RRdr wr b t2 ∧ Below b w wr ∧ b ≤ h ∧ b ≤ Q)) (fun i _ => N - (intOf i).toNat)
    case atStart => exact ⟨0, by omega, rfl, R5⟩
    case round =>
      obtain ⟨k, hk, rfl, HR⟩ := hrel
      have c0 : wr.cell? ⟨Q, 0, none⟩ = some (.int .i64 (N : Int)) := HR.out.1.blk.cell 0
      by_cases hlt : k < N
      · have hki : (k : Int) < (N : Int) := by omega
        have c2 : wr.cell? ⟨Q, 2, none⟩ = some (.slice (some ⟨h, 0, none⟩) N N) := HR.out.1.blk.cell 2
        have cR : wr.cell? ⟨b, 0, none⟩ = some (.string t2) := HR.out.2.1.cell 0
        obtain ⟨v1, c3⟩ : ∃ v, wr.cell? ⟨h, k, none⟩ = some v := ⟨_, HR.out.1.row.cell hlt⟩
        have f3 : wr.frozen? ⟨h, k, none⟩ = false := HR.out.1.row.frozen _
        obtain ⟨d, hd⟩ : ∃ d, k / 8 = d := ⟨_, rfl⟩
        obtain ⟨r, hr⟩ : ∃ r, k % 8 = r := ⟨_, rfl⟩
        have hdt : d < t2.size := by have h1 := HLE.out; have h2 := HN8.out; omega
        have hdti : (d : Int) < (t2.size : Int) := by omega
        have Ed : (k : Int) / 8 = (d : Int) := by omega
        have Er : (k : Int) % 8 = (r : Int) := by omega
        have Er2 : (k : Int).tmod 8 = (r : Int) := by rw [Int.tmod_eq_emod_of_nonneg (by omega)]; exact Er
        obtain ⟨c, hc⟩ : ∃ c, byteAt t2 d = c := ⟨_, rfl⟩
        have gk : t2[d] = c := (byteAt_get t2 d hdt).trans hc
        have hcl := c.toNat_lt
        obtain ⟨v, hv⟩ : ∃ v, c.toNat / 2 ^ r = v := ⟨_, rfl⟩
        have Ev : (c.toNat : Int) / 2 ^ r = (v : Int) := by rw [← hv]; simp
        have hvl : v < 256 := by rw [← hv]; exact Nat.lt_of_le_of_lt (Nat.div_le_self _ _) hcl
        have hr8 : r < 8 := by omega
        have BT : Hid ((v % 2 == 1) = bitF (byteAt t2) k) := Lib.hid (by rw [← bit_at, hd, hr, hc, hv])
        have V1 : IntKind.u8.wrap (v : Int) = (v : Int) := by rw [IntKind.wrap_u8]; omega
        have W1 : (v : Int) % 256 = (v : Int) := by omega
        have Et : Int.tmod (v : Int) 2 = (v : Int) % 2 := Int.tmod_eq_emod_of_nonneg (by omega)
        clear hd hr hc hv Er
        cases hbt : (v % 2 == 1) with
        | true =>
          have hv1 : (v : Int) % 2 = 1 := by have := eq_of_beq hbt; omega
          have BK : Hid (bitF (byteAt t2) k = true) := Lib.hid (by rw [← BT.out, hbt])
          clear hbt
          go_wp2
          go_region
          go_wp2
          go_roundw
          case rel =>
            refine ⟨k + 1, by omega, by go_num, Lib.hid ⟨⟨(HR.out.1.blk.far (by show Q ≠ h; exact HR.out.1.ne) _).drew, ((HR.out.1.row.set k _).drew).congr fun j hj => ?_⟩, (Blk.far HR.out.2.1 (by show b ≠ h; exact blk_buf_ne HR.out.2.1 (bufIs.of_row HR.out.1.row) (by decide)) _).drew, (HR.out.2.2.1.setCell (by show b ≤ h; exact HR.out.2.2.2.1) _).drew, HR.out.2.2.2⟩⟩
            by_cases e : j = k
            · rw [if_pos e, if_pos (by omega), e, BK.out]
            · rw [if_neg e]
              by_cases e2 : j < k
              · rw [if_pos e2, if_pos (by omega)]
              · rw [if_neg e2, if_neg (by omega)]
          case measure => simp [intOf]; omega
        | false =>
          have hv1 : (v : Int) % 2 = 0 := by have := beq_eq_false_iff_ne.1 hbt; omega
          have BK : Hid (bitF (byteAt t2) k = false) := Lib.hid (by rw [← BT.out, hbt])
          clear hbt
          go_wp2
          go_region
          go_wp2
          go_roundw
          case rel =>
            refine ⟨k + 1, by omega, by go_num, Lib.hid ⟨⟨(HR.out.1.blk.far (by show Q ≠ h; exact HR.out.1.ne) _).drew, ((HR.out.1.row.set k _).drew).congr fun j hj => ?_⟩, (Blk.far HR.out.2.1 (by show b ≠ h; exact blk_buf_ne HR.out.2.1 (bufIs.of_row HR.out.1.row) (by decide)) _).drew, (HR.out.2.2.1.setCell (by show b ≤ h; exact HR.out.2.2.2.1) _).drew, HR.out.2.2.2⟩⟩
            by_cases e : j = k
            · rw [if_pos e, if_pos (by omega), e, BK.out]
            · rw [if_neg e]
              by_cases e2 : j < k
              · rw [if_pos e2, if_pos (by omega)]
              · rw [if_neg e2, if_neg (by omega)]
          case measure => simp [intOf]; omega
      · obtain rfl : k = N := by omega
        have RE : Hid (RDecR w wr (.returned (.tuple #[.pointer (some ⟨Q, 0, none⟩), .int .i64 0])) s) := Lib.hid (by
          unfold RDecR
          rw [X.out]
          refine ⟨Q, h, rfl, by rw [HB.out]; exact HR.out.2.2.2.2, by rw [HB.out]; exact HR.out.2.2.2.1, ?_, by rw [HB.out]; exact HR.out.2.2.1⟩
          rw [HN8.out]
          exact HR.out.1.congr fun j hj => by rw [if_pos hj])
        go_wp2
        go_ret2
        exact RE.out
end Go.Proofs.Ytbfmdingbgdflaa
namespace Go.Proofs.Ytbfmdingbgdflaa
open Go.RowKit Blo Wir
set_option linter.unusedVariables false
/-- A number that is read was written so. -/
theorem shG_put (F : Nat → UInt8) (L : Nat) : ∀ f i acc, i ≤ 9 → 10 ≤ f + i → ¬ (shG F L f i acc).2 < 0 →
    ∃ m, (shG F L f i acc).1 = acc + m * 2 ^ (7 * i) ∧ (shG F L f i acc).2 = (i : Int) + ((putN (9 - i) m).length : Int) ∧ (∀ j, j < (putN (9 - i) m).length → i + j < L ∧ F (i + j) = (putN (9 - i) m).getD j 0) ∧ (m = 0 → i = 0)
  | 0, i, acc, hi, hf, h => by omega
  | f + 1, i, acc, hi, hf, h => by
    unfold shG at h ⊢
    by_cases h1 : i < L ∧ i < 10
    · rw [if_pos h1] at h ⊢
      by_cases h2 : (i = 9 ∧ 1 < (F i).toNat) ∨ (0 < i ∧ (F i).toNat = 0)
      · rw [if_pos h2] at h
        exact absurd (by decide : ((0, -1) : Nat × Int).2 < 0) h
      · rw [if_neg h2] at h ⊢
        by_cases h3 : (F i).toNat < 128
        · rw [if_pos h3] at h ⊢
          refine ⟨(F i).toNat, ?_, ?_, fun j hj => ?_, fun e => ?_⟩
          · show acc + _ = _; rw [Nat.mod_eq_of_lt h3]
          · rw [putN_small _ _ h3]; rfl
          · rw [putN_small _ _ h3] at hj ⊢
            have : j = 0 := by simpa using hj
            subst this
            exact ⟨h1.1, by rw [Nat.add_zero]; show F i = UInt8.ofNat (F i).toNat; rw [UInt8.ofNat_toNat]⟩
          · apply Classical.byContradiction
            intro hne
            exact h2 (.inr ⟨by omega, e⟩)
        · rw [if_neg h3] at h ⊢
          have hi9 : i < 9 := by
            apply Classical.byContradiction
            intro hne
            have e9 : i = 9 := by omega
            exact h2 (.inl ⟨e9, by omega⟩)
          obtain ⟨m, e1, e2, e3, e4⟩ := shG_put F L f (i + 1) _ (by omega) (by omega) h
          have hm : m ≠ 0 := fun e => by have := e4 e; omega
          have hb : (F i).toNat < 256 := (F i).toNat_lt
          obtain ⟨M, hM⟩ : ∃ M, (F i).toNat % 128 + 128 * m = M := ⟨_, rfl⟩
          have hM1 : ¬ M < 128 := by omega
          have hM2 : M / 128 = m := by omega
          have hM3 : M % 128 + 128 = (F i).toNat := by omega
          have hP : putN (9 - i) M = F i :: putN (9 - (i + 1)) m := by
            rw [show 9 - i = (9 - (i + 1)) + 1 by omega, putN_big _ _ hM1, hM2, hM3, UInt8.ofNat_toNat]
          refine ⟨M, ?_, ?_, fun j hj => ?_, fun e => by omega⟩
          · rw [e1, ← hM, Nat.add_mul, Nat.add_assoc, show 7 * (i + 1) = 7 + 7 * i from by omega, Nat.pow_add]
            congr 2
            show m * (128 * 2 ^ (7 * i)) = 128 * m * 2 ^ (7 * i)
            rw [← Nat.mul_assoc, Nat.mul_comm m 128]
          · rw [e2, hP, List.length_cons]
            push_cast
            omega
          · rw [hP] at hj ⊢
            cases j with
            | zero => exact ⟨h1.1, by rw [Nat.add_zero]; rfl⟩
            | succ j =>
              have := e3 j (by simpa using hj)
              rw [show i + 1 + j = i + (j + 1) by omega] at this
              exact this
    · rw [if_neg h1] at h
      exact absurd (by decide : ((0, -1) : Nat × Int).2 < 0) h
theorem uint_form {u : ByteArray} (h : uintE u = 0) : u = bs (putL (short (byteAt u) u.size).1) ++ uintS u := by
  have hneg : ¬ (short (byteAt u) u.size).2 < 0 := by
    intro hn
    unfold uintE at h
    rw [if_pos hn] at h
    cases h
  obtain ⟨m, e1, e2, e3, _⟩ := shG_put (byteAt u) u.size 11 0 0 (by omega) (by omega) hneg
  have e1' : (short (byteAt u) u.size).1 = m := by
    have : (short (byteAt u) u.size).1 = (shG (byteAt u) u.size 11 0 0).1 := rfl
    rw [this, e1]; simp
  have e2' : (short (byteAt u) u.size).2 = ((putL m).length : Int) := by
    have : (short (byteAt u) u.size).2 = (shG (byteAt u) u.size 11 0 0).2 := rfl
    rw [this, e2]; show ((0 : Nat) : Int) + _ = _; rw [show 9 - 0 = 9 from rfl]; unfold putL; omega
  have hS : uintS u = u.extract (putL m).length u.size := by
    unfold uintS
    rw [if_neg hneg, e2']; rfl
  have hl : (putL m).length ≤ u.size := by
    have hp := (putN_length 9 m).1
    have := (e3 ((putL m).length - 1) (by show _ < (putN 9 m).length; unfold putL; omega)).1
    unfold putL at this ⊢
    omega
  rw [e1', hS]
  apply ext_byteAt
  · rw [ByteArray.size_append, bs_size, ByteArray.size_extract]; omega
  · intro i hi
    rw [byteAt_app, bs_size]
    by_cases hlt : i < (putL m).length
    · rw [if_pos hlt, bytes_bs]
      have := (e3 i hlt).2
      rw [Nat.zero_add] at this
      exact this
    · rw [if_neg hlt, byteAt_cut u _ _ _ (Nat.le_refl _) (by omega)]
      congr 1
      omega
theorem listF_all (t : ByteArray) : bs (listF (byteAt t) t.size) = t := by
  apply ext_byteAt
  · rw [bs_size, listF_length]
  · intro i hi
    rw [bs_size, listF_length] at hi
    rw [bytes_bs, listF_get _ _ _ hi]
/-- Encode behind Decode: the same bytes. -/
theorem enc_dec {s t : ByteArray} {n H : Nat} (h : decO s = some (n, H, t)) : encB n H (byteAt t) = s ∧ 8 * n ≤ 16777216 ∧ H ≤ 8 ∧ t.size = n := by
  unfold decO at h
  by_cases hb : badM s = true
  · rw [if_pos hb] at h; cases h
  rw [if_neg hb] at h
  obtain ⟨t0, ht0⟩ : ∃ t0, s.extract 4 s.size = t0 := ⟨_, rfl⟩
  rw [ht0] at h
  by_cases h0 : uintE t0 ≠ 0
  · rw [if_pos h0] at h; cases h
  rw [if_neg h0] at h
  have h0' : uintE t0 = 0 := Classical.byContradiction h0
  by_cases h1 : uintE (uintS t0) ≠ 0
  · rw [if_pos h1] at h; cases h
  rw [if_neg h1] at h
  have h1' : uintE (uintS t0) = 0 := Classical.byContradiction h1
  have f0 := uint_form h0'
  have f1 := uint_form h1'
  generalize (short (byteAt t0) t0.size).1 = N at h f0
  generalize (short (byteAt (uintS t0)) (uintS t0).size).1 = M at h f1
  by_cases hc : 16777216 < N ∨ 8 < M ∨ szB (N : Int) (M : Int) = false ∨ (uintS (uintS t0)).size ≠ N / 8
  · rw [if_pos hc] at h; cases h
  rw [if_neg hc] at h
  simp only [Option.some.injEq, Prod.mk.injEq] at h
  obtain ⟨rfl, rfl, rfl⟩ := h
  have hsz : szB (N : Int) (M : Int) = true := by
    cases e : szB (N : Int) (M : Int) with
    | true => rfl
    | false => exact absurd (.inr (.inr (.inl e))) hc
  obtain ⟨k, _, m, q1, _, _, _, _, _, _⟩ := sz_yes hsz
  have hN8 : 8 * (N / 8) = N := by omega
  have hts : (uintS (uintS t0)).size = N / 8 := by omega
  have h4 : 4 ≤ s.size := by
    apply Classical.byContradiction
    intro hlt
    apply hb
    unfold badM
    rw [decide_eq_true (by omega)]; rfl
  have hmg : magicB s = true := by
    cases e : magicB s with
    | true => rfl
    | false => exact absurd (by unfold badM; rw [e]; simp) hb
  have hfront := (magic_iff h4).2 hmg
  refine ⟨?_, by omega, by omega, hts⟩
  unfold encB
  rw [hN8, ← hts, listF_all, ByteArray.append_assoc, ← f1, ByteArray.append_assoc, ← f0, ← hfront, ← ht0]
  apply ext_byteAt
  · rw [ByteArray.size_append, ByteArray.size_extract, ByteArray.size_extract]; omega
  · intro i hi
    rw [ByteArray.size_append, ByteArray.size_extract, ByteArray.size_extract] at hi
    rw [byteAt_app, ByteArray.size_extract]
    by_cases hlt : i < min 4 s.size - 0
    · rw [if_pos hlt, byteAt_cut s 0 4 i (by omega) (by omega), Nat.zero_add]
    · rw [if_neg hlt, byteAt_cut s 4 s.size _ (Nat.le_refl _) (by omega)]
      congr 1
      omega
end Go.Proofs.Ytbfmdingbgdflaa
namespace Go.Proofs.Ytbfmdingbgdflaa
open Go.RowKit Dig
set_option linter.unusedVariables false
set_option linter.unusedSimpArgs false
attribute [local go_sem ↓] execOp_ld8 execOp_st8 execOp_ld32 execOp_st32
attribute [local go_sem] run_ld8 run_st8 run_ld32 run_st32
def zero8 : Obj := .cells #[.int .u32 0, .int .u32 0, .int .u32 0, .int .u32 0, .int .u32 0, .int .u32 0, .int .u32 0, .int .u32 0] 89
theorem quick_start (w : World) : ok8 ((w.alloc zeroId).alloc zero8) (w.heap.size + 1) 0 = true ∧ (put8 ((w.alloc zeroId).alloc zero8) (w.heap.size + 1) 0 (uA 8 firstF)).rowIs (w.heap.size + 1) 89 8 (uV firstF) ∧
    (put8 ((w.alloc zeroId).alloc zero8) (w.heap.size + 1) 0 (uA 8 firstF)).rowIs w.heap.size 28 32 (fun _ => .int .u8 0) ∧ Below w.heap.size w (put8 ((w.alloc zeroId).alloc zero8) (w.heap.size + 1) 0 (uA 8 firstF)) := by
  have z0 := zeros_row w (T := 28) (c := _) (n := 32) (z := .int .u8 0) (by rfl)
  have z1 := zeros_row (w.alloc zeroId) (T := 89) (n := 8) (z := .int .u32 0) (c := #[.int .u32 0, .int .u32 0, .int .u32 0, .int .u32 0, .int .u32 0, .int .u32 0, .int .u32 0, .int .u32 0]) rfl
  rw [← size1] at z1
  obtain ⟨q1, q2⟩ := put8_row z1 0 (uA 8 firstF) (by omega) (u8_full firstF)
  have z0' : ((w.alloc zeroId).alloc zero8).rowIs w.heap.size 28 32 (fun _ => .int .u8 0) := World.rowIs.alloc z0 _
  refine ⟨ok8_of z1 (by omega), q1.congr (g := uV firstF) (fun i hi => by
    rw [if_pos (by omega)]
    simp [uA, uV, hi]), z0'.of_block (q2.block _ z0'.lt (by simp)), below_grown (((Below.refl _ _).alloc (Nat.le_refl _) _).alloc (by simp) _) q2 (fun g hg => by cases hg; omega)⟩
theorem rconstants_v {A : Array Value} (hA : uA 64 kF = A) (w : World) : Calls Try.prog 61 #[] w fun e w' => e = .returned (.agg A) ∧ Below w.heap.size w w' := by
  rw [← hA]; exact rconstants_any w
theorem refSum_v {A B : Array Value} {I : Nat → UInt8} (hA : uA 8 firstF = A) (hB : uA 64 kF = B) (s : ByteArray) (hI : shaF (byteAt s) s.size = I) (w : World) (hs : s.size ≤ 140737488351232) :
    Calls Try.prog 60 #[.string s, .agg A, .agg B] w fun e w' => e = .returned (.agg (idA I)) ∧ Below w.heap.size w w' := by
  rw [← hA, ← hB, ← hI]; exact refSum_big s w hs
set_option maxRecDepth 100000 in
set_option maxHeartbeats 0 in
theorem quick_big (s : ByteArray) (w : World) (hs : s.size ≤ 140737488351232) :
    Calls Try.prog 20 #[.string s] w fun e w' => e = .returned (.agg (idA (shaF (byteAt s) s.size))) ∧ Below w.heap.size w w' := by
  obtain ⟨h1, h2⟩ := quick_start w
  have f8 := u8_full firstF
  have H := Lib.hid h2
  clear h2
  rw [← first_lit] at f8
  unfold zeroId zero8 at h1
  go_enter Try.func20, Try.ntmps20
  go_upto_region 2 with fail
  rw [first_lit]
  change Code.wp _ _ _ _ (put8 ((w.alloc zeroId).alloc zero8) (w.heap.size + 1) 0 (uA 8 firstF))
  generalize put8 ((w.alloc zeroId).alloc zero8) (w.heap.size + 1) 0 (uA 8 firstF) = w2 at H ⊢
  clear h1 f8
  have K2 : Hid (∀ w', Below w2.heap.size w2 w' → (ok8 w' (w.heap.size + 1) 0 = true ∧ row8 w' (w.heap.size + 1) 0 = uA 8 firstF) ∧ ok32 w' w.heap.size 0 = true ∧ ∀ I, (ok8 (put32 w' w.heap.size 0 (idA I)) (w.heap.size + 1) 0 = true ∧ row8 (put32 w' w.heap.size 0 (idA I)) (w.heap.size + 1) 0 = uA 8 firstF)) := Lib.hid (fun w' hb => by
    have r1 : w'.rowIs (w.heap.size + 1) 89 8 (uV firstF) := H.out.1.of_block (hb.block _ H.out.1.lt)
    have r2 : w'.rowIs w.heap.size 28 32 (fun _ => .int .u8 0) := H.out.2.1.of_block (hb.block _ H.out.2.1.lt)
    refine ⟨⟨ok8_of r1 (by omega), row8_u r1⟩, ok32_of r2 (by omega), fun I => ?_⟩
    obtain ⟨q1, q2⟩ := put32_row r2 0 (idA I) (by omega) (idA_full I)
    have r3 := r1.of_block (q2.block _ r1.lt (by simp))
    exact ⟨ok8_of r3 (by omega), row8_u r3⟩)
  obtain ⟨A8, hA8⟩ : ∃ A, uA 8 firstF = A := ⟨_, rfl⟩
  obtain ⟨A64, hA64⟩ : ∃ A, uA 64 kF = A := ⟨_, rfl⟩
  rw [hA8] at K2 ⊢
  have H8 := Lib.hid hA8
  have H64 := Lib.hid hA64
  clear hA8 hA64
  obtain ⟨I, hI⟩ : ∃ I, shaF (byteAt s) s.size = I := ⟨_, rfl⟩
  have HI := Lib.hid hI
  clear hI
  have SA := (K2.out w2.drew ((Below.refl _ _).drew)).1
  refine wp_region_held_drew (S := fun w' => ok8 w' (w.heap.size + 1) 0 = true ∧ row8 w' (w.heap.size + 1) 0 = A8) (by kernel_rfl) (by first | exact SD | exact SC | exact SB | exact SA) (fun hHeld => ?_)
  refine wpAnyH_take (i := 0) (oi := _) (v := _) rfl (by kernel_rfl) (by kernel_rfl) (by kernel_rfl) (fun _ _ _ h => h) (Or.inl ⟨by rfl, by (intro w hSw; (try dsimp only at hSw); go_simp; first | done | with_reducible rfl)⟩) (by assumption) ?_
  (try simp only [Act.put, List.setIfInBounds_toArray, List.set_cons_zero, List.set_cons_succ])
  refine wpAnyH_take (i := 1) (oi := { dst := some 6, op := .load 89 (.tmp 3), type := 89, pos := "ref.go:144", after := #[], guard := none }) (v := _) rfl (by kernel_rfl) (by kernel_rfl) (by kernel_rfl) (fun _ _ _ h => h) (Or.inl ⟨by rfl, by (intro w hSw; (try dsimp only at hSw); go_simp; first | done | with_reducible rfl)⟩) (by assumption) ?_
  (try simp only [Act.put, List.setIfInBounds_toArray, List.set_cons_zero, List.set_cons_succ])
  refine wpAnyH_ready (rs := [2]) (by kernel_rfl) (by simp) (AllReadyH.cons rfl (fun K hK => ?_) AllReadyH.nil)
  try simp only [List.getElem_toArray, List.getElem_cons_succ, List.getElem_cons_zero]
  go_simp
  go_at_call 61
  refine (rconstants_v H64.out _).mono ?_
  rintro e w3 ⟨rfl, hb3⟩
  have SB := (K2.out w3 (((Below.refl _ _).drew).trans hb3)).1
  have HB3 := Lib.hid (((Below.refl w2.heap.size w2).drew).trans hb3)
  clear hb3
  go_simp
  refine hK.out _ _ (by first | exact SD | exact SC | exact SB | exact SA) (fun hHeld => ?_)
  clear hK K
  (try simp only [Act.put, List.setIfInBounds_toArray, List.set_cons_zero, List.set_cons_succ])
  refine wpAnyH_ready (rs := [3]) (by kernel_rfl) (by simp) (AllReadyH.cons rfl (fun K hK => ?_) AllReadyH.nil)
  try simp only [List.getElem_toArray, List.getElem_cons_succ, List.getElem_cons_zero]
  go_simp
  go_at_call 60
  refine (refSum_v H8.out H64.out s HI.out _ hs).mono ?_
  rintro e w4 ⟨rfl, hb4⟩
  have HB4 := Lib.hid (HB3.out.trans (hb4.mono HB3.out.size))
  have SC := (K2.out w4 HB4.out).1
  have SD := (K2.out w4 HB4.out).2.2 I
  have o4 := (K2.out w4 HB4.out).2.1
  have f4 := idA_full I
  clear hb4
  go_simp
  refine hK.out _ _ (by first | exact SD | exact SC | exact SB | exact SA) (fun hHeld => ?_)
  clear hK K
  (try simp only [Act.put, List.setIfInBounds_toArray, List.set_cons_zero, List.set_cons_succ])
  refine wpAnyH_ready (rs := [4]) (by kernel_rfl) (by simp) (AllReadyH.cons rfl (fun K hK => ?_) AllReadyH.nil)
  try simp only [List.getElem_toArray, List.getElem_cons_succ, List.getElem_cons_zero]
  go_simp
  refine hK.out _ _ (by first | exact SD | exact SC | exact SB | exact SA) (fun hHeld => ?_)
  clear hK K
  (try simp only [Act.put, List.setIfInBounds_toArray, List.set_cons_zero, List.set_cons_succ])
  refine wpAnyH_done (by kernel_rfl) ?_ _
  have HP := Lib.hid (id_put (w := w) (g := w.heap.size) I (H.out.2.1.of_block (HB4.out.block _ H.out.2.1.lt) : w4.rowIs w.heap.size 28 32 (fun _ => .int .u8 0)) (H.out.2.2.trans (HB4.out.mono H.out.2.2.size)) (Nat.le_refl _))
  clear SA SB SC SD o4 f4
  go_wp2
  exact bodyPost_ret (v := .agg (idA (I))) (results_cell_row rfl _ _ w.heap.size 28 _ (0, 0) _ rfl HP.out.1 Try.underlying28 rfl (by rw [idA_size]; kernel_rfl)) rfl ⟨by rw [HI.out], HP.out.2⟩
theorem quick_any (s : ByteArray) (w : World) (hs : s.size ≤ 16777216) :
    Calls Try.prog 20 #[.string s] w fun e w' => e = .returned (.agg (idA (shaF (byteAt s) s.size))) ∧ Below w.heap.size w w' := quick_big s w (by omega)
end Go.Proofs.Ytbfmdingbgdflaa
namespace Go.Proofs.Ytbfmdingbgdflaa
open Go.RowKit
set_option linter.unusedVariables false
def lmV (f : Nat → Nat) : Nat → Value := fun i => .int .u64 (f i : Int)
def vl (f : Nat → Nat) : Nat := f 0 + f 1 * 4294967296 + f 2 * 18446744073709551616 + f 3 * 79228162514264337593543950336 + f 4 * 340282366920938463463374607431768211456
def pw : Nat → Nat
  | 0 => 1
  | 1 => 4294967296
  | 2 => 18446744073709551616
  | 3 => 79228162514264337593543950336
  | 4 => 340282366920938463463374607431768211456
  | _ => 1461501637330902918203684832716283019655932542976
theorem pw_succ (k : Nat) (h : k < 5) : pw (k + 1) = pw k * 4294967296 := by
  have : k = 0 ∨ k = 1 ∨ k = 2 ∨ k = 3 ∨ k = 4 := by omega
  rcases this with rfl | rfl | rfl | rfl | rfl <;> rfl
theorem pw_pow (k : Nat) (h : k < 6) : pw k = 2 ^ (32 * k) := by
  have : k = 0 ∨ k = 1 ∨ k = 2 ∨ k = 3 ∨ k = 4 ∨ k = 5 := by omega
  rcases this with rfl | rfl | rfl | rfl | rfl | rfl <;> rfl
theorem put_step (f : Nat → Nat) (k m x y z r q1 q2 : Nat) (hk : k < 5) (hx : f k = x) (hm : m = q1 * 4294967296 + r) (hy : y = x + r) (hz : y = q2 * 4294967296 + z) :
    vl (fun i => if i = k then z else f i) + (q1 + q2) * pw (k + 1) = vl f + m * pw k := by
  have : k = 0 ∨ k = 1 ∨ k = 2 ∨ k = 3 ∨ k = 4 := by omega
  subst hx
  rcases this with rfl | rfl | rfl | rfl | rfl <;> simp [vl, pw] <;> omega
/-- The first k limbs' number. -/
def pl (f : Nat → Nat) : Nat → Nat
  | 0 => 0
  | k + 1 => pl f k + f k * pw k
theorem pl_all (f : Nat → Nat) : pl f 5 = vl f := by simp [pl, vl, pw]
theorem pl_le (f : Nat → Nat) (k : Nat) (h : k < 5) : pl f k + f k * pw k ≤ vl f := by
  have : k = 0 ∨ k = 1 ∨ k = 2 ∨ k = 3 ∨ k = 4 := by omega
  rcases this with rfl | rfl | rfl | rfl | rfl <;> simp [vl, pw, pl] <;> omega
theorem limb_step (f : Nat → Nat) (x lo hi k : Nat) (h : k < 5) (hx : x = hi * 4294967296 + lo) : pl f k * x + f k * lo * pw k + f k * hi * pw (k + 1) = pl f (k + 1) * x := by
  have e : f k * pw k * x = f k * lo * pw k + f k * hi * (pw k * 4294967296) := by
    rw [hx, Nat.mul_add, Nat.add_comm]
    congr 1
    · ac_rfl
    · ac_rfl
  rw [pw_succ k h, pl, Nat.add_mul, e, Nat.add_assoc]
theorem vl_eq {f g : Nat → Nat} (h : ∀ j, j < 5 → f j = g j) : vl f = vl g := by
  unfold vl
  rw [h 0 (by omega), h 1 (by omega), h 2 (by omega), h 3 (by omega), h 4 (by omega)]
theorem vl_cmp {f g : Nat → Nat} (hf : ∀ j, j < 5 → f j < 4294967296) (hg : ∀ j, j < 5 → g j < 4294967296) (k : Nat) (hk : k < 5) (h : ∀ j, k < j → j < 5 → f j = g j) (hne : f k ≠ g k) : (vl f ≤ vl g) ↔ f k < g k := by
  have f0 := hf 0 (by omega)
  have f1 := hf 1 (by omega)
  have f2 := hf 2 (by omega)
  have f3 := hf 3 (by omega)
  have f4 := hf 4 (by omega)
  have g0 := hg 0 (by omega)
  have g1 := hg 1 (by omega)
  have g2 := hg 2 (by omega)
  have g3 := hg 3 (by omega)
  have g4 := hg 4 (by omega)
  unfold vl
  have : k = 0 ∨ k = 1 ∨ k = 2 ∨ k = 3 ∨ k = 4 := by omega
  rcases this with rfl | rfl | rfl | rfl | rfl
  · have e1 := h 1 (by omega) (by omega)
    have e2 := h 2 (by omega) (by omega)
    have e3 := h 3 (by omega) (by omega)
    have e4 := h 4 (by omega) (by omega)
    omega
  · have e2 := h 2 (by omega) (by omega)
    have e3 := h 3 (by omega) (by omega)
    have e4 := h 4 (by omega) (by omega)
    omega
  · have e3 := h 3 (by omega) (by omega)
    have e4 := h 4 (by omega) (by omega)
    omega
  · have e4 := h 4 (by omega) (by omega)
    omega
  · omega
theorem vl_one (k p : Nat) (h : k < 5) : vl (fun i => if i = k then p else 0) = p * pw k := by
  have : k = 0 ∨ k = 1 ∨ k = 2 ∨ k = 3 ∨ k = 4 := by omega
  rcases this with rfl | rfl | rfl | rfl | rfl <;> simp [vl, pw]
def prL : List Nat := [2, 3, 5, 7, 11, 13, 17, 19, 23, 29, 31, 37, 41, 43, 47, 53, 59, 61, 67, 71, 73, 79, 83, 89, 97, 101, 103, 107, 109, 113, 127, 131, 137, 139, 149, 151, 157, 163, 167, 173, 179, 181, 191, 193, 197, 199, 211, 223, 227, 229, 233, 239, 241, 251, 257, 263, 269, 271, 277, 281, 283, 293, 307, 311]
def prF (k : Nat) : List Nat := prL.filter fun x => decide (x < k + 2)
/-- Where the divisors end that are tried. -/
def stp (p : Nat) : List Nat → Nat
  | [] => 0
  | x :: r => if x * x ≤ p then stp p r + 1 else 0
theorem stp_le (p : Nat) : ∀ l, stp p l ≤ l.length
  | [] => Nat.le_refl _
  | x :: r => by rw [stp]; split <;> simp; exact stp_le p r
theorem stp_lt (p : Nat) : ∀ (l : List Nat) (i : Nat), i < stp p l → l.getD i 0 * l.getD i 0 ≤ p
  | [], i, h => by simp [stp] at h
  | x :: r, i, h => by
    rw [stp] at h
    split at h
    · cases i with
      | zero => simpa using ‹x * x ≤ p›
      | succ i => simpa using stp_lt p r i (by omega)
    · omega
theorem stp_at (p : Nat) : ∀ (l : List Nat), stp p l < l.length → ¬ l.getD (stp p l) 0 * l.getD (stp p l) 0 ≤ p
  | [], h => by simp at h
  | x :: r, h => by
    rw [stp] at h ⊢
    split
    · rw [if_pos ‹x * x ≤ p›] at h
      simpa using stp_at p r (by simpa using h)
    · simpa using ‹¬ x * x ≤ p›
def isS (l : List Nat) (p i : Nat) : Bool := (l.take i).all fun x => p % x != 0
theorem isS_succ (l : List Nat) (p i : Nat) (h : i < l.length) : isS l p (i + 1) = (isS l p i && (p % l.getD i 0 != 0)) := by
  unfold isS
  rw [List.take_add_one, List.getElem?_eq_getElem h, List.all_append, List.getD_eq_getElem?_getD, List.getElem?_eq_getElem h]
  simp
theorem pr_steps : ((List.range 310).all fun k => if isS (prF k) (k + 2) (stp (k + 2) (prF k)) then prF (k + 1) == prF k ++ [k + 2] else prF (k + 1) == prF k) = true := by decide +kernel
theorem pr_lens : ((List.range 310).all fun k => decide ((prF k).length < 64)) = true := by decide +kernel
theorem pr_end : prF 310 = prL := by decide +kernel
theorem pr_len : prL.length = 64 := by decide +kernel
theorem pr_bd : (prL.all fun x => decide (2 ≤ x ∧ x ≤ 311)) = true := by decide +kernel
theorem pr_step (k : Nat) (h : k < 310) : (isS (prF k) (k + 2) (stp (k + 2) (prF k)) = true → prF (k + 1) = prF k ++ [k + 2]) ∧ (isS (prF k) (k + 2) (stp (k + 2) (prF k)) = false → prF (k + 1) = prF k) := by
  have := List.all_eq_true.1 pr_steps k (List.mem_range.2 h)
  refine ⟨fun e => ?_, fun e => ?_⟩
  · rw [e] at this; exact eq_of_beq this
  · rw [e] at this; exact eq_of_beq this
theorem pr_short (k : Nat) (h : k < 310) : (prF k).length < 64 := of_decide_eq_true (List.all_eq_true.1 pr_lens k (List.mem_range.2 h))
theorem pr_val (k i : Nat) (h : i < (prF k).length) : 2 ≤ (prF k).getD i 0 ∧ (prF k).getD i 0 ≤ 311 := by
  rw [List.getD_eq_getElem?_getD, List.getElem?_eq_getElem h]
  have hm : (prF k)[i] ∈ prL := (List.mem_filter.1 (List.getElem_mem h)).1
  exact of_decide_eq_true (List.all_eq_true.1 pr_bd _ hm)
def pV (l : List Nat) : List Value := l.map fun (n : Nat) => Value.int .u64 (n : Int)
theorem pV_get (l : List Nat) (i : Nat) (h : i < l.length) : (pV l)[i]? = some (.int .u64 ((l.getD i 0 : Nat) : Int)) := by
  unfold pV
  rw [List.getElem?_map, List.getElem?_eq_getElem h, List.getD_eq_getElem?_getD, List.getElem?_eq_getElem h]; rfl
theorem pV_len (l : List Nat) : (pV l).length = l.length := by simp [pV]
theorem Reads.u64 {w : World} {B n : Nat} {A : Option Addr} {l : List Nat} (h : Reads w B 1 A n (pV l)) {i : Nat} (hi : i < n) : ∃ ad, A = some ad ∧ ad.block < B ∧ w.cell? (ad.add i) = some (.int .u64 ((l.getD i 0 : Nat) : Int)) := by
  obtain ⟨ad, u, e, hb, h1, h2⟩ := h.at_ hi
  have hl : i < l.length := by have := h.1; rw [pV_len] at this; omega
  rw [pV_get l i hl] at h1
  injection h1 with h1
  exact ⟨ad, e, hb, by rw [h2, h1]⟩
end Go.Proofs.Ytbfmdingbgdflaa
namespace Go.Proofs.Ytbfmdingbgdflaa
open Go.RowKit
set_option linter.unusedVariables false
theorem elemU64 : Elem1 Try.prog 113 37 (.int .u64 0) 8 := Elem1.of (by kernel_rfl) (by kernel_rfl) rfl
theorem u64_made (w : World) (n : Nat) (hn : n ≤ 1048576) :
    (Instr.makeSlice 113 (.int .i64 (n : Int)) (.int .i64 (n : Int))).run Try.prog w = .ok (.slice (some ⟨w.heap.size, 0, none⟩) n n) (w.alloc (.cells (madeCells #[.int .u64 0] n) 37)) := by
  obtain ⟨i, hi, h1, h2, h3⟩ := elemU64.info
  have := run_make_rowN (P := Try.prog) 113 37 i _ (by kernel_rfl) hi h1 .i64 .i64 n n (Nat.le_refl _) (by rw [h3]; omega) (by omega) w
  rw [h2, Nat.mul_one] at this
  exact this
/-- Five limbs in memory, with their number. -/
structure Lm (w : World) (g : Nat) (f : Nat → Nat) : Prop where
  row : w.rowIs g 37 5 (lmV f)
  low : ∀ i, i < 5 → f i < 4294967296
theorem Lm.of_block {w w' : World} {g : Nat} {f : Nat → Nat} (h : Lm w g f) (e : w'.heap[g]? = w.heap[g]?) : Lm w' g f := ⟨h.row.of_block e, h.low⟩
theorem Lm.below {w w' : World} {g : Nat} {f : Nat → Nat} (h : Lm w g f) (hb : Below w.heap.size w w') : Lm w' g f := h.of_block (hb.block _ h.row.lt)
theorem last_zero {c v m T : Nat} (h : v + m * c = T) (hT : T < c) : m = 0 ∧ v = T := by
  rcases Nat.eq_zero_or_pos m with rfl | hp
  · exact ⟨rfl, by rw [← h, Nat.zero_mul, Nat.add_zero]⟩
  · have := Nat.le_mul_of_pos_left c hp
    omega
set_option maxRecDepth 100000 in
set_option maxHeartbeats 0 in
theorem put_limb (g : Nat) (f : Nat → Nat) (a n : Nat) (w : World) (h : Lm w g f) (hn : n < 18446744073709551616) (ha : a ≤ 5) (hv : vl f + n * pw a < pw 5) :
    Calls Try.prog 104 #[.slice (some ⟨g, 0, none⟩) 5 5, .int .i64 (a : Int), .int .u64 (n : Int)] w fun e w' =>
      e = .returned (.tuple #[]) ∧ (∃ f', Lm w' g f' ∧ vl f' = vl f + n * pw a) ∧ w.grownBy w' (some g) := by
  obtain ⟨T, hT⟩ : ∃ T, vl f + n * pw a = T := ⟨_, rfl⟩
  have H0 : Hid (Lm w g f ∧ vl f + n * pw a = T ∧ w.grownBy w (some g)) := Lib.hid ⟨h, hT, World.grownBy.refl _ _⟩
  rw [hT] at hv
  have HT := Lib.hid (And.intro hT hv)
  clear h hv hT
  go_enter Try.func104, Try.ntmps104
  go_wp2
  go_loopw [1, 2] (fun av nv wr => ∃ (k m : Nat) (f1 : Nat → Nat), k ≤ 5 ∧ m < 18446744073709551616 ∧ av = .int .i64 (k : Int) ∧ nv = .int .u64 (m : Int) ∧ Hid (Lm wr g f1 ∧ vl f1 + m * pw k = T ∧ w.grownBy wr (some g))) (fun av _ _ => 5 - (intOf av).toNat)
  case atStart => exact ⟨a, n, f, ha, hn, rfl, rfl, H0⟩
  case round =>
    obtain ⟨k, m, f1, hk, hm, rfl, rfl, HR⟩ := hrel
    by_cases hlt : k < 5
    · have hki : (k : Int) < 5 := by omega
      by_cases hm0 : 0 < m
      · have hmi : (0 : Int) < (m : Int) := by omega
        obtain ⟨x, hx⟩ : ∃ x, f1 k = x := ⟨_, rfl⟩
        have hxl : x < 4294967296 := by rw [← hx]; exact HR.out.1.low k hlt
        obtain ⟨r, hr⟩ : ∃ r, m % 4294967296 = r := ⟨_, rfl⟩
        obtain ⟨y, hy⟩ : ∃ y, x + r = y := ⟨_, rfl⟩
        obtain ⟨z, hz⟩ : ∃ z, y % 4294967296 = z := ⟨_, rfl⟩
        obtain ⟨q1, hq1⟩ : ∃ q1, m / 4294967296 = q1 := ⟨_, rfl⟩
        obtain ⟨q2, hq2⟩ : ∃ q2, y / 4294967296 = q2 := ⟨_, rfl⟩
        obtain ⟨q, hq⟩ : ∃ q, q1 + q2 = q := ⟨_, rfl⟩
        have c0 : wr.cell? ⟨g, k, none⟩ = some (.int .u64 (x : Int)) := by rw [HR.out.1.row.cell hlt, lmV, hx]
        have f0 : wr.frozen? ⟨g, k, none⟩ = false := HR.out.1.row.frozen _
        have E1 : (m : Int) % 4294967296 = (r : Int) := by omega
        have E2 : (x : Int) + (r : Int) = (y : Int) := by omega
        have E3 : (y : Int) % 4294967296 = (z : Int) := by omega
        have E4 : (m : Int) / 4294967296 = (q1 : Int) := by omega
        have E5 : (y : Int) / 4294967296 = (q2 : Int) := by omega
        have E6 : (q1 : Int) + (q2 : Int) = (q : Int) := by omega
        have W1 : (y : Int) % 18446744073709551616 = (y : Int) := by omega
        have W2 : (q : Int) % 18446744073709551616 = (q : Int) := by omega
        have V1 : IntKind.u64.wrap (y : Int) = (y : Int) := by rw [IntKind.wrap_u64]; omega
        have V2 : IntKind.u64.wrap (q : Int) = (q : Int) := by rw [IntKind.wrap_u64]; omega
        have hzl : z < 4294967296 := by omega
        have hql : q < 18446744073709551616 := by omega
        have ST : Hid (vl (fun i => if i = k then z else f1 i) + q * pw (k + 1) = vl f1 + m * pw k) := Lib.hid (by rw [← hq]; exact put_step f1 k m x y z r q1 q2 hlt hx (by omega) hy.symm (by omega))
        clear hr hy hz hq1 hq2 hx hq
        go_wp2
        go_roundw
        case rel =>
          refine ⟨k + 1, q, fun i => if i = k then z else f1 i, by omega, hql, by go_num, by first | rfl | (congr 1), Lib.hid ⟨⟨((HR.out.1.row.set k _).set k _).congr fun i hi => ?_, fun i hi => ?_⟩, ?_, only_setCell (only_setCell HR.out.2.2 (.inl rfl) _) (.inl rfl) _⟩⟩
          · by_cases e : i = k
            · simp [lmV, e]
            · simp [lmV, e]
          · show (if i = k then z else f1 i) < _
            by_cases e : i = k
            · rw [if_pos e]; exact hzl
            · rw [if_neg e]; exact HR.out.1.low i hi
          · rw [ST.out]; exact HR.out.2.1
        case measure => simp [intOf]; omega
      · obtain rfl : m = 0 := by omega
        rw [show ((0 : Nat) : Int) = 0 from rfl]
        go_wp2
        go_end0
        refine ⟨rfl, ⟨f1, HR.out.1, ?_⟩, HR.out.2.2⟩
        have := HR.out.2.1
        rw [Nat.zero_mul, Nat.add_zero] at this
        rw [this, HT.out.1]
    · obtain rfl : k = 5 := by omega
      obtain ⟨hm0, hv0⟩ := last_zero HR.out.2.1 HT.out.2
      subst hm0
      have EV := Lib.hid hv0
      clear hv0
      rw [show ((5 : Nat) : Int) = 5 from rfl]
      go_wp2
      go_end0
      exact ⟨rfl, ⟨f1, HR.out.1, by rw [EV.out, HT.out.1]⟩, HR.out.2.2⟩
theorem fit1 {v a b c d e : Nat} (h : v = a) (s : a + b + c = d) (hd : d < e) : v + b < e := by omega
theorem fit2 {v a b c d e : Nat} (h : v = a + b) (s : a + b + c = d) (hd : d < e) : v + c < e := by omega
theorem vl_zero : vl (fun _ => 0) = 0 := rfl
set_option maxRecDepth 100000 in
set_option maxHeartbeats 0 in
theorem times_limb (g : Nat) (l : Nat → Nat) (x : Nat) (w : World) (h : Lm w g l) (hx : x < 274877906944) (hv : vl l * x < pw 5) :
    Calls Try.prog 101 #[.slice (some ⟨g, 0, none⟩) 5 5, .int .u64 (x : Int)] w fun e w' =>
      e = .returned (.slice (some ⟨w.heap.size, 0, none⟩) 5 5) ∧ (∃ f', Lm w' w.heap.size f' ∧ vl f' = vl l * x) ∧ Below w.heap.size w w' := by
  have H := Lib.hid h
  obtain ⟨lo, hlo⟩ : ∃ lo, x % 4294967296 = lo := ⟨_, rfl⟩
  obtain ⟨hi, hhi⟩ : ∃ hi, x / 4294967296 = hi := ⟨_, rfl⟩
  have E1 : (x : Int) % 4294967296 = (lo : Int) := by omega
  have E2 : (x : Int) / 4294967296 = (hi : Int) := by omega
  have HX : Hid (x = hi * 4294967296 + lo) := Lib.hid (by omega)
  have hlo2 : lo < 4294967296 := by omega
  have hhi2 : hi < 64 := by omega
  have HV := Lib.hid hv
  have mk := fun W => u64_made W 5 (by omega)
  have mk5 : ∀ W, (Instr.makeSlice 113 (.int .i64 5) (.int .i64 5)).run Try.prog W = .ok (.slice (some ⟨W.heap.size, 0, none⟩) 5 5) (W.alloc (.cells (madeCells #[.int .u64 0] 5) 37)) := mk
  clear mk h hv hlo hhi
  go_enter Try.func101, Try.ntmps101
  go_wp2
  have M1 : Hid (Lm (w.alloc (.cells (madeCells #[.int .u64 0] 5) 37)) w.heap.size (fun _ => 0) ∧ Below w.heap.size w (w.alloc (.cells (madeCells #[.int .u64 0] 5) 37))) := Lib.hid ⟨⟨World.rowIs_made w (.int .u64 0) 5 37, fun _ _ => by omega⟩, (Below.refl _ _).alloc (Nat.le_refl _) _⟩
  generalize w.alloc (.cells (madeCells #[.int .u64 0] 5) 37) = w1 at M1 ⊢
  obtain ⟨N, hN⟩ : ∃ N, w.heap.size = N := ⟨_, rfl⟩
  have hgN : g < N := by rw [← hN]; exact H.out.row.lt
  rw [hN] at M1
  have HN := Lib.hid hN
  try rw [hN]
  clear hN
  simp only [E1]
  go_loopw [8] (fun i wr => ∃ (k : Nat) (f : Nat → Nat), k ≤ 5 ∧ i = .int .i64 (k : Int) ∧ Hid (Lm wr N f ∧ vl f = pl l k * x ∧ Below N w wr ∧ Lm wr g l)) (fun i _ => 5 - (intOf i).toNat)
  case atStart => exact ⟨0, fun _ => 0, by omega, rfl, Lib.hid ⟨M1.out.1, by rw [vl_zero, pl, Nat.zero_mul], M1.out.2, H.out.of_block (M1.out.2.block _ hgN)⟩⟩
  case round =>
    obtain ⟨k, f, hk, rfl, HR⟩ := hrel
    by_cases hlt : k < 5
    · obtain ⟨y, hy⟩ : ∃ y, l k = y := ⟨_, rfl⟩
      have hyl : y < 4294967296 := by rw [← hy]; exact H.out.low k hlt
      have c0 : wr.cell? ⟨g, k, none⟩ = some (.int .u64 (y : Int)) := by rw [HR.out.2.2.2.row.cell hlt, lmV, hy]
      obtain ⟨n1, hn1⟩ : ∃ n1, y * lo = n1 := ⟨_, rfl⟩
      obtain ⟨n2, hn2⟩ : ∃ n2, y * hi = n2 := ⟨_, rfl⟩
      have b1 : n1 < 18446744073709551616 := by
        have := Nat.mul_le_mul (show y ≤ 4294967295 by omega) (show lo ≤ 4294967295 by omega)
        omega
      have b2 : n2 < 18446744073709551616 := by
        have := Nat.mul_le_mul (show y ≤ 4294967295 by omega) (show hi ≤ 63 by omega)
        omega
      have F1 : (y : Int) * (lo : Int) = (n1 : Int) := by rw [← hn1]; exact (Int.natCast_mul y lo).symm
      have F2 : (y : Int) * (hi : Int) = (n2 : Int) := by rw [← hn2]; exact (Int.natCast_mul y hi).symm
      have V1 : IntKind.u64.wrap (n1 : Int) = (n1 : Int) := by rw [IntKind.wrap_u64]; omega
      have V2 : IntKind.u64.wrap (n2 : Int) = (n2 : Int) := by rw [IntKind.wrap_u64]; omega
      have W1 : (n1 : Int) % 18446744073709551616 = (n1 : Int) := by omega
      have W2 : (n2 : Int) % 18446744073709551616 = (n2 : Int) := by omega
      obtain ⟨k1, hk1n⟩ : ∃ k1, k + 1 = k1 := ⟨_, rfl⟩
      have hk1 : (k : Int) + 1 = (k1 : Int) := by omega
      have hk15 : k1 ≤ 5 := by omega
      have SUM : Hid (pl l k * x + n1 * pw k + n2 * pw k1 = pl l k1 * x ∧ pl l k1 * x < pw 5) := Lib.hid (by
        have s := limb_step l x lo hi k hlt HX.out
        rw [hy, hn1, hn2, hk1n] at s
        refine ⟨s, Nat.lt_of_le_of_lt (Nat.mul_le_mul_right x ?_) HV.out⟩
        rw [← hk1n]; exact pl_le l k hlt)
      clear hn1 hn2 hy hk1n
      go_wp2_with fail
      refine (put_limb N f k n1 wr HR.out.1 b1 (by omega) (fit1 HR.out.2.1 SUM.out.1 SUM.out.2)).mono ?_
      rintro e w2 ⟨rfl, ⟨f2, hf2, hv2⟩, hg2⟩
      have R2 : Hid (Lm w2 N f2 ∧ vl f2 = pl l k * x + n1 * pw k ∧ Below N w w2 ∧ Lm w2 g l) := Lib.hid ⟨hf2, by rw [hv2, HR.out.2.1], ⟨hg2.os.trans HR.out.2.2.1.os, hg2.tape.trans HR.out.2.2.1.tape, hg2.output.trans HR.out.2.2.1.output, Nat.le_trans HR.out.2.2.1.size hg2.size, fun j hj => (hg2.block j (by have := HR.out.1.row.lt; omega) (by intro e; injection e with e; omega)).trans (HR.out.2.2.1.block j hj)⟩, HR.out.2.2.2.of_block (hg2.block _ HR.out.2.2.2.row.lt (by intro e; injection e with e; omega))⟩
      have c1 : w2.cell? ⟨g, k, none⟩ = some (.int .u64 (y : Int)) := by
        rw [← c0]
        exact World.cell?_of_block (hg2.block _ HR.out.2.2.2.row.lt (by intro e; injection e with e; have e2 : g = N := e; omega))
      clear hf2 hv2 hg2
      go_wp2_with fail
      refine (put_limb N f2 k1 n2 w2 R2.out.1 b2 hk15 (fit2 R2.out.2.1 SUM.out.1 SUM.out.2)).mono ?_
      rintro e w3 ⟨rfl, ⟨f3, hf3, hv3⟩, hg3⟩
      have R3 : Hid (Lm w3 N f3 ∧ vl f3 = pl l k1 * x ∧ Below N w w3 ∧ Lm w3 g l) := Lib.hid ⟨hf3, by rw [hv3, R2.out.2.1]; exact SUM.out.1, ⟨hg3.os.trans R2.out.2.2.1.os, hg3.tape.trans R2.out.2.2.1.tape, hg3.output.trans R2.out.2.2.1.output, Nat.le_trans R2.out.2.2.1.size hg3.size, fun j hj => (hg3.block j (by have := R2.out.1.row.lt; omega) (by intro e; injection e with e; omega)).trans (R2.out.2.2.1.block j hj)⟩, R2.out.2.2.2.of_block (hg3.block _ R2.out.2.2.2.row.lt (by intro e; injection e with e; omega))⟩
      clear hf3 hv3 hg3
      go_wp2
      go_roundw
      case rel => exact ⟨k1, f3, hk15, by first | rfl | (congr 1) | go_num, R3⟩
      case measure => simp [intOf]; omega
    · obtain rfl : k = 5 := by omega
      rw [show ((5 : Nat) : Int) = 5 from rfl]
      go_wp2
      go_ret
      refine ⟨by rw [HN.out]; rfl, ⟨f, by rw [HN.out]; exact HR.out.1, by rw [HR.out.2.1, pl_all]⟩, by rw [HN.out]; exact HR.out.2.2.1⟩
end Go.Proofs.Ytbfmdingbgdflaa
namespace Go.Proofs.Ytbfmdingbgdflaa
open Go.RowKit
set_option linter.unusedVariables false
set_option maxRecDepth 100000 in
set_option maxHeartbeats 0 in
theorem primes_any (w : World) :
    Calls Try.prog 79 #[.int .i64 64] w fun e w' => (∃ A c, e = .returned (.slice A 64 c) ∧ Reads w' w'.heap.size 1 A 64 (pV prL)) ∧ Below w.heap.size w w' := by
  go_enter Try.func79, Try.ntmps79
  go_wp2
  go_loopw [3, 4, 5, 6] (fun v p _ _ wr => ∃ k n : Nat, k ≤ 310 ∧ n ≤ 64 ∧ p = .int .u64 ((k + 2 : Nat) : Int) ∧ Hid ((prF k).length = n ∧ wr.ownsRow w.heap.size 37 1 v n (pV (prF k)) ∧ Below w.heap.size w wr)) (fun _ p _ _ _ => 312 - (intOf p).toNat)
  case atStart => exact ⟨0, 0, by omega, by omega, rfl, Lib.hid ⟨by decide +kernel, World.ownsRow_nil _ _ _ _, Below.refl _ _⟩⟩
  case round =>
    obtain ⟨k, n, hk, hn, rfl, HR⟩ := hrel
    obtain ⟨A, c, rfl, hrd⟩ := own_reads HR.out.2.1
    have RD := Lib.hid hrd
    clear hrd
    by_cases hlt : k < 310
    · have hn64 : n < 64 := by rw [← HR.out.1]; exact pr_short k hlt
      have hn64i : (n : Int) < 64 := by omega
      obtain ⟨p, hp⟩ : ∃ p, k + 2 = p := ⟨_, rfl⟩
      have hpl : p < 312 := by omega
      rw [hp]
      obtain ⟨l, hl⟩ : ∃ l, prF k = l := ⟨_, rfl⟩
      have HL : Hid (l.length = n ∧ ∀ i, i < n → 2 ≤ l.getD i 0 ∧ l.getD i 0 ≤ 311) := Lib.hid ⟨by rw [← hl]; exact HR.out.1, fun i hi => by rw [← hl]; exact pr_val k i (by rw [HR.out.1]; exact hi)⟩
      have HS : Hid ((isS l p (stp p l) = true → prF (k + 1) = l ++ [p]) ∧ (isS l p (stp p l) = false → prF (k + 1) = l)) := Lib.hid (by rw [← hl, ← hp]; exact pr_step k hlt)
      rw [hl] at HR RD
      have SL : Hid (stp p l ≤ n) := Lib.hid (by rw [← HL.out.1]; exact stp_le p l)
      go_wp2
      go_loopw [5, 6] (fun b i wx => ∃ i' : Nat, i' ≤ stp p l ∧ i = .int .i64 (i' : Int) ∧ b = .bool (isS l p i') ∧ Hid (wx.ownsRow w.heap.size 37 1 (.slice A n c) n (pV l) ∧ Below w.heap.size w wx ∧ Reads wx wx.heap.size 1 A n (pV l))) (fun _ i _ => stp p l - (intOf i).toNat)
      case atStart => exact ⟨0, by omega, rfl, rfl, Lib.hid ⟨HR.out.2.1, HR.out.2.2, RD.out⟩⟩
      case round =>
        obtain ⟨i, hi, rfl, rfl, HX⟩ := hrel
        have SLo := SL.out
        by_cases hlt2 : i < stp p l
        · have hin : i < n := by omega
          have hini : (i : Int) < (n : Int) := by omega
          obtain ⟨ad, rfl, hb, ck⟩ := HX.out.2.2.u64 hin
          obtain ⟨x, hx⟩ : ∃ x, l.getD i 0 = x := ⟨_, rfl⟩
          rw [hx] at ck
          have hx2 : 2 ≤ x ∧ x ≤ 311 := by rw [← hx]; exact HL.out.2 i hin
          obtain ⟨q, hq⟩ : ∃ q, x * x = q := ⟨_, rfl⟩
          have hqp : q ≤ p := by rw [← hq, ← hx]; exact stp_lt p l i hlt2
          have F1 : (x : Int) * (x : Int) = (q : Int) := by rw [← hq]; exact (Int.natCast_mul x x).symm
          have V1 : IntKind.u64.wrap (q : Int) = (q : Int) := by rw [IntKind.wrap_u64]; omega
          have W1 : (q : Int) % 18446744073709551616 = (q : Int) := by omega
          have hqpi : (q : Int) ≤ (p : Int) := by omega
          have hx0 : ¬ (x : Int) = 0 := by omega
          have NX : Hid (isS l p (i + 1) = (isS l p i && (p % x != 0))) := Lib.hid (by rw [isS_succ l p i (by rw [HL.out.1]; exact hin), hx])
          obtain ⟨r, hr⟩ : ∃ r, p % x = r := ⟨_, rfl⟩
          have R1 : (p : Int) % (x : Int) = (r : Int) := by rw [← hr]; exact (Int.natCast_emod p x).symm
          have R2 : Int.tmod (p : Int) (x : Int) = (r : Int) := by rw [Int.tmod_eq_emod_of_nonneg (by omega)]; exact R1
          rw [hr] at NX
          have hrl : r < 312 := by rw [← hr]; exact Nat.lt_of_le_of_lt (Nat.mod_le _ _) hpl
          have W2 : (r : Int) % 18446744073709551616 = (r : Int) := by omega
          clear hq hr hx
          obtain ⟨b, hb2⟩ : ∃ b, isS l p i = b := ⟨_, rfl⟩
          rw [hb2] at NX ⊢
          clear hb2
          go_wp2
          go_quiet (fail)
          cases b with
          | true =>
            by_cases hr0 : r = 0
            · subst hr0
              have NX2 : Hid (isS l p (i + 1) = false) := Lib.hid (by rw [NX.out]; rfl)
              go_wp2
              go_roundw
              case rel => exact ⟨i + 1, by omega, by go_num, by rw [NX2.out] <;> first | rfl | simp, Lib.hid ⟨own_drewN HX.out.1 _, below_drewN HX.out.2.1 _, HX.out.2.2.drewN _⟩⟩
              case measure => simp [intOf]; omega
            · have hri : ¬ (r : Int) = 0 := by omega
              have NX2 : Hid (isS l p (i + 1) = true) := Lib.hid (by rw [NX.out, Bool.true_and, bne_iff_ne]; exact hr0)
              go_wp2
              go_roundw
              case rel => exact ⟨i + 1, by omega, by go_num, by rw [NX2.out] <;> first | rfl | (congr 1; simp [hr0]), Lib.hid ⟨own_drewN HX.out.1 _, below_drewN HX.out.2.1 _, HX.out.2.2.drewN _⟩⟩
              case measure => simp [intOf]; omega
          | false =>
            have NX2 : Hid (isS l p (i + 1) = false) := Lib.hid (by rw [NX.out]; rfl)
            go_wp2
            go_roundw
            case rel => exact ⟨i + 1, by omega, by go_num, by rw [NX2.out], Lib.hid ⟨own_drewN HX.out.1 _, below_drewN HX.out.2.1 _, HX.out.2.2.drewN _⟩⟩
            case measure => simp [intOf]; omega
        · obtain rfl : i = stp p l := by omega
          obtain ⟨b, hb2⟩ : ∃ b, isS l p (stp p l) = b := ⟨_, rfl⟩
          rw [hb2] at HS ⊢
          clear hb2
          have hpk : p + 1 = k + 1 + 2 := by omega
          have OWN := HX.out.1
          have hle := HX.out.2.1.size
          have hk1 : n ≤ 4611686018427387904 := by omega
          have hk2 : (n + 1) * 8 ≤ 140737488355328 := by omega
          have SA := Lib.hid (stp_at p l)
          obtain ⟨z, hz⟩ : ∃ z, stp p l = z := ⟨_, rfl⟩
          rw [hz] at SA SLo ⊢
          have HX2 := HX
          have PK : Hid (p + 1 = k + 1 + 2) := Lib.hid hpk
          have W3 : ((p : Int) + 1) % 18446744073709551616 = (p : Int) + 1 := by omega
          have V3 : IntKind.u64.wrap ((p : Int) + 1) = (p : Int) + 1 := by rw [IntKind.wrap_u64]; omega
          clear hz hlt2 hi hpk hp hl
          by_cases hzn : z < n
          · have hzni : (z : Int) < (n : Int) := by omega
            obtain ⟨ad, rfl, hb, ck⟩ := HX.out.2.2.u64 hzn
            obtain ⟨x, hx⟩ : ∃ x, l.getD z 0 = x := ⟨_, rfl⟩
            rw [hx] at ck
            have hx2 : 2 ≤ x ∧ x ≤ 311 := by rw [← hx]; exact HL.out.2 z hzn
            obtain ⟨q, hq⟩ : ∃ q, x * x = q := ⟨_, rfl⟩
            have hqp : ¬ q ≤ p := by rw [← hq, ← hx]; exact SA.out (by rw [HL.out.1]; exact hzn)
            have hql : q ≤ 96721 := by rw [← hq]; exact Nat.mul_le_mul hx2.2 hx2.2
            have F1 : (x : Int) * (x : Int) = (q : Int) := by rw [← hq]; exact (Int.natCast_mul x x).symm
            have V1 : IntKind.u64.wrap (q : Int) = (q : Int) := by rw [IntKind.wrap_u64]; omega
            have W1 : (q : Int) % 18446744073709551616 = (q : Int) := by omega
            have hqpi : ¬ (q : Int) ≤ (p : Int) := by omega
            clear hq hx
            go_wp2
            go_quiet (fail)
            cases b with
            | true =>
              have OWNH := Lib.hid (own_drewN OWN nq)
              have hle' : w.heap.size ≤ (wr.drewN nq).heap.size := hle
              have hNN : wr.heap.size = (wr.drewN nq).heap.size := rfl
              go_wp2_with (with_reducible refine append1_at elemU64 rfl _ _ rfl w.heap.size (.slice (some ad) n c) n (pV l) rfl OWNH.out _ wr.heap.size rfl hNN rfl hk1 hk2 hle' ?_; intro v' w' ho' hg')
              have H' : Hid ((prF (k + 1)).length = n + 1 ∧ w'.ownsRow w.heap.size 37 1 v' (n + 1) (pV (prF (k + 1))) ∧ Below w.heap.size w w') := Lib.hid (by
                rw [HS.out.1 (by first | rfl | trivial)]
                exact ⟨by rw [List.length_append, HL.out.1]; rfl, by unfold pV; rw [List.map_append]; exact ho', below_grown (below_drewN HX.out.2.1 _) hg' (fun g hg => own_ge OWN _ hg)⟩)
              clear ho' hg'
              go_wp2
              go_roundw
              case rel => exact ⟨k + 1, n + 1, by omega, by omega, by have := PK.out; first | (congr 1; omega) | congr 1, H'⟩
              case measure => simp [intOf]; omega
            | false =>
              have H' : Hid ((prF (k + 1)).length = n ∧ (wr.drewN nq).ownsRow w.heap.size 37 1 (.slice (some ad) n c) n (pV (prF (k + 1))) ∧ Below w.heap.size w (wr.drewN nq)) := Lib.hid (by
                rw [HS.out.2 (by first | rfl | trivial)]
                exact ⟨HL.out.1, own_drewN OWN _, below_drewN HX.out.2.1 _⟩)
              go_wp2
              go_roundw
              case rel => exact ⟨k + 1, n, by omega, by omega, by have := PK.out; first | (congr 1; omega) | congr 1, H'⟩
              case measure => simp [intOf]; omega
          · have hzni : ¬ (z : Int) < (n : Int) := by omega
            go_wp2
            go_quiet (fail)
            cases b with
            | true =>
              have OWNH := Lib.hid (own_drewN OWN nq)
              have hle' : w.heap.size ≤ (wr.drewN nq).heap.size := hle
              have hNN : wr.heap.size = (wr.drewN nq).heap.size := rfl
              go_wp2_with (with_reducible refine append1_at elemU64 rfl _ _ rfl w.heap.size (.slice A n c) n (pV l) rfl OWNH.out _ wr.heap.size rfl hNN rfl hk1 hk2 hle' ?_; intro v' w' ho' hg')
              have H' : Hid ((prF (k + 1)).length = n + 1 ∧ w'.ownsRow w.heap.size 37 1 v' (n + 1) (pV (prF (k + 1))) ∧ Below w.heap.size w w') := Lib.hid (by
                rw [HS.out.1 (by first | rfl | trivial)]
                exact ⟨by rw [List.length_append, HL.out.1]; rfl, by unfold pV; rw [List.map_append]; exact ho', below_grown (below_drewN HX.out.2.1 _) hg' (fun g hg => own_ge OWN _ hg)⟩)
              clear ho' hg'
              go_wp2
              go_roundw
              case rel => exact ⟨k + 1, n + 1, by omega, by omega, by have := PK.out; first | (congr 1; omega) | congr 1, H'⟩
              case measure => simp [intOf]; omega
            | false =>
              have H' : Hid ((prF (k + 1)).length = n ∧ (wr.drewN nq).ownsRow w.heap.size 37 1 (.slice A n c) n (pV (prF (k + 1))) ∧ Below w.heap.size w (wr.drewN nq)) := Lib.hid (by
                rw [HS.out.2 (by first | rfl | trivial)]
                exact ⟨HL.out.1, own_drewN OWN _, below_drewN HX.out.2.1 _⟩)
              go_wp2
              go_roundw
              case rel => exact ⟨k + 1, n, by omega, by omega, by have := PK.out; first | (congr 1; omega) | congr 1, H'⟩
              case measure => simp [intOf]; omega
    · obtain rfl : k = 310 := by omega
      have hn2 := HR.out.1
      rw [pr_end, pr_len] at hn2
      subst hn2
      have RE : Hid (Reads wr wr.heap.size 1 A 64 (pV prL)) := Lib.hid (by rw [← pr_end]; exact RD.out)
      have BE := Lib.hid HR.out.2.2
      go_wp2
      go_ret
      exact ⟨⟨A, c, rfl, RE.out⟩, BE.out⟩
end Go.Proofs.Ytbfmdingbgdflaa
