/- Bits of filters, plainly: joined, counted, all set. No program in sight. No conditions. -/
import Derived.Test.YtbfmdingbgdflaaBlo
namespace Go.Proofs.Ytbfmdingbgdflaa.Blo
theorem recon_ok (a : UInt8) : ((List.range 8).foldl (fun (x : UInt8) k => x ||| (if (a >>> UInt8.ofNat k &&& 1 == 1) = true then (1 : UInt8) <<< UInt8.ofNat k else 0)) 0 == a) = true :=
  all256 (fun a => (List.range 8).foldl (fun (x : UInt8) k => x ||| (if (a >>> UInt8.ofNat k &&& 1 == 1) = true then (1 : UInt8) <<< UInt8.ofNat k else 0)) 0 == a) (by decide +kernel) a
theorem byte_ext {a b : UInt8} (h : ∀ k, k < 8 → (a >>> UInt8.ofNat k &&& 1 == 1) = (b >>> UInt8.ofNat k &&& 1 == 1)) : a = b := by
  have ha := eq_of_beq (recon_ok a)
  have hb := eq_of_beq (recon_ok b)
  rw [← ha, ← hb]
  have e : ∀ (l : List Nat) (x : UInt8), (∀ k ∈ l, k < 8) → l.foldl (fun (x : UInt8) k => x ||| (if (a >>> UInt8.ofNat k &&& 1 == 1) = true then (1 : UInt8) <<< UInt8.ofNat k else 0)) x = l.foldl (fun (x : UInt8) k => x ||| (if (b >>> UInt8.ofNat k &&& 1 == 1) = true then (1 : UInt8) <<< UInt8.ofNat k else 0)) x := by
    intro l
    induction l with
    | nil => intro x _; rfl
    | cons k l ih =>
      intro x hk
      rw [List.foldl_cons, List.foldl_cons, h k (hk k (by simp)), ih _ (fun j hj => hk j (by simp [hj]))]
  exact e _ _ (fun k hk => by simpa using hk)
theorem bytes_ext {F G : Nat → UInt8} {n : Nat} (h : ∀ i, i < 8 * n → bitF F i = bitF G i) (j : Nat) (hj : j < n) : F j = G j := by
  refine byte_ext fun k hk => ?_
  have := h (8 * j + k) (by omega)
  unfold bitF at this
  rw [show (8 * j + k) / 8 = j from by omega, show (8 * j + k) % 8 = k from by omega] at this
  exact this
theorem and1_or (x y : UInt8) : ((x ||| y) &&& 1 == 1) = ((x &&& 1 == 1) || (y &&& 1 == 1)) := by
  have e : (x ||| y) &&& 1 = (x &&& 1) ||| (y &&& 1) := by
    apply UInt8.toBitVec_inj.1
    simp only [UInt8.toBitVec_and, UInt8.toBitVec_or]
    exact BitVec.and_or_distrib_right
  rw [e]
  have h01 : ∀ z : UInt8, z &&& 1 = 0 ∨ z &&& 1 = 1 := fun z => by
    have := all256 (fun z => z &&& 1 == 0 || z &&& 1 == 1) (by decide +kernel) z
    rw [Bool.or_eq_true, beq_iff_eq, beq_iff_eq] at this
    exact this
  rcases h01 x with hx | hx <;> rcases h01 y with hy | hy <;> rw [hx, hy] <;> rfl
theorem bitF_or (F G : Nat → UInt8) (n i : Nat) (hi : i < 8 * n) : bitF (fun j => if j < n then F j ||| G j else F j) i = (bitF F i || bitF G i) := by
  unfold bitF
  show ((if i / 8 < n then F (i / 8) ||| G (i / 8) else F (i / 8)) >>> UInt8.ofNat (i % 8) &&& 1 == 1) = _
  rw [if_pos (by omega), UInt8.shiftRight_or]
  exact and1_or _ _
/-- Both sets in one. -/
theorem join_sets (n H : Nat) (A B : List (Nat → UInt8)) (j : Nat) (hj : j < n) : (if j < n then addL n H (fun _ => 0) A j ||| addL n H (fun _ => 0) B j else addL n H (fun _ => 0) A j) = addL n H (fun _ => 0) (A ++ B) j := by
  have := bytes_ext (F := fun j => if j < n then addL n H (fun _ => 0) A j ||| addL n H (fun _ => 0) B j else addL n H (fun _ => 0) A j) (G := addL n H (fun _ => 0) (A ++ B)) (n := n) (fun i hi => by
    rw [bitF_or _ _ _ _ hi, bitF_addL, bitF_addL, bitF_addL, bitF_zero, List.any_append]; simp) j hj
  exact this
/-- What hangs on the set of names alone. -/
theorem addL_same (n H : Nat) (A B : List (Nat → UInt8)) (h : ∀ I, I ∈ A ↔ I ∈ B) (j : Nat) (hj : j < n) : addL n H (fun _ => 0) A j = addL n H (fun _ => 0) B j := by
  refine bytes_ext (n := n) (fun i hi => ?_) j hj
  rw [bitF_addL, bitF_addL]
  congr 1
  rw [Bool.eq_iff_iff, List.any_eq_true, List.any_eq_true]
  exact ⟨fun ⟨I, h1, h2⟩ => ⟨I, (h I).1 h1, h2⟩, fun ⟨I, h1, h2⟩ => ⟨I, (h I).2 h1, h2⟩⟩
theorem has_added (n H : Nat) (A : List (Nat → UInt8)) (I : Nat → UInt8) (h : I ∈ A) : hasF (addL n H (fun _ => 0) A) I n H = true := by
  rw [hasF_iff]
  intro k hk
  rw [bitF_addL, Bool.or_eq_true]
  right
  rw [List.any_eq_true]
  refine ⟨I, h, ?_⟩
  rw [List.any_eq_true]
  exact ⟨k, List.mem_range.2 hk, beq_self_eq_true _⟩
theorem has_none (n H : Nat) (I : Nat → UInt8) (h : 0 < H) : hasF (fun _ => 0) I n H = false := has_false _ I n H 0 h (bitF_zero _)
theorem hasF_congr {F G : Nat → UInt8} {n : Nat} (hn : 0 < n) (h : ∀ j, j < n → F j = G j) (I : Nat → UInt8) (H : Nat) : hasF F I n H = hasF G I n H := by
  induction H with
  | zero => rfl
  | succ H ih => rw [hasF, hasF, ih, bitF_congr h (show plc I n H < 8 * n from Nat.mod_lt _ (by omega))]
theorem pop_set (a : UInt8) : ((List.range 8).all fun i => decide (popB (a ||| ((1 : UInt8) <<< UInt8.ofNat i)) ≤ popB a + 1)) = true :=
  all256 (fun a => (List.range 8).all fun i => decide (popB (a ||| ((1 : UInt8) <<< UInt8.ofNat i)) ≤ popB a + 1)) (by decide +kernel) a
theorem ones_set (F : Nat → UInt8) (i n : Nat) : onesF (setF F i) n ≤ onesF F n + 1 ∧ (n ≤ i / 8 → onesF (setF F i) n = onesF F n) := by
  induction n with
  | zero => exact ⟨by simp [onesF], fun _ => rfl⟩
  | succ n ih =>
    rw [onesF, onesF]
    by_cases h : n = i / 8
    · have e := ih.2 (by omega)
      have := pop_set (F n)
      rw [List.all_eq_true] at this
      have := of_decide_eq_true (this (i % 8) (List.mem_range.2 (Nat.mod_lt _ (by omega))))
      have e2 : setF F i n = F n ||| ((1 : UInt8) <<< UInt8.ofNat (i % 8)) := if_pos h
      rw [e2, e]
      exact ⟨by omega, fun h2 => by omega⟩
    · have e2 : setF F i n = F n := if_neg h
      rw [e2]
      exact ⟨by have := ih.1; omega, fun h2 => by rw [ih.2 (by omega)]⟩
theorem ones_add (F : Nat → UInt8) (I : Nat → UInt8) (n H m : Nat) : onesF (addF F I n H) m ≤ onesF F m + H := by
  induction H with
  | zero => simp [addF]
  | succ H ih => rw [addF]; have := (ones_set (addF F I n H) (plc I n H) m).1; omega
theorem ones_addL (n H m : Nat) (F : Nat → UInt8) (A : List (Nat → UInt8)) : onesF (addL n H F A) m ≤ onesF F m + A.length * H := by
  induction A generalizing F with
  | nil => simp [addL]
  | cons I A ih =>
    have h1 := ih (addF F I n H)
    have h2 := ones_add F I n H m
    rw [addL, List.length_cons, Nat.succ_mul]; omega
theorem ones_zero (n : Nat) : onesF (fun _ => 0) n = 0 := by
  induction n with
  | zero => rfl
  | succ n ih => rw [onesF, ih]; rfl
theorem ones_le (n H : Nat) (A : List (Nat → UInt8)) : onesF (addL n H (fun _ => 0) A) n ≤ A.length * H := by
  have := ones_addL n H n (fun _ => 0) A
  rw [ones_zero] at this; omega
theorem pop_bit (a : UInt8) : ((List.range 8).all fun k => !(a >>> UInt8.ofNat k &&& 1 == 1) || decide (1 ≤ popB a)) = true :=
  all256 (fun a => (List.range 8).all fun k => !(a >>> UInt8.ofNat k &&& 1 == 1) || decide (1 ≤ popB a)) (by decide +kernel) a
theorem ones_pos (F : Nat → UInt8) (n i : Nat) (hi : i < 8 * n) (h : bitF F i = true) : 0 < onesF F n := by
  induction n with
  | zero => omega
  | succ n ih =>
    rw [onesF]
    by_cases e : i / 8 = n
    · have := pop_bit (F n)
      rw [List.all_eq_true] at this
      have := this (i % 8) (List.mem_range.2 (Nat.mod_lt _ (by omega)))
      unfold bitF at h
      rw [e] at h
      rw [h] at this
      have := of_decide_eq_true (by simpa using this : decide (1 ≤ popB (F n)) = true)
      omega
    · have := ih (by omega); omega
theorem ones_iff (n H : Nat) (A : List (Nat → UInt8)) (hn : 0 < n) (hH : 0 < H) : onesF (addL n H (fun _ => 0) A) n = 0 ↔ A.length = 0 := by
  constructor
  · intro h
    cases A with
    | nil => rfl
    | cons I A =>
      have h1 := (hasF_iff _ I n H).1 (has_added n H (I :: A) I (by simp)) 0 hH
      have := ones_pos _ n (plc I n 0) (Nat.mod_lt _ (by omega)) h1
      omega
  · intro h
    have := ones_le n H A
    rw [h, Nat.zero_mul] at this; omega
theorem pop_full (a : UInt8) : (!((List.range 8).all fun k => a >>> UInt8.ofNat k &&& 1 == 1) || popB a == 8) = true :=
  all256 (fun a => !((List.range 8).all fun k => a >>> UInt8.ofNat k &&& 1 == 1) || popB a == 8) (by decide +kernel) a
theorem ones_full (F : Nat → UInt8) (n : Nat) (h : ∀ i, i < 8 * n → bitF F i = true) : onesF F n = 8 * n := by
  induction n with
  | zero => rfl
  | succ n ih =>
    rw [onesF, ih (fun i hi => h i (by omega))]
    have hf : ((List.range 8).all fun k => F n >>> UInt8.ofNat k &&& 1 == 1) = true := by
      rw [List.all_eq_true]
      intro k hk
      have hk : k < 8 := by simpa using hk
      have := h (8 * n + k) (by omega)
      unfold bitF at this
      rw [show (8 * n + k) / 8 = n from by omega, show (8 * n + k) % 8 = k from by omega] at this
      exact this
    have := pop_full (F n)
    rw [hf] at this
    have := eq_of_beq (by simpa using this : (popB (F n) == 8) = true)
    omega
end Go.Proofs.Ytbfmdingbgdflaa.Blo
