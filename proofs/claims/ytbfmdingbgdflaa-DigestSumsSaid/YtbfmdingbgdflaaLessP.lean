/- Plain: the order of names: either way or the same. No conditions. -/
import Derived.Test.YtbfmdingbgdflaaLess
namespace Go.Proofs.Ytbfmdingbgdflaa
theorem cmpB_flip (x y : UInt8) : cmpB y x = -cmpB x y := by
  unfold cmpB
  by_cases h1 : (x.toNat : Int) < (y.toNat : Int)
  · rw [if_pos h1, if_neg (by omega), if_pos h1]; rfl
  · by_cases h2 : (y.toNat : Int) < (x.toNat : Int)
    · rw [if_pos h2, if_neg h1, if_pos h2]
    · rw [if_neg h2, if_neg h1, if_neg h1, if_neg h2]; rfl
theorem cmpB_zero (x y : UInt8) : cmpB x y = 0 ↔ x = y := by
  unfold cmpB
  constructor
  · intro h
    apply UInt8.toNat_inj.1
    by_cases h1 : (x.toNat : Int) < (y.toNat : Int)
    · rw [if_pos h1] at h; cases h
    · by_cases h2 : (y.toNat : Int) < (x.toNat : Int)
      · rw [if_neg h1, if_pos h2] at h; cases h
      · omega
  · rintro rfl
    rw [if_neg (by omega), if_neg (by omega)]
theorem cmpR_flip (I J : Nat → UInt8) : ∀ f i, cmpR J I f i = -cmpR I J f i
  | 0, _ => rfl
  | f + 1, i => by
    rw [cmpR, cmpR, cmpB_flip (I i) (J i), cmpR_flip I J f (i + 1)]
    by_cases h : cmpB (I i) (J i) = 0
    · rw [if_pos (by omega), if_pos h]
    · rw [if_neg (by omega), if_neg h]
theorem cmpR_zero (I J : Nat → UInt8) : ∀ f i, cmpR I J f i = 0 ↔ ∀ k, i ≤ k → k < i + f → I k = J k
  | 0, i => ⟨fun _ k h1 h2 => by omega, fun _ => rfl⟩
  | f + 1, i => by
    rw [cmpR]
    by_cases h : cmpB (I i) (J i) = 0
    · rw [if_pos h, cmpR_zero I J f (i + 1)]
      constructor
      · intro H k h1 h2
        by_cases e : k = i
        · subst e; exact (cmpB_zero _ _).1 h
        · exact H k (by omega) (by omega)
      · intro H k h1 h2; exact H k (by omega) (by omega)
    · rw [if_neg h]
      exact ⟨fun e => absurd e h, fun H => absurd ((cmpB_zero _ _).2 (H i (Nat.le_refl _) (by omega))) h⟩
/-- The law's line on two names. -/
theorem less_law (I J : Nat → UInt8) : ((decide (cmpR I J 32 0 < 0) || decide (cmpR J I 32 0 < 0)) = !((List.range 32).map I == (List.range 32).map J)) ∧ (decide (cmpR I J 32 0 < 0) && decide (cmpR J I 32 0 < 0)) = false := by
  have f := cmpR_flip I J 32 0
  have z := cmpR_zero I J 32 0
  have e : ((List.range 32).map I = (List.range 32).map J) ↔ cmpR I J 32 0 = 0 := by
    rw [z, List.map_inj_left]
    exact ⟨fun H k _ h => H k (List.mem_range.2 (by omega)), fun H k h => H k (Nat.zero_le _) (by have := List.mem_range.1 h; omega)⟩
  generalize cmpR I J 32 0 = a at f e
  generalize cmpR J I 32 0 = b at f
  subst f
  by_cases h : a = 0
  · have h' := e.2 h
    rw [h', beq_self_eq_true, h]; exact ⟨rfl, rfl⟩
  · have h' : ((List.range 32).map I == (List.range 32).map J) = false := by
      rw [beq_eq_false_iff_ne]; exact fun H => h (e.1 H)
    rw [h']
    constructor
    · rw [Bool.not_false, Bool.or_eq_true, decide_eq_true_eq, decide_eq_true_eq]; omega
    · rw [Bool.and_eq_false_iff, decide_eq_false_iff_not, decide_eq_false_iff_not]; omega
end Go.Proofs.Ytbfmdingbgdflaa
