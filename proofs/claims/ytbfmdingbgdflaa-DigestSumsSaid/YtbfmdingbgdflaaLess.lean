/- Walks: digest.Less, with the library's CompareFunc and Compare. No conditions. -/
import Derived.Test.YtbfmdingbgdflaaId
import Derived.Deep.DeepCutAuto
namespace Go.Proofs.Ytbfmdingbgdflaa
open Go.RowKit
set_option linter.unusedVariables false
def cmpB (x y : UInt8) : Int := if (x.toNat : Int) < (y.toNat : Int) then -1 else if (y.toNat : Int) < (x.toNat : Int) then 1 else 0
def cmpR (I J : Nat → UInt8) : Nat → Nat → Int
  | 0, _ => 0
  | f + 1, i => if cmpB (I i) (J i) = 0 then cmpR I J f (i + 1) else cmpB (I i) (J i)
theorem isNaN_any (x : UInt8) (w : World) : Calls Try.prog 95 #[.int .u8 (x.toNat : Int)] w fun e w' => e = .returned (.bool false) ∧ w = w' := by
  go_enter Try.func95, Try.ntmps95
  go_wp2
  go_ret
  exact ⟨rfl, rfl⟩
theorem compare_any (x y : UInt8) (w : World) : Calls Try.prog 77 #[.int .u8 (x.toNat : Int), .int .u8 (y.toNat : Int)] w fun e w' => e = .returned (.int .i64 (cmpB x y)) ∧ w = w' := by
  have hcase : ((x.toNat : Int) < (y.toNat : Int) ∧ cmpB x y = -1) ∨ (¬ (x.toNat : Int) < (y.toNat : Int) ∧ (y.toNat : Int) < (x.toNat : Int) ∧ cmpB x y = 1) ∨ (¬ (x.toNat : Int) < (y.toNat : Int) ∧ ¬ (y.toNat : Int) < (x.toNat : Int) ∧ cmpB x y = 0) := by
    unfold cmpB
    by_cases h1 : (x.toNat : Int) < (y.toNat : Int)
    · exact .inl ⟨h1, if_pos h1⟩
    · by_cases h2 : (y.toNat : Int) < (x.toNat : Int)
      · exact .inr (.inl ⟨h1, h2, by rw [if_neg h1, if_pos h2]⟩)
      · exact .inr (.inr ⟨h1, h2, by rw [if_neg h1, if_neg h2]⟩)
  rcases hcase with ⟨h1, e⟩ | ⟨h1, h2, e⟩ | ⟨h1, h2, e⟩
  all_goals
    have E := Lib.hid e
    clear e
    go_enter Try.func77, Try.ntmps77
    go_wp2_with fail
    refine (isNaN_any x _).mono ?_; rintro e w' ⟨rfl, rfl⟩
    go_wp2_with fail
    refine (isNaN_any y _).mono ?_; rintro e w' ⟨rfl, rfl⟩
    go_wp2
    go_ret
    exact ⟨by rw [E.out]; rfl, rfl⟩
set_option maxRecDepth 100000 in
set_option maxHeartbeats 0 in
theorem compareFunc_any (I J : Nat → UInt8) (a b : Nat) (w : World) (ha : w.rowIs a 28 32 (u8V I)) (hb : w.rowIs b 28 32 (u8V J)) :
    Calls Try.prog 76 #[.slice (some ⟨a, 0, none⟩) 32 32, .slice (some ⟨b, 0, none⟩) 32 32, .func (.func 77) #[] #[]] w fun e w' => e = .returned (.int .i64 (cmpR I J 32 0)) ∧ w = w' := by
  have HA := Lib.hid ha
  have HB := Lib.hid hb
  clear ha hb
  go_enter Try.func76, Try.ntmps76
  go_wp2
  go_loopw [13] (fun i wr => ∃ k : Nat, k ≤ 32 ∧ i = .int .i64 (k : Int) ∧ w = wr ∧ Hid (cmpR I J 32 0 = cmpR I J (32 - k) k)) (fun i _ => 32 - (intOf i).toNat)
  case atStart => exact ⟨0, by omega, rfl, rfl, Lib.hid rfl⟩
  case round =>
    obtain ⟨k, hk, rfl, rfl, HC⟩ := hrel
    by_cases hlt : k < 32
    · have c1 : w.cell? ⟨a, k, none⟩ = some (.int .u8 ((I k).toNat : Int)) := HA.out.cell hlt
      have c2 : w.cell? ⟨b, k, none⟩ = some (.int .u8 ((J k).toNat : Int)) := HB.out.cell hlt
      have hki : (k : Int) < 32 := by omega
      have hki2 : ¬ (32 : Int) ≤ (k : Int) := by omega
      have ST : Hid (cmpR I J (32 - k) k = if cmpB (I k) (J k) = 0 then cmpR I J (32 - (k + 1)) (k + 1) else cmpB (I k) (J k)) := Lib.hid (by
        obtain ⟨f, hf⟩ : ∃ f, 32 - k = f + 1 := ⟨31 - k, by omega⟩
        rw [hf, cmpR, show 32 - (k + 1) = f by omega])
      generalize I k = x at c1 ST
      generalize J k = y at c2 ST
      go_wp2_with fail
      refine (compare_any x y _).mono ?_; rintro e w' ⟨rfl, rfl⟩
      by_cases h0 : cmpB x y = 0
      · have HN : Hid (cmpR I J 32 0 = cmpR I J (32 - (k + 1)) (k + 1)) := Lib.hid (by rw [HC.out, ST.out, if_pos h0])
        rw [h0]
        go_wp2
        go_roundw
        case rel => exact ⟨k + 1, by omega, by go_num, by first | rfl | trivial, HN⟩
        case measure => simp [intOf]; omega
      · have HN : Hid (cmpR I J 32 0 = cmpB x y) := Lib.hid (by rw [HC.out, ST.out, if_neg h0])
        obtain ⟨r, hr⟩ : ∃ r, cmpB x y = r := ⟨_, rfl⟩
        rw [hr] at HN h0 ⊢
        go_wp2
        go_ret
        exact ⟨by rw [HN.out]; rfl, rfl⟩
    · obtain rfl : k = 32 := by omega
      have HN : Hid (cmpR I J 32 0 = 0) := Lib.hid (by rw [HC.out]; rfl)
      rw [show ((32 : Nat) : Int) = 32 from rfl]
      go_wp2
      go_ret
      exact ⟨by rw [HN.out]; rfl, rfl⟩
theorem two_ids (w : World) (I J : Nat → UInt8) : ((w.alloc (.cells (idA I) 28)).alloc (.cells (idA J) 28)).rowIs w.heap.size 28 32 (u8V I) ∧ ((w.alloc (.cells (idA I) 28)).alloc (.cells (idA J) 28)).rowIs (w.heap.size + 1) 28 32 (u8V J) ∧ Below w.heap.size w ((w.alloc (.cells (idA I) 28)).alloc (.cells (idA J) 28)) := by
  have r2 := id_row (w.alloc (.cells (idA I) 28)) J 28
  rw [← size1] at r2
  exact ⟨(id_row w I _).alloc _, r2, ((Below.refl _ _).alloc (Nat.le_refl _) _).alloc (by simp) _⟩
set_option maxRecDepth 100000 in
theorem less_any (I J : Nat → UInt8) (w : World) :
    Calls Try.prog 39 #[.agg (idA I), .agg (idA J)] w fun e w' => e = .returned (.bool (decide (cmpR I J 32 0 < 0))) ∧ Below w.heap.size w w' := by
  have T := Lib.hid (two_ids w I J)
  have ht : Try.prog.underlying 28 = some (.array 32 5) := by kernel_rfl
  have hall : ∀ N W, (Instr.sliceAt 28 (.pointer (some ⟨N, 0, none⟩)) none none none).run Try.prog W = .ok (.slice (some ⟨N, 0, none⟩) 32 32) W := fun N W => by
    obtain ⟨i, hi⟩ := Option.isSome_iff_exists.1 (show (Try.prog.info? 5).isSome = true by kernel_rfl)
    exact run_all_array (P := Try.prog) W (t := 28) (n := 32) ht hi _
  clear ht
  go_enter Try.func39, Try.ntmps39
  go_upto_region 1 with fail
  generalize (w.alloc (.cells (idA I) 28)).alloc (.cells (idA J) 28) = w2 at T ⊢
  go_region_held3 (fun w' => True) (first | trivial)
    (first | (go_at_call 76; refine (compareFunc_any I J w.heap.size (w.heap.size + 1) w2.drew T.out.1 T.out.2.1).mono ?_; rintro e w3 ⟨rfl, rfl⟩))
  have BE := Lib.hid (T.out.2.2.drew)
  go_wp2
  go_ret
  exact ⟨rfl, BE.out⟩
end Go.Proofs.Ytbfmdingbgdflaa
