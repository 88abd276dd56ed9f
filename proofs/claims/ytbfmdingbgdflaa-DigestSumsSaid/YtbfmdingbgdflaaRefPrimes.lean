/- Walk: the reference's primes: the first 64. No conditions. -/
import Derived.Test.YtbfmdingbgdflaaRefTimes
import Derived.BigQuiet
namespace Go.Proofs.Ytbfmdingbgdflaa
open Go.RowKit
set_option linter.unusedVariables false
set_option maxRecDepth 100000 in
set_option maxHeartbeats 0 in
theorem primes_any (w : World) :
    Calls Try.prog 79 #[.int .i64 64] w fun e w' => (∃ A c, e = .returned (.slice A 64 c) ∧ Reads w' w'.heap.size 1 A 64 (pV prL)) ∧ Below w.heap.size w w' := by
  go_enter Try.func79, Try.ntmps79
  go_wp2
  go_loopw [3, 4, 5, 6] (fun v p _ _ wr => ∃ k n : Nat, k ≤ 310 ∧ n ≤ 64 ∧ p = .int .u64 ((k + 2 : Nat) : Int) ∧ Hid ((prF k).length = n ∧ wr.ownsRow w.heap.size 37 1 v n (pV (prF k)) ∧ Below w.heap.size w wr)) (fun _ p _ _ _ => 312 - (intOf p).toNat)
  case atStart => exact ⟨0, 0, by omega, by omega, rfl, Lib.hid ⟨by decide +kernel, World.ownsRow_nil _ _ _ _, Below.refl _ _⟩⟩
  case round =>
    obtain ⟨k, n, hk, hn, rfl, HR⟩ := hrel
    obtain ⟨A, c, rfl, hrd⟩ := own_reads HR.out.2.1
    have RD := Lib.hid hrd
    clear hrd
    by_cases hlt : k < 310
    · have hn64 : n < 64 := by rw [← HR.out.1]; exact pr_short k hlt
      have hn64i : (n : Int) < 64 := by omega
      obtain ⟨p, hp⟩ : ∃ p, k + 2 = p := ⟨_, rfl⟩
      have hpl : p < 312 := by omega
      rw [hp]
      obtain ⟨l, hl⟩ : ∃ l, prF k = l := ⟨_, rfl⟩
      have HL : Hid (l.length = n ∧ ∀ i, i < n → 2 ≤ l.getD i 0 ∧ l.getD i 0 ≤ 311) := Lib.hid ⟨by rw [← hl]; exact HR.out.1, fun i hi => by rw [← hl]; exact pr_val k i (by rw [HR.out.1]; exact hi)⟩
      have HS : Hid ((isS l p (stp p l) = true → prF (k + 1) = l ++ [p]) ∧ (isS l p (stp p l) = false → prF (k + 1) = l)) := Lib.hid (by rw [← hl, ← hp]; exact pr_step k hlt)
      rw [hl] at HR RD
      have SL : Hid (stp p l ≤ n) := Lib.hid (by rw [← HL.out.1]; exact stp_le p l)
      go_wp2
      go_loopw [5, 6] (fun b i wx => ∃ i' : Nat, i' ≤ stp p l ∧ i = .int .i64 (i' : Int) ∧ b = .bool (isS l p i') ∧ Hid (wx.ownsRow w.heap.size 37 1 (.slice A n c) n (pV l) ∧ Below w.heap.size w wx ∧ Reads wx wx.heap.size 1 A n (pV l))) (fun _ i _ => stp p l - (intOf i).toNat)
      case atStart => exact ⟨0, by omega, rfl, rfl, Lib.hid ⟨HR.out.2.1, HR.out.2.2, RD.out⟩⟩
      case round =>
        obtain ⟨i, hi, rfl, rfl, HX⟩ := hrel
        have SLo := SL.out
        by_cases hlt2 : i < stp p l
        · have hin : i < n := by omega
          have hini : (i : Int) < (n : Int) := by omega
          obtain ⟨ad, rfl, hb, ck⟩ := HX.out.2.2.u64 hin
          obtain ⟨x, hx⟩ : ∃ x, l.getD i 0 = x := ⟨_, rfl⟩
          rw [hx] at ck
          have hx2 : 2 ≤ x ∧ x ≤ 311 := by rw [← hx]; exact HL.out.2 i hin
          obtain ⟨q, hq⟩ : ∃ q, x * x = q := ⟨_, rfl⟩
          have hqp : q ≤ p := by rw [← hq, ← hx]; exact stp_lt p l i hlt2
          have F1 : (x : Int) * (x : Int) = (q : Int) := by rw [← hq]; exact (Int.natCast_mul x x).symm
          have V1 : IntKind.u64.wrap (q : Int) = (q : Int) := by rw [IntKind.wrap_u64]; omega
          have W1 : (q : Int) % 18446744073709551616 = (q : Int) := by omega
          have hqpi : (q : Int) ≤ (p : Int) := by omega
          have hx0 : ¬ (x : Int) = 0 := by omega
          have NX : Hid (isS l p (i + 1) = (isS l p i && (p % x != 0))) := Lib.hid (by rw [isS_succ l p i (by rw [HL.out.1]; exact hin), hx])
          obtain ⟨r, hr⟩ : ∃ r, p % x = r := ⟨_, rfl⟩
          have R1 : (p : Int) % (x : Int) = (r : Int) := by rw [← hr]; exact (Int.natCast_emod p x).symm
          have R2 : Int.tmod (p : Int) (x : Int) = (r : Int) := by rw [Int.tmod_eq_emod_of_nonneg (by omega)]; exact R1
          rw [hr] at NX
          have hrl : r < 312 := by rw [← hr]; exact Nat.lt_of_le_of_lt (Nat.mod_le _ _) hpl
          have W2 : (r : Int) % 18446744073709551616 = (r : Int) := by omega
          clear hq hr hx
          obtain ⟨b, hb2⟩ : ∃ b, isS l p i = b := ⟨_, rfl⟩
          rw [hb2] at NX ⊢
          clear hb2
          go_wp2
          go_quiet (fail)
          cases b with
          | true =>
            by_cases hr0 : r = 0
            · subst hr0
              have NX2 : Hid (isS l p (i + 1) = false) := Lib.hid (by rw [NX.out]; rfl)
              go_wp2
              go_roundw
              case rel => exact ⟨i + 1, by omega, by go_num, by rw [NX2.out] <;> first | rfl | simp, Lib.hid ⟨own_drewN HX.out.1 _, below_drewN HX.out.2.1 _, HX.out.2.2.drewN _⟩⟩
              case measure => simp [intOf]; omega
            · have hri : ¬ (r : Int) = 0 := by omega
              have NX2 : Hid (isS l p (i + 1) = true) := Lib.hid (by rw [NX.out, Bool.true_and, bne_iff_ne]; exact hr0)
              go_wp2
              go_roundw
              case rel => exact ⟨i + 1, by omega, by go_num, by rw [NX2.out] <;> first | rfl | (congr 1; simp [hr0]), Lib.hid ⟨own_drewN HX.out.1 _, below_drewN HX.out.2.1 _, HX.out.2.2.drewN _⟩⟩
              case measure => simp [intOf]; omega
          | false =>
            have NX2 : Hid (isS l p (i + 1) = false) := Lib.hid (by rw [NX.out]; rfl)
            go_wp2
            go_roundw
            case rel => exact ⟨i + 1, by omega, by go_num, by rw [NX2.out], Lib.hid ⟨own_drewN HX.out.1 _, below_drewN HX.out.2.1 _, HX.out.2.2.drewN _⟩⟩
            case measure => simp [intOf]; omega
        · obtain rfl : i = stp p l := by omega
          obtain ⟨b, hb2⟩ : ∃ b, isS l p (stp p l) = b := ⟨_, rfl⟩
          rw [hb2] at HS ⊢
          clear hb2
          have hpk : p + 1 = k + 1 + 2 := by omega
          have OWN := HX.out.1
          have hle := HX.out.2.1.size
          have hk1 : n ≤ 4611686018427387904 := by omega
          have hk2 : (n + 1) * 8 ≤ 140737488355328 := by omega
          have SA := Lib.hid (stp_at p l)
          obtain ⟨z, hz⟩ : ∃ z, stp p l = z := ⟨_, rfl⟩
          rw [hz] at SA SLo ⊢
          have HX2 := HX
          have PK : Hid (p + 1 = k + 1 + 2) := Lib.hid hpk
          have W3 : ((p : Int) + 1) % 18446744073709551616 = (p : Int) + 1 := by omega
          have V3 : IntKind.u64.wrap ((p : Int) + 1) = (p : Int) + 1 := by rw [IntKind.wrap_u64]; omega
          clear hz hlt2 hi hpk hp hl
          by_cases hzn : z < n
          · have hzni : (z : Int) < (n : Int) := by omega
            obtain ⟨ad, rfl, hb, ck⟩ := HX.out.2.2.u64 hzn
            obtain ⟨x, hx⟩ : ∃ x, l.getD z 0 = x := ⟨_, rfl⟩
            rw [hx] at ck
            have hx2 : 2 ≤ x ∧ x ≤ 311 := by rw [← hx]; exact HL.out.2 z hzn
            obtain ⟨q, hq⟩ : ∃ q, x * x = q := ⟨_, rfl⟩
            have hqp : ¬ q ≤ p := by rw [← hq, ← hx]; exact SA.out (by rw [HL.out.1]; exact hzn)
            have hql : q ≤ 96721 := by rw [← hq]; exact Nat.mul_le_mul hx2.2 hx2.2
            have F1 : (x : Int) * (x : Int) = (q : Int) := by rw [← hq]; exact (Int.natCast_mul x x).symm
            have V1 : IntKind.u64.wrap (q : Int) = (q : Int) := by rw [IntKind.wrap_u64]; omega
            have W1 : (q : Int) % 18446744073709551616 = (q : Int) := by omega
            have hqpi : ¬ (q : Int) ≤ (p : Int) := by omega
            clear hq hx
            go_wp2
            go_quiet (fail)
            cases b with
            | true =>
              have OWNH := Lib.hid (own_drewN OWN nq)
              have hle' : w.heap.size ≤ (wr.drewN nq).heap.size := hle
              have hNN : wr.heap.size = (wr.drewN nq).heap.size := rfl
              go_wp2_with (with_reducible refine append1_at elemU64 rfl _ _ rfl w.heap.size (.slice (some ad) n c) n (pV l) rfl OWNH.out _ wr.heap.size rfl hNN rfl hk1 hk2 hle' ?_; intro v' w' ho' hg')
              have H' : Hid ((prF (k + 1)).length = n + 1 ∧ w'.ownsRow w.heap.size 37 1 v' (n + 1) (pV (prF (k + 1))) ∧ Below w.heap.size w w') := Lib.hid (by
                rw [HS.out.1 (by first | rfl | trivial)]
                exact ⟨by rw [List.length_append, HL.out.1]; rfl, by unfold pV; rw [List.map_append]; exact ho', below_grown (below_drewN HX.out.2.1 _) hg' (fun g hg => own_ge OWN _ hg)⟩)
              clear ho' hg'
              go_wp2
              go_roundw
              case rel => exact ⟨k + 1, n + 1, by omega, by omega, by have := PK.out; first | (congr 1; omega) | congr 1, H'⟩
              case measure => simp [intOf]; omega
            | false =>
              have H' : Hid ((prF (k + 1)).length = n ∧ (wr.drewN nq).ownsRow w.heap.size 37 1 (.slice (some ad) n c) n (pV (prF (k + 1))) ∧ Below w.heap.size w (wr.drewN nq)) := Lib.hid (by
                rw [HS.out.2 (by first | rfl | trivial)]
                exact ⟨HL.out.1, own_drewN OWN _, below_drewN HX.out.2.1 _⟩)
              go_wp2
              go_roundw
              case rel => exact ⟨k + 1, n, by omega, by omega, by have := PK.out; first | (congr 1; omega) | congr 1, H'⟩
              case measure => simp [intOf]; omega
          · have hzni : ¬ (z : Int) < (n : Int) := by omega
            go_wp2
            go_quiet (fail)
            cases b with
            | true =>
              have OWNH := Lib.hid (own_drewN OWN nq)
              have hle' : w.heap.size ≤ (wr.drewN nq).heap.size := hle
              have hNN : wr.heap.size = (wr.drewN nq).heap.size := rfl
              go_wp2_with (with_reducible refine append1_at elemU64 rfl _ _ rfl w.heap.size (.slice A n c) n (pV l) rfl OWNH.out _ wr.heap.size rfl hNN rfl hk1 hk2 hle' ?_; intro v' w' ho' hg')
              have H' : Hid ((prF (k + 1)).length = n + 1 ∧ w'.ownsRow w.heap.size 37 1 v' (n + 1) (pV (prF (k + 1))) ∧ Below w.heap.size w w') := Lib.hid (by
                rw [HS.out.1 (by first | rfl | trivial)]
                exact ⟨by rw [List.length_append, HL.out.1]; rfl, by unfold pV; rw [List.map_append]; exact ho', below_grown (below_drewN HX.out.2.1 _) hg' (fun g hg => own_ge OWN _ hg)⟩)
              clear ho' hg'
              go_wp2
              go_roundw
              case rel => exact ⟨k + 1, n + 1, by omega, by omega, by have := PK.out; first | (congr 1; omega) | congr 1, H'⟩
              case measure => simp [intOf]; omega
            | false =>
              have H' : Hid ((prF (k + 1)).length = n ∧ (wr.drewN nq).ownsRow w.heap.size 37 1 (.slice A n c) n (pV (prF (k + 1))) ∧ Below w.heap.size w (wr.drewN nq)) := Lib.hid (by
                rw [HS.out.2 (by first | rfl | trivial)]
                exact ⟨HL.out.1, own_drewN OWN _, below_drewN HX.out.2.1 _⟩)
              go_wp2
              go_roundw
              case rel => exact ⟨k + 1, n, by omega, by omega, by have := PK.out; first | (congr 1; omega) | congr 1, H'⟩
              case measure => simp [intOf]; omega
    · obtain rfl : k = 310 := by omega
      have hn2 := HR.out.1
      rw [pr_end, pr_len] at hn2
      subst hn2
      have RE : Hid (Reads wr wr.heap.size 1 A 64 (pV prL)) := Lib.hid (by rw [← pr_end]; exact RD.out)
      have BE := Lib.hid HR.out.2.2
      go_wp2
      go_ret
      exact ⟨⟨A, c, rfl, RE.out⟩, BE.out⟩
end Go.Proofs.Ytbfmdingbgdflaa
