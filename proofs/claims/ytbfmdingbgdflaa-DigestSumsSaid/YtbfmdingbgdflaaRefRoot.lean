/- Walks: the reference's within and root: a prime's root to 32 bits behind the point. Conditions: small numbers. -/
import Derived.Test.YtbfmdingbgdflaaRefTimes
namespace Go.Proofs.Ytbfmdingbgdflaa
open Go.RowKit
set_option linter.unusedVariables false
theorem pow_fit (x k : Nat) (hx : x < 274877906944) (hk : k ≤ 3) : x ^ k ≤ 274877906944 ^ 3 :=
  Nat.le_trans (Nat.pow_le_pow_left (Nat.le_of_lt hx) k) (Nat.pow_le_pow_right (by omega) hk)
theorem pow_pw (x k : Nat) (hx : x < 274877906944) (hk : k + 1 ≤ 3) : x ^ k * x < pw 5 := by
  rw [← Nat.pow_succ]
  exact Nat.lt_of_le_of_lt (pow_fit x (k + 1) hx hk) (by decide)
theorem one_limb (w : World) : Lm (w.alloc (.cells #[.int .u64 1, .int .u64 0, .int .u64 0, .int .u64 0, .int .u64 0] 37)) w.heap.size (fun i => if i = 0 then 1 else 0) :=
  ⟨World.rowIs_alloc w #[.int .u64 1, .int .u64 0, .int .u64 0, .int .u64 0, .int .u64 0] 37 (lmV (fun i => if i = 0 then 1 else 0)) (fun i hi => by
    have : i = 0 ∨ i = 1 ∨ i = 2 ∨ i = 3 ∨ i = 4 := by simp at hi; omega
    rcases this with rfl | rfl | rfl | rfl | rfl <;> rfl), fun i _ => by show (if i = 0 then 1 else 0) < _; split <;> omega⟩
set_option maxRecDepth 100000 in
set_option maxHeartbeats 0 in
theorem within_any (x p q : Nat) (w : World) (hx : x < 274877906944) (hp : p < 4294967296) (hq : q = 2 ∨ q = 3) :
    Calls Try.prog 97 #[.int .u64 (x : Int), .int .u64 (p : Int), .int .i64 (q : Int)] w fun e w' => e = .returned (.bool (decide (x ^ q ≤ p * pw q))) ∧ Below w.heap.size w w' := by
  have M1 := Lib.hid (one_limb w)
  have hq5 : q < 5 := by omega
  have hq3 : q ≤ 3 := by omega
  have hqi : (q : Int) < 5 := by omega
  have hq0 : 0 ≤ (q : Int) := by omega
  have mk := fun W => u64_made W 5 (by omega)
  have mk5 : ∀ W, (Instr.makeSlice 113 (.int .i64 5) (.int .i64 5)).run Try.prog W = .ok (.slice (some ⟨W.heap.size, 0, none⟩) 5 5) (W.alloc (.cells (madeCells #[.int .u64 0] 5) 37)) := mk
  clear mk hq
  go_enter Try.func97, Try.ntmps97
  go_wp2
  have B1 : Hid (Below w.heap.size w (w.alloc (.cells #[.int .u64 1, .int .u64 0, .int .u64 0, .int .u64 0, .int .u64 0] 37))) := Lib.hid ((Below.refl _ _).alloc (Nat.le_refl _) _)
  generalize w.alloc (.cells #[.int .u64 1, .int .u64 0, .int .u64 0, .int .u64 0, .int .u64 0] 37) = w1 at M1 B1 ⊢
  go_loopw [7, 8] (fun a i wr => ∃ (k g : Nat) (f : Nat → Nat), k ≤ q ∧ i = .int .i64 (k : Int) ∧ a = .slice (some ⟨g, 0, none⟩) 5 5 ∧ Hid (Lm wr g f ∧ vl f = x ^ k ∧ Below w.heap.size w wr)) (fun _ i _ => q - (intOf i).toNat)
  case atStart => exact ⟨0, w.heap.size, _, by omega, rfl, rfl, Lib.hid ⟨M1.out, rfl, B1.out⟩⟩
  case round =>
    obtain ⟨k, g, f, hk, rfl, rfl, HR⟩ := hrel
    by_cases hlt : k < q
    · have hki : (k : Int) < (q : Int) := by omega
      go_wp2_with fail
      refine (times_limb g f x wr HR.out.1 hx (by rw [HR.out.2.1]; exact pow_pw x k hx (by omega))).mono ?_
      rintro e w2 ⟨rfl, ⟨f2, hf2, hv2⟩, hb2⟩
      have R2 : Hid (Lm w2 wr.heap.size f2 ∧ vl f2 = x ^ (k + 1) ∧ Below w.heap.size w w2) := Lib.hid ⟨hf2, by rw [hv2, HR.out.2.1, Nat.pow_succ], HR.out.2.2.trans (hb2.mono HR.out.2.2.size)⟩
      clear hf2 hv2 hb2
      go_wp2
      go_roundw
      case rel => exact ⟨k + 1, wr.heap.size, f2, by omega, by go_num, rfl, R2⟩
      case measure => simp [intOf]; omega
    · obtain rfl : k = q := by omega
      have hc0 : (wr.alloc (.cells (madeCells #[.int .u64 0] 5) 37)).cell? ⟨wr.heap.size, k, none⟩ = some (.int .u64 0) := (World.rowIs_made wr (.int .u64 0) 5 37).cell hq5
      go_wp2
      clear hc0
      have R3 : Hid (Lm (wr.alloc (.cells ((madeCells #[.int .u64 0] 5).setIfInBounds k (.int .u64 (p : Int))) 37)) wr.heap.size (fun i => if i = k then p else 0) ∧ Lm (wr.alloc (.cells ((madeCells #[.int .u64 0] 5).setIfInBounds k (.int .u64 (p : Int))) 37)) g f ∧ Below w.heap.size w (wr.alloc (.cells ((madeCells #[.int .u64 0] 5).setIfInBounds k (.int .u64 (p : Int))) 37))) := Lib.hid (by
        refine ⟨⟨(made_set wr (.int .u64 0) (.int .u64 (p : Int)) 5 k 37).congr fun i hi => ?_, fun i _ => ?_⟩, ⟨HR.out.1.row.alloc _, HR.out.1.low⟩, HR.out.2.2.alloc HR.out.2.2.size _⟩
        · by_cases e : i = k
          · simp [lmV, e]
          · simp [lmV, e]
        · show (if i = k then p else 0) < _
          split <;> omega)
      generalize wr.alloc (.cells ((madeCells #[.int .u64 0] 5).setIfInBounds k (.int .u64 (p : Int))) 37) = w3 at R3 ⊢
      obtain ⟨g2, hg2⟩ : ∃ g2, wr.heap.size = g2 := ⟨_, rfl⟩
      rw [hg2] at R3
      try rw [hg2]
      clear hg2
      obtain ⟨b, hb⟩ : ∃ b : Nat → Nat, (fun i => if i = k then p else 0) = b := ⟨_, rfl⟩
      rw [hb] at R3
      have HB : Hid (vl b = p * pw k) := Lib.hid (by rw [← hb]; exact vl_one k p hq5)
      have HF : Hid (vl f = x ^ k) := Lib.hid HR.out.2.1
      clear hb
      go_loopw [10] (fun i wx => ∃ j : Nat, j ≤ 5 ∧ i = .int .i64 ((j : Int) - 1) ∧ Hid (Lm wx g2 b ∧ Lm wx g f ∧ Below w.heap.size w wx) ∧ Hid (∀ l, j ≤ l → l < 5 → f l = b l)) (fun i _ => (intOf i + 1).toNat)
      case atStart => exact ⟨5, by omega, rfl, R3, Lib.hid (fun l h1 h2 => by omega)⟩
      case round =>
        obtain ⟨j, hj, rfl, HX, HE⟩ := hrel
        cases j with
        | zero =>
          have EV : Hid (decide (x ^ k ≤ p * pw k) = true) := Lib.hid (decide_eq_true (by
            rw [← HB.out, ← HF.out, vl_eq (fun l hl => HE.out l (Nat.zero_le _) hl)]; exact Nat.le_refl _))
          rw [show ((0 : Nat) : Int) - 1 = -1 from rfl]
          go_wp2
          go_ret
          exact ⟨by rw [EV.out]; rfl, HX.out.2.2⟩
        | succ j =>
          have hj5 : j < 5 := by omega
          have hji : ((j + 1 : Nat) : Int) - 1 = (j : Int) := by omega
          rw [hji]
          have hj5i : (j : Int) < 5 := by omega
          have hj0 : 0 ≤ (j : Int) := by omega
          obtain ⟨y, hy⟩ : ∃ y, f j = y := ⟨_, rfl⟩
          obtain ⟨z, hz⟩ : ∃ z, b j = z := ⟨_, rfl⟩
          have c1 : wr.cell? ⟨g, j, none⟩ = some (.int .u64 (y : Int)) := by rw [HX.out.2.1.row.cell hj5, lmV, hy]
          have c2 : wr.cell? ⟨g2, j, none⟩ = some (.int .u64 (z : Int)) := by rw [HX.out.1.row.cell hj5, lmV, hz]
          clear hji
          by_cases e : y = z
          · have HN : Hid (∀ l, j ≤ l → l < 5 → f l = b l) := Lib.hid (fun l h1 h2 => by
              rcases Nat.lt_or_ge j l with h | h
              · exact HE.out l h h2
              · obtain rfl : l = j := by omega
                rw [hy, hz, e])
            subst e
            clear hy hz
            go_wp2
            go_quiet (fail)
            go_wp2
            go_roundw
            case rel => exact ⟨j, by omega, by first | rfl | go_num, Lib.hid ⟨HX.out.1.of_block rfl, HX.out.2.1.of_block rfl, below_drewN HX.out.2.2 _⟩, HN⟩
            case measure => simp [intOf]
          · have hne : ¬ (y : Int) = (z : Int) := by omega
            have EV : Hid (decide (x ^ k ≤ p * pw k) = decide (y < z)) := Lib.hid (by
              have h := vl_cmp HX.out.2.1.low HX.out.1.low j hj5 (fun l h1 h2 => HE.out l h1 h2) (by rw [hy, hz]; exact e)
              rw [hy, hz, HB.out, HF.out] at h
              exact decide_eq_decide.2 h)
            clear hy hz e
            go_wp2
            go_quiet (fail)
            go_wp2
            go_quiet (fail)
            go_wp2
            go_ret
            exact ⟨by rw [EV.out]; first | rfl | simp, below_drewN (below_drewN HX.out.2.2 _) _⟩
/-- The greatest number whose power is not above. -/
def Root (p q r : Nat) : Prop := r ^ q ≤ p * pw q ∧ p * pw q < (r + 1) ^ q
theorem root_one {p q r s : Nat} (hq : 0 < q) (h : Root p q r) (k : Root p q s) : r = s := by
  apply Classical.byContradiction
  intro hne
  rcases Nat.lt_or_gt_of_ne hne with hlt | hlt
  · have := Nat.pow_le_pow_left (show r + 1 ≤ s from hlt) q
    exact absurd (Nat.lt_of_lt_of_le h.2 (Nat.le_trans this k.1)) (Nat.lt_irrefl _)
  · have := Nat.pow_le_pow_left (show s + 1 ≤ r from hlt) q
    exact absurd (Nat.lt_of_lt_of_le k.2 (Nat.le_trans this h.1)) (Nat.lt_irrefl _)
theorem root_high {p q : Nat} (hp : p ≤ 311) (hq : q = 2 ∨ q = 3) : p * pw q < (137438953472 + 1) ^ q := by
  rcases hq with rfl | rfl
  · exact Nat.lt_of_le_of_lt (Nat.mul_le_mul_right _ hp) (by decide)
  · exact Nat.lt_of_le_of_lt (Nat.mul_le_mul_right _ hp) (by decide)
set_option maxRecDepth 100000 in
set_option maxHeartbeats 0 in
theorem root_any (p q : Nat) (w : World) (hp : p ≤ 311) (hq : q = 2 ∨ q = 3) :
    Calls Try.prog 80 #[.int .u64 (p : Int), .int .i64 (q : Int)] w fun e w' => (∃ r, Root p q r ∧ e = .returned (.int .u32 ((r % 4294967296 : Nat) : Int))) ∧ Below w.heap.size w w' := by
  have RH := Lib.hid (root_high hp hq)
  have hq0 : 0 < q := by omega
  have HQ := Lib.hid hq
  clear hq
  have hp2 : p < 4294967296 := by omega
  go_enter Try.func80, Try.ntmps80
  go_wp2
  go_loopw [5, 6, 7] (fun lo hi _ wr => ∃ l h : Nat, l ≤ h ∧ h ≤ 137438953472 ∧ lo = .int .u64 (l : Int) ∧ hi = .int .u64 (h : Int) ∧ Hid (l ^ q ≤ p * pw q ∧ p * pw q < (h + 1) ^ q ∧ Below w.heap.size w wr)) (fun lo hi _ _ => (intOf hi).toNat - (intOf lo).toNat)
  case atStart => exact ⟨0, 137438953472, by omega, by omega, rfl, rfl, Lib.hid ⟨by rw [Nat.zero_pow hq0]; exact Nat.zero_le _, RH.out, Below.refl _ _⟩⟩
  case round =>
    obtain ⟨l, h, hlh, hh, rfl, rfl, HR⟩ := hrel
    by_cases hlt : l < h
    · have hlti : (l : Int) < (h : Int) := by omega
      obtain ⟨a, ha⟩ : ∃ a, l + h = a := ⟨_, rfl⟩
      obtain ⟨a1, ha1⟩ : ∃ a1, a + 1 = a1 := ⟨_, rfl⟩
      obtain ⟨m, hm⟩ : ∃ m, a1 / 2 = m := ⟨_, rfl⟩
      obtain ⟨m1, hm1⟩ : ∃ m1, m - 1 = m1 := ⟨_, rfl⟩
      have E1 : (l : Int) + (h : Int) = (a : Int) := by omega
      have E2 : (a : Int) + 1 = (a1 : Int) := by omega
      have E3 : (a1 : Int) / 2 = (m : Int) := by omega
      have E4 : (m : Int) - 1 = (m1 : Int) := by omega
      have W1 : (a : Int) % 18446744073709551616 = (a : Int) := by omega
      have W2 : (a1 : Int) % 18446744073709551616 = (a1 : Int) := by omega
      have W3 : (m1 : Int) % 18446744073709551616 = (m1 : Int) := by omega
      have W4 : (m : Int) % 18446744073709551616 = (m : Int) := by omega
      have V1 : IntKind.u64.wrap (a : Int) = (a : Int) := by rw [IntKind.wrap_u64]; omega
      have V2 : IntKind.u64.wrap (a1 : Int) = (a1 : Int) := by rw [IntKind.wrap_u64]; omega
      have V3 : IntKind.u64.wrap (m1 : Int) = (m1 : Int) := by rw [IntKind.wrap_u64]; omega
      have V4 : IntKind.u64.wrap (m : Int) = (m : Int) := by rw [IntKind.wrap_u64]; omega
      have b1 : l < m := by omega
      have b2 : m ≤ h := by omega
      have b3 : m1 < m := by omega
      have b4 : l ≤ m1 := by omega
      have b5 : m1 + 1 = m := by omega
      clear ha ha1 hm hm1
      obtain ⟨c, hc⟩ : ∃ c, decide (m ^ q ≤ p * pw q) = c := ⟨_, rfl⟩
      have HC := Lib.hid hc
      have W : ∀ W, Calls Try.prog 97 #[.int .u64 (m : Int), .int .u64 (p : Int), .int .i64 (q : Int)] W fun e w' => e = .returned (.bool c) ∧ Below W.heap.size W w' := fun W => by
        rw [← hc]; exact within_any m p q W (by omega) hp2 HQ.out
      clear hc
      go_wp2_with fail
      refine (W _).mono ?_
      rintro e w2 ⟨rfl, hb2⟩
      clear W
      have HB := Lib.hid (HR.out.2.2.trans (hb2.mono HR.out.2.2.size))
      clear hb2
      cases c with
      | true =>
        have HP : Hid (m ^ q ≤ p * pw q) := Lib.hid (of_decide_eq_true HC.out)
        go_wp2
        go_roundw
        case rel => exact ⟨m, h, b2, hh, by first | rfl | go_num, by first | rfl | go_num, Lib.hid ⟨HP.out, HR.out.2.1, HB.out⟩⟩
        case measure => simp [intOf]; omega
      | false =>
        have HP : Hid (p * pw q < (m1 + 1) ^ q) := Lib.hid (by rw [b5]; exact Nat.lt_of_not_le (of_decide_eq_false HC.out))
        go_wp2
        go_roundw
        case rel => exact ⟨l, m1, b4, by omega, by first | rfl | go_num, by first | rfl | go_num, Lib.hid ⟨HR.out.1, HP.out, HB.out⟩⟩
        case measure => simp [intOf]; omega
    · obtain rfl : l = h := by omega
      have HRR : Hid (Root p q l) := Lib.hid ⟨HR.out.1, HR.out.2.1⟩
      have BE := Lib.hid HR.out.2.2
      go_wp2
      go_ret
      exact ⟨⟨l, HRR.out, rfl⟩, BE.out⟩
end Go.Proofs.Ytbfmdingbgdflaa
