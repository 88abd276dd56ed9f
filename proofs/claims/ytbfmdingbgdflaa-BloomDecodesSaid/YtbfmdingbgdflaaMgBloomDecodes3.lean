/- Several texts of the claim joined into one (part 3): plain facts and walks. No conditions but those that each theorem tells. -/
import Derived.Test.YtbfmdingbgdflaaMgBloomDecodes2
import Derived.Test.YtbfmdingbgdflaaSha
import Derived.Test.YtbfmdingbgdflaaDigP
import Derived.Test.YtbfmdingbgdflaaDigNil
import Derived.Test.YtbfmdingbgdflaaId
import Derived.Deep.DeepCutAuto
import Derived.Test.YtbfmdingbgdflaaHex2
import Derived.Test.YtbfmdingbgdflaaBloF
import Derived.BigQuiet
import Derived.StillTailTactics
namespace Go.Proofs.Ytbfmdingbgdflaa
open Go.RowKit
set_option linter.unusedVariables false
theorem pow_fit (x k : Nat) (hx : x < 274877906944) (hk : k ≤ 3) : x ^ k ≤ 274877906944 ^ 3 :=
  Nat.le_trans (Nat.pow_le_pow_left (Nat.le_of_lt hx) k) (Nat.pow_le_pow_right (by omega) hk)
theorem pow_pw (x k : Nat) (hx : x < 274877906944) (hk : k + 1 ≤ 3) : x ^ k * x < pw 5 := by
  rw [← Nat.pow_succ]
  exact Nat.lt_of_le_of_lt (pow_fit x (k + 1) hx hk) (by decide)
theorem one_limb (w : World) : Lm (w.alloc (.cells #[.int .u64 1, .int .u64 0, .int .u64 0, .int .u64 0, .int .u64 0] 37)) w.heap.size (fun i => if i = 0 then 1 else 0) :=
  ⟨World.rowIs_alloc w #[.int .u64 1, .int .u64 0, .int .u64 0, .int .u64 0, .int .u64 0] 37 (lmV (fun i => if i = 0 then 1 else 0)) (fun i hi => by
    have : i = 0 ∨ i = 1 ∨ i = 2 ∨ i = 3 ∨ i = 4 := by simp at hi; omega
    rcases this with rfl | rfl | rfl | rfl | rfl <;> rfl), fun i _ => by show (if i = 0 then 1 else 0) < _; split <;> omega⟩
set_option maxRecDepth 100000 in
set_option maxHeartbeats 0 in
theorem within_any (x p q : Nat) (w : World) (hx : x < 274877906944) (hp : p < 4294967296) (hq : q = 2 ∨ q = 3) :
    Calls Try.prog 97 #[.int .u64 (x : Int), .int .u64 (p : Int), .int .i64 (q : Int)] w fun e w' => e = .returned (.bool (decide (x ^ q ≤ p * pw q))) ∧ Below w.heap.size w w' := by
  have M1 := Lib.hid (one_limb w)
  have hq5 : q < 5 := by omega
  have hq3 : q ≤ 3 := by omega
  have hqi : (q : Int) < 5 := by omega
  have hq0 : 0 ≤ (q : Int) := by omega
  have mk := fun W => u64_made W 5 (by omega)
  have mk5 : ∀ W, (Instr.makeSlice 113 (.int .i64 5) (.int .i64 5)).run Try.prog W = .ok (.slice (some ⟨W.heap.size, 0, none⟩) 5 5) (W.alloc (.cells (madeCells #[.int .u64 0] 5) 37)) := mk
  clear mk hq
  go_enter Try.func97, Try.ntmps97
  go_wp2
  have B1 : Hid (Below w.heap.size w (w.alloc (.cells #[.int .u64 1, .int .u64 0, .int .u64 0, .int .u64 0, .int .u64 0] 37))) := Lib.hid ((Below.refl _ _).alloc (Nat.le_refl _) _)
  generalize w.alloc (.cells #[.int .u64 1, .int .u64 0, .int .u64 0, .int .u64 0, .int .u64 0] 37) = w1 at M1 B1 ⊢
  go_loopw [7, 8] (fun a i wr => ∃ (k g : Nat) (f : Nat → Nat), k ≤ q ∧ i = .int .i64 (k : Int) ∧ a = .slice (some ⟨g, 0, none⟩) 5 5 ∧ Hid (Lm wr g f ∧ vl f = x ^ k ∧ Below w.heap.size w wr)) (fun _ i _ => q - (intOf i).toNat)
  case atStart => exact ⟨0, w.heap.size, _, by omega, rfl, rfl, Lib.hid ⟨M1.out, rfl, B1.out⟩⟩
  case round =>
    obtain ⟨k, g, f, hk, rfl, rfl, HR⟩ := hrel
    by_cases hlt : k < q
    · have hki : (k : Int) < (q : Int) := by omega
      go_wp2_with fail
      refine (times_limb g f x wr HR.out.1 hx (by rw [HR.out.2.1]; exact pow_pw x k hx (by omega))).mono ?_
      rintro e w2 ⟨rfl, ⟨f2, hf2, hv2⟩, hb2⟩
      have R2 : Hid (Lm w2 wr.heap.size f2 ∧ vl f2 = x ^ (k + 1) ∧ Below w.heap.size w w2) := Lib.hid ⟨hf2, by rw [hv2, HR.out.2.1, Nat.pow_succ], HR.out.2.2.trans (hb2.mono HR.out.2.2.size)⟩
      clear hf2 hv2 hb2
      go_wp2
      go_roundw
      case rel => exact ⟨k + 1, wr.heap.size, f2, by omega, by go_num, rfl, R2⟩
      case measure => simp [intOf]; omega
    · obtain rfl : k = q := by omega
      have hc0 : (wr.alloc (.cells (madeCells #[.int .u64 0] 5) 37)).cell? ⟨wr.heap.size, k, none⟩ = some (.int .u64 0) := (World.rowIs_made wr (.int .u64 0) 5 37).cell hq5
      go_wp2
      clear hc0
      have R3 : Hid (Lm (wr.alloc (.cells ((madeCells #[.int .u64 0] 5).setIfInBounds k (.int .u64 (p : Int))) 37)) wr.heap.size (fun i => if i = k then p else 0) ∧ Lm (wr.alloc (.cells ((madeCells #[.int .u64 0] 5).setIfInBounds k (.int .u64 (p : Int))) 37)) g f ∧ Below w.heap.size w (wr.alloc (.cells ((madeCells #[.int .u64 0] 5).setIfInBounds k (.int .u64 (p : Int))) 37))) := Lib.hid (by
        refine ⟨⟨(made_set wr (.int .u64 0) (.int .u64 (p : Int)) 5 k 37).congr fun i hi => ?_, fun i _ => ?_⟩, ⟨HR.out.1.row.alloc _, HR.out.1.low⟩, HR.out.2.2.alloc HR.out.2.2.size _⟩
        · by_cases e : i = k
          · simp [lmV, e]
          · simp [lmV, e]
        · show (if i = k then p else 0) < _
          split <;> omega)
      generalize wr.alloc (.cells ((madeCells #[.int .u64 0] 5).setIfInBounds k (.int .u64 (p : Int))) 37) = w3 at R3 ⊢
      obtain ⟨g2, hg2⟩ : ∃ g2, wr.heap.size = g2 := ⟨_, rfl⟩
      rw [hg2] at R3
      try rw [hg2]
      clear hg2
      obtain ⟨b, hb⟩ : ∃ b : Nat → Nat, (fun i => if i = k then p else 0) = b := ⟨_, rfl⟩
      rw [hb] at R3
      have HB : Hid (vl b = p * pw k) := Lib.hid (by rw [← hb]; exact vl_one k p hq5)
      have HF : Hid (vl f = x ^ k) := Lib.hid HR.out.2.1
      clear hb
      go_loopw [10] (fun i wx => ∃ j : Nat, j ≤ 5 ∧ i = .int .i64 ((j : Int) - 1) ∧ Hid (Lm wx g2 b ∧ Lm wx g f ∧ Below w.heap.size w wx) ∧ Hid (∀ l, j ≤ l → l < 5 → f l = b l)) (fun i _ => (intOf i + 1).toNat)
      case atStart => exact ⟨5, by omega, rfl, R3, Lib.hid (fun l h1 h2 => by omega)⟩
      case round =>
        obtain ⟨j, hj, rfl, HX, HE⟩ := hrel
        cases j with
        | zero =>
          have EV : Hid (decide (x ^ k ≤ p * pw k) = true) := Lib.hid (decide_eq_true (by
            rw [← HB.out, ← HF.out, vl_eq (fun l hl => HE.out l (Nat.zero_le _) hl)]; exact Nat.le_refl _))
          rw [show ((0 : Nat) : Int) - 1 = -1 from rfl]
          go_wp2
          go_ret
          exact ⟨by rw [EV.out]; rfl, HX.out.2.2⟩
        | succ j =>
          have hj5 : j < 5 := by omega
          have hji : ((j + 1 : Nat) : Int) - 1 = (j : Int) := by omega
          rw [hji]
          have hj5i : (j : Int) < 5 := by omega
          have hj0 : 0 ≤ (j : Int) := by omega
          obtain ⟨y, hy⟩ : ∃ y, f j = y := ⟨_, rfl⟩
          obtain ⟨z, hz⟩ : ∃ z, b j = z := ⟨_, rfl⟩
          have c1 : wr.cell? ⟨g, j, none⟩ = some (.int .u64 (y : Int)) := by rw [HX.out.2.1.row.cell hj5, lmV, hy]
          have c2 : wr.cell? ⟨g2, j, none⟩ = some (.int .u64 (z : Int)) := by rw [HX.out.1.row.cell hj5, lmV, hz]
          clear hji
          by_cases e : y = z
          · have HN : Hid (∀ l, j ≤ l → l < 5 → f l = b l) := Lib.hid (fun l h1 h2 => by
              rcases Nat.lt_or_ge j l with h | h
              · exact HE.out l h h2
              · obtain rfl : l = j := by omega
                rw [hy, hz, e])
            subst e
            clear hy hz
            go_wp2
            go_quiet (fail)
            go_wp2
            go_roundw
            case rel => exact ⟨j, by omega, by first | rfl | go_num, Lib.hid ⟨HX.out.1.of_block rfl, HX.out.2.1.of_block rfl, below_drewN HX.out.2.2 _⟩, HN⟩
            case measure => simp [intOf]
          · have hne : ¬ (y : Int) = (z : Int) := by omega
            have EV : Hid (decide (x ^ k ≤ p * pw k) = decide (y < z)) := Lib.hid (by
              have h := vl_cmp HX.out.2.1.low HX.out.1.low j hj5 (fun l h1 h2 => HE.out l h1 h2) (by rw [hy, hz]; exact e)
              rw [hy, hz, HB.out, HF.out] at h
              exact decide_eq_decide.2 h)
            clear hy hz e
            go_wp2
            go_quiet (fail)
            go_wp2
            go_quiet (fail)
            go_wp2
            go_ret
            exact ⟨by rw [EV.out]; first | rfl | simp, below_drewN (below_drewN HX.out.2.2 _) _⟩
/-- The greatest number whose power is not above. -/
def Root (p q r : Nat) : Prop := r ^ q ≤ p * pw q ∧ p * pw q < (r + 1) ^ q
theorem root_one {p q r s : Nat} (hq : 0 < q) (h : Root p q r) (k : Root p q s) : r = s := by
  apply Classical.byContradiction
  intro hne
  rcases Nat.lt_or_gt_of_ne hne with hlt | hlt
  · have := Nat.pow_le_pow_left (show r + 1 ≤ s from hlt) q
    exact absurd (Nat.lt_of_lt_of_le h.2 (Nat.le_trans this k.1)) (Nat.lt_irrefl _)
  · have := Nat.pow_le_pow_left (show s + 1 ≤ r from hlt) q
    exact absurd (Nat.lt_of_lt_of_le k.2 (Nat.le_trans this h.1)) (Nat.lt_irrefl _)
theorem root_high {p q : Nat} (hp : p ≤ 311) (hq : q = 2 ∨ q = 3) : p * pw q < (137438953472 + 1) ^ q := by
  rcases hq with rfl | rfl
  · exact Nat.lt_of_le_of_lt (Nat.mul_le_mul_right _ hp) (by decide)
  · exact Nat.lt_of_le_of_lt (Nat.mul_le_mul_right _ hp) (by decide)
set_option maxRecDepth 100000 in
set_option maxHeartbeats 0 in
theorem root_any (p q : Nat) (w : World) (hp : p ≤ 311) (hq : q = 2 ∨ q = 3) :
    Calls Try.prog 80 #[.int .u64 (p : Int), .int .i64 (q : Int)] w fun e w' => (∃ r, Root p q r ∧ e = .returned (.int .u32 ((r % 4294967296 : Nat) : Int))) ∧ Below w.heap.size w w' := by
  have RH := Lib.hid (root_high hp hq)
  have hq0 : 0 < q := by omega
  have HQ := Lib.hid hq
  clear hq
  have hp2 : p < 4294967296 := by omega
  go_enter Try.func80, Try.ntmps80
  go_wp2
  go_loopw [5, 6, 7] (fun lo hi _ wr => ∃ l h : Nat, l ≤ h ∧ h ≤ 137438953472 ∧ lo = .int .u64 (l : Int) ∧ hi = .int .u64 (h : Int) ∧ Hid (l ^ q ≤ p * pw q ∧ p * pw q < (h + 1) ^ q ∧ Below w.heap.size w wr)) (fun lo hi _ _ => (intOf hi).toNat - (intOf lo).toNat)
  case atStart => exact ⟨0, 137438953472, by omega, by omega, rfl, rfl, Lib.hid ⟨by rw [Nat.zero_pow hq0]; exact Nat.zero_le _, RH.out, Below.refl _ _⟩⟩
  case round =>
    obtain ⟨l, h, hlh, hh, rfl, rfl, HR⟩ := hrel
    by_cases hlt : l < h
    · have hlti : (l : Int) < (h : Int) := by omega
      obtain ⟨a, ha⟩ : ∃ a, l + h = a := ⟨_, rfl⟩
      obtain ⟨a1, ha1⟩ : ∃ a1, a + 1 = a1 := ⟨_, rfl⟩
      obtain ⟨m, hm⟩ : ∃ m, a1 / 2 = m := ⟨_, rfl⟩
      obtain ⟨m1, hm1⟩ : ∃ m1, m - 1 = m1 := ⟨_, rfl⟩
      have E1 : (l : Int) + (h : Int) = (a : Int) := by omega
      have E2 : (a : Int) + 1 = (a1 : Int) := by omega
      have E3 : (a1 : Int) / 2 = (m : Int) := by omega
      have E4 : (m : Int) - 1 = (m1 : Int) := by omega
      have W1 : (a : Int) % 18446744073709551616 = (a : Int) := by omega
      have W2 : (a1 : Int) % 18446744073709551616 = (a1 : Int) := by omega
      have W3 : (m1 : Int) % 18446744073709551616 = (m1 : Int) := by omega
      have W4 : (m : Int) % 18446744073709551616 = (m : Int) := by omega
      have V1 : IntKind.u64.wrap (a : Int) = (a : Int) := by rw [IntKind.wrap_u64]; omega
      have V2 : IntKind.u64.wrap (a1 : Int) = (a1 : Int) := by rw [IntKind.wrap_u64]; omega
      have V3 : IntKind.u64.wrap (m1 : Int) = (m1 : Int) := by rw [IntKind.wrap_u64]; omega
      have V4 : IntKind.u64.wrap (m : Int) = (m : Int) := by rw [IntKind.wrap_u64]; omega
      have b1 : l < m := by omega
      have b2 : m ≤ h := by omega
      have b3 : m1 < m := by omega
      have b4 : l ≤ m1 := by omega
      have b5 : m1 + 1 = m := by omega
      clear ha ha1 hm hm1
      obtain ⟨c, hc⟩ : ∃ c, decide (m ^ q ≤ p * pw q) = c := ⟨_, rfl⟩
      have HC := Lib.hid hc
      have W : ∀ W, Calls Try.prog 97 #[.int .u64 (m : Int), .int .u64 (p : Int), .int .i64 (q : Int)] W fun e w' => e = .returned (.bool c) ∧ Below W.heap.size W w' := fun W => by
        rw [← hc]; exact within_any m p q W (by omega) hp2 HQ.out
      clear hc
      go_wp2_with fail
      refine (W _).mono ?_
      rintro e w2 ⟨rfl, hb2⟩
      clear W
      have HB := Lib.hid (HR.out.2.2.trans (hb2.mono HR.out.2.2.size))
      clear hb2
      cases c with
      | true =>
        have HP : Hid (m ^ q ≤ p * pw q) := Lib.hid (of_decide_eq_true HC.out)
        go_wp2
        go_roundw
        case rel => exact ⟨m, h, b2, hh, by first | rfl | go_num, by first | rfl | go_num, Lib.hid ⟨HP.out, HR.out.2.1, HB.out⟩⟩
        case measure => simp [intOf]; omega
      | false =>
        have HP : Hid (p * pw q < (m1 + 1) ^ q) := Lib.hid (by rw [b5]; exact Nat.lt_of_not_le (of_decide_eq_false HC.out))
        go_wp2
        go_roundw
        case rel => exact ⟨l, m1, b4, by omega, by first | rfl | go_num, by first | rfl | go_num, Lib.hid ⟨HR.out.1, HP.out, HB.out⟩⟩
        case measure => simp [intOf]; omega
    · obtain rfl : l = h := by omega
      have HRR : Hid (Root p q l) := Lib.hid ⟨HR.out.1, HR.out.2.1⟩
      have BE := Lib.hid HR.out.2.2
      go_wp2
      go_ret
      exact ⟨⟨l, HRR.out, rfl⟩, BE.out⟩
end Go.Proofs.Ytbfmdingbgdflaa
namespace Go.Proofs.Ytbfmdingbgdflaa
open Go.RowKit Dig
def cuI (p : Nat) : Nat := if p < 8 then 1 else if p < 27 then 2 else if p < 64 then 3 else if p < 125 then 4 else if p < 216 then 5 else 6
def sqI (p : Nat) : Nat := if p < 4 then 1 else if p < 9 then 2 else if p < 16 then 3 else 4
def cuR (i : Nat) : Nat := cuI (prL.getD i 0) * 4294967296 + (kF i).toNat
def sqR (i : Nat) : Nat := sqI (prL.getD i 0) * 4294967296 + (firstF i).toNat
theorem cu_all : ((List.range 64).all fun i => decide ((cuR i) ^ 3 ≤ prL.getD i 0 * pw 3) && decide (prL.getD i 0 * pw 3 < (cuR i + 1) ^ 3)) = true := by decide +kernel
theorem sq_all : ((List.range 8).all fun i => decide ((sqR i) ^ 2 ≤ prL.getD i 0 * pw 2) && decide (prL.getD i 0 * pw 2 < (sqR i + 1) ^ 2)) = true := by decide +kernel
theorem cu_root (i : Nat) (h : i < 64) : Root (prL.getD i 0) 3 (cuR i) := by
  have := List.all_eq_true.1 cu_all i (List.mem_range.2 h)
  rw [Bool.and_eq_true] at this
  exact ⟨of_decide_eq_true this.1, of_decide_eq_true this.2⟩
theorem sq_root (i : Nat) (h : i < 8) : Root (prL.getD i 0) 2 (sqR i) := by
  have := List.all_eq_true.1 sq_all i (List.mem_range.2 h)
  rw [Bool.and_eq_true] at this
  exact ⟨of_decide_eq_true this.1, of_decide_eq_true this.2⟩
theorem pr_small (i : Nat) (h : i < 64) : prL.getD i 0 ≤ 311 := by
  have hl : i < prL.length := by rw [pr_len]; exact h
  rw [List.getD_eq_getElem?_getD, List.getElem?_eq_getElem hl]
  have := List.all_eq_true.1 pr_bd _ (List.getElem_mem hl)
  exact (of_decide_eq_true this).2
theorem low32 (a : Nat) (b : UInt32) : (a * 4294967296 + b.toNat) % 4294967296 = b.toNat := by
  have : b.toNat < 4294967296 := b.toNat_lt
  omega
theorem root_cu (i p : Nat) (h : i < 64) (hp : prL.getD i 0 = p) (w : World) :
    Calls Try.prog 80 #[.int .u64 (p : Int), .int .i64 3] w fun e w' => e = .returned (.int .u32 ((kF i).toNat : Int)) ∧ Below w.heap.size w w' := by
  subst hp
  refine (root_any (prL.getD i 0) 3 w (pr_small i h) (.inr rfl)).mono ?_
  rintro e w' ⟨⟨r, hr, rfl⟩, hb⟩
  rw [root_one (by omega) hr (cu_root i h), cuR, low32]
  exact ⟨rfl, hb⟩
theorem root_sq (i p : Nat) (h : i < 8) (hp : prL.getD i 0 = p) (w : World) :
    Calls Try.prog 80 #[.int .u64 (p : Int), .int .i64 2] w fun e w' => e = .returned (.int .u32 ((firstF i).toNat : Int)) ∧ Below w.heap.size w w' := by
  subst hp
  refine (root_any (prL.getD i 0) 2 w (pr_small i (by omega)) (.inl rfl)).mono ?_
  rintro e w' ⟨⟨r, hr, rfl⟩, hb⟩
  rw [root_one (by omega) hr (sq_root i h), sqR, low32]
  exact ⟨rfl, hb⟩
end Go.Proofs.Ytbfmdingbgdflaa
namespace Go.Proofs.Ytbfmdingbgdflaa
open Go.RowKit Dig
set_option linter.unusedVariables false
set_option linter.unusedSimpArgs false
attribute [local go_sem ↓] execOp_ld8 execOp_st8 execOp_ld32 execOp_st32 execOp_ld64 execOp_st64
attribute [local go_sem] run_ld8 run_st8 run_ld32 run_st32 run_ld64 run_st64
def upF (f : Nat → UInt32) (k : Nat) : Nat → UInt32 := fun i => if i < k then f i else 0
theorem upF_step (f : Nat → UInt32) (k i : Nat) : (if i = k then Value.int .u32 ((f k).toNat : Int) else uV (upF f k) i) = uV (upF f (k + 1)) i := by
  simp only [uV, upF]
  by_cases e : i = k
  · rw [if_pos e, if_pos (by omega), e]
  · rw [if_neg e]
    by_cases h : i < k
    · rw [if_pos h, if_pos (by omega)]
    · rw [if_neg h, if_neg (by omega)]
theorem upF_end (f : Nat → UInt32) (k i : Nat) (h : i < k) : uV (upF f k) i = uV f i := by simp only [uV, upF]; rw [if_pos h]
/-- What the two loops keep. -/
structure Sm (w wr : World) (g K H : Nat) (A : Option Addr) (f h : Nat → UInt32) : Prop where
  id : wr.rowIs g 28 32 (fun _ => .int .u8 0)
  k : wr.rowIs K 93 64 (uV f)
  h : wr.rowIs H 89 8 (uV h)
  p : Reads wr K 1 A 64 (pV prL)
  low : g < K
  mid : K < H
  b1 : w.heap.size ≤ g
  below : Below w.heap.size w wr
theorem Sm.step {w wr w' : World} {g K H : Nat} {A : Option Addr} {f h : Nat → UInt32} (s : Sm w wr g K H A f h) (hb : Below wr.heap.size wr w') : Sm w w' g K H A f h :=
  ⟨s.id.of_block (hb.block _ s.id.lt), s.k.of_block (hb.block _ s.k.lt), s.h.of_block (hb.block _ s.h.lt), s.p.below (hb.mono (Nat.le_of_lt s.k.lt)), s.low, s.mid, s.b1, s.below.trans (hb.mono s.below.size)⟩
set_option maxRecDepth 100000 in
set_option maxHeartbeats 0 in
theorem rsum_big (s : ByteArray) (w : World) (hs : s.size ≤ 140737488351232) :
    Calls Try.prog 41 #[.string s] w fun e w' => e = .returned (.agg (idA (shaF (byteAt s) s.size))) ∧ Below w.heap.size w w' := by
  have Z := Lib.hid (zero_one w)
  go_enter Try.func41, Try.ntmps41
  go_upto_region 1 with fail
  change Code.wp _ _ _ _ (w.alloc zeroId)
  generalize w.alloc zeroId = w1 at Z ⊢
  go_wp2_with fail
  refine (primes_any w1).mono ?_; rintro e w2 ⟨⟨A, c, rfl, hrd⟩, hb2⟩
  have Z2 : Hid (w2.rowIs w.heap.size 28 32 (fun _ => .int .u8 0) ∧ Reads w2 w2.heap.size 1 A 64 (pV prL) ∧ Below w.heap.size w w2) := Lib.hid ⟨Z.out.1.of_block (hb2.block _ Z.out.1.lt), hrd, Z.out.2.trans (hb2.mono Z.out.2.size)⟩
  clear hb2 hrd Z
  go_upto_region 4 with fail
  change Code.wp _ _ _ _ ((w2.alloc zero64).alloc zero8)
  have S0 : Hid (Sm w ((w2.alloc zero64).alloc zero8) w.heap.size w2.heap.size (w2.heap.size + 1) A (upF kF 0) (upF firstF 0)) := Lib.hid (by
    have z8 := zeros_row (w2.alloc zero64) (T := 89) (n := 8) (z := .int .u32 0) (c := #[.int .u32 0, .int .u32 0, .int .u32 0, .int .u32 0, .int .u32 0, .int .u32 0, .int .u32 0, .int .u32 0]) rfl
    rw [show (w2.alloc zero64).heap.size = w2.heap.size + 1 from by simp] at z8
    have z8' : ((w2.alloc zero64).alloc zero8).rowIs (w2.heap.size + 1) 89 8 (fun _ => .int .u32 0) := z8
    exact ⟨(Z2.out.1.alloc _).alloc _, ((zero64_row w2).alloc _).congr (fun i _ => rfl), z8'.congr (fun i _ => rfl), (Z2.out.2.1.alloc (Nat.le_refl _) _).alloc (by simp) _, Z2.out.1.lt, by omega, Nat.le_refl _, (Z2.out.2.2.alloc Z2.out.2.2.size _).alloc (by have := Z2.out.2.2.size; simp; omega) _⟩)
  generalize (w2.alloc zero64).alloc zero8 = w3 at S0 ⊢
  obtain ⟨K, hK⟩ : ∃ K, w2.heap.size = K := ⟨_, rfl⟩
  obtain ⟨g, hg⟩ : ∃ g, w.heap.size = g := ⟨_, rfl⟩
  have HG := Lib.hid hg
  rw [hK, hg] at S0
  try rw [hK]
  try rw [hg]
  clear hK hg Z2
  go_wp2
  go_loopw [6] (fun i wr => ∃ k : Nat, k ≤ 64 ∧ i = .int .i64 (k : Int) ∧ Hid (Sm w wr g K (K + 1) A (upF kF k) (upF firstF 0))) (fun i _ => 64 - (intOf i).toNat)
  case atStart => exact ⟨0, by omega, rfl, S0⟩
  case round =>
    obtain ⟨k, hk, rfl, HR⟩ := hrel
    by_cases hlt : k < 64
    · have hki : (k : Int) < 64 := by omega
      obtain ⟨ad, rfl, hb, ck⟩ := HR.out.p.u64 hlt
      obtain ⟨x, hx⟩ : ∃ x, prL.getD k 0 = x := ⟨_, rfl⟩
      rw [hx] at ck
      have HX := Lib.hid hx
      clear hx
      go_wp2_with fail
      refine (root_cu k x hlt HX.out _).mono ?_; rintro e w4 ⟨rfl, hb4⟩
      have R4 := Lib.hid (HR.out.step hb4)
      clear hb4 ck
      obtain ⟨v1, hc1⟩ : ∃ v, w4.cell? ⟨K, k, none⟩ = some v := ⟨_, R4.out.k.cell hlt⟩
      have hf1 : w4.frozen? ⟨K, k, none⟩ = false := R4.out.k.frozen _
      go_wp2
      go_roundw
      case rel =>
        have hl := R4.out.low
        have hm := R4.out.mid
        exact ⟨k + 1, by omega, by go_num, Lib.hid ⟨R4.out.id.of_block (Below.heap_setCell _ _ _ _ (by show g ≠ K; omega)), (R4.out.k.set k _).congr fun i _ => upF_step kF k i, R4.out.h.of_block (Below.heap_setCell _ _ _ _ (by show K + 1 ≠ K; omega)), R4.out.p.setCell (Nat.le_refl _) _, hl, hm, R4.out.b1, R4.out.below.setCell (by have := R4.out.b1; show _ ≤ K; omega) _⟩⟩
      case measure => simp [intOf]; omega
    · obtain rfl : k = 64 := by omega
      rw [show ((64 : Nat) : Int) = 64 from rfl]
      go_wp2
      go_loopw [7] (fun i wx => ∃ k : Nat, k ≤ 8 ∧ i = .int .i64 (k : Int) ∧ Hid (Sm w wx g K (K + 1) A (upF kF 64) (upF firstF k))) (fun i _ => 8 - (intOf i).toNat)
      case atStart => exact ⟨0, by omega, rfl, HR⟩
      case round =>
        obtain ⟨k, hk, rfl, HX⟩ := hrel
        by_cases hlt2 : k < 8
        · have hki : (k : Int) < 8 := by omega
          have hk64 : (k : Int) < 64 := by omega
          obtain ⟨ad, rfl, hb, ck⟩ := HX.out.p.u64 (show k < 64 by omega)
          obtain ⟨x, hx⟩ : ∃ x, prL.getD k 0 = x := ⟨_, rfl⟩
          rw [hx] at ck
          have HXX := Lib.hid hx
          clear hx
          go_wp2_with fail
          refine (root_sq k x hlt2 HXX.out _).mono ?_; rintro e w4 ⟨rfl, hb4⟩
          have R4 := Lib.hid (HX.out.step hb4)
          clear hb4 ck
          obtain ⟨v1, hc1⟩ : ∃ v, w4.cell? ⟨K + 1, k, none⟩ = some v := ⟨_, R4.out.h.cell hlt2⟩
          have hf1 : w4.frozen? ⟨K + 1, k, none⟩ = false := R4.out.h.frozen _
          go_wp2
          go_roundw
          case rel =>
            have hl := R4.out.low
            have hm := R4.out.mid
            exact ⟨k + 1, by omega, by go_num, Lib.hid ⟨R4.out.id.of_block (Below.heap_setCell _ _ _ _ (by show g ≠ K + 1; omega)), R4.out.k.of_block (Below.heap_setCell _ _ _ _ (by show K ≠ K + 1; omega)), (R4.out.h.set k _).congr fun i _ => upF_step firstF k i, R4.out.p.setCell (by show K ≤ K + 1; omega) _, hl, hm, R4.out.b1, R4.out.below.setCell (by have := R4.out.b1; show _ ≤ K + 1; omega) _⟩⟩
          case measure => simp [intOf]; omega
        · obtain rfl : k = 8 := by omega
          have r64 := HX.out.k.congr (fun i hi => upF_end kF 64 i hi)
          have r8 := HX.out.h.congr (fun i hi => upF_end firstF 8 i hi)
          have o64 := ok64_of r64 (off := 0) (by omega)
          have e64 := row64_u r64
          have o8 := ok8_of r8 (off := 0) (by omega)
          have e8 := row8_u r8
          obtain ⟨A8, hA8⟩ : ∃ A, uA 8 firstF = A := ⟨_, rfl⟩
          obtain ⟨A64, hA64⟩ : ∃ A, uA 64 kF = A := ⟨_, rfl⟩
          rw [hA8] at e8
          rw [hA64] at e64
          have H8 := Lib.hid hA8
          have H64 := Lib.hid hA64
          obtain ⟨I, hI⟩ : ∃ I, shaF (byteAt s) s.size = I := ⟨_, rfl⟩
          have HI := Lib.hid hI
          clear hA8 hA64 hI r64 r8
          rw [show ((8 : Nat) : Int) = 8 from rfl]
          go_wp2_with fail
          refine (refSum_v H8.out H64.out s HI.out _ hs).mono ?_; rintro e w5 ⟨rfl, hb5⟩
          have R5 := HX.out.step hb5
          have o5 := ok32_of R5.id (off := 0) (by omega)
          have f5 := idA_full I
          have HP := Lib.hid (id_put (w := w) I R5.id R5.below R5.b1)
          clear R5 o64 e64 o8 e8 hb5
          go_wp2
          exact bodyPost_ret (v := .agg (idA I)) (results_cell_row rfl _ _ g 28 _ (0, 0) _ rfl HP.out.1 Try.underlying28 rfl (by rw [idA_size]; kernel_rfl)) rfl ⟨by rw [HI.out], HP.out.2⟩
theorem rsum_any (s : ByteArray) (w : World) (hs : s.size ≤ 16777216) :
    Calls Try.prog 41 #[.string s] w fun e w' => e = .returned (.agg (idA (shaF (byteAt s) s.size))) ∧ Below w.heap.size w w' := rsum_big s w (by omega)
end Go.Proofs.Ytbfmdingbgdflaa
namespace Go.Proofs.Ytbfmdingbgdflaa
open Go.RowKit
set_option linter.unusedVariables false
def cmpB (x y : UInt8) : Int := if (x.toNat : Int) < (y.toNat : Int) then -1 else if (y.toNat : Int) < (x.toNat : Int) then 1 else 0
def cmpR (I J : Nat → UInt8) : Nat → Nat → Int
  | 0, _ => 0
  | f + 1, i => if cmpB (I i) (J i) = 0 then cmpR I J f (i + 1) else cmpB (I i) (J i)
theorem isNaN_any (x : UInt8) (w : World) : Calls Try.prog 95 #[.int .u8 (x.toNat : Int)] w fun e w' => e = .returned (.bool false) ∧ w = w' := by
  go_enter Try.func95, Try.ntmps95
  go_wp2
  go_ret
  exact ⟨rfl, rfl⟩
theorem compare_any (x y : UInt8) (w : World) : Calls Try.prog 77 #[.int .u8 (x.toNat : Int), .int .u8 (y.toNat : Int)] w fun e w' => e = .returned (.int .i64 (cmpB x y)) ∧ w = w' := by
  have hcase : ((x.toNat : Int) < (y.toNat : Int) ∧ cmpB x y = -1) ∨ (¬ (x.toNat : Int) < (y.toNat : Int) ∧ (y.toNat : Int) < (x.toNat : Int) ∧ cmpB x y = 1) ∨ (¬ (x.toNat : Int) < (y.toNat : Int) ∧ ¬ (y.toNat : Int) < (x.toNat : Int) ∧ cmpB x y = 0) := by
    unfold cmpB
    by_cases h1 : (x.toNat : Int) < (y.toNat : Int)
    · exact .inl ⟨h1, if_pos h1⟩
    · by_cases h2 : (y.toNat : Int) < (x.toNat : Int)
      · exact .inr (.inl ⟨h1, h2, by rw [if_neg h1, if_pos h2]⟩)
      · exact .inr (.inr ⟨h1, h2, by rw [if_neg h1, if_neg h2]⟩)
  rcases hcase with ⟨h1, e⟩ | ⟨h1, h2, e⟩ | ⟨h1, h2, e⟩
  all_goals
    have E := Lib.hid e
    clear e
    go_enter Try.func77, Try.ntmps77
    go_wp2_with fail
    refine (isNaN_any x _).mono ?_; rintro e w' ⟨rfl, rfl⟩
    go_wp2_with fail
    refine (isNaN_any y _).mono ?_; rintro e w' ⟨rfl, rfl⟩
    go_wp2
    go_ret
    exact ⟨by rw [E.out]; rfl, rfl⟩
set_option maxRecDepth 100000 in
set_option maxHeartbeats 0 in
theorem compareFunc_any (I J : Nat → UInt8) (a b : Nat) (w : World) (ha : w.rowIs a 28 32 (u8V I)) (hb : w.rowIs b 28 32 (u8V J)) :
    Calls Try.prog 76 #[.slice (some ⟨a, 0, none⟩) 32 32, .slice (some ⟨b, 0, none⟩) 32 32, .func (.func 77) #[] #[]] w fun e w' => e = .returned (.int .i64 (cmpR I J 32 0)) ∧ w = w' := by
  have HA := Lib.hid ha
  have HB := Lib.hid hb
  clear ha hb
  go_enter Try.func76, Try.ntmps76
  go_wp2
  go_loopw [13] (fun i wr => ∃ k : Nat, k ≤ 32 ∧ i = .int .i64 (k : Int) ∧ w = wr ∧ Hid (cmpR I J 32 0 = cmpR I J (32 - k) k)) (fun i _ => 32 - (intOf i).toNat)
  case atStart => exact ⟨0, by omega, rfl, rfl, Lib.hid rfl⟩
  case round =>
    obtain ⟨k, hk, rfl, rfl, HC⟩ := hrel
    by_cases hlt : k < 32
    · have c1 : w.cell? ⟨a, k, none⟩ = some (.int .u8 ((I k).toNat : Int)) := HA.out.cell hlt
      have c2 : w.cell? ⟨b, k, none⟩ = some (.int .u8 ((J k).toNat : Int)) := HB.out.cell hlt
      have hki : (k : Int) < 32 := by omega
      have hki2 : ¬ (32 : Int) ≤ (k : Int) := by omega
      have ST : Hid (cmpR I J (32 - k) k = if cmpB (I k) (J k) = 0 then cmpR I J (32 - (k + 1)) (k + 1) else cmpB (I k) (J k)) := Lib.hid (by
        obtain ⟨f, hf⟩ : ∃ f, 32 - k = f + 1 := ⟨31 - k, by omega⟩
        rw [hf, cmpR, show 32 - (k + 1) = f by omega])
      generalize I k = x at c1 ST
      generalize J k = y at c2 ST
      go_wp2_with fail
      refine (compare_any x y _).mono ?_; rintro e w' ⟨rfl, rfl⟩
      by_cases h0 : cmpB x y = 0
      · have HN : Hid (cmpR I J 32 0 = cmpR I J (32 - (k + 1)) (k + 1)) := Lib.hid (by rw [HC.out, ST.out, if_pos h0])
        rw [h0]
        go_wp2
        go_roundw
        case rel => exact ⟨k + 1, by omega, by go_num, by first | rfl | trivial, HN⟩
        case measure => simp [intOf]; omega
      · have HN : Hid (cmpR I J 32 0 = cmpB x y) := Lib.hid (by rw [HC.out, ST.out, if_neg h0])
        obtain ⟨r, hr⟩ : ∃ r, cmpB x y = r := ⟨_, rfl⟩
        rw [hr] at HN h0 ⊢
        go_wp2
        go_ret
        exact ⟨by rw [HN.out]; rfl, rfl⟩
    · obtain rfl : k = 32 := by omega
      have HN : Hid (cmpR I J 32 0 = 0) := Lib.hid (by rw [HC.out]; rfl)
      rw [show ((32 : Nat) : Int) = 32 from rfl]
      go_wp2
      go_ret
      exact ⟨by rw [HN.out]; rfl, rfl⟩
theorem two_ids (w : World) (I J : Nat → UInt8) : ((w.alloc (.cells (idA I) 28)).alloc (.cells (idA J) 28)).rowIs w.heap.size 28 32 (u8V I) ∧ ((w.alloc (.cells (idA I) 28)).alloc (.cells (idA J) 28)).rowIs (w.heap.size + 1) 28 32 (u8V J) ∧ Below w.heap.size w ((w.alloc (.cells (idA I) 28)).alloc (.cells (idA J) 28)) := by
  have r2 := id_row (w.alloc (.cells (idA I) 28)) J 28
  rw [← size1] at r2
  exact ⟨(id_row w I _).alloc _, r2, ((Below.refl _ _).alloc (Nat.le_refl _) _).alloc (by simp) _⟩
set_option maxRecDepth 100000 in
theorem less_any (I J : Nat → UInt8) (w : World) :
    Calls Try.prog 39 #[.agg (idA I), .agg (idA J)] w fun e w' => e = .returned (.bool (decide (cmpR I J 32 0 < 0))) ∧ Below w.heap.size w w' := by
  have T := Lib.hid (two_ids w I J)
  have ht : Try.prog.underlying 28 = some (.array 32 5) := by kernel_rfl
  have hall : ∀ N W, (Instr.sliceAt 28 (.pointer (some ⟨N, 0, none⟩)) none none none).run Try.prog W = .ok (.slice (some ⟨N, 0, none⟩) 32 32) W := fun N W => by
    obtain ⟨i, hi⟩ := Option.isSome_iff_exists.1 (show (Try.prog.info? 5).isSome = true by kernel_rfl)
    exact run_all_array (P := Try.prog) W (t := 28) (n := 32) ht hi _
  clear ht
  go_enter Try.func39, Try.ntmps39
  go_upto_region 1 with fail
  generalize (w.alloc (.cells (idA I) 28)).alloc (.cells (idA J) 28) = w2 at T ⊢
  go_region_held3 (fun w' => True) (first | trivial)
    (first | (go_at_call 76; refine (compareFunc_any I J w.heap.size (w.heap.size + 1) w2.drew T.out.1 T.out.2.1).mono ?_; rintro e w3 ⟨rfl, rfl⟩))
  have BE := Lib.hid (T.out.2.2.drew)
  go_wp2
  go_ret
  exact ⟨rfl, BE.out⟩
end Go.Proofs.Ytbfmdingbgdflaa
namespace Go.Proofs.Ytbfmdingbgdflaa
theorem cmpB_flip (x y : UInt8) : cmpB y x = -cmpB x y := by
  unfold cmpB
  by_cases h1 : (x.toNat : Int) < (y.toNat : Int)
  · rw [if_pos h1, if_neg (by omega), if_pos h1]; rfl
  · by_cases h2 : (y.toNat : Int) < (x.toNat : Int)
    · rw [if_pos h2, if_neg h1, if_pos h2]
    · rw [if_neg h2, if_neg h1, if_neg h1, if_neg h2]; rfl
theorem cmpB_zero (x y : UInt8) : cmpB x y = 0 ↔ x = y := by
  unfold cmpB
  constructor
  · intro h
    apply UInt8.toNat_inj.1
    by_cases h1 : (x.toNat : Int) < (y.toNat : Int)
    · rw [if_pos h1] at h; cases h
    · by_cases h2 : (y.toNat : Int) < (x.toNat : Int)
      · rw [if_neg h1, if_pos h2] at h; cases h
      · omega
  · rintro rfl
    rw [if_neg (by omega), if_neg (by omega)]
theorem cmpR_flip (I J : Nat → UInt8) : ∀ f i, cmpR J I f i = -cmpR I J f i
  | 0, _ => rfl
  | f + 1, i => by
    rw [cmpR, cmpR, cmpB_flip (I i) (J i), cmpR_flip I J f (i + 1)]
    by_cases h : cmpB (I i) (J i) = 0
    · rw [if_pos (by omega), if_pos h]
    · rw [if_neg (by omega), if_neg h]
theorem cmpR_zero (I J : Nat → UInt8) : ∀ f i, cmpR I J f i = 0 ↔ ∀ k, i ≤ k → k < i + f → I k = J k
  | 0, i => ⟨fun _ k h1 h2 => by omega, fun _ => rfl⟩
  | f + 1, i => by
    rw [cmpR]
    by_cases h : cmpB (I i) (J i) = 0
    · rw [if_pos h, cmpR_zero I J f (i + 1)]
      constructor
      · intro H k h1 h2
        by_cases e : k = i
        · subst e; exact (cmpB_zero _ _).1 h
        · exact H k (by omega) (by omega)
      · intro H k h1 h2; exact H k (by omega) (by omega)
    · rw [if_neg h]
      exact ⟨fun e => absurd e h, fun H => absurd ((cmpB_zero _ _).2 (H i (Nat.le_refl _) (by omega))) h⟩
/-- The law's line on two names. -/
theorem less_law (I J : Nat → UInt8) : ((decide (cmpR I J 32 0 < 0) || decide (cmpR J I 32 0 < 0)) = !((List.range 32).map I == (List.range 32).map J)) ∧ (decide (cmpR I J 32 0 < 0) && decide (cmpR J I 32 0 < 0)) = false := by
  have f := cmpR_flip I J 32 0
  have z := cmpR_zero I J 32 0
  have e : ((List.range 32).map I = (List.range 32).map J) ↔ cmpR I J 32 0 = 0 := by
    rw [z, List.map_inj_left]
    exact ⟨fun H k _ h => H k (List.mem_range.2 (by omega)), fun H k h => H k (Nat.zero_le _) (by have := List.mem_range.1 h; omega)⟩
  generalize cmpR I J 32 0 = a at f e
  generalize cmpR J I 32 0 = b at f
  subst f
  by_cases h : a = 0
  · have h' := e.2 h
    rw [h', beq_self_eq_true, h]; exact ⟨rfl, rfl⟩
  · have h' : ((List.range 32).map I == (List.range 32).map J) = false := by
      rw [beq_eq_false_iff_ne]; exact fun H => h (e.1 H)
    rw [h']
    constructor
    · rw [Bool.not_false, Bool.or_eq_true, decide_eq_true_eq, decide_eq_true_eq]; omega
    · rw [Bool.and_eq_false_iff, decide_eq_false_iff_not, decide_eq_false_iff_not]; omega
end Go.Proofs.Ytbfmdingbgdflaa
namespace Go.Proofs.Ytbfmdingbgdflaa
open Go.RowKit
set_option linter.unusedVariables false
def ltR (I J : Nat → UInt8) : Nat → Nat → Bool
  | 0, _ => false
  | f + 1, i => if I i = J i then ltR I J f (i + 1) else decide ((I i).toNat < (J i).toNat)
theorem ltR_cmp (I J : Nat → UInt8) : ∀ f i, ltR I J f i = decide (cmpR I J f i < 0)
  | 0, i => rfl
  | f + 1, i => by
    rw [ltR, cmpR]
    by_cases e : I i = J i
    · rw [if_pos e, if_pos (by unfold cmpB; rw [e, if_neg (by omega), if_neg (by omega)]), ltR_cmp I J f (i + 1)]
    · have hne : (I i).toNat ≠ (J i).toNat := fun h => e (UInt8.toNat_inj.1 h)
      rw [if_neg e]
      unfold cmpB
      by_cases h : (I i).toNat < (J i).toNat
      · have h' : ((I i).toNat : Int) < ((J i).toNat : Int) := by omega
        simp [h']
        omega
      · have h' : ¬ ((I i).toNat : Int) < ((J i).toNat : Int) := by omega
        have h2 : ((J i).toNat : Int) < ((I i).toNat : Int) := by omega
        simp [h', h2]
        omega
set_option maxRecDepth 100000 in
theorem refLess_any (I J : Nat → UInt8) (w : World) :
    Calls Try.prog 45 #[.agg (idA I), .agg (idA J)] w fun e w' => e = .returned (.bool (ltR I J 32 0)) ∧ Below w.heap.size w w' := by
  have T := Lib.hid (two_ids w I J)
  go_enter Try.func45, Try.ntmps45
  go_upto_region 1 with fail
  generalize (w.alloc (.cells (idA I) 28)).alloc (.cells (idA J) 28) = w2 at T ⊢
  obtain ⟨p, hp⟩ : ∃ p, w.heap.size = p := ⟨_, rfl⟩
  have HP := Lib.hid hp
  rw [hp] at T
  try rw [hp]
  clear hp
  go_wp2
  go_loopw [5] (fun i wr => ∃ k : Nat, k ≤ 32 ∧ i = .int .i64 (k : Int) ∧ Hid (ltR I J 32 0 = ltR I J (32 - k) k) ∧ Hid (wr.rowIs p 28 32 (u8V I) ∧ wr.rowIs (p + 1) 28 32 (u8V J) ∧ Below p w wr)) (fun i _ => 32 - (intOf i).toNat)
  case atStart => exact ⟨0, by omega, rfl, Lib.hid rfl, T⟩
  case round =>
    obtain ⟨k, hk, rfl, HC, HR⟩ := hrel
    by_cases hlt : k < 32
    · have c1 : wr.cell? ⟨p, k, none⟩ = some (.int .u8 ((I k).toNat : Int)) := HR.out.1.cell hlt
      have c2 : wr.cell? ⟨p + 1, k, none⟩ = some (.int .u8 ((J k).toNat : Int)) := HR.out.2.1.cell hlt
      have hki : (k : Int) < 32 := by omega
      have ST : Hid (ltR I J (32 - k) k = if I k = J k then ltR I J (32 - (k + 1)) (k + 1) else decide ((I k).toNat < (J k).toNat)) := Lib.hid (by
        obtain ⟨f, hf⟩ : ∃ f, 32 - k = f + 1 := ⟨31 - k, by omega⟩
        rw [hf, ltR, show 32 - (k + 1) = f by omega])
      generalize I k = x at c1 ST
      generalize J k = y at c2 ST
      by_cases e : x = y
      · have HN : Hid (ltR I J 32 0 = ltR I J (32 - (k + 1)) (k + 1)) := Lib.hid (by rw [HC.out, ST.out, if_pos e])
        subst e
        clear ST
        go_wp2
        go_quiet (fail)
        go_wp2
        go_roundw
        case rel => exact ⟨k + 1, by omega, by go_num, HN, Lib.hid ⟨rowIs_drewN HR.out.1 _, rowIs_drewN HR.out.2.1 _, below_drewN HR.out.2.2 _⟩⟩
        case measure => simp [intOf]; omega
      · have HN : Hid (ltR I J 32 0 = decide (x.toNat < y.toNat)) := Lib.hid (by rw [HC.out, ST.out, if_neg e])
        have hne : ¬ (x.toNat : Int) = (y.toNat : Int) := fun h => e (UInt8.toNat_inj.1 (by omega))
        clear ST e
        go_wp2
        go_quiet (fail)
        go_wp2
        go_quiet (fail)
        go_wp2
        go_ret
        exact ⟨by rw [HN.out]; first | rfl | simp, by rw [HP.out]; exact below_drewN (below_drewN HR.out.2.2 _) _⟩
    · obtain rfl : k = 32 := by omega
      have HN : Hid (ltR I J 32 0 = false) := Lib.hid (by rw [HC.out]; rfl)
      rw [show ((32 : Nat) : Int) = 32 from rfl]
      go_wp2
      go_ret
      exact ⟨by rw [HN.out]; rfl, by rw [HP.out]; exact HR.out.2.2⟩
theorem dig_get (k : Nat) (hk : k < 16) (h : k < ByteArray.size { data := #[48, 49, 50, 51, 52, 53, 54, 55, 56, 57, 97, 98, 99, 100, 101, 102] }) : (({ data := #[48, 49, 50, 51, 52, 53, 54, 55, 56, 57, 97, 98, 99, 100, 101, 102] } : ByteArray)[k]'h) = digF k := by
  rw [byteAt_get]; rfl
set_option maxRecDepth 100000 in
set_option maxHeartbeats 0 in
theorem rhex_any (s : ByteArray) (w : World) (hs : s.size ≤ 1073741824) (h1s : 1 ≤ s.size) :
    Calls Try.prog 81 #[.string s] w fun e w' => e = .returned (.string (bs (hexL s.data.toList))) ∧ Below w.heap.size w w' := by
  have SL : s.data.toList.length = s.size := size_toList s
  have HSL := Lib.hid SL
  clear SL
  go_enter Try.func81, Try.ntmps81
  go_wp2
  go_loopw [3, 4] (fun v i wr => ∃ k : Nat, k ≤ s.size ∧ i = .int .i64 (k : Int) ∧ Hid (wr.ownsRow w.heap.size 5 1 v (2 * k) (u8s (hexL (s.data.toList.take k))) ∧ Below w.heap.size w wr)) (fun _ i _ => s.size - (intOf i).toNat)
  case atStart => exact ⟨0, by omega, rfl, Lib.hid ⟨World.ownsRow_nil _ _ _ _, Below.refl _ _⟩⟩
  case round =>
    obtain ⟨k, hk, rfl, HR⟩ := hrel
    by_cases hlt : k < s.size
    · obtain ⟨c, hc⟩ : ∃ c, byteAt s k = c := ⟨_, rfl⟩
      have hn := c.toNat_lt
      obtain ⟨hi, hhi⟩ : ∃ hi, c.toNat / 16 = hi := ⟨_, rfl⟩
      obtain ⟨lo, hlo⟩ : ∃ lo, c.toNat % 16 = lo := ⟨_, rfl⟩
      have q1 : (c.toNat : Int) / 16 = (hi : Int) := by omega
      have q2 : (c.toNat : Int) % 16 = (lo : Int) := by omega
      have q3 : Int.tmod (c.toNat : Int) 16 = (lo : Int) := by rw [Int.tmod_eq_emod_of_nonneg (by omega)]; exact q2
      have hi16 : hi < 16 := by omega
      have lo16 : lo < 16 := by omega
      have hi16i : (hi : Int) < 16 := by omega
      have lo16i : (lo : Int) < 16 := by omega
      have w1h : IntKind.u8.wrap (hi : Int) = (hi : Int) := by rw [IntKind.wrap_u8]; omega
      have w2h : IntKind.i64.wrap (hi : Int) = (hi : Int) := IntWalk.i64_in _ (by omega)
      have w1l : IntKind.u8.wrap (lo : Int) = (lo : Int) := by rw [IntKind.wrap_u8]; omega
      have w2l : IntKind.i64.wrap (lo : Int) = (lo : Int) := IntWalk.i64_in _ (by omega)
      have g0 : s[k] = c := (byteAt_get s k hlt).trans hc
      have g1 := dig_get hi hi16
      have g2 := dig_get lo lo16
      have HX : Hid (u8s (hexL (s.data.toList.take (k + 1))) = u8s (hexL (s.data.toList.take k)) ++ [.int .u8 ((digF hi).toNat : Int), .int .u8 ((digF lo).toNat : Int)]) := Lib.hid (by
        have hk' : k < s.data.toList.length := by rw [HSL.out]; exact hlt
        have e : s.data.toList.take (k + 1) = s.data.toList.take k ++ [c] := by
          rw [List.take_add_one, List.getElem?_eq_getElem hk', ← hc]
          unfold byteAt
          rw [List.getD_eq_getElem?_getD, List.getElem?_eq_getElem hk']; rfl
        rw [e, hexL_snoc, hhi, hlo]
        simp [u8s])
      have hb1 : 2 * k ≤ 4611686018427387904 := by omega
      have hb2 : (2 * k + 2) * 1 ≤ 140737488355328 := by omega
      have hle := HR.out.2.size
      clear hhi hlo hc
      go_wp2
      go_region_held3 (fun w' => True) (first | trivial)
        ((refine step_append2 elemByte (by rfl) _ _ (by rfl) w.heap.size u3 (2 * k) (u8s (hexL (s.data.toList.take k))) (by rfl) HR.out.1 _ _ (by rfl) (by rfl) (by rfl) hb1 hb2 hle ?_; intro v' w' ho' hg' hd'))
      all_goals
        have HR' : Hid (w'.ownsRow w.heap.size 5 1 v' (2 * (k + 1)) (u8s (hexL (s.data.toList.take (k + 1)))) ∧ Below w.heap.size w w') := Lib.hid (by
          obtain ⟨r1, r4⟩ := HR.out
          exact ⟨by rw [HX.out, Nat.mul_add]; exact ho', below_grown r4 hg' (fun x hx => own_ge r1 _ hx)⟩)
        clear ho' hg' hd'
        go_wp2
        go_roundw
        case rel => exact ⟨k + 1, by omega, by go_num, HR'⟩
        case measure => simp [intOf]; omega
    · obtain rfl : k = s.size := by omega
      have TK : Hid (s.data.toList.take s.size = s.data.toList) := Lib.hid (List.take_of_length_le (by rw [HSL.out]; exact Nat.le_refl _))
      obtain ⟨A, c, rfl, hrd⟩ := own_reads HR.out.1
      obtain ⟨ad, rfl, _, hcell⟩ := reads_u8 hrd (by omega)
      have HC := Lib.hid hcell
      have BL := Lib.hid HR.out.2
      have HLN : Hid ((hexL (s.data.toList.take s.size)).length = 2 * s.size) := Lib.hid (by rw [hexL_len, TK.out, HSL.out])
      have hbz : (bs (hexL (s.data.toList.take s.size))).size ≤ 2147483648 := by rw [bs_size, HLN.out]; omega
      obtain ⟨n, hn⟩ : ∃ n, 2 * s.size = n := ⟨_, rfl⟩
      rw [hn] at HC HLN ⊢
      clear hrd hcell HR hn
      go_wp2_with (with_reducible refine conv_str_wp (e := 5) (by kernel_rfl) (by kernel_rfl) (by kernel_rfl) rfl _ rfl ad n c rfl (hexL (s.data.toList.take s.size)) HLN.out HC.out ?_)
      go_ret
      exact ⟨by rw [TK.out]; rfl, BL.out⟩
set_option maxRecDepth 100000 in
theorem rtext_any (I : Nat → UInt8) (w : World) :
    Calls Try.prog 44 #[.agg (idA I)] w fun e w' => e = .returned (.string (bs (textL I))) ∧ Below w.heap.size w w' := by
  have R1 := Lib.hid (id_row w I 28)
  have ht : Try.prog.underlying 28 = some (.array 32 5) := by kernel_rfl
  have hall : ∀ W, (Instr.sliceAt 28 (.pointer (some ⟨w.heap.size, 0, none⟩)) none none none).run Try.prog W = .ok (.slice (some ⟨w.heap.size, 0, none⟩) 32 32) W := fun W => by
    obtain ⟨i, hi⟩ := Option.isSome_iff_exists.1 (show (Try.prog.info? 5).isSome = true by kernel_rfl)
    exact run_all_array (P := Try.prog) W (t := 28) (n := 32) ht hi _
  have RC : Hid (∀ j, j < 32 → (w.alloc (.cells (idA I) 28)).cell? (({ block := w.heap.size, off := 0 } : Addr).add j) = some (.int .u8 ((((List.range 32).map I).getD j 0).toNat : Int))) := Lib.hid (fun j hj => by
    rw [add0, R1.out.cell hj]; simp [u8V, List.getD, hj])
  have L32 : Hid (((List.range 32).map I).length = 32) := Lib.hid (by simp)
  have BZ := Lib.hid (show (bs ((List.range 32).map I)).size = 32 by rw [bs_size]; simp)
  have TL : Hid (bs (hexL (bs ((List.range 32).map I)).data.toList) = bs (textL I)) := Lib.hid (by rw [bs_data]; rfl)
  have BA : Hid (Below w.heap.size w (w.alloc (.cells (idA I) 28))) := Lib.hid ((Below.refl _ _).alloc (Nat.le_refl _) _)
  clear ht
  go_enter Try.func44, Try.ntmps44
  go_wp2_with (with_reducible refine conv_str_wp (e := 5) (by kernel_rfl) (by kernel_rfl) (by kernel_rfl) rfl _ rfl ⟨w.heap.size, 0, none⟩ 32 32 rfl ((List.range 32).map I) L32.out RC.out ?_)
  refine (rhex_any (bs ((List.range 32).map I)) _ (by rw [BZ.out]; decide) (by rw [BZ.out]; decide)).mono ?_; rintro e w' ⟨rfl, hb⟩
  rw [TL.out]
  have B2 := Lib.hid (BA.out.trans (hb.mono BA.out.size))
  clear hb
  go_wp2
  go_ret
  exact ⟨rfl, B2.out⟩
end Go.Proofs.Ytbfmdingbgdflaa
namespace Go.Proofs.Ytbfmdingbgdflaa
open Go.RowKit Blo Wir
set_option linter.unusedVariables false
set_option linter.unusedSimpArgs false
theorem bs_app (a b : List UInt8) : bs (a ++ b) = bs a ++ bs b := (ByteArray.mk_append_mk a b).symm
theorem one_byte (w : World) (v : Value) : (w.alloc (.cells #[v] 5)).cell? ⟨w.heap.size, 0, none⟩ = some v :=
  (World.rowIs_alloc w #[v] 5 (fun _ => v) (fun i hi => by
    have : i = 0 := by simpa using hi
    subst this; rfl)).cell (i := 0) (by simp)
set_option maxRecDepth 100000 in
set_option maxHeartbeats 0 in
theorem rput_any (s : ByteArray) (n : Nat) (w : World) (hn : n < 18446744073709551616) (hs : s.size ≤ 4611686018427387904) :
    Calls Try.prog 73 #[.string s, .int .u64 (n : Int)] w fun e w' => e = .returned (.string (s ++ bs (putL n))) ∧ Below w.heap.size w w' := by
  go_enter Try.func73, Try.ntmps73
  go_wp2
  go_loopw [0, 1] (fun t x wr => ∃ (p : List UInt8) (m : Nat), p.length ≤ 9 ∧ m < 18446744073709551616 ∧ t = .string (s ++ bs p) ∧ x = .int .u64 (m : Int) ∧ Hid (m * 2 ^ (7 * p.length) < 2 ^ 64 ∧ putL n = p ++ putN (9 - p.length) m ∧ Below w.heap.size w wr)) (fun _ x _ => (intOf x).toNat)
  case atStart => exact ⟨[], n, by simp, hn, by
    rw [show s ++ bs [] = s from ByteArray.ext (by simp [bs])], rfl, Lib.hid ⟨by simpa using hn, rfl, Below.refl _ _⟩⟩
  case round =>
    obtain ⟨p, m, hp, hm64, rfl, rfl, HR⟩ := hrel
    have hps : (s ++ bs p).size ≤ 4611686018427387904 + 9 := by rw [ByteArray.size_append, bs_size]; omega
    by_cases hge : m < 128
    · have hgei : ¬ (128 : Int) ≤ (m : Int) := by omega
      have PL : Hid (s ++ bs (putL n) = s ++ bs p ++ bs [UInt8.ofNat m]) := Lib.hid (by rw [HR.out.2.1, putN_small _ _ hge, bs_app, ByteArray.append_assoc])
      have BE := Lib.hid HR.out.2.2
      have hm8 : (m : Int) % 256 = (m : Int) := by omega
      have W8 : IntKind.u8.wrap (m : Int) = (m : Int) := by rw [IntKind.wrap_u8]; omega
      have EM : ((UInt8.ofNat m).toNat : Int) = (m : Int) := by rw [UInt8.toNat_ofNat']; omega
      generalize s ++ bs p = T at *
      have z1 : (bs [UInt8.ofNat m]).size = 1 := rfl
      have RC : Hid (∀ j, j < 1 → (wr.alloc (.cells #[.int .u8 (m : Int)] 5)).cell? (({ block := wr.heap.size, off := 0 } : Addr).add j) = some (.int .u8 (([UInt8.ofNat m].getD j 0).toNat : Int))) := Lib.hid (fun j hj => by
        obtain rfl : j = 0 := by omega
        rw [add0, one_byte wr _]
        show _ = some (Value.int .u8 ((UInt8.ofNat m).toNat : Int))
        rw [EM])
      clear EM
      go_wp2_with (with_reducible refine conv_str_wp (e := 5) (by kernel_rfl) (by kernel_rfl) (by kernel_rfl) rfl _ rfl ⟨wr.heap.size, 0, none⟩ 1 1 rfl [UInt8.ofNat m] rfl RC.out ?_)
      go_ret
      exact ⟨by rw [PL.out]; rfl, BE.out.alloc BE.out.size _⟩
    · have hgei : (128 : Int) ≤ (m : Int) := by omega
      have hpl : p.length < 9 := by
        apply Classical.byContradiction
        intro h9
        have e9 : p.length = 9 := by omega
        have := HR.out.1
        rw [e9] at this
        have e1 : 2 ^ (7 * 9) = 9223372036854775808 := by decide
        have e2 : 2 ^ 64 = 18446744073709551616 := by decide
        omega
      obtain ⟨r, hr⟩ : ∃ r, m % 128 = r := ⟨_, rfl⟩
      obtain ⟨q, hq⟩ : ∃ q, m / 128 = q := ⟨_, rfl⟩
      obtain ⟨b, hb⟩ : ∃ b, r + 128 = b := ⟨_, rfl⟩
      have E1 : (m : Int) % 128 = (r : Int) := by omega
      have E2 : (m : Int) / 128 = (q : Int) := by omega
      have E3 : (r : Int) + 128 = (b : Int) := by omega
      have W1 : (r : Int) % 256 = (r : Int) := by omega
      have W2 : (b : Int) % 256 = (b : Int) := by omega
      have V1 : IntKind.u8.wrap (r : Int) = (r : Int) := by rw [IntKind.wrap_u8]; omega
      have V2 : IntKind.u8.wrap (b : Int) = (b : Int) := by rw [IntKind.wrap_u8]; omega
      have EM : ((UInt8.ofNat b).toNat : Int) = (b : Int) := by rw [UInt8.toNat_ofNat']; omega
      have hq64 : q < 18446744073709551616 := by omega
      have hqm : q < m := by omega
      have HN : Hid (q * 2 ^ (7 * (p ++ [UInt8.ofNat b]).length) < 2 ^ 64 ∧ putL n = (p ++ [UInt8.ofNat b]) ++ putN (9 - (p ++ [UInt8.ofNat b]).length) q ∧ s ++ bs (p ++ [UInt8.ofNat b]) = s ++ bs p ++ bs [UInt8.ofNat b] ∧ (p ++ [UInt8.ofNat b]).length ≤ 9) := Lib.hid (by
        have hl : (p ++ [UInt8.ofNat b]).length = p.length + 1 := by simp
        rw [hl]
        refine ⟨?_, ?_, by rw [bs_app, ByteArray.append_assoc], hpl⟩
        · refine Nat.lt_of_le_of_lt ?_ HR.out.1
          rw [Nat.mul_add, Nat.pow_add, Nat.mul_comm (2 ^ (7 * p.length)), ← Nat.mul_assoc]
          exact Nat.mul_le_mul_right _ (by show q * 128 ≤ m; omega)
        · rw [HR.out.2.1, show 9 - p.length = (9 - (p.length + 1)) + 1 from by omega, putN_big _ _ hge, List.append_assoc, hr, hq, hb]; rfl)
      have BE := Lib.hid HR.out.2.2
      clear hr hq hb
      obtain ⟨T, hT⟩ : ∃ T, s ++ bs p = T := ⟨_, rfl⟩
      rw [hT] at HN hps ⊢
      clear hT
      have z1 : (bs [UInt8.ofNat b]).size = 1 := rfl
      have RC : Hid (∀ j, j < 1 → (wr.alloc (.cells #[.int .u8 (b : Int)] 5)).cell? (({ block := wr.heap.size, off := 0 } : Addr).add j) = some (.int .u8 (([UInt8.ofNat b].getD j 0).toNat : Int))) := Lib.hid (fun j hj => by
        obtain rfl : j = 0 := by omega
        rw [add0, one_byte wr _]
        show _ = some (Value.int .u8 ((UInt8.ofNat b).toNat : Int))
        rw [EM])
      clear EM
      go_wp2_with (with_reducible refine conv_str_wp (e := 5) (by kernel_rfl) (by kernel_rfl) (by kernel_rfl) rfl _ rfl ⟨wr.heap.size, 0, none⟩ 1 1 rfl [UInt8.ofNat b] rfl RC.out ?_)
      · go_roundw
        case rel => exact ⟨p ++ [UInt8.ofNat b], q, HN.out.2.2.2, hq64, by rw [HN.out.2.2.1], by first | rfl | go_num, Lib.hid ⟨HN.out.1, HN.out.2.1, BE.out.alloc BE.out.size _⟩⟩
        case measure => simp [intOf] <;> omega
set_option maxRecDepth 100000 in
set_option maxHeartbeats 0 in
theorem rencode_any (w : World) (P g N n H : Nat) (B : Nat → Bool) (F : Nat → UInt8) (h : Rf w P g N H B) (hB : Bt B F n) (hN : 8 * n = N) (hn2 : N ≤ 16777216) (hH : H ≤ 8) :
    Calls Try.prog 33 #[.pointer (some ⟨P, 0, none⟩)] w fun e w' => e = .returned (.string (encB n H F)) ∧ Below w.heap.size w w' := by
  have c0 : w.cell? ⟨P, 0, none⟩ = some (.int .i64 (N : Int)) := h.blk.cell 0
  have X := Lib.hid h
  have hq8 : (N : Int) / 8 = (n : Int) := by omega
  have HE : Hid (listF (encF B N) n = listF F n ∧ 8 * n = N) := Lib.hid ⟨List.map_congr_left fun j hj => by rw [← hN]; exact hB.enc j (by simpa using hj), hN⟩
  have mk := fun W => bytes_made W n (by omega)
  clear h hB
  go_enter Try.func33, Try.ntmps33
  go_wp2
  have S0 : Hid (Rf (w.alloc (.cells (madeCells #[.int .u8 0] n) 5)) P g N H B ∧ (w.alloc (.cells (madeCells #[.int .u8 0] n) 5)).rowIs w.heap.size 5 n (u8V (encF B 0)) ∧ Below w.heap.size w (w.alloc (.cells (madeCells #[.int .u8 0] n) 5))) := Lib.hid ⟨X.out.below ((Below.refl _ _).alloc (Nat.le_refl _) _), (World.rowIs_made w (.int .u8 0) n 5).congr fun i _ => rfl, (Below.refl _ _).alloc (Nat.le_refl _) _⟩
  have HL := Lib.hid (And.intro X.out.blk.lt X.out.row.lt)
  generalize w.alloc (.cells (madeCells #[.int .u8 0] n) 5) = w1 at S0 ⊢
  obtain ⟨D, hD⟩ : ∃ D, w.heap.size = D := ⟨_, rfl⟩
  have HD := Lib.hid hD
  rw [hD] at S0 HL
  try rw [hD]
  clear hD mk c0 hq8
  go_loopw [4] (fun i wr => ∃ k : Nat, k ≤ N ∧ i = .int .i64 (k : Int) ∧ Hid (Rf wr P g N H B ∧ wr.rowIs D 5 n (u8V (encF B k)) ∧ Below D w wr)) (fun i _ => N - (intOf i).toNat)
  case atStart => exact ⟨0, by omega, rfl, S0⟩
  case round =>
    obtain ⟨k, hk, rfl, HR⟩ := hrel
    have d0 : wr.cell? ⟨P, 0, none⟩ = some (.int .i64 (N : Int)) := HR.out.1.blk.cell 0
    by_cases hlt : k < N
    · have hlti : (k : Int) < (N : Int) := by omega
      have d2 : wr.cell? ⟨P, 2, none⟩ = some (.slice (some ⟨g, 0, none⟩) N N) := HR.out.1.blk.cell 2
      have d3 : wr.cell? ⟨g, k, none⟩ = some (.bool (B k)) := HR.out.1.row.cell hlt
      cases hb : B k with
      | true =>
        rw [hb] at d3
        have HB : Hid (B k = true) := Lib.hid hb
        clear hb
        have hk8 : k / 8 < n := by omega
        have c2 : wr.cell? ⟨D, k / 8, none⟩ = some (.int .u8 ((encF B k (k / 8)).toNat : Int)) := HR.out.2.1.cell hk8
        have c3 : (encF B k (k / 8)).toNat < 256 := (encF B k (k / 8)).toNat_lt
        have c4 : wr.frozen? ⟨D, k / 8, none⟩ = false := HR.out.2.1.frozen _
        have hm8 : k % 8 < 8 := Nat.mod_lt _ (by omega)
        have SB := Lib.hid (shl_bits (encF B k (k / 8)) (k % 8) hm8)
        obtain ⟨fb, hfb⟩ : ∃ fb, encF B k (k / 8) = fb := ⟨_, rfl⟩
        rw [hfb] at c2 c3 SB
        have HFB := Lib.hid hfb
        clear hfb
        have q0 : 0 ≤ (k : Int) / 8 := by omega
        have q1 : (k : Int) / 8 < (n : Int) := by omega
        have q2 : ((k : Int) / 8).toNat = k / 8 := by omega
        have hw1 : IntKind.i64.wrap ((k : Int) / 8) = (k : Int) / 8 := IntWalk.i64_in _ (by omega)
        have hw2 : (k : Int).tmod 8 = (k : Int) % 8 := Int.tmod_eq_emod_of_nonneg (by omega)
        have hw3 : IntKind.i64.wrap ((k : Int) % 8) = (k : Int) % 8 := IntWalk.i64_in _ (by omega)
        have r0 : 0 ≤ (k : Int) % 8 := by omega
        have r2 : ((k : Int) % 8).toNat = k % 8 := by omega
        go_wp2
        refine wp_region_still_tail 13 (by kernel_rfl) (by kernel_rfl) ?_
        simp only [List.take_succ_cons, List.take_zero, List.drop_succ_cons, List.drop_zero]
        repeat still_step
        try refine wpStill_nil ?_
        go_wp2
        go_roundw
        case rel =>
          have hl := HL.out
          refine ⟨k + 1, by omega, by go_num, Lib.hid ⟨⟨(HR.out.1.blk.far (by show P ≠ D; omega) _).drew, (HR.out.1.row.of_block (Below.heap_setCell _ _ _ _ (by show g ≠ D; omega)) : World.rowIs _ _ _ _ _)⟩, ((HR.out.2.1.set (k / 8) _).drew).congr fun j hj => ?_, (HR.out.2.2.setCell (by show _ ≤ D; omega) _).drew⟩⟩
          rw [encF, if_pos HB.out]
          simp only [u8V, setF]
          by_cases e : j = k / 8
          · rw [if_pos e, if_pos e, SB.out, e, HFB.out]
          · rw [if_neg e, if_neg e]
        case measure => simp [intOf]; omega
      | false =>
        rw [hb] at d3
        have HB : Hid (¬ B k = true) := Lib.hid (by rw [hb]; decide)
        clear hb
        go_wp2
        go_roundw
        case rel => exact ⟨k + 1, by omega, by go_num, Lib.hid ⟨HR.out.1, HR.out.2.1.congr fun i _ => by rw [encF, if_neg HB.out], HR.out.2.2⟩⟩
        case measure => simp [intOf]; omega
    · obtain rfl : k = N := by omega
      have K3 : Hid (∀ w', Below wr.heap.size wr w' → w'.cell? ⟨P, 0, none⟩ = some (.int .i64 (k : Int)) ∧ w'.cell? ⟨P, 1, none⟩ = some (.int .i64 (H : Int)) ∧ (convert 48 9 (.slice (some ⟨D, 0, none⟩) n n)).run Try.prog w' = .ok (.string (bs (listF F n))) w') := Lib.hid (fun w' hb => by
        have f := HR.out.1.below hb
        have r := HR.out.2.1.of_block (hb.block _ HR.out.2.1.lt)
        refine ⟨f.blk.cell 0, f.blk.cell 1, ?_⟩
        rw [← HE.out.1]
        exact buf_str (bufIs.of_row r))
      have hw5 : IntKind.u64.wrap (k : Int) = (k : Int) := by rw [IntKind.wrap_u64]; omega
      have hw4 : IntKind.u64.wrap (H : Int) = (H : Int) := by rw [IntKind.wrap_u64]; omega
      obtain ⟨A, hA⟩ : ∃ A, bs [77, 66, 70, 49] ++ bs (putL k) = A := ⟨_, rfl⟩
      have hAs : A.size ≤ 14 := by
        have := (putN_length 9 k).2
        rw [← hA, ByteArray.size_append, bs_size, bs_size]; show 4 + _ ≤ 14; unfold putL; omega
      have hPs : (bs (putL H)).size ≤ 10 := by
        have := (putN_length 9 H).2
        rw [bs_size]; unfold putL; omega
      have hLs : (bs (listF F n)).size ≤ 2097152 := by rw [bs_size, listF_length]; have := HE.out.2; omega
      have hcat : ¬ 9223372036854775807 < A.size + (bs (putL H)).size + (bs (listF F n)).size := by omega
      have PUT1 : ∀ W, Calls Try.prog 73 #[.string { data := #[77, 66, 70, 49] }, .int .u64 (k : Int)] W fun e w' => e = .returned (.string A) ∧ Below W.heap.size W w' := fun W => by
        rw [← hA]; exact rput_any (bs [77, 66, 70, 49]) k W (by omega) (by decide)
      have EB : Hid (encB n H F = A ++ bs (putL H) ++ bs (listF F n)) := Lib.hid (by unfold encB; rw [HE.out.2, hA])
      have BR := Lib.hid HR.out.2.2
      clear hA HR
      go_wp2
      clear d0
      have HB0 : Hid (Below wr.heap.size wr wr.drew) := Lib.hid (Below.refl _ _).drew
      have SA := K3.out _ HB0.out
      refine wp_region_held_drew (S := fun w' => w'.cell? ⟨P, 0, none⟩ = some (.int .i64 (k : Int)) ∧ w'.cell? ⟨P, 1, none⟩ = some (.int .i64 (H : Int)) ∧ (convert 48 9 (.slice (some ⟨D, 0, none⟩) n n)).run Try.prog w' = .ok (.string (bs (listF F n))) w') (by kernel_rfl) (by exact SA) (fun hHeld => ?_)
      refine wpAnyH_take (i := 0) (oi := _) (v := _) rfl (by as_aux_lemma => kernel_rfl) (by as_aux_lemma => kernel_rfl) (by as_aux_lemma => kernel_rfl) (fun _ _ _ h => h) (Or.inl ⟨by kernel_rfl, by (intro w hSw; (try dsimp only at hSw); go_simp; first | done | with_reducible rfl)⟩) (by assumption) ?_
      (try simp only [List.getElem_toArray, List.getElem_cons_succ, List.getElem_cons_zero, Act.put, List.setIfInBounds_toArray, List.set_cons_zero, List.set_cons_succ])
      refine wpAnyH_take (i := 1) (oi := _) (v := _) rfl (by as_aux_lemma => kernel_rfl) (by as_aux_lemma => kernel_rfl) (by as_aux_lemma => kernel_rfl) (fun _ _ _ h => h) (Or.inl ⟨by kernel_rfl, by (intro w hSw; (try dsimp only at hSw); go_simp; first | done | with_reducible rfl)⟩) (by assumption) ?_
      (try simp only [List.getElem_toArray, List.getElem_cons_succ, List.getElem_cons_zero, Act.put, List.setIfInBounds_toArray, List.set_cons_zero, List.set_cons_succ])
      refine wpAnyH_take (i := 2) (oi := _) (v := _) rfl (by as_aux_lemma => kernel_rfl) (by as_aux_lemma => kernel_rfl) (by as_aux_lemma => kernel_rfl) (fun _ _ _ h => h) (Or.inl ⟨by kernel_rfl, by (intro w hSw; (try dsimp only at hSw); go_simp; first | done | with_reducible rfl)⟩) (by assumption) ?_
      (try simp only [List.getElem_toArray, List.getElem_cons_succ, List.getElem_cons_zero, Act.put, List.setIfInBounds_toArray, List.set_cons_zero, List.set_cons_succ])
      refine wpAnyH_take (i := 3) (oi := _) (v := _) rfl (by as_aux_lemma => kernel_rfl) (by as_aux_lemma => kernel_rfl) (by as_aux_lemma => kernel_rfl) (fun _ _ _ h => h) (Or.inl ⟨by kernel_rfl, by (intro w hSw; (try dsimp only at hSw); go_simp; first | done | with_reducible rfl)⟩) (by assumption) ?_
      (try simp only [List.getElem_toArray, List.getElem_cons_succ, List.getElem_cons_zero, Act.put, List.setIfInBounds_toArray, List.set_cons_zero, List.set_cons_succ])
      refine wpAnyH_take (i := 4) (oi := _) (v := _) rfl (by as_aux_lemma => kernel_rfl) (by as_aux_lemma => kernel_rfl) (by as_aux_lemma => kernel_rfl) (fun _ _ _ h => h) (Or.inl ⟨by kernel_rfl, by (intro w hSw; (try dsimp only at hSw); go_simp; first | done | with_reducible rfl)⟩) (by assumption) ?_
      (try simp only [List.getElem_toArray, List.getElem_cons_succ, List.getElem_cons_zero, Act.put, List.setIfInBounds_toArray, List.set_cons_zero, List.set_cons_succ])
      refine wpAnyH_take (i := 6) (oi := _) (v := _) rfl (by as_aux_lemma => kernel_rfl) (by as_aux_lemma => kernel_rfl) (by as_aux_lemma => kernel_rfl) (fun _ _ _ h => h) (Or.inl ⟨by kernel_rfl, by (intro w hSw; (try dsimp only at hSw); go_simp; first | done | with_reducible rfl)⟩) (by assumption) ?_
      (try simp only [List.getElem_toArray, List.getElem_cons_succ, List.getElem_cons_zero, Act.put, List.setIfInBounds_toArray, List.set_cons_zero, List.set_cons_succ])
      refine wpAnyH_take (i := 7) (oi := _) (v := _) rfl (by as_aux_lemma => kernel_rfl) (by as_aux_lemma => kernel_rfl) (by as_aux_lemma => kernel_rfl) (fun _ _ _ h => h) (Or.inl ⟨by kernel_rfl, by (intro w hSw; (try dsimp only at hSw); go_simp; first | done | with_reducible rfl)⟩) (by assumption) ?_
      (try simp only [List.getElem_toArray, List.getElem_cons_succ, List.getElem_cons_zero, Act.put, List.setIfInBounds_toArray, List.set_cons_zero, List.set_cons_succ])
      refine wpAnyH_take (i := 8) (oi := _) (v := _) rfl (by as_aux_lemma => kernel_rfl) (by as_aux_lemma => kernel_rfl) (by as_aux_lemma => kernel_rfl) (fun _ _ _ h => h) (Or.inl ⟨by kernel_rfl, by (intro w hSw; (try dsimp only at hSw); go_simp; first | done | with_reducible rfl)⟩) (by assumption) ?_
      (try simp only [List.getElem_toArray, List.getElem_cons_succ, List.getElem_cons_zero, Act.put, List.setIfInBounds_toArray, List.set_cons_zero, List.set_cons_succ])
      refine wpAnyH_take (i := 9) (oi := _) (v := _) rfl (by as_aux_lemma => kernel_rfl) (by as_aux_lemma => kernel_rfl) (by as_aux_lemma => kernel_rfl) (fun _ _ _ h => h) (Or.inl ⟨by kernel_rfl, by (intro w hSw; (try dsimp only at hSw); go_simp; first | done | with_reducible rfl)⟩) (by assumption) ?_
      (try simp only [List.getElem_toArray, List.getElem_cons_succ, List.getElem_cons_zero, Act.put, List.setIfInBounds_toArray, List.set_cons_zero, List.set_cons_succ])
      refine wpAnyH_take (i := 10) (oi := _) (v := _) rfl (by as_aux_lemma => kernel_rfl) (by as_aux_lemma => kernel_rfl) (by as_aux_lemma => kernel_rfl) (fun _ _ _ h => h) (Or.inl ⟨by kernel_rfl, by (intro w hSw; (try dsimp only at hSw); go_simp; first | done | with_reducible rfl)⟩) (by assumption) ?_
      (try simp only [List.getElem_toArray, List.getElem_cons_succ, List.getElem_cons_zero, Act.put, List.setIfInBounds_toArray, List.set_cons_zero, List.set_cons_succ])
      refine wpAnyH_take (i := 12) (oi := _) (v := _) rfl (by as_aux_lemma => kernel_rfl) (by as_aux_lemma => kernel_rfl) (by as_aux_lemma => kernel_rfl) (fun _ _ _ h => h) (Or.inl ⟨by kernel_rfl, by (intro w hSw; (try dsimp only at hSw); go_simp; first | done | with_reducible rfl)⟩) (by assumption) ?_
      (try simp only [List.getElem_toArray, List.getElem_cons_succ, List.getElem_cons_zero, Act.put, List.setIfInBounds_toArray, List.set_cons_zero, List.set_cons_succ])
      refine wpAnyH_take (i := 13) (oi := _) (v := _) rfl (by as_aux_lemma => kernel_rfl) (by as_aux_lemma => kernel_rfl) (by as_aux_lemma => kernel_rfl) (fun _ _ _ h => h) (Or.inl ⟨by kernel_rfl, by (intro w hSw; (try dsimp only at hSw); go_simp; first | done | with_reducible rfl)⟩) (by assumption) ?_
      (try simp only [List.getElem_toArray, List.getElem_cons_succ, List.getElem_cons_zero, Act.put, List.setIfInBounds_toArray, List.set_cons_zero, List.set_cons_succ])
      refine wpAnyH_ready (rs := [5]) (by as_aux_lemma => kernel_rfl) (by simp) (AllReadyH.cons rfl (fun K hK => ?_) AllReadyH.nil)
      try simp only [List.getElem_toArray, List.getElem_cons_succ, List.getElem_cons_zero]
      go_simp
      go_at_call 73
      refine (PUT1 _).mono ?_
      rintro e wn ⟨rfl, hbn⟩
      have HB1 := Lib.hid (HB0.out.trans (hbn.mono HB0.out.size))
      have SA := K3.out _ HB1.out
      clear hbn
      go_simp
      refine hK.out _ _ (by exact SA) (fun hHeld => ?_)
      clear hK K
      (try simp only [List.getElem_toArray, List.getElem_cons_succ, List.getElem_cons_zero, Act.put, List.setIfInBounds_toArray, List.set_cons_zero, List.set_cons_succ])
      refine wpAnyH_ready (rs := [11]) (by as_aux_lemma => kernel_rfl) (by simp) (AllReadyH.cons rfl (fun K hK => ?_) AllReadyH.nil)
      try simp only [List.getElem_toArray, List.getElem_cons_succ, List.getElem_cons_zero]
      go_simp
      go_at_call 73
      refine (rput_any A H _ (by omega) (by omega)).mono ?_
      rintro e wn ⟨rfl, hbn⟩
      have HB2 := Lib.hid (HB1.out.trans (hbn.mono HB1.out.size))
      have SA := K3.out _ HB2.out
      clear hbn
      go_simp
      refine hK.out _ _ (by exact SA) (fun hHeld => ?_)
      clear hK K
      (try simp only [List.getElem_toArray, List.getElem_cons_succ, List.getElem_cons_zero, Act.put, List.setIfInBounds_toArray, List.set_cons_zero, List.set_cons_succ])
      refine wpAnyH_take (i := 14) (oi := _) (v := _) rfl (by as_aux_lemma => kernel_rfl) (by as_aux_lemma => kernel_rfl) (by as_aux_lemma => kernel_rfl) (fun _ _ _ h => h) (Or.inl ⟨by kernel_rfl, by (intro w hSw; (try dsimp only at hSw); go_simp; first | done | with_reducible rfl)⟩) (by assumption) ?_
      (try simp only [List.getElem_toArray, List.getElem_cons_succ, List.getElem_cons_zero, Act.put, List.setIfInBounds_toArray, List.set_cons_zero, List.set_cons_succ])
      refine wpAnyH_take (i := 15) (oi := _) (v := _) rfl (by as_aux_lemma => kernel_rfl) (by as_aux_lemma => kernel_rfl) (by as_aux_lemma => kernel_rfl) (fun _ _ _ h => h) (Or.inl ⟨by kernel_rfl, by (intro w hSw; (try dsimp only at hSw); go_simp; first | done | with_reducible rfl)⟩) (by assumption) ?_
      (try simp only [List.getElem_toArray, List.getElem_cons_succ, List.getElem_cons_zero, Act.put, List.setIfInBounds_toArray, List.set_cons_zero, List.set_cons_succ])
      refine wpAnyH_done (by as_aux_lemma => kernel_rfl) ?_ _
      have B4 : Hid (Below D w wn) := Lib.hid (BR.out.trans (HB2.out.mono (by have := BR.out.size; rw [HD.out] at this; exact this)))
      go_wp2
      go_ret
      exact ⟨by rw [EB.out]; rfl, by rw [HD.out]; exact B4.out⟩
end Go.Proofs.Ytbfmdingbgdflaa
namespace Go.Proofs.Ytbfmdingbgdflaa
open Go.RowKit Blo Dig Wir
set_option linter.unusedVariables false
set_option linter.unusedSimpArgs false
theorem rname_any (s : ByteArray) (w : World) (hs : s.size ≤ 140737488351232) :
    Calls Try.prog 51 #[.string s] w fun e w' => e = .returned (.string (nameB s)) ∧ Below w.heap.size w w' := by
  obtain ⟨I, hI⟩ : ∃ I, shaF (byteAt s) s.size = I := ⟨_, rfl⟩
  have HN : Hid (nameB s = aheadB ++ bs (textL I) ++ behindB) := Lib.hid (by unfold nameB; rw [hI])
  have SM : ∀ W, Calls Try.prog 41 #[.string s] W fun e w' => e = .returned (.agg (idA I)) ∧ Below W.heap.size W w' := fun W => by
    rw [← hI]; exact rsum_big s W hs
  have h64 : (bs (textL I)).size = 64 := (text_back I).1
  clear hI
  go_enter Try.func51, Try.ntmps51
  go_wp2_with fail
  refine (SM _).mono ?_; rintro e w1 ⟨rfl, hb1⟩
  have B1 := Lib.hid hb1
  clear hb1 SM
  go_wp2_with fail
  refine (rtext_any I _).mono ?_; rintro e w2 ⟨rfl, hb2⟩
  have B2 := Lib.hid (B1.out.trans (hb2.mono B1.out.size))
  clear hb2 B1
  generalize bs (textL I) = T at *
  have hcat1 : ¬ 9223372036854775807 < ByteArray.size { data := #[98, 108, 111, 111, 109, 45] } + T.size := by rw [h64]; decide
  have hcat2 : ¬ 9223372036854775807 < ByteArray.size { data := #[98, 108, 111, 111, 109, 45] } + T.size + ByteArray.size { data := #[46, 98, 102] } := by rw [h64]; decide
  go_wp2
  go_ret
  exact ⟨by rw [HN.out]; rfl, B2.out⟩
set_option maxRecDepth 100000 in
set_option maxHeartbeats 0 in
theorem rcheck_any (name s : ByteArray) (w : World) (hn : name.size ≤ 140737488351232) (hs : s.size ≤ 140737488351232) :
    Calls Try.prog 53 #[.string name, .string s] w fun e w' => e = .returned (.int .i64 (chE name s)) ∧ Below w.heap.size w w' := by
  go_enter Try.func53, Try.ntmps53
  go_wp2_with fail
  refine (rnamed_any name _ hn).mono ?_; rintro e w1 ⟨rfl, rfl⟩
  by_cases g : nmG name
  · rw [nm_yes g]
    go_wp2_with fail
    refine (rname_any s _ hs).mono ?_; rintro e w2 ⟨rfl, hb2⟩
    have B2 := Lib.hid hb2
    clear hb2
    by_cases e : nameB s = name
    · have E : Hid (chE name s = if decO s = none then 4 else 0) := Lib.hid (by unfold chE; rw [if_pos g, if_pos e])
      have g1 := str2_yes e
      generalize nameB s = nb at g1 ⊢
      clear e g
      go_wp2_with fail
      refine (rdecode_any s _ hs).mono ?_; intro e w3 hd
      unfold RDecR at hd
      cases ho : decO s with
      | none =>
        rw [ho] at hd
        obtain ⟨rfl, hb3⟩ := hd
        have E2 : Hid (chE name s = 4) := Lib.hid (by rw [E.out, if_pos ho])
        have B3 := Lib.hid (B2.out.trans (hb3.mono B2.out.size))
        clear hb3 ho
        go_wp2
        go_ret
        exact ⟨by rw [E2.out]; rfl, B3.out⟩
      | some x =>
        obtain ⟨n, H, t⟩ := x
        rw [ho] at hd
        obtain ⟨P, g, rfl, _, _, _, hb3⟩ := hd
        have E2 : Hid (chE name s = 0) := Lib.hid (by rw [E.out, ho]; rfl)
        have B3 := Lib.hid (B2.out.trans (hb3.mono B2.out.size))
        clear hb3 ho
        go_wp2
        go_ret
        exact ⟨by rw [E2.out]; rfl, B3.out⟩
    · have E : Hid (chE name s = 9) := Lib.hid (by unfold chE; rw [if_pos g, if_neg e])
      have g1 := str2_no e
      generalize nameB s = nb at g1 ⊢
      clear e g
      go_wp2
      go_ret
      exact ⟨by rw [E.out]; rfl, B2.out⟩
  · have E : Hid (chE name s = 10) := Lib.hid (by unfold chE; rw [if_neg g])
    rw [nm_no g]
    clear g
    go_wp2
    go_ret
    exact ⟨by rw [E.out]; rfl, Below.refl _ _⟩
def fitA (n : Int) : Int := if 0 ≤ n ∧ n ≤ 1048576 then ((fitN n.toNat : Nat) : Int) else 0
def fitB (n : Int) : Int := if 0 ≤ n ∧ n ≤ 1048576 then 7 else 0
def fitC (n : Int) : Int := if 0 ≤ n ∧ n ≤ 1048576 then 0 else 1
theorem fit_v {n a b c : Int} (ha : fitA n = a) (hb : fitB n = b) (hc : fitC n = c) (w : World) :
    Calls Try.prog 49 #[.int .i64 n] w fun e w' => e = .returned (.tuple #[.int .i64 a, .int .i64 b, .int .i64 c]) ∧ w = w' := by
  subst ha hb hc
  unfold fitA fitB fitC
  by_cases h : 0 ≤ n ∧ n ≤ 1048576
  · rw [if_pos h, if_pos h, if_pos h]
    obtain ⟨m, rfl⟩ : ∃ m : Nat, n = m := ⟨n.toNat, by omega⟩
    rw [Int.toNat_natCast]
    exact fit_any m w (by omega)
  · rw [if_neg h, if_neg h, if_neg h]
    exact fit_no n w (by omega)
theorem rfit_v {n a b c : Int} (ha : fitA n = a) (hb : fitB n = b) (hc : fitC n = c) (w : World) :
    Calls Try.prog 48 #[.int .i64 n] w fun e w' => e = .returned (.tuple #[.int .i64 a, .int .i64 b, .int .i64 c]) ∧ w = w' := by
  subst ha hb hc
  unfold fitA fitB fitC
  by_cases h : 0 ≤ n ∧ n ≤ 1048576
  · rw [if_pos h, if_pos h, if_pos h]
    obtain ⟨m, rfl⟩ : ∃ m : Nat, n = m := ⟨n.toNat, by omega⟩
    rw [Int.toNat_natCast]
    exact rfit_any m w (by omega)
  · rw [if_neg h, if_neg h, if_neg h]
    exact rfit_no n w (by omega)
theorem name_v {s nb : ByteArray} (h : nameB s = nb) (w : World) (hs : s.size ≤ 140737488351232) :
    Calls Try.prog 50 #[.string s] w fun e w' => e = .returned (.string nb) ∧ Below w.heap.size w w' := by rw [← h]; exact name_any s w hs
theorem rname_v {s nb : ByteArray} (h : nameB s = nb) (w : World) (hs : s.size ≤ 140737488351232) :
    Calls Try.prog 51 #[.string s] w fun e w' => e = .returned (.string nb) ∧ Below w.heap.size w w' := by rw [← h]; exact rname_any s w hs
theorem check_v {name s : ByteArray} {x : Int} (h : chE name s = x) (w : World) (hn : name.size ≤ 140737488351232) (hs : s.size ≤ 140737488351232) :
    Calls Try.prog 52 #[.string name, .string s] w fun e w' => e = .returned (.int .i64 x) ∧ Below w.heap.size w w' := by rw [← h]; exact check_any name s w hn hs
theorem rcheck_v {name s : ByteArray} {x : Int} (h : chE name s = x) (w : World) (hn : name.size ≤ 140737488351232) (hs : s.size ≤ 140737488351232) :
    Calls Try.prog 53 #[.string name, .string s] w fun e w' => e = .returned (.int .i64 x) ∧ Below w.heap.size w w' := by rw [← h]; exact rcheck_any name s w hn hs
theorem encode_v {w : World} {P g n cap H : Nat} {F : Nat → UInt8} {s : ByteArray} (he : encB n H F = s) (h : Flt w P g n cap H F) (hn : 8 * n ≤ 16777216) (hH : H ≤ 8) :
    Calls Try.prog 26 #[.pointer (some ⟨P, 0, none⟩)] w fun e w' => e = .returned (.tuple #[.string s, .int .i64 0]) ∧ Below w.heap.size w w' := by
  rw [← he]; exact encode_any w P g n cap H F h (by omega) hH
theorem rencode_v {w : World} {Q h n H : Nat} {F : Nat → UInt8} {s : ByteArray} (he : encB n H F = s) (hr : Rf w Q h (8 * n) H (fun i => bitF F i)) (hn : 8 * n ≤ 16777216) (hH : H ≤ 8) :
    Calls Try.prog 33 #[.pointer (some ⟨Q, 0, none⟩)] w fun e w' => e = .returned (.string s) ∧ Below w.heap.size w w' := by
  rw [← he]; exact rencode_any w Q h (8 * n) n H _ F hr (fun _ _ => rfl) rfl hn hH
set_option maxRecDepth 100000 in
set_option maxHeartbeats 0 in
theorem bloomDecodes_walk (s name : ByteArray) (n : Int) (w : World) (hs : s.size ≤ 140737488351232) (hn : name.size ≤ 140737488351232) (n1 : -9223372036854775808 ≤ n) (n2 : n ≤ 9223372036854775807) :
    Calls Try.prog 11 #[.string s, .string name, .int .i64 n] w fun e w' => e = .returned (.bool true) ∧ Below w.heap.size w w' := by
  obtain ⟨a, ha⟩ : ∃ a, fitA n = a := ⟨_, rfl⟩
  obtain ⟨b, hb⟩ : ∃ b, fitB n = b := ⟨_, rfl⟩
  obtain ⟨c, hc⟩ : ∃ c, fitC n = c := ⟨_, rfl⟩
  obtain ⟨nb, hnb⟩ : ∃ nb, nameB s = nb := ⟨_, rfl⟩
  obtain ⟨x, hx⟩ : ∃ x, chE name s = x := ⟨_, rfl⟩
  have HF := Lib.hid (And.intro ha (And.intro hb hc))
  have HNX := Lib.hid (And.intro hnb hx)
  have hss : (nb.toList == nb.toList) = true := beq_self_eq_true _
  have hss2 : (s.toList == s.toList) = true := beq_self_eq_true _
  clear ha hb hc hnb hx n1 n2
  cases ho : decO s with
  | none =>
    have HO := Lib.hid ho
    clear ho
    go_enter Try.func11, Try.ntmps11
    go_wp2_with fail
    refine (rdecode_any s _ hs).mono ?_; intro e w1 hd
    unfold RDecR at hd
    rw [HO.out] at hd
    obtain ⟨rfl, hb1⟩ := hd
    have B1 := Lib.hid hb1
    clear hb1
    go_wp2_with fail
    refine (decode_any s _ hs).mono ?_; intro e w2 hd
    unfold DecR at hd
    rw [HO.out] at hd
    obtain ⟨rfl, hb2⟩ := hd
    have B2 := Lib.hid (B1.out.trans (hb2.mono B1.out.size))
    clear hb2
    go_wp2_with fail
    refine (rfit_v HF.out.1 HF.out.2.1 HF.out.2.2 _).mono ?_; rintro e w9 ⟨rfl, rfl⟩
    go_wp2_with fail
    refine (fit_v HF.out.1 HF.out.2.1 HF.out.2.2 _).mono ?_; rintro e w9 ⟨rfl, rfl⟩
    go_wp2_with fail
    refine (name_v HNX.out.1 _ hs).mono ?_; rintro e w3 ⟨rfl, hb3⟩
    have B3 := Lib.hid (B2.out.trans (hb3.mono B2.out.size))
    clear hb3
    go_wp2_with fail
    refine (rname_v HNX.out.1 _ hs).mono ?_; rintro e w4 ⟨rfl, hb4⟩
    have B4 := Lib.hid (B3.out.trans (hb4.mono B3.out.size))
    clear hb4
    go_wp2_with fail
    refine (check_v HNX.out.2 _ hn hs).mono ?_; rintro e w5 ⟨rfl, hb5⟩
    have B5 := Lib.hid (B4.out.trans (hb5.mono B4.out.size))
    clear hb5
    go_wp2_with fail
    refine (rcheck_v HNX.out.2 _ hn hs).mono ?_; rintro e w6 ⟨rfl, hb6⟩
    have B6 := Lib.hid (B5.out.trans (hb6.mono B5.out.size))
    clear hb6
    go_wp2
    go_ret
    exact ⟨rfl, B6.out⟩
  | some y =>
    obtain ⟨k, H, t⟩ := y
    have HO := Lib.hid ho
    obtain ⟨e1, e2, e3, e4⟩ := enc_dec ho
    have EN := Lib.hid (And.intro e1 (And.intro e2 e3))
    clear ho e1 e2 e3 e4
    go_enter Try.func11, Try.ntmps11
    go_wp2_with fail
    refine (rdecode_any s _ hs).mono ?_; intro e w1 hd
    unfold RDecR at hd
    rw [HO.out] at hd
    obtain ⟨Q, h, rfl, _, _, hr1, hb1⟩ := hd
    have B1 := Lib.hid (And.intro hr1 hb1)
    clear hb1 hr1
    go_wp2_with fail
    refine (decode_any s _ hs).mono ?_; intro e w2 hd
    unfold DecR at hd
    rw [HO.out] at hd
    obtain ⟨P, g, cap, rfl, _, _, hf2, hb2⟩ := hd
    have B2 := Lib.hid (And.intro (B1.out.1.below hb2) (And.intro hf2 (B1.out.2.trans (hb2.mono B1.out.2.size))))
    clear hb2 hf2
    go_wp2_with fail
    refine (rfit_v HF.out.1 HF.out.2.1 HF.out.2.2 _).mono ?_; rintro e w9 ⟨rfl, rfl⟩
    go_wp2_with fail
    refine (fit_v HF.out.1 HF.out.2.1 HF.out.2.2 _).mono ?_; rintro e w9 ⟨rfl, rfl⟩
    go_wp2_with fail
    refine (name_v HNX.out.1 _ hs).mono ?_; rintro e w3 ⟨rfl, hb3⟩
    have B3 := Lib.hid (And.intro (B2.out.1.below hb3) (And.intro (B2.out.2.1.below hb3) (B2.out.2.2.trans (hb3.mono B2.out.2.2.size))))
    clear hb3
    go_wp2_with fail
    refine (rname_v HNX.out.1 _ hs).mono ?_; rintro e w4 ⟨rfl, hb4⟩
    have B4 := Lib.hid (And.intro (B3.out.1.below hb4) (And.intro (B3.out.2.1.below hb4) (B3.out.2.2.trans (hb4.mono B3.out.2.2.size))))
    clear hb4
    go_wp2_with fail
    refine (check_v HNX.out.2 _ hn hs).mono ?_; rintro e w5 ⟨rfl, hb5⟩
    have B5 := Lib.hid (And.intro (B4.out.1.below hb5) (And.intro (B4.out.2.1.below hb5) (B4.out.2.2.trans (hb5.mono B4.out.2.2.size))))
    clear hb5
    go_wp2_with fail
    refine (rcheck_v HNX.out.2 _ hn hs).mono ?_; rintro e w6 ⟨rfl, hb6⟩
    have B6 := Lib.hid (And.intro (B5.out.1.below hb6) (And.intro (B5.out.2.1.below hb6) (B5.out.2.2.trans (hb6.mono B5.out.2.2.size))))
    clear hb6
    go_wp2_with fail
    refine (encode_v EN.out.1 B6.out.2.1 EN.out.2.1 EN.out.2.2).mono ?_; rintro e w7 ⟨rfl, hb7⟩
    have B7 := Lib.hid (And.intro (B6.out.1.below hb7) (B6.out.2.2.trans (hb7.mono B6.out.2.2.size)))
    clear hb7
    go_wp2_with fail
    refine (rencode_v EN.out.1 B7.out.1 EN.out.2.1 EN.out.2.2).mono ?_; rintro e w8 ⟨rfl, hb8⟩
    have B8 := Lib.hid (B7.out.2.trans (hb8.mono B7.out.2.size))
    clear hb8
    go_wp2
    go_ret
    exact ⟨rfl, B8.out⟩
end Go.Proofs.Ytbfmdingbgdflaa
