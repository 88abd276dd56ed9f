/- Walks: the reference's filter: Size, New. No conditions. -/
import Derived.Test.YtbfmdingbgdflaaRbP
import Derived.Test.YtbfmdingbgdflaaBloD
namespace Go.Proofs.Ytbfmdingbgdflaa
open Go.RowKit Blo
set_option linter.unusedVariables false
theorem pow_bd (j : Nat) (h1 : 6 ≤ j) (h2 : j ≤ 24) : 64 ≤ 2 ^ j ∧ 2 ^ j ≤ 16777216 :=
  ⟨Nat.pow_le_pow_right (n := 2) (by omega) h1, Nat.pow_le_pow_right (n := 2) (by omega) h2⟩
theorem sz_no {n h : Int} {j : Nat} (h1 : 6 ≤ j) (h2 : j ≤ 24) (hp : j = 6 ∨ ((2 ^ (j - 1) : Nat) : Int) < n) (hstop : ¬ ((2 ^ j : Nat) : Int) < n ∨ j = 24) (hne : ((2 ^ j : Nat) : Int) ≠ n) : szB n h = false := by
  rw [Bool.eq_false_iff]
  intro hs
  unfold szB at hs
  rw [Bool.and_eq_true, decide_eq_true_eq, beq_iff_eq] at hs
  obtain ⟨⟨a1, a2, _, _⟩, a3⟩ := hs
  obtain ⟨N, rfl⟩ : ∃ N : Nat, n = N := ⟨n.toNat, by omega⟩
  rw [Int.toNat_natCast] at a3
  obtain ⟨m, m1, m2, rfl⟩ := pow2_of N (by omega) (by omega) a3
  have hmj : m ≠ j := fun e => hne (by rw [e])
  have hlt : m < j := by
    rcases hstop with hs | hs
    · have : ¬ 2 ^ j < 2 ^ m := by omega
      have : ¬ j < m := fun e => this (Nat.pow_lt_pow_right (by omega) e)
      omega
    · omega
  rcases hp with hp | hp
  · omega
  · have h3 : 2 ^ (j - 1) < 2 ^ m := by omega
    have h4 : 2 ^ m ≤ 2 ^ (j - 1) := Nat.pow_le_pow_right (by omega) (by omega)
    omega
theorem sz_at {h : Int} {j : Nat} (h1 : 6 ≤ j) (h2 : j ≤ 24) : szB ((2 ^ j : Nat) : Int) h = decide (1 ≤ h ∧ h ≤ 8) := by
  have b := pow_bd j h1 h2
  unfold szB
  rw [Int.toNat_natCast, Nat.and_two_pow_sub_one_eq_mod, Nat.mod_self]
  have e : (64 ≤ ((2 ^ j : Nat) : Int) ∧ ((2 ^ j : Nat) : Int) ≤ 16777216 ∧ 1 ≤ h ∧ h ≤ 8) ↔ (1 ≤ h ∧ h ≤ 8) := ⟨fun x => x.2.2, fun x => ⟨by omega, by omega, x⟩⟩
  rw [show decide (64 ≤ ((2 ^ j : Nat) : Int) ∧ ((2 ^ j : Nat) : Int) ≤ 16777216 ∧ 1 ≤ h ∧ h ≤ 8) = decide (1 ≤ h ∧ h ≤ 8) from decide_eq_decide.2 e]
  simp
theorem sz_yes {n h : Int} (hs : szB n h = true) : ∃ k H m : Nat, n = ((8 * k : Nat) : Int) ∧ h = (H : Int) ∧ 8 * k = 2 ^ m ∧ 6 ≤ m ∧ m ≤ 24 ∧ 1 ≤ H ∧ H ≤ 8 := by
  have hs' := hs
  unfold szB at hs
  rw [Bool.and_eq_true, decide_eq_true_eq, beq_iff_eq] at hs
  obtain ⟨⟨a1, a2, a3, a4⟩, a5⟩ := hs
  obtain ⟨m, m1, m2, hm⟩ := pow2_of n.toNat (by omega) (by omega) a5
  refine ⟨2 ^ (m - 3), h.toNat, m, ?_, by omega, ?_, m1, m2, by omega, by omega⟩
  · have e : 8 * 2 ^ (m - 3) = 2 ^ m := by
      rw [show (8 : Nat) = 2 ^ 3 from rfl, ← Nat.pow_add]; congr 1; omega
    omega
  · rw [show (8 : Nat) = 2 ^ 3 from rfl, ← Nat.pow_add]; congr 1; omega
set_option maxRecDepth 100000 in
theorem rsize_any (n h : Int) (w : World) (n1 : -9223372036854775808 ≤ n) (n2 : n ≤ 9223372036854775807) (h3 : -9223372036854775808 ≤ h) (h4 : h ≤ 9223372036854775807) :
    Calls Try.prog 71 #[.int .i64 n, .int .i64 h] w fun e w' => e = .returned (.bool (szB n h)) ∧ w = w' := by
  go_enter Try.func71, Try.ntmps71
  go_wp2
  go_loopw [5] (fun b wr => ∃ j B : Nat, 6 ≤ j ∧ j ≤ 24 ∧ 64 ≤ B ∧ B ≤ 16777216 ∧ b = .int .i64 (B : Int) ∧ Hid (2 ^ j = B ∧ (j = 6 ∨ ((2 ^ (j - 1) : Nat) : Int) < n)) ∧ w = wr) (fun b _ => 16777216 - (intOf b).toNat)
  case atStart => exact ⟨6, 64, by omega, by omega, by omega, by omega, rfl, Lib.hid ⟨rfl, .inl rfl⟩, rfl⟩
  case round =>
    obtain ⟨j, B, hj1, hj2, hb1, hb2, rfl, HJ, rfl⟩ := hrel
    by_cases hlt : (B : Int) < n
    · by_cases hlt2 : B < 16777216
      · have hlt2i : (B : Int) < 16777216 := by omega
        have hj24 : j + 1 ≤ 24 := by
          apply Classical.byContradiction
          intro hj
          have e : j = 24 := by omega
          have := HJ.out.1
          rw [e] at this
          omega
        obtain ⟨C, hC⟩ : ∃ C, 2 * B = C := ⟨_, rfl⟩
        have E : (2 : Int) * (B : Int) = (C : Int) := by omega
        have HN : Hid (2 ^ (j + 1) = C ∧ (j + 1 = 6 ∨ ((2 ^ (j + 1 - 1) : Nat) : Int) < n)) := Lib.hid ⟨by rw [Nat.pow_succ, HJ.out.1]; omega, .inr (by rw [Nat.add_sub_cancel, HJ.out.1]; exact hlt)⟩
        have hc2 : C ≤ 16777216 := by rw [← HN.out.1]; exact (pow_bd (j + 1) (by omega) hj24).2
        go_wp2
        go_roundw
        case rel => exact ⟨j + 1, C, by omega, hj24, by omega, hc2, by first | rfl | go_num, HN, by first | rfl | trivial⟩
        case measure => simp [intOf]; omega
      · have hlt2i : ¬ (B : Int) < 16777216 := by omega
        have hne : ¬ (B : Int) = n := by omega
        have e24 : j = 24 := by
          apply Classical.byContradiction
          intro hj
          have : 2 ^ j ≤ 2 ^ 23 := Nat.pow_le_pow_right (by omega) (by omega)
          have := HJ.out.1
          omega
        have X : Hid (szB n h = false) := Lib.hid (sz_no hj1 hj2 HJ.out.2 (.inr e24) (by rw [HJ.out.1]; exact hne))
        go_wp2
        go_ret
        exact ⟨by rw [X.out]; rfl, rfl⟩
    · by_cases heq : (B : Int) = n
      · subst heq
        have X : Hid (szB (B : Int) h = decide (1 ≤ h ∧ h ≤ 8)) := Lib.hid (by rw [← HJ.out.1]; exact sz_at hj1 hj2)
        by_cases a1 : 1 ≤ h
        · by_cases a2 : h ≤ 8
          · have Y : Hid (szB (B : Int) h = true) := Lib.hid (by rw [X.out, decide_eq_true_eq]; exact ⟨a1, a2⟩)
            go_wp2
            go_ret
            exact ⟨by rw [Y.out]; first | rfl | simp, rfl⟩
          · have Y : Hid (szB (B : Int) h = false) := Lib.hid (by rw [X.out, decide_eq_false_iff_not]; omega)
            go_wp2
            go_ret
            exact ⟨by rw [Y.out]; first | rfl | simp, rfl⟩
        · have Y : Hid (szB (B : Int) h = false) := Lib.hid (by rw [X.out, decide_eq_false_iff_not]; omega)
          go_wp2
          go_ret
          exact ⟨by rw [Y.out]; first | rfl | simp, rfl⟩
      · have X : Hid (szB n h = false) := Lib.hid (sz_no hj1 hj2 HJ.out.2 (.inl (by rw [HJ.out.1]; exact hlt)) (by rw [HJ.out.1]; exact heq))
        go_wp2
        go_ret
        exact ⟨by rw [X.out]; rfl, rfl⟩
theorem elemBool : Elem1 Try.prog 65 4 (.bool false) 1 := Elem1.of (by kernel_rfl) (by kernel_rfl) rfl
theorem bools_made (w : World) (n : Nat) (hn : n ≤ 70368744177664) :
    (Instr.makeSlice 65 (.int .i64 (n : Int)) (.int .i64 (n : Int))).run Try.prog w = .ok (.slice (some ⟨w.heap.size, 0, none⟩) n n) (w.alloc (.cells (madeCells #[.bool false] n) 4)) := by
  obtain ⟨i, hi, h1, h2, h3⟩ := elemBool.info
  have := run_make_rowN (P := Try.prog) 65 4 i _ (by kernel_rfl) hi h1 .i64 .i64 n n (Nat.le_refl _) (by rw [h3]; omega) (by omega) w
  rw [h2, Nat.mul_one] at this
  exact this
/-- A filter of the reference's in memory: which places are set. -/
structure Rf (w : World) (P g N H : Nat) (B : Nat → Bool) : Prop where
  blk : Blk w P 67 #[.int .i64 (N : Int), .int .i64 (H : Int), .slice (some ⟨g, 0, none⟩) N N]
  row : w.rowIs g 4 N (fun i => .bool (B i))
theorem Rf.below {w w' : World} {P g N H : Nat} {B : Nat → Bool} (h : Rf w P g N H B) (hb : Below w.heap.size w w') : Rf w' P g N H B := ⟨h.blk.below hb h.blk.lt, h.row.of_block (hb.block _ h.row.lt)⟩
theorem Rf.ne {w : World} {P g N H : Nat} {B : Nat → Bool} (h : Rf w P g N H B) : P ≠ g := by
  rintro rfl
  obtain ⟨c, hh, _⟩ := h.row
  have hb := h.blk
  unfold Blk at hb
  rw [hb] at hh
  injection hh with hh
  injection hh with _ h2 _
  exact absurd h2 (by decide)
theorem Rf.congr {w : World} {P g N H : Nat} {B C : Nat → Bool} (h : Rf w P g N H B) (e : ∀ j, j < N → B j = C j) : Rf w P g N H C := ⟨h.blk, h.row.congr fun j hj => by rw [e j hj]⟩
theorem rnew_no (n h : Int) (w : World) (n1 : -9223372036854775808 ≤ n) (n2 : n ≤ 9223372036854775807) (h3 : -9223372036854775808 ≤ h) (h4 : h ≤ 9223372036854775807) (hz : szB n h = false) :
    Calls Try.prog 30 #[.int .i64 n, .int .i64 h] w fun e w' => e = .returned (.tuple #[.pointer none, .int .i64 1]) ∧ w = w' := by
  have Z := Lib.hid hz
  clear hz
  go_enter Try.func30, Try.ntmps30
  go_wp2_with fail
  refine (rsize_any n h _ n1 n2 h3 h4).mono ?_; rintro e w' ⟨rfl, rfl⟩
  rw [Z.out]
  go_wp2
  go_ret2
  exact ⟨rfl, rfl⟩
set_option maxRecDepth 100000 in
theorem rnew_any (N H : Nat) (w : World) (hn : N ≤ 16777216) (hH : H ≤ 8) (hz : szB (N : Int) (H : Int) = true) :
    Calls Try.prog 30 #[.int .i64 (N : Int), .int .i64 (H : Int)] w fun e w' => e = .returned (.tuple #[.pointer (some ⟨w.heap.size + 1, 0, none⟩), .int .i64 0]) ∧
      Rf w' (w.heap.size + 1) w.heap.size N H (fun _ => false) ∧ Below w.heap.size w w' := by
  have Z := Lib.hid hz
  clear hz
  have hmk := fun W => bools_made W N (by omega)
  go_enter Try.func30, Try.ntmps30
  go_wp2_with fail
  refine (rsize_any _ _ _ (by omega) (by omega) (by omega) (by omega)).mono ?_; rintro e w' ⟨rfl, rfl⟩
  rw [Z.out]
  go_wp2
  go_ret2
  refine ⟨rfl, ⟨?_, ?_⟩, ((Below.refl _ _).alloc (Nat.le_refl _) _).alloc (by simp) _⟩
  · have := Blk.new (w.alloc (.cells (madeCells #[.bool false] N) 4)) 67 #[.int .i64 (N : Int), .int .i64 (H : Int), .slice (some ⟨w.heap.size, 0, none⟩) N N]
    rw [show (w.alloc (.cells (madeCells #[.bool false] N) 4)).heap.size = w.heap.size + 1 from by simp] at this
    exact this
  · exact ((World.rowIs_made w (.bool false) N 4).alloc _).congr fun i _ => rfl
end Go.Proofs.Ytbfmdingbgdflaa
