/- Walks: the reference's filter: Ones, Join. No conditions. -/
import Derived.Test.YtbfmdingbgdflaaRbA
import Derived.BigQuiet
import Derived.StillTailTactics
namespace Go.Proofs.Ytbfmdingbgdflaa
open Go.RowKit Blo
set_option linter.unusedVariables false
set_option maxRecDepth 100000 in
theorem rones_any (w : World) (P g N n H : Nat) (B : Nat → Bool) (F : Nat → UInt8) (h : Rf w P g N H B) (hB : Bt B F n) (hN : 8 * n = N) (hn2 : N ≤ 16777216) :
    Calls Try.prog 36 #[.pointer (some ⟨P, 0, none⟩)] w fun e w' => e = .returned (.int .i64 ((onesF F n : Nat) : Int)) ∧ w = w' := by
  have c2 : w.cell? ⟨P, 2, none⟩ = some (.slice (some ⟨g, 0, none⟩) N N) := h.blk.cell 2
  have X := Lib.hid h
  have HV : Hid (onesB B N = onesF F n) := Lib.hid (by rw [← hN]; exact hB.ones)
  clear h hB hN
  go_enter Try.func36, Try.ntmps36
  go_wp2
  go_loop [3, 4] (fun x i => ∃ k s : Nat, k ≤ N ∧ i = .int .i64 (k : Int) ∧ x = .int .i64 (s : Int) ∧ s ≤ k ∧ Hid (onesB B k = s)) (fun _ i => N - (intOf i).toNat)
  case atStart => exact ⟨0, 0, by omega, rfl, rfl, by omega, Lib.hid rfl⟩
  case round =>
    obtain ⟨k, s, hk, rfl, rfl, hs, HS⟩ := hrel
    by_cases hlt : k < N
    · have hlti : (k : Int) < (N : Int) := by omega
      have c3 : w.cell? ⟨g, k, none⟩ = some (.bool (B k)) := X.out.row.cell hlt
      cases hb : B k with
      | true =>
        rw [hb] at c3
        have HS' : Hid (onesB B (k + 1) = s + 1) := Lib.hid (by rw [onesB, HS.out, if_pos hb])
        clear hb
        go_wp2
        go_round
        case rel => exact ⟨k + 1, s + 1, by omega, by go_num, by go_num, by omega, HS'⟩
        case measure => simp [intOf]; omega
      | false =>
        rw [hb] at c3
        have HS' : Hid (onesB B (k + 1) = s) := Lib.hid (by rw [onesB, HS.out, if_neg (by rw [hb]; decide)]; rfl)
        clear hb
        go_wp2
        go_round
        case rel => exact ⟨k + 1, s, by omega, by go_num, rfl, by omega, HS'⟩
        case measure => simp [intOf]; omega
    · obtain rfl : k = N := by omega
      have HE : Hid (onesF F n = s) := Lib.hid (by rw [← HV.out, HS.out])
      go_wp2
      go_ret
      exact ⟨by rw [HE.out]; rfl, rfl⟩
theorem orB_step (B C : Nat → Bool) (k i : Nat) : (if i = k then Value.bool (B k || C k) else .bool (orB B C k i)) = .bool (orB B C (k + 1) i) := by
  unfold orB
  by_cases e : i = k
  · rw [if_pos e, if_pos (by omega), e]
  · rw [if_neg e]
    by_cases h : i < k
    · rw [if_pos h, if_pos (by omega)]
    · rw [if_neg h, if_neg (by omega)]
theorem rjoin_no (w : World) (P g N H P' g' N' H' : Nat) (B C : Nat → Bool) (h : Rf w P g N H B) (h' : Rf w P' g' N' H' C) (hne : N ≠ N' ∨ H ≠ H') :
    Calls Try.prog 32 #[.pointer (some ⟨P, 0, none⟩), .pointer (some ⟨P', 0, none⟩)] w fun e w' => e = .returned (.int .i64 1) ∧ Below w.heap.size w w' := by
  have c0 : w.cell? ⟨P, 0, none⟩ = some (.int .i64 (N : Int)) := h.blk.cell 0
  have c1 : w.cell? ⟨P, 1, none⟩ = some (.int .i64 (H : Int)) := h.blk.cell 1
  have d0 : w.cell? ⟨P', 0, none⟩ = some (.int .i64 (N' : Int)) := h'.blk.cell 0
  have d1 : w.cell? ⟨P', 1, none⟩ = some (.int .i64 (H' : Int)) := h'.blk.cell 1
  clear h h'
  by_cases e : N = N'
  · have e1 : (N : Int) = (N' : Int) := by omega
    have e2 : ¬ (H : Int) = (H' : Int) := by omega
    subst e
    clear hne e1
    go_enter Try.func32, Try.ntmps32
    go_wp2
    go_quiet (fail)
    go_wp2
    go_ret
    exact ⟨rfl, below_drewN (Below.refl _ _) _⟩
  · have e1 : ¬ (N : Int) = (N' : Int) := by omega
    clear hne
    go_enter Try.func32, Try.ntmps32
    go_wp2
    go_quiet (fail)
    go_wp2
    go_ret
    exact ⟨rfl, below_drewN (Below.refl _ _) _⟩
set_option maxRecDepth 100000 in
set_option maxHeartbeats 0 in
theorem rjoin_any (w : World) (P g P' g' N H : Nat) (B C : Nat → Bool) (h : Rf w P g N H B) (h' : Rf w P' g' N H C) (hg : g ≠ g') (hn : N ≤ 16777216) :
    Calls Try.prog 32 #[.pointer (some ⟨P, 0, none⟩), .pointer (some ⟨P', 0, none⟩)] w fun e w' => e = .returned (.int .i64 0) ∧ Rf w' P g N H (orB B C N) ∧ w.grownBy w' (some g) := by
  have c0 : w.cell? ⟨P, 0, none⟩ = some (.int .i64 (N : Int)) := h.blk.cell 0
  have c1 : w.cell? ⟨P, 1, none⟩ = some (.int .i64 (H : Int)) := h.blk.cell 1
  have d0 : w.cell? ⟨P', 0, none⟩ = some (.int .i64 (N : Int)) := h'.blk.cell 0
  have d1 : w.cell? ⟨P', 1, none⟩ = some (.int .i64 (H : Int)) := h'.blk.cell 1
  have hP' : P' ≠ g := by
    rintro rfl
    obtain ⟨c, hh, _⟩ := h.row
    have hb := h'.blk
    unfold Blk at hb
    rw [hb] at hh
    injection hh with hh
    injection hh with _ h2 _
    exact absurd h2 (by decide)
  have X := Lib.hid h
  have Y := Lib.hid h'
  clear h h'
  go_enter Try.func32, Try.ntmps32
  go_wp2
  go_quiet (fail)
  go_wp2
  go_loopw [5] (fun i wr => ∃ k : Nat, k ≤ N ∧ i = .int .i64 (k : Int) ∧ Hid (Rf wr P g N H (orB B C k) ∧ w.grownBy wr (some g))) (fun i _ => N - (intOf i).toNat)
  case atStart => exact ⟨0, by omega, rfl, Lib.hid ⟨(Rf.below X.out (below_drewN (Below.refl _ _) _)).congr fun j _ => by unfold orB; rw [if_neg (by omega)], only_drewN (World.grownBy.refl _ _) _⟩⟩
  case round =>
    obtain ⟨k, hk, rfl, HR⟩ := hrel
    have e0 : wr.cell? ⟨P, 2, none⟩ = some (.slice (some ⟨g, 0, none⟩) N N) := HR.out.1.blk.cell 2
    by_cases hlt : k < N
    · have hlti : (k : Int) < (N : Int) := by omega
      have e1 : wr.cell? ⟨g, k, none⟩ = some (.bool (B k)) := by
        rw [HR.out.1.row.cell hlt]; simp only [orB]; rw [if_neg (by omega)]
      have f1 : wr.frozen? ⟨g, k, none⟩ = false := HR.out.1.row.frozen _
      have YR : Rf wr P' g' N H C := ⟨Y.out.blk.grown HR.out.2 (by intro e; injection e with e; exact hP' e), Y.out.row.of_block (HR.out.2.block _ Y.out.row.lt (by intro e; injection e with e; exact hg e.symm))⟩
      have d2 : wr.cell? ⟨P', 2, none⟩ = some (.slice (some ⟨g', 0, none⟩) N N) := YR.blk.cell 2
      have d3 : wr.cell? ⟨g', k, none⟩ = some (.bool (C k)) := YR.row.cell hlt
      clear YR
      have ST := Lib.hid (fun i => orB_step B C k i)
      obtain ⟨b, hb⟩ : ∃ b, B k = b := ⟨_, rfl⟩
      obtain ⟨c, hc⟩ : ∃ c, C k = c := ⟨_, rfl⟩
      rw [hb] at e1
      rw [hc] at d3
      have HBC := Lib.hid (And.intro hb hc)
      clear hb hc
      cases b with
      | true =>
        go_wp2
        go_region
        go_wp2
        go_roundw
        case rel =>
          refine ⟨k + 1, by omega, by go_num, Lib.hid ⟨⟨(HR.out.1.blk.far (by show P ≠ g; exact HR.out.1.ne) _).drew, ((HR.out.1.row.set k _).drew).congr fun i hi => ?_⟩, only_drew (only_setCell HR.out.2 (.inl rfl) _)⟩⟩
          rw [← ST.out i, HBC.out.1]
          rfl
        case measure => simp [intOf]; omega
      | false =>
        go_wp2
        go_region
        go_wp2
        go_roundw
        case rel =>
          refine ⟨k + 1, by omega, by go_num, Lib.hid ⟨⟨(HR.out.1.blk.far (by show P ≠ g; exact HR.out.1.ne) _).drew, ((HR.out.1.row.set k _).drew).congr fun i hi => ?_⟩, only_drew (only_setCell HR.out.2 (.inl rfl) _)⟩⟩
          rw [← ST.out i, HBC.out.1, HBC.out.2]
          rfl
        case measure => simp [intOf]; omega
    · obtain rfl : k = N := by omega
      have BE := Lib.hid HR.out
      go_wp2
      go_ret
      exact ⟨rfl, BE.out.1, BE.out.2⟩
end Go.Proofs.Ytbfmdingbgdflaa
