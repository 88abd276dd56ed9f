/- Walk: the filter's Join. -/
import Derived.Test.YtbfmdingbgdflaaBloE
namespace Go.Proofs.Ytbfmdingbgdflaa
open Go.RowKit Blo
set_option linter.unusedVariables false
def orF (F G : Nat → UInt8) (k : Nat) : Nat → UInt8 := fun j => if j < k then F j ||| G j else F j
set_option maxRecDepth 100000 in
set_option maxHeartbeats 400000 in
theorem join_any (w : World) (P g cap P' g' cap' n H : Nat) (F G : Nat → UInt8) (h : Flt w P g n cap H F) (h' : Flt w P' g' n cap' H G) (hg : g ≠ g') (hn : n ≤ 2097152) :
    Calls Try.prog 25 #[.pointer (some ⟨P, 0, none⟩), .pointer (some ⟨P', 0, none⟩)] w fun e w' => e = .returned (.int .i64 0) ∧ Flt w' P g n cap H (orF F G n) ∧ w.grownBy w' (some g) := by
  have c0 : w.cell? ⟨P, 0, none⟩ = some (.slice (some ⟨g, 0, none⟩) n cap) := h.blk.cell 0
  have c1 : w.cell? ⟨P, 1, none⟩ = some (.int .i64 (H : Int)) := h.blk.cell 1
  have d0 : w.cell? ⟨P', 0, none⟩ = some (.slice (some ⟨g', 0, none⟩) n cap') := h'.blk.cell 0
  have d1 : w.cell? ⟨P', 1, none⟩ = some (.int .i64 (H : Int)) := h'.blk.cell 1
  have X := Lib.hid h
  have Y := Lib.hid h'
  clear h h'
  go_enter Try.func25, Try.ntmps25
  go_wp2
  go_quiet (fail)
  go_wp2
  go_loopw [5, 6, 42] (fun _ _ i wr => ∃ k : Nat, k ≤ n ∧ i = .int .i64 k ∧ Hid (Flt wr P g n cap H (orF F G k) ∧ w.grownBy wr (some g))) (fun _ _ i _ => n - (intOf i).toNat)
  case atStart => exact ⟨0, by omega, rfl, Lib.hid ⟨(Flt.below X.out (below_drewN (Below.refl _ _) _)).congr fun j _ => by unfold orF; rw [if_neg (by omega)], only_drewN (World.grownBy.refl _ _) _⟩⟩
  case round =>
    obtain ⟨k, hk, rfl, HR⟩ := hrel
    by_cases hlt : k < n
    · have e0 : wr.cell? ⟨P, 0, none⟩ = some (.slice (some ⟨g, 0, none⟩) n cap) := HR.out.1.blk.cell 0
      have e1 : wr.cell? ⟨g, k, none⟩ = some (.int .u8 ((F k).toNat : Int)) := by
        rw [HR.out.1.buf.cell hlt]; simp only [u8V, orF]; rw [if_neg (by omega)]
      have f1 : wr.frozen? ⟨g, k, none⟩ = false := HR.out.1.buf.frozen (by have := HR.out.1.buf.le; omega)
      have e2 : wr.cell? ⟨g', k, none⟩ = some (.int .u8 ((G k).toNat : Int)) := by
        have := Y.out.buf.grown HR.out.2 (by intro e; injection e with e; exact hg e.symm)
        exact this.cell hlt
      have O := Lib.hid (or_bits (F k) (G k))
      have a1 : (F k).toNat < 256 := (F k).toNat_lt
      have a2 : (G k).toNat < 256 := (G k).toNat_lt
      go_wp2
      go_roundw
      case rel =>
        refine ⟨k + 1, by omega, by go_num, Lib.hid ⟨⟨HR.out.1.blk.far (p := ⟨g, k, none⟩) (by show P ≠ g; exact X.out.ne) _, (HR.out.1.buf.set k _).congr fun j hj => ?_⟩, only_setCell HR.out.2 (.inl rfl) _⟩⟩
        simp only [u8V, orF]
        by_cases e : j = k
        · rw [if_pos e, if_pos (by omega), e, O.out]
        · rw [if_neg e]
          by_cases h3 : j < k
          · rw [if_pos h3, if_pos (by omega)]
          · rw [if_neg h3, if_neg (by omega)]
      case measure => simp [intOf]; omega
    · obtain rfl : k = n := by omega
      go_wp2
      go_ret
      exact ⟨rfl, HR.out.1, HR.out.2⟩
end Go.Proofs.Ytbfmdingbgdflaa
