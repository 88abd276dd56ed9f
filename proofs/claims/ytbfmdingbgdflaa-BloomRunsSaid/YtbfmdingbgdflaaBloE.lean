/- Walks: the bits of a byte, of a filter. -/
import Derived.Test.YtbfmdingbgdflaaBloD
namespace Go.Proofs.Ytbfmdingbgdflaa
open Go.RowKit Blo
set_option linter.unusedVariables false
def popT : ByteArray := ⟨#[0, 1, 1, 2, 1, 2, 2, 3, 1, 2, 2, 3, 2, 3, 3, 4, 1, 2, 2, 3, 2, 3, 3, 4, 2, 3, 3, 4, 3, 4, 4, 5, 1, 2, 2, 3, 2, 3, 3, 4, 2, 3, 3, 4, 3, 4, 4, 5, 2, 3, 3, 4, 3, 4, 4, 5, 3, 4, 4, 5, 4, 5, 5, 6, 1, 2, 2, 3, 2, 3, 3, 4, 2, 3, 3, 4, 3, 4, 4, 5, 2, 3, 3, 4, 3, 4, 4, 5, 3, 4, 4, 5, 4, 5, 5, 6, 2, 3, 3, 4, 3, 4, 4, 5, 3, 4, 4, 5, 4, 5, 5, 6, 3, 4, 4, 5, 4, 5, 5, 6, 4, 5, 5, 6, 5, 6, 6, 7, 1, 2, 2, 3, 2, 3, 3, 4, 2, 3, 3, 4, 3, 4, 4, 5, 2, 3, 3, 4, 3, 4, 4, 5, 3, 4, 4, 5, 4, 5, 5, 6, 2, 3, 3, 4, 3, 4, 4, 5, 3, 4, 4, 5, 4, 5, 5, 6, 3, 4, 4, 5, 4, 5, 5, 6, 4, 5, 5, 6, 5, 6, 6, 7, 2, 3, 3, 4, 3, 4, 4, 5, 3, 4, 4, 5, 4, 5, 5, 6, 3, 4, 4, 5, 4, 5, 5, 6, 4, 5, 5, 6, 5, 6, 6, 7, 3, 4, 4, 5, 4, 5, 5, 6, 4, 5, 5, 6, 5, 6, 6, 7, 4, 5, 5, 6, 5, 6, 6, 7, 5, 6, 6, 7, 6, 7, 7, 8]⟩
theorem popT_ok (b : UInt8) : (byteAt popT b.toNat).toNat = popB b :=
  eq_of_beq (Blo.all256 (fun b => (byteAt popT b.toNat).toNat == popB b) (by decide +kernel) b)
theorem popT_get (b : UInt8) (h : b.toNat < popT.size) : wrap64 ((popT[b.toNat]'h).toNat : Int) = ((popB b : Nat) : Int) := by
  rw [byteAt_get, popT_ok]
  have := popB_le b
  exact IntWalk.wrap64_in _ (by omega)
set_option maxRecDepth 100000 in
theorem popcount_any (b : UInt8) (w : World) :
    Calls Try.prog 62 #[.int .u8 (b.toNat : Int)] w fun e w' => e = .returned (.int .i64 ((popB b : Nat) : Int)) ∧ w = w' := by
  have hb : b.toNat < 256 := b.toNat_lt
  go_enter Try.func62, Try.ntmps62
  go_wp2
  go_ret
  refine ⟨?_, rfl⟩
  exact congrArg (fun n => Ending.returned (.int .i64 n)) (popT_get b (by show b.toNat < 256; exact hb))
set_option maxRecDepth 100000 in
theorem ones_any (w : World) (P g n cap H : Nat) (F : Nat → UInt8) (h : Flt w P g n cap H F) (hn : n ≤ 2097152) :
    Calls Try.prog 24 #[.pointer (some ⟨P, 0, none⟩)] w fun e w' => e = .returned (.int .i64 ((onesF F n : Nat) : Int)) ∧ w = w' := by
  have c1 : w.cell? ⟨P, 0, none⟩ = some (.slice (some ⟨g, 0, none⟩) n cap) := h.blk.cell 0
  have X := Lib.hid h
  clear h
  go_enter Try.func24, Try.ntmps24
  go_wp2
  go_loop [3, 5, 13] (fun x _ i => ∃ k : Nat, k ≤ n ∧ i = .int .i64 k ∧ x = .int .i64 ((onesF F k : Nat) : Int)) (fun _ _ i => n - (intOf i).toNat)
  case atStart => exact ⟨0, by omega, rfl, rfl⟩
  case round =>
    obtain ⟨k, hk, rfl, rfl⟩ := hrel
    by_cases hlt : k < n
    · have c2 : w.cell? ⟨g, k, none⟩ = some (.int .u8 ((F k).toNat : Int)) := X.out.buf.cell hlt
      have o1 := onesF_le F k
      have o2 := popB_le (F k)
      go_wp2_with fail
      refine (popcount_any (F k) _).mono ?_; rintro e w' ⟨rfl, rfl⟩
      have S : Hid ((onesF F k : Int) + (popB (F k) : Int) = ((onesF F (k + 1) : Nat) : Int)) := Lib.hid (by rw [onesF]; simp)
      go_wp2
      go_round
      case rel => exact ⟨k + 1, by omega, by go_num, by rw [← S.out]⟩
      case measure => simp [intOf]; omega
    · obtain rfl : k = n := by omega
      go_wp2
      go_ret
      exact ⟨rfl, rfl⟩
end Go.Proofs.Ytbfmdingbgdflaa
