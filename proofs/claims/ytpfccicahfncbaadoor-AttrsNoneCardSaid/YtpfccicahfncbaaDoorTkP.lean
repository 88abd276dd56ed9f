/- What wire's Reader takes, plainly. -/
import Derived.Test.YtpfccicahfncbaaDoorRead
namespace Go.Proofs.YtpfccicahfncbaaDoor
open Go.RowKit Wir
set_option linter.unusedVariables false
/-- The first n bytes, if there are so many. -/
def tk (s : ByteArray) (n : Nat) : ByteArray := s.extract 0 (min n s.size)
theorem tk_le (s : ByteArray) (n : Nat) (h : n ≤ s.size) : tk s n = s.extract 0 n := by unfold tk; rw [Nat.min_eq_left h]
theorem tk_ge (s : ByteArray) (n : Nat) (h : s.size ≤ n) : tk s n = s := by
  unfold tk; rw [Nat.min_eq_right h]
  simp
/-- What Take tells. -/
def tkR (s : ByteArray) (n : Nat) : ByteArray := if s.size < n then ⟨#[]⟩ else s.extract 0 n
def takeE (s : ByteArray) (n : Nat) : Int := if s.size < n then 4 else 0
def takeS (s : ByteArray) (n : Nat) : ByteArray := if s.size < n then s else s.extract n s.size
end Go.Proofs.YtpfccicahfncbaaDoor
