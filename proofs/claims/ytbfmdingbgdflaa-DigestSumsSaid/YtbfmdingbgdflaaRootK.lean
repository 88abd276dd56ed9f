/- The constants are the primes' roots; the reference's root of each. No conditions. -/
import Derived.Test.YtbfmdingbgdflaaRefRoot
import Derived.Test.YtbfmdingbgdflaaSha
import Derived.Test.YtbfmdingbgdflaaDigP
namespace Go.Proofs.Ytbfmdingbgdflaa
open Go.RowKit Dig
def cuI (p : Nat) : Nat := if p < 8 then 1 else if p < 27 then 2 else if p < 64 then 3 else if p < 125 then 4 else if p < 216 then 5 else 6
def sqI (p : Nat) : Nat := if p < 4 then 1 else if p < 9 then 2 else if p < 16 then 3 else 4
def cuR (i : Nat) : Nat := cuI (prL.getD i 0) * 4294967296 + (kF i).toNat
def sqR (i : Nat) : Nat := sqI (prL.getD i 0) * 4294967296 + (firstF i).toNat
theorem cu_all : ((List.range 64).all fun i => decide ((cuR i) ^ 3 ≤ prL.getD i 0 * pw 3) && decide (prL.getD i 0 * pw 3 < (cuR i + 1) ^ 3)) = true := by decide +kernel
theorem sq_all : ((List.range 8).all fun i => decide ((sqR i) ^ 2 ≤ prL.getD i 0 * pw 2) && decide (prL.getD i 0 * pw 2 < (sqR i + 1) ^ 2)) = true := by decide +kernel
theorem cu_root (i : Nat) (h : i < 64) : Root (prL.getD i 0) 3 (cuR i) := by
  have := List.all_eq_true.1 cu_all i (List.mem_range.2 h)
  rw [Bool.and_eq_true] at this
  exact ⟨of_decide_eq_true this.1, of_decide_eq_true this.2⟩
theorem sq_root (i : Nat) (h : i < 8) : Root (prL.getD i 0) 2 (sqR i) := by
  have := List.all_eq_true.1 sq_all i (List.mem_range.2 h)
  rw [Bool.and_eq_true] at this
  exact ⟨of_decide_eq_true this.1, of_decide_eq_true this.2⟩
theorem pr_small (i : Nat) (h : i < 64) : prL.getD i 0 ≤ 311 := by
  have hl : i < prL.length := by rw [pr_len]; exact h
  rw [List.getD_eq_getElem?_getD, List.getElem?_eq_getElem hl]
  have := List.all_eq_true.1 pr_bd _ (List.getElem_mem hl)
  exact (of_decide_eq_true this).2
theorem low32 (a : Nat) (b : UInt32) : (a * 4294967296 + b.toNat) % 4294967296 = b.toNat := by
  have : b.toNat < 4294967296 := b.toNat_lt
  omega
theorem root_cu (i p : Nat) (h : i < 64) (hp : prL.getD i 0 = p) (w : World) :
    Calls Try.prog 80 #[.int .u64 (p : Int), .int .i64 3] w fun e w' => e = .returned (.int .u32 ((kF i).toNat : Int)) ∧ Below w.heap.size w w' := by
  subst hp
  refine (root_any (prL.getD i 0) 3 w (pr_small i h) (.inr rfl)).mono ?_
  rintro e w' ⟨⟨r, hr, rfl⟩, hb⟩
  rw [root_one (by omega) hr (cu_root i h), cuR, low32]
  exact ⟨rfl, hb⟩
theorem root_sq (i p : Nat) (h : i < 8) (hp : prL.getD i 0 = p) (w : World) :
    Calls Try.prog 80 #[.int .u64 (p : Int), .int .i64 2] w fun e w' => e = .returned (.int .u32 ((firstF i).toNat : Int)) ∧ Below w.heap.size w w' := by
  subst hp
  refine (root_any (prL.getD i 0) 2 w (pr_small i (by omega)) (.inl rfl)).mono ?_
  rintro e w' ⟨⟨r, hr, rfl⟩, hb⟩
  rw [root_one (by omega) hr (sq_root i h), sqR, low32]
  exact ⟨rfl, hb⟩
end Go.Proofs.Ytbfmdingbgdflaa
