/- Walk: size, of the laws on shards: numbers of data and parity shards, out of any. -/
import Derived.Test.YthlnnclpfgokjaaShS
import Derived.Test.YthlnnclpfgokjaaFieldLawsW
namespace Go.Proofs.Ythlnnclpfgokjaa
open Go.RowKit Gf
set_option linter.unusedVariables false
set_option maxHeartbeats 1000000 in
theorem size_any (k m : Int) (w : World) (h1 : -9223372036854775808 ≤ k) (h2 : k ≤ 9223372036854775807) (h3 : -9223372036854775808 ≤ m) (h4 : m ≤ 9223372036854775807) :
    Calls Try.prog 53 #[.int .i64 k, .int .i64 m] w fun e w' => ∃ K M q : Nat, e = .returned (.tuple #[.int .i64 (K : Int), .int .i64 (M : Int)]) ∧ 1 ≤ K ∧ K ≤ 32 ∧ K + M ≤ 64 ∧ w' = w.drewN q := by
  obtain ⟨b1, b2⟩ := tmod_bd k 32 (by omega)
  obtain ⟨K, hK⟩ : ∃ K : Nat, 1 + k.tmod 32 % 32 = (K : Int) := ⟨(1 + k.tmod 32 % 32).toNat, by omega⟩
  have K1 : 1 ≤ K := by omega
  have K2 : K ≤ 32 := by omega
  obtain ⟨D, hD⟩ : ∃ D : Nat, 65 - (K : Int) = (D : Int) := ⟨65 - K, by omega⟩
  have D1 : 33 ≤ D := by omega
  have D2 : D ≤ 64 := by omega
  obtain ⟨c1, c2⟩ := tmod_bd m (D : Int) (by omega)
  obtain ⟨t, ht⟩ : ∃ t, m.tmod (D : Int) = t := ⟨_, rfl⟩
  rw [ht] at c1 c2
  obtain ⟨u, hu⟩ : ∃ u : Nat, t + 65 - (K : Int) = (u : Int) := ⟨(t + 65 - (K : Int)).toNat, by omega⟩
  obtain ⟨M, hM⟩ : ∃ M : Nat, u % D = M := ⟨_, rfl⟩
  have M1 : M < D := by rw [← hM]; exact Nat.mod_lt _ (by omega)
  have hm1 : (u : Int).tmod (D : Int) = (M : Int) := by rw [← hM, Int.tmod_eq_emod_of_nonneg (by omega)]; rfl
  have hm2 : (u : Int) % (D : Int) = (M : Int) := by rw [← hM]; rfl
  have w1 : IntKind.i64.wrap (65 - (K : Int)) = (D : Int) := by rw [hD]; exact IntWalk.i64_in _ (by omega)
  have w2 : IntKind.i64.wrap (t + 65) = t + 65 := IntWalk.i64_in _ (by omega)
  have w3 : IntKind.i64.wrap (t + 65 - (K : Int)) = (u : Int) := by rw [hu]; exact IntWalk.i64_in _ (by omega)
  have w4 : IntKind.i64.wrap (M : Int) = (M : Int) := IntWalk.i64_in _ (by omega)
  have w5 : IntKind.i64.wrap t = t := IntWalk.i64_in _ (by omega)
  have hD0 : ((D : Int) == 0) = false := by rw [beq_eq_false_iff_ne]; omega
  have RES : Hid (1 ≤ K ∧ K ≤ 32 ∧ K + M ≤ 64) := Lib.hid ⟨K1, K2, by omega⟩
  clear hM
  go_enter Try.func53, Try.ntmps53
  go_wp2
  go_quiet (fail)
  go_wp2
  go_ret2
  exact ⟨K, M, _, rfl, RES.out.1, RES.out.2.1, RES.out.2.2, rfl⟩
end Go.Proofs.Ythlnnclpfgokjaa
