/- Walk: the law FieldNames returns true. -/
import Derived.Test.YthlnnclpfgokjaaAwake
import Derived.Test.YthlnnclpfgokjaaFieldPowersW
import Derived.Test.YthlnnclpfgokjaaInv
namespace Go.Proofs.Ythlnnclpfgokjaa
open Go.RowKit Gf
set_option linter.unusedVariables false
def lit1 : List ByteArray := [⟨#[1, 1]⟩, ⟨#[1, 1]⟩]
theorem lit1_inv : invR lit1 = ([], 60) := by decide +kernel
def lit0 : List ByteArray := [⟨#[]⟩]
theorem lit0_chk : chkV lit0 = .tuple #[.int .i64 0, .int .i64 0, .int .i64 1] := by
  rw [chk_no]; decide
theorem nil_chk : chkV [] = .tuple #[.int .i64 0, .int .i64 0, .int .i64 1] := by
  rw [chk_no]; decide
theorem lit1_sz : ∀ s ∈ lit1, s.size ≤ 9223372036854775807 := by decide
theorem inverse_lit (A : Option Addr) (n c : Nat) (a : List ByteArray) (w : World) (B : Nat) (h : Reads w B 1 A n (strV a)) (hB : B ≤ w.heap.size) (hn : n ≤ 9223372036854775807) (hz : ∀ s ∈ a, s.size ≤ 9223372036854775807) (hr : invR a = ([], 60)) :
    Calls Try.prog 31 #[.slice A n c] w fun e w' => ∃ v, e = .returned (.tuple #[v, .int .i64 60]) ∧ Below w.heap.size w w' := by
  refine (inverseM_any A n c a w B h hB hn hz).mono ?_
  rintro e w' ⟨v, rfl, _, hb⟩
  rw [hr]
  exact ⟨v, rfl, hb⟩
theorem names_inv (w : World) (N : Nat) (hN : N = w.heap.size) : Calls Try.prog 31 #[.slice (some ⟨N, 0, none⟩) 2 2] (w.alloc (.cells #[.string ⟨#[1, 1]⟩, .string ⟨#[1, 1]⟩] 9)) fun e w' => ∃ v, e = .returned (.tuple #[v, .int .i64 60]) ∧ Below w.heap.size w w' := by
  subst hN
  have R1 : Reads (w.alloc (.cells #[.string ⟨#[1, 1]⟩, .string ⟨#[1, 1]⟩] 9)) (w.heap.size + 1) 1 (some ⟨w.heap.size, 0, none⟩) 2 (strV lit1) := Reads.lit w 9 _ (strV lit1) 2 rfl rfl
  refine (inverse_lit _ 2 2 lit1 _ (w.heap.size + 1) R1 (by simp) (by decide) lit1_sz lit1_inv).mono ?_
  rintro e w3 ⟨v, rfl, hb⟩
  exact ⟨v, rfl, ((Below.refl _ _).alloc (Nat.le_refl _) _).trans (hb.mono (by simp))⟩
set_option maxRecDepth 100000 in
theorem fieldNames_walk (w : World) : Calls Try.prog 7 #[] w fun e w' => e = .returned (.bool true) ∧ Below w.heap.size w w' := by
  have L1 := Lib.hid lit1_inv
  have L0 := Lib.hid lit0_chk
  have S1 := Lib.hid lit1_sz
  have LN := Lib.hid nil_chk
  have E1 : Hid (overB 1 0 = (0, 1)) := Lib.hid (by decide)
  have E2 : Hid (powB 0 (-1) = (0, 1)) := Lib.hid (by decide)
  have E3 : Hid (powB 0 0 = (1, 0)) := Lib.hid (by decide)
  go_enter Try.func7, Try.ntmps7
  go_wp2_with fail
  refine (over_any 1 0 _).mono ?_; rintro e w' ⟨rfl, hw⟩; subst hw
  rw [E1.out]; unfold num
  go_wp2_with fail
  refine (powG_any 0 (-1) (by omega) (by omega) _).mono ?_; rintro e w' ⟨rfl, hw⟩; subst hw
  rw [E2.out]; unfold num
  go_wp2_with fail
  refine (powG_any 0 0 (by omega) (by omega) _).mono ?_; rintro e w' ⟨rfl, hw⟩; subst hw
  rw [E3.out]; unfold num
  go_wp2_with fail
  refine (check_any none 0 0 [] w w.heap.size Reads.none_ (by omega) (by simp)).mono ?_; rintro e w' ⟨rfl, m, rfl⟩
  rw [LN.out]
  have B1 := Lib.hid (below_drewN (Below.refl w.heap.size w) m)
  generalize w.drewN m = w1 at B1 ⊢
  go_wp2_with fail
  have R0 := Reads.lit w1 9 _ (strV lit0) 1 rfl rfl
  refine (check_any _ 1 1 lit0 _ (w1.heap.size + 1) R0 (by omega) (by decide)).mono ?_; rintro e w' ⟨rfl, m2, rfl⟩
  rw [L0.out]
  clear R0
  go_wp2_with fail
  refine (names_inv _ _ (by show w1.heap.size + 1 = (w1.alloc _).heap.size; simp)).mono ?_
  rintro e w3 ⟨v, rfl, hb⟩
  have B3 : Hid (Below w.heap.size w w3) := Lib.hid ((below_drewN (B1.out.alloc B1.out.size _) m2).trans (hb.mono (below_drewN (B1.out.alloc B1.out.size _) m2).size))
  clear hb
  go_wp2
  go_ret
  exact ⟨rfl, B3.out⟩
end Go.Proofs.Ythlnnclpfgokjaa
