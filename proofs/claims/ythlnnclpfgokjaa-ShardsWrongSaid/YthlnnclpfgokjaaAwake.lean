/- Walk: awake returns true. -/
import Derived.Test.YthlnnclpfgokjaaProd
namespace Go.Proofs.Ythlnnclpfgokjaa
open Go.RowKit Gf
theorem times_x (x y : Int) (a b : UInt8) (hx : x = (a.toNat : Int)) (hy : y = (b.toNat : Int)) (w : World) :
    Calls Try.prog 22 #[.int .u8 x, .int .u8 y] w fun e w' => e = .returned (.int .u8 ((gm a b).toNat : Int)) ∧ w = w' := by
  subst hx hy; exact times_any a b w
theorem over_x (x y : Int) (a b : UInt8) (hx : x = (a.toNat : Int)) (hy : y = (b.toNat : Int)) (w : World) :
    Calls Try.prog 18 #[.int .u8 x, .int .u8 y] w fun e w' => e = .returned (num (overB a b)) ∧ w = w' := by
  subst hx hy; exact over_any a b w
/-- A literal list, just laid. -/
theorem Reads.lit (w : World) (T : TypeId) (cs : Array Value) (xs : List Value) (n : Nat) (h : cs = xs.toArray) (hn : n = xs.length) : Reads (w.alloc (.cells cs T)) (w.heap.size + 1) 1 (some ⟨w.heap.size, 0, none⟩) n xs := by
  subst h hn
  refine ⟨by omega, fun _ => ⟨_, rfl, by simp, fun j u hj => ?_⟩⟩
  have hj' : j < xs.length := by
    rcases Nat.lt_or_ge j xs.length with h | h
    · exact h
    · simp [h] at hj
  have := (World.rowIs_alloc w xs.toArray T (fun j => xs.getD j undef) (fun i hi => by simp at hi; simp [hi])).cell (i := j) (by simpa using hj')
  have ea : ({ block := w.heap.size, off := 0, spot := none } : Addr).add j = ⟨w.heap.size, j, none⟩ := by unfold Addr.add; split <;> simp_all
  rw [ea, this]
  simp [List.getD, hj]
def litA : List ByteArray := [⟨#[1, 2]⟩, ⟨#[0, 1]⟩]
def litB : List ByteArray := [⟨#[3]⟩, ⟨#[4]⟩]
def litC : List ByteArray := [⟨#[11]⟩, ⟨#[4]⟩]
theorem lit_prod : prodR litA litB = (litC, 0) := by decide +kernel

set_option maxRecDepth 100000 in
theorem awake_any (w : World) : Calls Try.prog 29 #[] w fun e w' => e = .returned (.bool true) ∧ Below w.heap.size w w' := by
  have LP := Lib.hid lit_prod
  go_enter Try.func29, Try.ntmps29
  go_wp2_with fail
  refine (over_x 1 2 1 2 rfl rfl _).mono ?_
  rintro e w' ⟨rfl, rfl⟩
  rw [show num (overB 1 2) = .tuple #[.int .u8 142, .int .i64 0] from rfl]
  go_wp2_with fail
  have R1 := Reads.lit w 9 _ (strV litA) 2 rfl rfl
  have R2 := Reads.lit (w.alloc (.cells (strV litA).toArray 9)) 9 _ (strV litB) 2 rfl rfl
  have R1' := R1.alloc (by simp) (.cells (strV litB).toArray 9)
  have e1 : (w.alloc (.cells (strV litA).toArray 9)).heap.size = w.heap.size + 1 := by simp
  rw [e1] at R2
  refine (product_any _ _ 2 2 2 2 litA litB _ (w.heap.size + 1) (w.heap.size + 1 + 1) R1' R2 (by simp) (by simp) (by omega) (by omega) ?_ ?_).mono ?_
  · decide
  · decide
  rintro e w2 ⟨v, rfl, ho, hb⟩
  rw [LP.out] at ho ⊢
  obtain ⟨A, c, rfl, hr⟩ := own_reads ho
  have HR := Lib.hid hr
  have HB : Hid (Below w.heap.size w w2) := Lib.hid ((((Below.refl _ _).alloc (Nat.le_refl _) _).alloc (by simp) _).trans (hb.mono (by simp; omega)))
  clear hr ho hb R1 R2 R1' e1
  go_wp2_with fail
  refine (times_x 2 128 2 128 rfl rfl _).mono ?_
  rintro e w3 ⟨rfl, rfl⟩
  rw [show ((gm 2 128).toNat : Int) = 29 from rfl]
  go_wp2_with fail
  have R3 := Reads.lit w2 9 _ (strV litC) 2 rfl rfl
  refine (same_any A _ 2 c 2 2 litC litC _ w2.heap.size (w2.heap.size + 1) (HR.out.alloc (Nat.le_refl _) _) R3 (by omega) (by omega)).mono ?_
  rintro e w4 ⟨rfl, m, rfl⟩
  rw [decide_eq_true rfl]
  clear R3
  go_wp2
  go_ret
  exact ⟨rfl, below_drewN (HB.out.alloc HB.out.size _) _⟩
end Go.Proofs.Ythlnnclpfgokjaa
