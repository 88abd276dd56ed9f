/- Walks over rows: row.take, row.times. -/
import Derived.Test.YthlnnclpfgokjaaMem
import Derived.Test.YthlnnclpfgokjaaFieldA
import Derived.StillTailTactics
namespace Go.Proofs.Ythlnnclpfgokjaa
open Go.RowKit Gf
theorem swapW {P : Program} {f : FuncId} {args : Array Value} {w : World} {v : Value} (h : Calls P f args w fun e w' => e = .returned v ∧ w = w') : Calls P f args w fun e w' => e = .returned v ∧ w' = w :=
  h.mono fun _ _ ⟨he, hw⟩ => ⟨he, hw.symm⟩
/-- A row of bytes as values. -/
def u8V (G : Nat → UInt8) : Nat → Value := fun x => .int .u8 ((G x).toNat : Int)
/-- f times the numbers o, taken off the 128 from r on. -/
def takeG (G : Nat → UInt8) (r : Nat) (f : UInt8) (o : Nat → UInt8) (k : Nat) : Nat → UInt8 := fun x => if r ≤ x ∧ x < r + k then G x ^^^ gm f (o (x - r)) else G x

theorem take_step {w wr : World} {g N : Nat} {T : TypeId} {G : Nat → UInt8} {r : Nat} {f : UInt8} {o : Nat → UInt8} {k : Nat} {v : Int}
    (h : wr.rowIs g T N (u8V (takeG G r f o k)) ∧ w.grownBy wr (some g)) (hv : v = (((G (r + k)) ^^^ gm f (o k)).toNat : Int)) :
    (wr.drew.setCell ⟨g, r + k, none⟩ (.int .u8 v)).rowIs g T N (u8V (takeG G r f o (k + 1))) ∧ w.grownBy (wr.drew.setCell ⟨g, r + k, none⟩ (.int .u8 v)) (some g) := by
  refine ⟨(h.1.drew.set (r + k) (.int .u8 v)).congr fun i hi => ?_, only_setCell (only_drew h.2) (.inl rfl) _⟩
  by_cases e : i = r + k
  · subst e
    rw [if_pos rfl, hv]
    simp only [u8V, takeG]
    rw [if_pos ⟨by omega, by omega⟩, Nat.add_sub_cancel_left]
  · rw [if_neg e]
    simp only [u8V, takeG]
    by_cases h1 : r ≤ i ∧ i < r + k
    · rw [if_pos h1, if_pos ⟨by omega, by omega⟩]
    · rw [if_neg h1, if_neg (by omega)]

theorem take_src {w wr : World} {g N : Nat} {T : TypeId} {G : Nat → UInt8} {r : Nat} {f : UInt8} {g' N' p : Nat} {S : Nat → UInt8} {o : Nat → UInt8} {k : Nat}
    (h : wr.rowIs g T N (u8V (takeG G r f o k)) ∧ w.grownBy wr (some g)) (hS : w.rowIs g' T N' (u8V S)) (hp : p + 128 ≤ N')
    (hne : g' ≠ g ∨ (g' = g ∧ N' = N ∧ S = G ∧ (p + 128 ≤ r ∨ r + 128 ≤ p))) (hk : k < 128) : wr.cell? ⟨g', p + k, none⟩ = some (.int .u8 ((S (p + k)).toNat : Int)) := by
  rcases hne with hne | ⟨rfl, rfl, rfl, hd⟩
  · exact (hS.of_block (h.2.block g' hS.lt (fun e => hne (by injection e)))).cell (by omega)
  · rw [h.1.cell (i := p + k) (by omega)]
    simp only [u8V, takeG]
    rw [if_neg (by omega)]

set_option maxRecDepth 100000 in
/-- A row of another grid, or another row of this one, times f is taken off a row. -/
theorem take_any (w : World) (g N : Nat) (G : Nat → UInt8) (r : Nat) (f : UInt8) (g' N' p : Nat) (S : Nat → UInt8)
    (hG : w.rowIs g 72 N (u8V G)) (hr : r + 128 ≤ N)
    (hS : w.rowIs g' 72 N' (u8V S)) (hp : p + 128 ≤ N')
    (hne : g' ≠ g ∨ (g' = g ∧ N' = N ∧ S = G ∧ (p + 128 ≤ r ∨ r + 128 ≤ p))) :
    Calls Try.prog 60 #[.pointer (some ⟨g, r, none⟩), .int .u8 (f.toNat : Int), .pointer (some ⟨g', p, none⟩)] w
      fun e w' => e = .returned (.tuple #[]) ∧ w'.rowIs g 72 N (u8V (takeG G r f (fun j => S (p + j)) 128)) ∧ w.grownBy w' (some g) := by
  have HS := Lib.hid hS
  have HN := Lib.hid hne
  have HG := Lib.hid hG
  clear hS hne hG
  go_enter Try.func60, Try.ntmps60
  go_wp2
  go_loopw [7] (fun i wr => ∃ k : Nat, k ≤ 128 ∧ i = .int .i64 k ∧ Hid (wr.rowIs g 72 N (u8V (takeG G r f (fun j => S (p + j)) k)) ∧ w.grownBy wr (some g))) (fun i _ => 128 - (intOf i).toNat)
  case atStart => exact ⟨0, by omega, rfl, Lib.hid ⟨HG.out.congr fun i hi => by simp only [u8V, takeG]; rw [if_neg (by omega)], World.grownBy.refl _ _⟩⟩
  case round =>
    obtain ⟨k, hk, rfl, H⟩ := hrel
    by_cases hlt : k < 128
    · have hc1 : wr.cell? ⟨g, r + k, none⟩ = some (.int .u8 ((G (r + k)).toNat : Int)) := by
        have := H.out.1.cell (i := r + k) (by omega)
        rw [this]; simp [u8V, takeG]
      have hc2 := take_src H.out HS.out hp HN.out hlt
      have X := Lib.hid (xor_bits (G (r + k)) (gm f (S (p + k))))
      have hf1 : wr.frozen? ⟨g, r + k, none⟩ = false := H.out.1.frozen _
      go_wp2
      refine wp_region_still_tail 15 (by kernel_rfl) (by kernel_rfl) ?_
      simp only [List.take_succ_cons, List.take_zero, List.drop_succ_cons, List.drop_zero]
      repeat still_step
      still_call (swapW (times_any _ _ _))
      repeat still_step
      try refine wpStill_nil ?_
      go_wp2
      go_roundw
      case rel => exact ⟨k + 1, by omega, by go_num, Lib.hid (take_step H.out X.out)⟩
      case measure => simp [intOf]; omega
    · obtain rfl : k = 128 := by omega
      go_wp2
      go_end0
      exact ⟨rfl, H.out.1, H.out.2⟩

def timesG (G : Nat → UInt8) (r : Nat) (f : UInt8) (k : Nat) : Nat → UInt8 := fun x => if r ≤ x ∧ x < r + k then gm (G x) f else G x
theorem times_step {w wr : World} {g N : Nat} {T : TypeId} {G : Nat → UInt8} {r : Nat} {f : UInt8} {k : Nat}
    (h : wr.rowIs g T N (u8V (timesG G r f k)) ∧ w.grownBy wr (some g)) :
    (wr.drew.setCell ⟨g, r + k, none⟩ (.int .u8 ((gm (G (r + k)) f).toNat : Int))).rowIs g T N (u8V (timesG G r f (k + 1))) ∧ w.grownBy (wr.drew.setCell ⟨g, r + k, none⟩ (.int .u8 ((gm (G (r + k)) f).toNat : Int))) (some g) := by
  refine ⟨(h.1.drew.set (r + k) _).congr fun i hi => ?_, only_setCell (only_drew h.2) (.inl rfl) _⟩
  by_cases e : i = r + k
  · subst e
    rw [if_pos rfl]
    simp only [u8V, timesG]
    rw [if_pos ⟨by omega, by omega⟩]
  · rw [if_neg e]
    simp only [u8V, timesG]
    by_cases h1 : r ≤ i ∧ i < r + k
    · rw [if_pos h1, if_pos ⟨by omega, by omega⟩]
    · rw [if_neg h1, if_neg (by omega)]
set_option maxRecDepth 100000 in
theorem timesRow_any (w : World) (g N : Nat) (G : Nat → UInt8) (r : Nat) (f : UInt8)
    (hG : w.rowIs g 72 N (u8V G)) (hr : r + 128 ≤ N) :
    Calls Try.prog 69 #[.pointer (some ⟨g, r, none⟩), .int .u8 (f.toNat : Int)] w
      fun e w' => e = .returned (.tuple #[]) ∧ w'.rowIs g 72 N (u8V (timesG G r f 128)) ∧ w.grownBy w' (some g) := by
  have HG := Lib.hid hG
  clear hG
  go_enter Try.func69, Try.ntmps69
  go_wp2
  go_loopw [5] (fun i wr => ∃ k : Nat, k ≤ 128 ∧ i = .int .i64 k ∧ Hid (wr.rowIs g 72 N (u8V (timesG G r f k)) ∧ w.grownBy wr (some g))) (fun i _ => 128 - (intOf i).toNat)
  case atStart => exact ⟨0, by omega, rfl, Lib.hid ⟨HG.out.congr fun i hi => by simp only [u8V, timesG]; rw [if_neg (by omega)], World.grownBy.refl _ _⟩⟩
  case round =>
    obtain ⟨k, hk, rfl, H⟩ := hrel
    by_cases hlt : k < 128
    · have hc1 : wr.cell? ⟨g, r + k, none⟩ = some (.int .u8 ((G (r + k)).toNat : Int)) := by
        have := H.out.1.cell (i := r + k) (by omega)
        rw [this]; simp [u8V, timesG]
      have hf1 : wr.frozen? ⟨g, r + k, none⟩ = false := H.out.1.frozen _
      go_wp2
      refine wp_region_still_tail 11 (by kernel_rfl) (by kernel_rfl) ?_
      simp only [List.take_succ_cons, List.take_zero, List.drop_succ_cons, List.drop_zero]
      repeat still_step
      still_call (swapW (times_any _ _ _))
      repeat still_step
      try refine wpStill_nil ?_
      go_wp2
      go_roundw
      case rel => exact ⟨k + 1, by omega, by go_num, Lib.hid (times_step H.out)⟩
      case measure => simp [intOf]; omega
    · obtain rfl : k = 128 := by omega
      go_wp2
      go_end0
      exact ⟨rfl, H.out.1, H.out.2⟩
end Go.Proofs.Ythlnnclpfgokjaa
