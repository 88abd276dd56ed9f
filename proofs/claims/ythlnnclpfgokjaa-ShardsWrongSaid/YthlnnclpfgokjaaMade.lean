/- Walks: field.Unit, field.Cauchy, field.Product. -/
import Derived.Test.YthlnnclpfgokjaaTexts
namespace Go.Proofs.Ythlnnclpfgokjaa
open Go.RowKit Gf
/-- A matrix as rows of bytes. -/
def mat (r c : Nat) (F : Nat → Nat → UInt8) : List ByteArray := (List.range r).map fun i => bs ((List.range c).map fun j => F i j)
theorem mat_length (r c : Nat) (F : Nat → Nat → UInt8) : (mat r c F).length = r := by simp [mat]
theorem mat_congr {r c : Nat} {F F' : Nat → Nat → UInt8} (h : ∀ i j, i < r → j < c → F i j = F' i j) : mat r c F = mat r c F' := by
  unfold mat
  refine List.map_congr_left fun i hi => ?_
  congr 1
  exact List.map_congr_left fun j hj => h i j (by simpa using hi) (by simpa using hj)
theorem textsL_mat (G : Nat → UInt8) (f m n : Nat) : textsL G f m n = mat n m fun i j => G (i * 128 + f + j) := rfl
/-- What a function answers that tells a list of texts and an error's number. -/
def RetStrs (w w' : World) (e : Ending) (r : List ByteArray × Int) : Prop :=
  ∃ v, e = .returned (.tuple #[v, .int .i64 r.2]) ∧ w'.ownsRow w.heap.size 9 1 v r.1.length (strV r.1) ∧ Below w.heap.size w w'
theorem retNil (w : World) (k : Int) (r : List ByteArray × Int) (hr : r = ([], k)) {w' : World} (h : Below w.heap.size w w') : RetStrs w w' (.returned (.tuple #[.slice none 0 0, .int .i64 k])) r := by
  subst hr
  exact ⟨_, rfl, World.ownsRow_nil _ _ _ _, h⟩

def unitR (n : Int) : List ByteArray × Int := if 1 ≤ n ∧ n ≤ 64 then (mat n.toNat n.toNat (fun i j => if i = j then 1 else 0), 0) else ([], 1)
theorem unit_any (n : Int) (w : World) :
    Calls Try.prog 25 #[.int .i64 n] w fun e w' => RetStrs w w' e (unitR n) := by
  by_cases h : n < 1 ∨ 64 < n
  · have X : Hid (unitR n = ([], 1)) := Lib.hid (by unfold unitR; rw [if_neg]; omega)
    rcases h with h | h
    · go_enter Try.func25, Try.ntmps25
      go_wp2
      go_ret2
      exact retNil w 1 _ X.out (Below.refl _ _)
    · go_enter Try.func25, Try.ntmps25
      go_wp2
      go_ret2
      exact retNil w 1 _ X.out (Below.refl _ _)
  · obtain ⟨m, rfl⟩ : ∃ m : Nat, n = m := ⟨n.toNat, by omega⟩
    have h1 : 1 ≤ m := by omega
    have h2 : m ≤ 64 := by omega
    have X : Hid (unitR (m : Int) = (mat m m (fun i j => if i = j then 1 else 0), 0)) := Lib.hid (by unfold unitR; rw [if_pos (by omega)]; rfl)
    clear h
    have hmk := fun W => rows_made W m h2
    go_enter Try.func25, Try.ntmps25
    go_wp2
    clear hmk
    go_loopw [5, 16] (fun _ i wr => ∃ k : Nat, k ≤ m ∧ i = .int .i64 k ∧ Hid (wr.rowIs w.heap.size 72 (m * 128) (u8V fun x => if x / 128 < k ∧ x % 128 = x / 128 then 1 else 0) ∧ Below w.heap.size w wr)) (fun _ i _ => m - (intOf i).toNat)
    case atStart =>
      refine ⟨0, by omega, rfl, Lib.hid ⟨(rows_new w m).congr fun i hi => ?_, (Below.refl _ _).alloc (Nat.le_refl _) _⟩⟩
      simp only [u8V]; rw [if_neg (by omega)]
    case round =>
      obtain ⟨k, hk, rfl, HR⟩ := hrel
      by_cases hlt : k < m
      · have hc1 : ∃ v, wr.cell? ⟨w.heap.size, k * 128 + k, none⟩ = some v := ⟨_, HR.out.1.cell (by omega)⟩
        obtain ⟨v1, hc1⟩ := hc1
        have hf1 : wr.frozen? ⟨w.heap.size, k * 128 + k, none⟩ = false := HR.out.1.frozen _
        go_wp2
        go_roundw
        case rel =>
          refine ⟨k + 1, by omega, by go_num, Lib.hid ⟨(HR.out.1.set (k * 128 + k) _).congr fun i hi => ?_, HR.out.2.setCell (Nat.le_refl _) _⟩⟩
          simp only [u8V]
          by_cases e : i = k * 128 + k
          · rw [if_pos e, if_pos (by omega)]; rfl
          · rw [if_neg e]
            by_cases h3 : i / 128 < k ∧ i % 128 = i / 128
            · rw [if_pos h3, if_pos (by omega)]
            · rw [if_neg h3, if_neg (by omega)]
        case measure => simp [intOf]; omega
      · obtain rfl : k = m := by omega
        go_wp2_with (go_at_call 57; refine (texts_any _ w.heap.size (k * 128) k k _ 0 k HR.out.1 (by omega) (by omega) (by omega) (by omega) (by omega)).mono ?_; rintro e w2 ⟨v2, rfl, ho2, hb2⟩)
        go_ret2
        refine ⟨v2, by rw [X.out]; rfl, ?_, HR.out.2.trans (hb2.mono HR.out.2.size)⟩
        rw [X.out]
        have e1 : textsL (fun x => if x / 128 < k ∧ x % 128 = x / 128 then 1 else 0) 0 k k = mat k k (fun i j => if i = j then 1 else 0) := by
          rw [textsL_mat]
          refine mat_congr fun i j hi hj => ?_
          have e1 : (i * 128 + 0 + j) / 128 = i := by omega
          have e2 : (i * 128 + 0 + j) % 128 = j := by omega
          rw [e1, e2]
          by_cases e : i = j
          · rw [if_pos e, if_pos ⟨hi, e.symm⟩]
          · rw [if_neg e, if_neg (fun h => e h.2.symm)]
        rw [e1] at ho2
        rw [mat_length]
        exact own_base ho2 HR.out.2.size

/-- The number at row i, column j of a Cauchy matrix. -/
def cauA (i j : Nat) : UInt8 := UInt8.ofNat (128 + i) ^^^ UInt8.ofNat j
def cauF (i j : Nat) : UInt8 := inv (cauA i j)
def cauR (r c : Int) : List ByteArray × Int := if 1 ≤ r ∧ r ≤ 64 ∧ 1 ≤ c ∧ c ≤ 64 then (mat r.toNat c.toNat cauF, 0) else ([], 1)
theorem inverse_x (x : Int) (u : UInt8) (hx : x = (u.toNat : Int)) (w : World) :
    Calls Try.prog 55 #[.int .u8 x] w fun e w' => e = .returned (.int .u8 ((inv u).toNat : Int)) ∧ w' = w := by
  subst hx; exact swapW (inverse_any u w)
theorem u8_nat (n : Nat) (h : n < 256) : (n : Int) = ((UInt8.ofNat n).toNat : Int) := by rw [UInt8.toNat_ofNat']; omega
theorem cau_bits (i j : Nat) (hi : i < 64) (hj : j < 64) : bits .xor .u8 (128 + (i : Int)) (j : Int) = ((UInt8.ofNat (128 + i) ^^^ UInt8.ofNat j).toNat : Int) := by
  rw [← xor_bits, ← u8_nat _ (by omega), ← u8_nat _ (by omega)]; simp

theorem cau_bitsW (i j : Nat) (hi : i < 64) (hj : j < 64) : bits .xor .u8 (IntKind.u8.wrap (IntKind.i64.wrap (128 + (i : Int)))) (IntKind.u8.wrap (j : Int)) = ((cauA i j).toNat : Int) := by
  rw [IntWalk.i64_in _ (by omega), IntWalk.u8_in _ (by omega), IntWalk.u8_in _ (by omega)]
  exact cau_bits i j hi hj

theorem cauchy_bad (r c : Int) (w : World) (h : r < 1 ∨ 64 < r ∨ c < 1 ∨ 64 < c) :
    Calls Try.prog 27 #[.int .i64 r, .int .i64 c] w fun e w' => RetStrs w w' e (cauR r c) := by
  have X : Hid (cauR r c = ([], 1)) := Lib.hid (by unfold cauR; rw [if_neg]; omega)
  by_cases h1 : r < 1
  · go_enter Try.func27, Try.ntmps27
    go_wp2
    go_ret2
    exact retNil w 1 _ X.out (Below.refl _ _)
  by_cases h2 : 64 < r
  · go_enter Try.func27, Try.ntmps27
    go_wp2
    go_ret2
    exact retNil w 1 _ X.out (Below.refl _ _)
  by_cases h3 : c < 1
  · go_enter Try.func27, Try.ntmps27
    go_wp2
    go_ret2
    exact retNil w 1 _ X.out (Below.refl _ _)
  have h4 : 64 < c := by omega
  clear h
  go_enter Try.func27, Try.ntmps27
  go_wp2
  go_ret2
  exact retNil w 1 _ X.out (Below.refl _ _)

def cauG (n k j : Nat) : Nat → UInt8 := fun x => if (x / 128 < k ∧ x % 128 < n) ∨ (x / 128 = k ∧ x % 128 < j) then cauF (x / 128) (x % 128) else 0
theorem cau_set {n k j x : Nat} (hj : j < 128) : (if x = k * 128 + j then (.int .u8 ((cauF k j).toNat : Int)) else u8V (cauG n k j) x) = u8V (cauG n k (j + 1)) x := by
  simp only [u8V, cauG]
  by_cases e : x = k * 128 + j
  · have e1 : x / 128 = k := by omega
    have e2 : x % 128 = j := by omega
    rw [if_pos e, e1, e2, if_pos (.inr ⟨rfl, by omega⟩)]
  · rw [if_neg e]
    by_cases h : (x / 128 < k ∧ x % 128 < n) ∨ (x / 128 = k ∧ x % 128 < j)
    · rw [if_pos h, if_pos (by omega)]
    · rw [if_neg h, if_neg (by omega)]

set_option maxRecDepth 100000 in
set_option maxHeartbeats 400000 in
theorem cauchy_any (r c : Int) (w : World) :
    Calls Try.prog 27 #[.int .i64 r, .int .i64 c] w fun e w' => RetStrs w w' e (cauR r c) := by
  by_cases h : r < 1 ∨ 64 < r ∨ c < 1 ∨ 64 < c
  · exact cauchy_bad r c w h
  obtain ⟨m, rfl⟩ : ∃ m : Nat, r = m := ⟨r.toNat, by omega⟩
  obtain ⟨n, rfl⟩ : ∃ m : Nat, c = m := ⟨c.toNat, by omega⟩
  have h1 : 1 ≤ m := by omega
  have h2 : m ≤ 64 := by omega
  have h3 : 1 ≤ n := by omega
  have h4 : n ≤ 64 := by omega
  have X : Hid (cauR (m : Int) (n : Int) = (mat m n cauF, 0)) := Lib.hid (by unfold cauR; rw [if_pos (by omega)]; rfl)
  clear h
  have hmk := fun W => rows_made W m h2
  go_enter Try.func27, Try.ntmps27
  go_wp2
  clear hmk
  go_loopw [7, 8, 27, 31] (fun _ _ i _ wr => ∃ k : Nat, k ≤ m ∧ i = .int .i64 k ∧ Hid (wr.rowIs w.heap.size 72 (m * 128) (u8V (cauG n k 0)) ∧ Below w.heap.size w wr)) (fun _ _ i _ _ => m - (intOf i).toNat)
  case atStart =>
    refine ⟨0, by omega, rfl, Lib.hid ⟨(rows_new w m).congr fun i hi => ?_, (Below.refl _ _).alloc (Nat.le_refl _) _⟩⟩
    simp only [u8V, cauG]; rw [if_neg (by omega)]
  case round =>
    obtain ⟨k, hk, rfl, HR⟩ := hrel
    by_cases hlt : k < m
    · go_wp2
      obtain ⟨wo, rfl⟩ : ∃ wo : World, wo = wr := ⟨_, rfl⟩
      go_loopw [8, 31] (fun _ i wr => ∃ j : Nat, j ≤ n ∧ i = .int .i64 j ∧ Hid (wr.rowIs w.heap.size 72 (m * 128) (u8V (cauG n k j)) ∧ Below w.heap.size w wr)) (fun _ i _ => n - (intOf i).toNat)
      case atStart => exact ⟨0, by omega, rfl, HR⟩
      case round =>
        obtain ⟨j, hj, rfl, HI⟩ := hrel
        by_cases hjl : j < n
        · have hc1 : ∃ v, wr.cell? ⟨w.heap.size, k * 128 + j, none⟩ = some v := ⟨_, HI.out.1.cell (by omega)⟩
          obtain ⟨v1, hc1⟩ := hc1
          have hf1 : wr.frozen? ⟨w.heap.size, k * 128 + j, none⟩ = false := HI.out.1.frozen _
          have hj128 : (j : Int) < 128 := by omega
          have Y := Lib.hid (cau_bitsW k j (by omega) (by omega))
          go_wp2
          refine wp_region_still_tail 12 (by kernel_rfl) (by kernel_rfl) ?_
          simp only [List.take_succ_cons, List.take_zero, List.drop_succ_cons, List.drop_zero]
          repeat still_step
          still_call (inverse_x _ _ Y.out _)
          repeat still_step
          try refine wpStill_nil ?_
          go_wp2
          go_roundw
          case rel => exact ⟨j + 1, by omega, by go_num, Lib.hid ⟨(HI.out.1.drew.set (k * 128 + j) _).congr fun i hi => cau_set (by omega), (HI.out.2.drew).setCell (Nat.le_refl _) _⟩⟩
          case measure => simp [intOf]; omega
        · obtain rfl : j = n := by omega
          go_wp2
          go_roundw
          case rel =>
            refine ⟨k + 1, by omega, by go_num, Lib.hid ⟨HI.out.1.congr fun i hi => ?_, HI.out.2⟩⟩
            simp only [u8V, cauG]
            by_cases h : (i / 128 < k ∧ i % 128 < j) ∨ (i / 128 = k ∧ i % 128 < j)
            · rw [if_pos h, if_pos (by omega)]
            · rw [if_neg h, if_neg (by omega)]
          case measure => simp [intOf]; omega
    · obtain rfl : k = m := by omega
      go_wp2_with (go_at_call 57; refine (texts_any _ w.heap.size (k * 128) k k _ 0 n HR.out.1 (by omega) (by omega) (by omega) (by omega) (by omega)).mono ?_; rintro e w2 ⟨v2, rfl, ho2, hb2⟩)
      go_ret2
      refine ⟨v2, by rw [X.out]; rfl, ?_, HR.out.2.trans (hb2.mono HR.out.2.size)⟩
      rw [X.out]
      have e1 : textsL (cauG n k 0) 0 n k = mat k n cauF := by
        rw [textsL_mat]
        refine mat_congr fun i j hi hj => ?_
        have e1 : (i * 128 + 0 + j) / 128 = i := by omega
        have e2 : (i * 128 + 0 + j) % 128 = j := by omega
        simp only [cauG]
        rw [e1, e2, if_pos (.inl ⟨hi, hj⟩)]
      rw [e1] at ho2
      rw [mat_length]
      exact own_base ho2 HR.out.2.size
end Go.Proofs.Ythlnnclpfgokjaa
