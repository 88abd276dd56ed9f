/- Walks: the filter's places by either closure, Has, Add. -/
import Derived.Test.YtbfmdingbgdflaaBloA
namespace Go.Proofs.Ytbfmdingbgdflaa
open Go.RowKit Blo
set_option linter.unusedVariables false
theorem ofInt_64 (a : Nat) (ha : a < 18446744073709551616) : (BitVec.ofInt 64 (a : Int)).toNat = a := by
  rw [BitVec.ofInt_natCast, BitVec.toNat_ofNat]; exact Nat.mod_eq_of_lt (by omega)
theorem i64_and_nat (a b : Nat) (ha : a < 9223372036854775808) (hb : b < 9223372036854775808) : bits .and .i64 (a : Int) (b : Int) = ((a &&& b : Nat) : Int) := by
  have hx : a &&& b < 2 ^ 63 := Nat.and_lt_two_pow _ (by omega)
  show IntKind.i64.wrap ((BitVec.ofInt 64 (a : Int) &&& BitVec.ofInt 64 (b : Int)).toNat : Int) = _
  rw [BitVec.toNat_and, ofInt_64 a (by omega), ofInt_64 b (by omega)]
  exact IntWalk.i64_in _ (by omega)
theorem i64_or_nat (a b : Nat) (ha : a < 9223372036854775808) (hb : b < 9223372036854775808) : bits .or .i64 (a : Int) (b : Int) = ((a ||| b : Nat) : Int) := by
  have hx : a ||| b < 2 ^ 63 := Nat.or_lt_two_pow (by omega) (by omega)
  show IntKind.i64.wrap ((BitVec.ofInt 64 (a : Int) ||| BitVec.ofInt 64 (b : Int)).toNat : Int) = _
  rw [BitVec.toNat_or, ofInt_64 a (by omega), ofInt_64 b (by omega)]
  exact IntWalk.i64_in _ (by omega)
theorem beN_step (I : Nat → UInt8) (h k : Nat) (hk : k < 4) : bits .or .i64 ((beN I h k : Int) * 256) ((I (4 * h + k)).toNat : Int) = ((beN I h (k + 1) : Nat) : Int) := by
  have h1 := beN_lt I h k
  have h2 : beN I h k < 256 ^ 3 := Nat.lt_of_lt_of_le h1 (Nat.pow_le_pow_right (by omega) (by omega))
  have h3 := (I (4 * h + k)).toNat_lt
  have e : (beN I h k : Int) * 256 = ((beN I h k * 256 : Nat) : Int) := by simp
  rw [e, i64_or_nat _ _ (by omega) (by omega)]
  congr 1
  rw [beN, Nat.mul_comm, show 256 = 2 ^ 8 from rfl, ← Nat.two_pow_add_eq_or_of_lt (by omega)]
theorem plc_mask (I : Nat → UInt8) (n h m : Nat) (hn : 8 * n = 2 ^ m) (hm : m ≤ 40) : bits .and .i64 ((beN I h 4 : Nat) : Int) (8 * (n : Int) - 1) = ((plc I n h : Nat) : Int) := by
  have h1 := beN_lt I h 4
  have h2 : 2 ^ m ≤ 2 ^ 40 := Nat.pow_le_pow_right (by omega) hm
  have h3 : 0 < 2 ^ m := Nat.two_pow_pos m
  have e : 8 * (n : Int) - 1 = ((2 ^ m - 1 : Nat) : Int) := by omega
  rw [e, i64_and_nat _ _ (by omega) (by omega), Nat.and_two_pow_sub_one_eq_mod, plc, beN_four, hn]
def cutId (N : Nat) : Prop := ∀ (W : World) (h : Nat), h < 8 → (Instr.sliceAt 28 (.pointer (some ⟨N, 0, none⟩)) (some (.int .i64 (4 * (h : Int)))) (some (.int .i64 (4 * (h : Int) + 4))) none).run Try.prog W = .ok (.slice (some ⟨N, 4 * h, none⟩) 4 (32 - 4 * h)) W
theorem cut_id (N : Nat) : cutId N := by
  intro W h hh
  have hi : (Try.prog.info? 5).isSome = true := by kernel_rfl
  obtain ⟨i, hi⟩ := Option.isSome_iff_exists.1 hi
  have hz : (Try.prog.info? 5).map (·.size) = some 1 := by kernel_rfl
  rw [hi] at hz
  have hz1 : i.size = 1 := by simpa using hz
  have := run_cut_array (P := Try.prog) W (t := 28) (n := 32) (by kernel_rfl) hi hz1 ⟨N, 0, none⟩ .i64 .i64 (4 * (h : Int)) (4 * (h : Int) + 4) (4 * h) (4 * h + 4) (by simp) (by simp) (by omega) (by omega) (by omega)
  rw [this]
  have ea : ({ block := N, off := 0, spot := none } : Addr).add (4 * h) = ⟨N, 4 * h, none⟩ := by unfold Addr.add; split <;> simp_all
  rw [ea, show 4 * h + 4 - 4 * h = 4 from by omega]
attribute [local go_sem ↓] execOp_ld32 execOp_st32
attribute [local go_sem] run_ld32 run_st32
set_option maxRecDepth 100000 in
set_option maxHeartbeats 400000 in
theorem placesHas_any (w : World) (b P g n cap H m : Nat) (F I : Nat → UInt8) (hb : w.cell? ⟨b, 0, none⟩ = some (.pointer (some ⟨P, 0, none⟩))) (hbg : b ≠ g) (h : Flt w P g n cap H F) (hn : 8 * n = 2 ^ m) (hm : m ≤ 24) (hH : H ≤ 8) :
    Calls Try.prog 54 #[.pointer (some ⟨P, 0, none⟩), .agg (idA I), .func (.func 55) #[] #[.pointer (some ⟨b, 0, none⟩)]] w fun e w' => e = .returned (.bool (hasF F I n H)) ∧ Below w.heap.size w w' := by
  have hn2 : 8 * n ≤ 16777216 := by rw [hn]; exact Nat.pow_le_pow_right (by omega) hm
  have hn1 : 1 ≤ 8 * n := by rw [hn]; exact Nat.two_pow_pos m
  have HN := Lib.hid hn
  have X := Lib.hid h
  have CI := Lib.hid (cut_id w.heap.size)
  have HB := Lib.hid hb
  have hP := h.blk.lt
  have hg := h.buf.lt
  have hbl : b < w.heap.size := World.block_lt_of_cell? w _ hb
  have c1 : (w.alloc (.cells (idA I) 28)).cell? ⟨P, 1, none⟩ = some (.int .i64 (H : Int)) := (h.blk.alloc _).cell 1
  have RI := Lib.hid (id_row w I 28)
  have XA : Hid (Flt (w.alloc (.cells (idA I) 28)) P g n cap H F) := Lib.hid (h.below ((Below.refl _ _).alloc (Nat.le_refl _) _))
  clear hn h hb
  go_enter Try.func54, Try.ntmps54
  go_wp2
  clear c1
  have HG : Hid ((w.alloc (.cells (idA I) 28)).heap.size = w.heap.size + 1 ∧ (fun wr : World => Below w.heap.size w wr) (w.alloc (.cells (idA I) 28))) := Lib.hid ⟨by simp, (Below.refl _ _).alloc (Nat.le_refl _) _⟩
  go_loopw [7, 8, 10, 15] (fun _ _ _ i wr => ∃ h : Nat, h ≤ H ∧ i = .int .i64 h ∧ Hid (wr.rowIs w.heap.size 28 32 (u8V I) ∧ wr.cell? ⟨b, 0, none⟩ = some (.pointer (some ⟨P, 0, none⟩)) ∧ Below w.heap.size w wr ∧ (Flt wr P g n cap H F ∧ hasF F I n h = true))) (fun _ _ _ i _ => H - (intOf i).toNat)
  case atStart => exact ⟨0, by omega, rfl, Lib.hid ⟨RI.out, (World.cell?_alloc_lt w _ _ hbl).trans HB.out, HG.out.2, XA.out, rfl⟩⟩
  case round =>
    obtain ⟨h, hh, rfl, HR⟩ := hrel
    by_cases hlt : h < H
    · have hcut := CI.out
      have h8 : h < 8 := by omega
      have hct : (Instr.sliceAt 28 (.pointer (some ⟨w.heap.size, 0, none⟩)) (some (.int .i64 (4 * (h : Int)))) (some (.int .i64 (4 * (h : Int) + 4))) none).run Try.prog wr = .ok (.slice (some ⟨w.heap.size, 4 * h, none⟩) 4 (32 - 4 * h)) wr := hcut wr h h8
      clear hcut
      go_wp2
      clear hct
      obtain ⟨wo, rfl⟩ : ∃ wo : World, wo = wr := ⟨_, rfl⟩
      go_loop [8, 10, 25] (fun x _ i => ∃ k : Nat, k ≤ 4 ∧ i = .int .i64 k ∧ x = .int .i64 ((beN I h k : Nat) : Int)) (fun _ _ i => 4 - (intOf i).toNat)
      case atStart => exact ⟨0, by omega, rfl, rfl⟩
      case round =>
        obtain ⟨k, hk, rfl, rfl⟩ := hrel
        by_cases hk4 : k < 4
        · have hcell : wo.cell? ⟨w.heap.size, 4 * h + k, none⟩ = some (.int .u8 ((I (4 * h + k)).toNat : Int)) := HR.out.1.cell (by omega)
          have hb256 : (I (4 * h + k)).toNat < 256 := (I (4 * h + k)).toNat_lt
          have hbe : beN I h k < 16777216 := Nat.lt_of_lt_of_le (beN_lt I h k) (Nat.pow_le_pow_right (by omega) (by omega : k ≤ 3))
          have BS := Lib.hid (beN_step I h k hk4)
          go_wp2
          go_round
          case rel => exact ⟨k + 1, by omega, by go_num, by rw [← BS.out]⟩
          case measure => simp [intOf]; omega
        · obtain rfl : k = 4 := by omega
          have c2 : wo.cell? ⟨P, 0, none⟩ = some (.slice (some ⟨g, 0, none⟩) n cap) := HR.out.2.2.2.1.blk.cell 0
          have PM := Lib.hid (plc_mask I n h m HN.out (by omega))
          have hpl : plc I n h < 8 * n := Nat.mod_lt _ (by omega)
          go_wp2_with fail
          rw [PM.out]
          by_cases hbit : bitF F (plc I n h) = true
          · refine (hasAt_any wo b P g n cap H F (plc I n h) HR.out.2.1 HR.out.2.2.2.1 hpl (by omega)).mono ?_
            rintro e w' ⟨rfl, rfl⟩
            rw [hbit]
            have HF : Hid (hasF F I n (h + 1) = true) := Lib.hid (by rw [hasF, hbit, Bool.and_true]; exact HR.out.2.2.2.2)
            clear hbit c2
            go_wp2
            go_roundw
            case rel => exact ⟨h + 1, by omega, by go_num, Lib.hid ⟨HR.out.1, HR.out.2.1, HR.out.2.2.1, HR.out.2.2.2.1, HF.out⟩⟩
            case measure => simp [intOf]; omega
          · rw [Bool.not_eq_true] at hbit
            refine (hasAt_any wo b P g n cap H F (plc I n h) HR.out.2.1 HR.out.2.2.2.1 hpl (by omega)).mono ?_
            rintro e w' ⟨rfl, rfl⟩
            rw [hbit]
            have HF : Hid (hasF F I n H = false) := Lib.hid (has_false F I n H h hlt hbit)
            clear hbit c2
            go_wp2
            go_ret
            exact ⟨by rw [HF.out]; rfl, HR.out.2.2.1⟩
    · obtain rfl : h = H := by omega
      go_wp2
      go_ret
      exact ⟨by rw [HR.out.2.2.2.2]; rfl, HR.out.2.2.1⟩
attribute [local go_sem ↓] execOp_ld32 execOp_st32
attribute [local go_sem] run_ld32 run_st32
set_option maxRecDepth 100000 in
set_option maxHeartbeats 400000 in
theorem placesAdd_any (w : World) (b P g n cap H m : Nat) (F I : Nat → UInt8) (hb : w.cell? ⟨b, 0, none⟩ = some (.pointer (some ⟨P, 0, none⟩))) (hbg : b ≠ g) (h : Flt w P g n cap H F) (hn : 8 * n = 2 ^ m) (hm : m ≤ 24) (hH : H ≤ 8) :
    Calls Try.prog 54 #[.pointer (some ⟨P, 0, none⟩), .agg (idA I), .func (.func 70) #[] #[.pointer (some ⟨b, 0, none⟩)]] w fun e w' => e = .returned (.bool true) ∧ Flt w' P g n cap H (addF F I n H) ∧ w.grownBy w' (some g) := by
  have hn2 : 8 * n ≤ 16777216 := by rw [hn]; exact Nat.pow_le_pow_right (by omega) hm
  have hn1 : 1 ≤ 8 * n := by rw [hn]; exact Nat.two_pow_pos m
  have HN := Lib.hid hn
  have X := Lib.hid h
  have CI := Lib.hid (cut_id w.heap.size)
  have HB := Lib.hid hb
  have hP := h.blk.lt
  have hg := h.buf.lt
  have hbl : b < w.heap.size := World.block_lt_of_cell? w _ hb
  have c1 : (w.alloc (.cells (idA I) 28)).cell? ⟨P, 1, none⟩ = some (.int .i64 (H : Int)) := (h.blk.alloc _).cell 1
  have RI := Lib.hid (id_row w I 28)
  have XA : Hid (Flt (w.alloc (.cells (idA I) 28)) P g n cap H F) := Lib.hid (h.below ((Below.refl _ _).alloc (Nat.le_refl _) _))
  clear hn h hb
  go_enter Try.func54, Try.ntmps54
  go_wp2
  clear c1
  have HG : Hid ((w.alloc (.cells (idA I) 28)).heap.size = w.heap.size + 1 ∧ (fun wr : World => w.grownBy wr (some g)) (w.alloc (.cells (idA I) 28))) := Lib.hid ⟨by simp, only_alloc (World.grownBy.refl _ _) _⟩
  go_loopw [7, 8, 10, 15] (fun _ _ _ i wr => ∃ h : Nat, h ≤ H ∧ i = .int .i64 h ∧ Hid (wr.rowIs w.heap.size 28 32 (u8V I) ∧ wr.cell? ⟨b, 0, none⟩ = some (.pointer (some ⟨P, 0, none⟩)) ∧ w.grownBy wr (some g) ∧ (Flt wr P g n cap H (addF F I n h)))) (fun _ _ _ i _ => H - (intOf i).toNat)
  case atStart => exact ⟨0, by omega, rfl, Lib.hid ⟨RI.out, (World.cell?_alloc_lt w _ _ hbl).trans HB.out, HG.out.2, XA.out⟩⟩
  case round =>
    obtain ⟨h, hh, rfl, HR⟩ := hrel
    by_cases hlt : h < H
    · have hcut := CI.out
      have h8 : h < 8 := by omega
      have hct : (Instr.sliceAt 28 (.pointer (some ⟨w.heap.size, 0, none⟩)) (some (.int .i64 (4 * (h : Int)))) (some (.int .i64 (4 * (h : Int) + 4))) none).run Try.prog wr = .ok (.slice (some ⟨w.heap.size, 4 * h, none⟩) 4 (32 - 4 * h)) wr := hcut wr h h8
      clear hcut
      go_wp2
      clear hct
      obtain ⟨wo, rfl⟩ : ∃ wo : World, wo = wr := ⟨_, rfl⟩
      go_loop [8, 10, 25] (fun x _ i => ∃ k : Nat, k ≤ 4 ∧ i = .int .i64 k ∧ x = .int .i64 ((beN I h k : Nat) : Int)) (fun _ _ i => 4 - (intOf i).toNat)
      case atStart => exact ⟨0, by omega, rfl, rfl⟩
      case round =>
        obtain ⟨k, hk, rfl, rfl⟩ := hrel
        by_cases hk4 : k < 4
        · have hcell : wo.cell? ⟨w.heap.size, 4 * h + k, none⟩ = some (.int .u8 ((I (4 * h + k)).toNat : Int)) := HR.out.1.cell (by omega)
          have hb256 : (I (4 * h + k)).toNat < 256 := (I (4 * h + k)).toNat_lt
          have hbe : beN I h k < 16777216 := Nat.lt_of_lt_of_le (beN_lt I h k) (Nat.pow_le_pow_right (by omega) (by omega : k ≤ 3))
          have BS := Lib.hid (beN_step I h k hk4)
          go_wp2
          go_round
          case rel => exact ⟨k + 1, by omega, by go_num, by rw [← BS.out]⟩
          case measure => simp [intOf]; omega
        · obtain rfl : k = 4 := by omega
          have c2 : wo.cell? ⟨P, 0, none⟩ = some (.slice (some ⟨g, 0, none⟩) n cap) := HR.out.2.2.2.blk.cell 0
          have PM := Lib.hid (plc_mask I n h m HN.out (by omega))
          have hpl : plc I n h < 8 * n := Nat.mod_lt _ (by omega)
          go_wp2_with fail
          rw [PM.out]
          refine (addAt_any wo b P g n cap H (addF F I n h) (plc I n h) HR.out.2.1 HR.out.2.2.2 hpl (by omega)).mono ?_
          rintro e w2 ⟨rfl, hf2, hg2⟩
          have hbo : b < wo.heap.size := World.block_lt_of_cell? wo _ HR.out.2.1
          have hgw : g ≠ w.heap.size := by omega
          have HR' : Hid (w2.rowIs w.heap.size 28 32 (u8V I) ∧ w2.cell? ⟨b, 0, none⟩ = some (.pointer (some ⟨P, 0, none⟩)) ∧ w.grownBy w2 (some g) ∧ Flt w2 P g n cap H (addF F I n (h + 1))) :=
            Lib.hid ⟨HR.out.1.of_block (hg2.block _ HR.out.1.lt (fun e => hgw (by injection e with e; exact e.symm))), (World.cell?_of_block (hg2.block b hbo (fun e => hbg (by injection e)))).trans HR.out.2.1, grown_both HR.out.2.2.1 hg2, hf2⟩
          clear hf2 hg2 c2
          go_wp2
          go_roundw
          case rel => exact ⟨h + 1, by omega, by go_num, HR'⟩
          case measure => simp [intOf]; omega
    · obtain rfl : h = H := by omega
      go_wp2
      go_ret
      exact ⟨rfl, HR.out.2.2.2, HR.out.2.2.1⟩
end Go.Proofs.Ytbfmdingbgdflaa
