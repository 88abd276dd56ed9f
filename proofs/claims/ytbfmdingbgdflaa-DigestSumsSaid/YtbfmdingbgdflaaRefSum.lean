/- Walk: the reference's Sum, with constants worked out from the primes. Conditions: at most 2^24 bytes. -/
import Derived.Test.YtbfmdingbgdflaaRefQ
import Derived.Test.YtbfmdingbgdflaaRefPrimes
import Derived.Test.YtbfmdingbgdflaaRootK
import Derived.Test.YtbfmdingbgdflaaDigNil
namespace Go.Proofs.Ytbfmdingbgdflaa
open Go.RowKit Dig
set_option linter.unusedVariables false
set_option linter.unusedSimpArgs false
attribute [local go_sem ↓] execOp_ld8 execOp_st8 execOp_ld32 execOp_st32 execOp_ld64 execOp_st64
attribute [local go_sem] run_ld8 run_st8 run_ld32 run_st32 run_ld64 run_st64
def upF (f : Nat → UInt32) (k : Nat) : Nat → UInt32 := fun i => if i < k then f i else 0
theorem upF_step (f : Nat → UInt32) (k i : Nat) : (if i = k then Value.int .u32 ((f k).toNat : Int) else uV (upF f k) i) = uV (upF f (k + 1)) i := by
  simp only [uV, upF]
  by_cases e : i = k
  · rw [if_pos e, if_pos (by omega), e]
  · rw [if_neg e]
    by_cases h : i < k
    · rw [if_pos h, if_pos (by omega)]
    · rw [if_neg h, if_neg (by omega)]
theorem upF_end (f : Nat → UInt32) (k i : Nat) (h : i < k) : uV (upF f k) i = uV f i := by simp only [uV, upF]; rw [if_pos h]
/-- What the two loops keep. -/
structure Sm (w wr : World) (g K H : Nat) (A : Option Addr) (f h : Nat → UInt32) : Prop where
  id : wr.rowIs g 28 32 (fun _ => .int .u8 0)
  k : wr.rowIs K 93 64 (uV f)
  h : wr.rowIs H 89 8 (uV h)
  p : Reads wr K 1 A 64 (pV prL)
  low : g < K
  mid : K < H
  b1 : w.heap.size ≤ g
  below : Below w.heap.size w wr
theorem Sm.step {w wr w' : World} {g K H : Nat} {A : Option Addr} {f h : Nat → UInt32} (s : Sm w wr g K H A f h) (hb : Below wr.heap.size wr w') : Sm w w' g K H A f h :=
  ⟨s.id.of_block (hb.block _ s.id.lt), s.k.of_block (hb.block _ s.k.lt), s.h.of_block (hb.block _ s.h.lt), s.p.below (hb.mono (Nat.le_of_lt s.k.lt)), s.low, s.mid, s.b1, s.below.trans (hb.mono s.below.size)⟩
set_option maxRecDepth 100000 in
set_option maxHeartbeats 0 in
theorem rsum_any (s : ByteArray) (w : World) (hs : s.size ≤ 16777216) :
    Calls Try.prog 41 #[.string s] w fun e w' => e = .returned (.agg (idA (shaF (byteAt s) s.size))) ∧ Below w.heap.size w w' := by
  have Z := Lib.hid (zero_one w)
  go_enter Try.func41, Try.ntmps41
  go_upto_region 1 with fail
  change Code.wp _ _ _ _ (w.alloc zeroId)
  generalize w.alloc zeroId = w1 at Z ⊢
  go_wp2_with fail
  refine (primes_any w1).mono ?_; rintro e w2 ⟨⟨A, c, rfl, hrd⟩, hb2⟩
  have Z2 : Hid (w2.rowIs w.heap.size 28 32 (fun _ => .int .u8 0) ∧ Reads w2 w2.heap.size 1 A 64 (pV prL) ∧ Below w.heap.size w w2) := Lib.hid ⟨Z.out.1.of_block (hb2.block _ Z.out.1.lt), hrd, Z.out.2.trans (hb2.mono Z.out.2.size)⟩
  clear hb2 hrd Z
  go_upto_region 4 with fail
  change Code.wp _ _ _ _ ((w2.alloc zero64).alloc zero8)
  have S0 : Hid (Sm w ((w2.alloc zero64).alloc zero8) w.heap.size w2.heap.size (w2.heap.size + 1) A (upF kF 0) (upF firstF 0)) := Lib.hid (by
    have z8 := zeros_row (w2.alloc zero64) (T := 89) (n := 8) (z := .int .u32 0) (c := #[.int .u32 0, .int .u32 0, .int .u32 0, .int .u32 0, .int .u32 0, .int .u32 0, .int .u32 0, .int .u32 0]) rfl
    rw [show (w2.alloc zero64).heap.size = w2.heap.size + 1 from by simp] at z8
    have z8' : ((w2.alloc zero64).alloc zero8).rowIs (w2.heap.size + 1) 89 8 (fun _ => .int .u32 0) := z8
    exact ⟨(Z2.out.1.alloc _).alloc _, ((zero64_row w2).alloc _).congr (fun i _ => rfl), z8'.congr (fun i _ => rfl), (Z2.out.2.1.alloc (Nat.le_refl _) _).alloc (by simp) _, Z2.out.1.lt, by omega, Nat.le_refl _, (Z2.out.2.2.alloc Z2.out.2.2.size _).alloc (by have := Z2.out.2.2.size; simp; omega) _⟩)
  generalize (w2.alloc zero64).alloc zero8 = w3 at S0 ⊢
  obtain ⟨K, hK⟩ : ∃ K, w2.heap.size = K := ⟨_, rfl⟩
  obtain ⟨g, hg⟩ : ∃ g, w.heap.size = g := ⟨_, rfl⟩
  have HG := Lib.hid hg
  rw [hK, hg] at S0
  try rw [hK]
  try rw [hg]
  clear hK hg Z2
  go_wp2
  go_loopw [6] (fun i wr => ∃ k : Nat, k ≤ 64 ∧ i = .int .i64 (k : Int) ∧ Hid (Sm w wr g K (K + 1) A (upF kF k) (upF firstF 0))) (fun i _ => 64 - (intOf i).toNat)
  case atStart => exact ⟨0, by omega, rfl, S0⟩
  case round =>
    obtain ⟨k, hk, rfl, HR⟩ := hrel
    by_cases hlt : k < 64
    · have hki : (k : Int) < 64 := by omega
      obtain ⟨ad, rfl, hb, ck⟩ := HR.out.p.u64 hlt
      obtain ⟨x, hx⟩ : ∃ x, prL.getD k 0 = x := ⟨_, rfl⟩
      rw [hx] at ck
      have HX := Lib.hid hx
      clear hx
      go_wp2_with fail
      refine (root_cu k x hlt HX.out _).mono ?_; rintro e w4 ⟨rfl, hb4⟩
      have R4 := Lib.hid (HR.out.step hb4)
      clear hb4 ck
      obtain ⟨v1, hc1⟩ : ∃ v, w4.cell? ⟨K, k, none⟩ = some v := ⟨_, R4.out.k.cell hlt⟩
      have hf1 : w4.frozen? ⟨K, k, none⟩ = false := R4.out.k.frozen _
      go_wp2
      go_roundw
      case rel =>
        have hl := R4.out.low
        have hm := R4.out.mid
        exact ⟨k + 1, by omega, by go_num, Lib.hid ⟨R4.out.id.of_block (Below.heap_setCell _ _ _ _ (by show g ≠ K; omega)), (R4.out.k.set k _).congr fun i _ => upF_step kF k i, R4.out.h.of_block (Below.heap_setCell _ _ _ _ (by show K + 1 ≠ K; omega)), R4.out.p.setCell (Nat.le_refl _) _, hl, hm, R4.out.b1, R4.out.below.setCell (by have := R4.out.b1; show _ ≤ K; omega) _⟩⟩
      case measure => simp [intOf]; omega
    · obtain rfl : k = 64 := by omega
      rw [show ((64 : Nat) : Int) = 64 from rfl]
      go_wp2
      go_loopw [7] (fun i wx => ∃ k : Nat, k ≤ 8 ∧ i = .int .i64 (k : Int) ∧ Hid (Sm w wx g K (K + 1) A (upF kF 64) (upF firstF k))) (fun i _ => 8 - (intOf i).toNat)
      case atStart => exact ⟨0, by omega, rfl, HR⟩
      case round =>
        obtain ⟨k, hk, rfl, HX⟩ := hrel
        by_cases hlt2 : k < 8
        · have hki : (k : Int) < 8 := by omega
          have hk64 : (k : Int) < 64 := by omega
          obtain ⟨ad, rfl, hb, ck⟩ := HX.out.p.u64 (show k < 64 by omega)
          obtain ⟨x, hx⟩ : ∃ x, prL.getD k 0 = x := ⟨_, rfl⟩
          rw [hx] at ck
          have HXX := Lib.hid hx
          clear hx
          go_wp2_with fail
          refine (root_sq k x hlt2 HXX.out _).mono ?_; rintro e w4 ⟨rfl, hb4⟩
          have R4 := Lib.hid (HX.out.step hb4)
          clear hb4 ck
          obtain ⟨v1, hc1⟩ : ∃ v, w4.cell? ⟨K + 1, k, none⟩ = some v := ⟨_, R4.out.h.cell hlt2⟩
          have hf1 : w4.frozen? ⟨K + 1, k, none⟩ = false := R4.out.h.frozen _
          go_wp2
          go_roundw
          case rel =>
            have hl := R4.out.low
            have hm := R4.out.mid
            exact ⟨k + 1, by omega, by go_num, Lib.hid ⟨R4.out.id.of_block (Below.heap_setCell _ _ _ _ (by show g ≠ K + 1; omega)), R4.out.k.of_block (Below.heap_setCell _ _ _ _ (by show K ≠ K + 1; omega)), (R4.out.h.set k _).congr fun i _ => upF_step firstF k i, R4.out.p.setCell (by show K ≤ K + 1; omega) _, hl, hm, R4.out.b1, R4.out.below.setCell (by have := R4.out.b1; show _ ≤ K + 1; omega) _⟩⟩
          case measure => simp [intOf]; omega
        · obtain rfl : k = 8 := by omega
          have r64 := HX.out.k.congr (fun i hi => upF_end kF 64 i hi)
          have r8 := HX.out.h.congr (fun i hi => upF_end firstF 8 i hi)
          have o64 := ok64_of r64 (off := 0) (by omega)
          have e64 := row64_u r64
          have o8 := ok8_of r8 (off := 0) (by omega)
          have e8 := row8_u r8
          obtain ⟨A8, hA8⟩ : ∃ A, uA 8 firstF = A := ⟨_, rfl⟩
          obtain ⟨A64, hA64⟩ : ∃ A, uA 64 kF = A := ⟨_, rfl⟩
          rw [hA8] at e8
          rw [hA64] at e64
          have H8 := Lib.hid hA8
          have H64 := Lib.hid hA64
          obtain ⟨I, hI⟩ : ∃ I, shaF (byteAt s) s.size = I := ⟨_, rfl⟩
          have HI := Lib.hid hI
          clear hA8 hA64 hI r64 r8
          rw [show ((8 : Nat) : Int) = 8 from rfl]
          go_wp2_with fail
          refine (refSum_v H8.out H64.out s HI.out _ hs).mono ?_; rintro e w5 ⟨rfl, hb5⟩
          have R5 := HX.out.step hb5
          have o5 := ok32_of R5.id (off := 0) (by omega)
          have f5 := idA_full I
          have HP := Lib.hid (id_put (w := w) I R5.id R5.below R5.b1)
          clear R5 o64 e64 o8 e8 hb5
          go_wp2
          exact bodyPost_ret (v := .agg (idA I)) (results_cell_row rfl _ _ g 28 _ (0, 0) _ rfl HP.out.1 Try.underlying28 rfl (by rw [idA_size]; kernel_rfl)) rfl ⟨by rw [HI.out], HP.out.2⟩
end Go.Proofs.Ytbfmdingbgdflaa
