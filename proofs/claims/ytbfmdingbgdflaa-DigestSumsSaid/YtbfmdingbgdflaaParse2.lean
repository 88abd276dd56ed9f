/- Walks: Parse of any text, digest's and the reference's. Conditions: the text can be held. -/
import Derived.Test.YtbfmdingbgdflaaRefUnhex
namespace Go.Proofs.Ytbfmdingbgdflaa
open Go.RowKit
set_option linter.unusedVariables false
attribute [local go_sem ↓] execOp_ld32 execOp_st32 execOp_ld16 execOp_st16
attribute [local go_sem] run_ld32 run_st32 run_ld16 run_st16
/-- A name in digits. -/
def pG (s : ByteArray) : Prop := s.size = 64 ∧ ∀ j, j < 64 → 0 ≤ dvB (byteAt s j)
open Classical in
noncomputable def pI (s : ByteArray) : Nat → UInt8 := if pG s then idOf s else zI
open Classical in
noncomputable def pE (s : ByteArray) : Int := if pG s then 0 else 4
theorem pG_not {s u : ByteArray} {k : Int} (h : ¬ pG s) (hu : UhR s u k) : k = 4 ∨ (k = 0 ∧ u.size ≠ 32) := by
  rcases hu with ⟨⟨h1, h2⟩, rfl, rfl⟩ | ⟨_, _, rfl⟩
  · refine .inr ⟨rfl, fun e => h ?_⟩
    rw [bs_size, unL_len] at e
    have h64 : s.size = 64 := by omega
    exact ⟨h64, fun j hj => h2 j (by omega)⟩
  · exact .inl rfl
theorem pG_yes {s u : ByteArray} {k : Int} (h : pG s) (hu : UhR s u k) : k = 0 ∧ u = bs (unL s 32) := by
  rcases hu with ⟨⟨h1, h2⟩, rfl, rfl⟩ | ⟨h3, _, rfl⟩
  · exact ⟨rfl, by rw [h.1]⟩
  · exact absurd ⟨by rw [h.1], fun j hj => h.2 j (by have := h.1; omega)⟩ h3
set_option maxRecDepth 100000 in
set_option maxHeartbeats 0 in
theorem parse_any (s : ByteArray) (w : World) (hs : s.size ≤ 140737488351232) :
    Calls Try.prog 37 #[.string s] w fun e w' => e = .returned (.tuple #[.agg (idA (pI s)), .int .i64 (pE s)]) ∧ Below w.heap.size w w' := by
  by_cases hp : pG s
  · unfold pI pE
    rw [if_pos hp, if_pos hp]
    exact parse64_any s w hp.1 hp.2
  have hI : pI s = zI := if_neg hp
  have hE : pE s = 4 := if_neg hp
  rw [hI, hE]
  clear hI hE
  have HP := Lib.hid hp
  clear hp
  have Z := zero_one w
  have hz : (w.alloc zeroId).heap.size = w.heap.size + 1 := by simp
  have f1 := idA_full zI
  have HZ := Lib.hid (And.intro Z hz)
  clear Z hz
  rw [← zero_lit] at f1
  go_enter Try.func37, Try.ntmps37
  go_wp2_with fail
  refine (unhex_any s (w.alloc zeroId) hs).mono ?_; rintro e w1 ⟨⟨u, k, rfl, hu⟩, hb⟩
  have hk := pG_not HP.out hu
  have R1 : w1.rowIs w.heap.size 28 32 (fun _ => .int .u8 0) := HZ.out.1.1.of_block (hb.block _ (by have := HZ.out.2; omega))
  have BB : Below w.heap.size w w1 := HZ.out.1.2.trans (hb.mono (by have := HZ.out.2; omega))
  obtain ⟨o1, HQ⟩ := zero_put BB R1
  have H := Lib.hid HQ
  clear R1 BB HQ hb hu
  rcases hk with rfl | ⟨rfl, h32⟩
  · go_wp2
    refine bodyPost_ret (results_row_tmp (p := 2) (u := 3) rfl _ _ w.heap.size 28 (idA zI) (0, 0) rfl H.out.1 Try.underlying28 (by rw [idA_size]; kernel_rfl)) rfl ⟨?_, H.out.2⟩
    rfl
  · have h32i : ¬ (u.size : Int) = 32 := by omega
    go_wp2
    refine bodyPost_ret (results_row_tmp (p := 2) (u := 3) rfl _ _ w.heap.size 28 (idA zI) (0, 0) rfl H.out.1 Try.underlying28 (by rw [idA_size]; kernel_rfl)) rfl ⟨?_, H.out.2⟩
    rfl
set_option maxRecDepth 100000 in
set_option maxHeartbeats 0 in
theorem rparse_any (s : ByteArray) (w : World) (hs : s.size ≤ 140737488351232) :
    Calls Try.prog 40 #[.string s] w fun e w' => e = .returned (.tuple #[.agg (idA (pI s)), .int .i64 (pE s)]) ∧ Below w.heap.size w w' := by
  have ZR := Lib.hid (zero_rows w)
  go_enter Try.func40, Try.ntmps40
  go_upto_region 2 with fail
  change Code.wp _ _ _ _ ((w.alloc zeroId).alloc zeroId)
  generalize (w.alloc zeroId).alloc zeroId = w2 at ZR ⊢
  go_wp2_with fail
  refine (runhex_any s w2 hs).mono ?_; rintro e w1 ⟨⟨u, k, rfl, hu⟩, hb⟩
  have R : Hid (w1.rowIs w.heap.size 28 32 (fun _ => .int .u8 0) ∧ w1.rowIs (w.heap.size + 1) 28 32 (fun _ => .int .u8 0) ∧ Below w.heap.size w w1) := Lib.hid ⟨ZR.out.1.of_block (hb.block _ ZR.out.1.lt), ZR.out.2.1.of_block (hb.block _ ZR.out.2.1.lt), ZR.out.2.2.trans (hb.mono ZR.out.2.2.size)⟩
  clear hb ZR
  by_cases hp : pG s
  · obtain ⟨rfl, rfl⟩ := pG_yes hp hu
    have hI : pI s = idOf s := if_pos hp
    have hE : pE s = 0 := if_pos hp
    have HR := Lib.hid (And.intro hI hE)
    clear hI hE hp hu
    obtain ⟨u, hu⟩ : ∃ u, bs (unL s 32) = u := ⟨_, rfl⟩
    have h32 : (u.size : Int) = 32 := by rw [← hu, bs_size, unL_len]; rfl
    have h32n : u.size = 32 := by omega
    have HU : Hid (∀ k, k < 32 → byteAt u k = idOf s k) := Lib.hid (fun k hk => by rw [← hu, bytes_bs]; rfl)
    rw [hu]
    clear hu
    go_wp2
    go_loopw [7] (fun i wr => ∃ k : Nat, k ≤ 32 ∧ i = .int .i64 k ∧ Hid (wr.rowIs w.heap.size 28 32 (fun _ => .int .u8 0) ∧ wr.rowIs (w.heap.size + 1) 28 32 (u8V (idS u k)) ∧ Below w.heap.size w wr)) (fun i _ => 32 - (intOf i).toNat)
    case atStart => exact ⟨0, by omega, rfl, Lib.hid ⟨R.out.1, R.out.2.1.congr fun i _ => by unfold idS; simp only [u8V]; rw [if_neg (by omega)]; rfl, R.out.2.2⟩⟩
    case round =>
      obtain ⟨k, hk, rfl, HL⟩ := hrel
      by_cases h2 : k < 32
      · obtain ⟨v1, hc1⟩ : ∃ v, wr.cell? ⟨w.heap.size + 1, k, none⟩ = some v := ⟨_, HL.out.2.1.cell h2⟩
        have hf1 : wr.frozen? ⟨w.heap.size + 1, k, none⟩ = false := HL.out.2.1.frozen _
        have hk32 : (k : Int) < 32 := by omega
        have hks : k < u.size := by omega
        have E := Lib.hid (byteAt_get u k hks)
        go_wp2
        go_roundw
        case rel =>
          refine ⟨k + 1, by omega, by go_num, Lib.hid ⟨HL.out.1.of_block (Below.heap_setCell _ _ _ _ (by show w.heap.size ≠ w.heap.size + 1; omega)), (HL.out.2.1.set k _).congr fun i hi => ?_, HL.out.2.2.setCell (by show _ ≤ w.heap.size + 1; omega) _⟩⟩
          simp only [u8V, idS]
          by_cases e : i = k
          · rw [if_pos e, if_pos (by omega), e, E.out]
          · rw [if_neg e]
            by_cases h3 : i < k
            · rw [if_pos h3, if_pos (by omega)]
            · rw [if_neg h3, if_neg (by omega)]
        case measure => simp [intOf]; omega
      · obtain rfl : k = 32 := by omega
        have E : Hid (row32 wr (w.heap.size + 1) 0 = idA (byteAt u)) := Lib.hid (id_end HL.out.2.1 (.inl (by omega)))
        have e1 := E.out
        have o1 := ok32_of HL.out.2.1 (off := 0) (by omega)
        have o2 := ok32_of HL.out.1 (off := 0) (by omega)
        have f1 := idA_full (byteAt u)
        have HQ := Lib.hid (id_put (byteAt u) HL.out.1 HL.out.2.2 (Nat.le_refl _))
        have EI : Hid (idA (byteAt u) = idA (idOf s)) := Lib.hid (idA_congr HU.out)
        clear HL
        rw [show ((32 : Nat) : Int) = 32 from rfl]
        go_wp2
        refine bodyPost_ret (results_row_tmp (p := 2) (u := 3) rfl _ _ w.heap.size 28 (idA (byteAt u)) (0, 0) rfl HQ.out.1 Try.underlying28 (by rw [idA_size]; kernel_rfl)) rfl ⟨?_, HQ.out.2⟩
        rw [EI.out, HR.out.1, HR.out.2]
        rfl
  · have hk := pG_not hp hu
    have hI : pI s = zI := if_neg hp
    have hE : pE s = 4 := if_neg hp
    have HI := Lib.hid (And.intro hI hE)
    clear hI hE hp hu
    have e1 : row32 w1 (w.heap.size + 1) 0 = idA zI := row32_id (R.out.2.1.congr fun i _ => rfl)
    have o1 := ok32_of R.out.2.1 (off := 0) (by omega)
    have o2 := ok32_of R.out.1 (off := 0) (by omega)
    have f1 := idA_full zI
    have HQ := Lib.hid (id_put zI R.out.1 R.out.2.2 (Nat.le_refl _))
    clear R
    rcases hk with rfl | ⟨rfl, h32⟩
    · go_wp2
      refine bodyPost_ret (results_row_tmp (p := 2) (u := 3) rfl _ _ w.heap.size 28 (idA zI) (0, 0) rfl HQ.out.1 Try.underlying28 (by rw [idA_size]; kernel_rfl)) rfl ⟨?_, HQ.out.2⟩
      rw [HI.out.1, HI.out.2]
      rfl
    · have h32i : ¬ (u.size : Int) = 32 := by omega
      go_wp2
      refine bodyPost_ret (results_row_tmp (p := 2) (u := 3) rfl _ _ w.heap.size 28 (idA zI) (0, 0) rfl HQ.out.1 Try.underlying28 (by rw [idA_size]; kernel_rfl)) rfl ⟨?_, HQ.out.2⟩
      rw [HI.out.1, HI.out.2]
      rfl
end Go.Proofs.Ytbfmdingbgdflaa
