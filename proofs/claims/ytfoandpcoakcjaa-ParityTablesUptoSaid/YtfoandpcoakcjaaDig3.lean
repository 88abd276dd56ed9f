/- Walk: digest's State.Sum. No conditions. -/
import Derived.Test.YtfoandpcoakcjaaShaP
import Derived.Test.YtfoandpcoakcjaaRow10
import Derived.Test.YtfoandpcoakcjaaId
import Derived.Deep.DeepCutAuto
namespace Go.Proofs.Ytfoandpcoakcjaa
open Go.RowKit Dig
set_option linter.unusedVariables false
set_option linter.unusedSimpArgs false
attribute [local go_sem ↓] execOp_ld10 execOp_st10 execOp_ld32 execOp_st32
attribute [local go_sem] run_ld10 run_st10 run_ld32 run_st32
def zeroSt : Array Value := #[.int .u32 0, .int .u32 0, .int .u32 0, .int .u32 0, .int .u32 0, .int .u32 0, .int .u32 0, .int .u32 0, .string { data := #[] }, .int .u64 0]
def shaI (F : Nat → UInt8) (n i : Nat) : Nat → UInt8 := fun j => if j < i then shaF F n j else 0
theorem tail_size (u : ByteArray) : (u.extract (64 * (u.size / 64)) u.size).size = u.size - 64 * (u.size / 64) := by rw [ByteArray.size_extract]; omega
theorem row10_st {W : World} {p m : Nat} {T : TypeId} {u : ByteArray} (h : W.rowIs p T 10 (stV u m)) : full10 (row10 W p 0) = true := row10_full h (by omega) (fun x => by
  unfold stV; split
  · rfl
  · split <;> rfl)
theorem end_copy {w : World} {p : Nat} {u : ByteArray} (h : St w p u) (o : Obj) : ok10 ((w.alloc o).alloc (.cells zeroSt 152)) (w.heap.size + 1) 0 = true ∧ St (put10 ((w.alloc o).alloc (.cells zeroSt 152)) (w.heap.size + 1) 0 (row10 (w.alloc o) p 0)) (w.heap.size + 1) u ∧
    Below (w.heap.size + 1) (w.alloc o) (put10 ((w.alloc o).alloc (.cells zeroSt 152)) (w.heap.size + 1) 0 (row10 (w.alloc o) p 0)) := by
  have ha : (w.alloc o).rowIs p 152 10 (stV u (u.size / 64)) := h.alloc o
  have z := World.rowIs_alloc (w.alloc o) zeroSt 152 (fun j => zeroSt.toList.getD j undef) (fun i hi => by
    rw [List.getD_eq_getElem?_getD, Array.getElem?_toList, Array.getElem?_eq_getElem hi]; rfl)
  rw [← size1, show zeroSt.size = 10 from rfl] at z
  obtain ⟨q1, q2⟩ := put10_row z 0 (row10 (w.alloc o) p 0) (by decide) (row10_st ha)
  refine ⟨ok10_of z (by decide), q1.congr fun i hi => ?_, ?_⟩
  · rw [if_pos (by omega), Nat.sub_zero, row10_eq ha i hi]
  · have e : (w.alloc o).heap.size = w.heap.size + 1 := by simp
    have b := below_grown ((Below.refl _ _).alloc (Nat.le_refl (w.alloc o).heap.size) (.cells zeroSt 152)) q2 (fun g hg => by cases hg; omega)
    rw [e] at b; exact b
set_option maxRecDepth 100000 in
set_option maxHeartbeats 0 in
theorem stateSum_any (p : Nat) (u : ByteArray) (w : World) (h : St w p u) (hu : u.size ≤ 1152921504606846976) :
    Calls Try.prog 73 #[.pointer (some ⟨p, 0, none⟩)] w fun e w' => e = .returned (.tuple #[.agg (idA (shaF (byteAt u) u.size)), .int .i64 0]) ∧ Below w.heap.size w w' := by
  have EC := end_copy h zeroId
  have k1 : ok10 (w.alloc zeroId) p 0 = true := ok10_of (h.alloc zeroId) (by decide)
  have k2 := EC.1
  have k3 : full10 (row10 (w.alloc zeroId) p 0) = true := row10_st (h.alloc zeroId)
  have HE := Lib.hid EC.2
  have HW := Lib.hid h
  have HU := Lib.hid hu
  clear EC
  unfold zeroId zeroSt at k2
  unfold zeroId at k1 k3
  go_enter Try.func73, Try.ntmps73
  go_upto_region 4 with fail
  change Code.wp _ _ _ _ (put10 ((w.alloc zeroId).alloc (.cells zeroSt 152)) (w.heap.size + 1) 0 (row10 (w.alloc zeroId) p 0))
  have ZR : Hid ((put10 ((w.alloc zeroId).alloc (.cells zeroSt 152)) (w.heap.size + 1) 0 (row10 (w.alloc zeroId) p 0)).rowIs w.heap.size 27 32 (fun _ => .int .u8 0) ∧
      Below w.heap.size w (put10 ((w.alloc zeroId).alloc (.cells zeroSt 152)) (w.heap.size + 1) 0 (row10 (w.alloc zeroId) p 0))) := Lib.hid (by
    have z := zeros_row w (T := 27) (c := _) (n := 32) (z := .int .u8 0) (by rfl)
    exact ⟨(show (w.alloc zeroId).rowIs _ _ _ _ from z).of_block (HE.out.2.block _ (by omega)), ((Below.refl _ _).alloc (Nat.le_refl _) _).trans (HE.out.2.mono (by omega))⟩)
  have SP : Hid (St (put10 ((w.alloc zeroId).alloc (.cells zeroSt 152)) (w.heap.size + 1) 0 (row10 (w.alloc zeroId) p 0)) p u) := Lib.hid (HW.out.of_block (ZR.out.2.block _ HW.out.lt))
  clear k1 k2 k3 hu
  generalize put10 ((w.alloc zeroId).alloc (.cells zeroSt 152)) (w.heap.size + 1) 0 (row10 (w.alloc zeroId) p 0) = w1 at HE ZR SP ⊢
  have c8 : w1.cell? ⟨p, 8, none⟩ = some (.string (u.extract (64 * (u.size / 64)) u.size)) := SP.out.cell (i := 8) (by decide)
  obtain ⟨t, ht⟩ : ∃ t, u.extract (64 * (u.size / 64)) u.size = t := ⟨_, rfl⟩
  obtain ⟨z, hz⟩ : ∃ z, t.size = z := ⟨_, rfl⟩
  have z1 : z = u.size - 64 * (u.size / 64) := by rw [← hz, ← ht]; exact tail_size u
  have z2 : z < 64 := by rw [z1]; omega
  obtain ⟨a, ha⟩ : ∃ a, 119 - z = a := ⟨_, rfl⟩
  obtain ⟨b, hb⟩ : ∃ b, a % 64 = b := ⟨_, rfl⟩
  have HB : Hid (gapN u.size = b) := Lib.hid (by unfold gapN; rw [← z1, ha, hb])
  have ha1 : (119 : Int) - (t.size : Int) = (a : Int) := by omega
  have hb1 : (a : Int).tmod 64 = (b : Int) := by rw [Int.tmod_eq_emod_of_nonneg (by omega)]; omega
  have hb2 : b < 64 := by omega
  have hmk := fun W => bytes_made W b (by omega)
  rw [ht] at c8
  clear ht hz z1 z2 ha hb
  go_upto_region 5 with fail
  obtain ⟨w2, hw2⟩ : ∃ w2, w2 = w1.alloc (.cells (madeCells #[.int .u8 0] b) 5) := ⟨_, rfl⟩
  obtain ⟨g, hg⟩ : ∃ g, w1.heap.size = g := ⟨_, rfl⟩
  have BF : Hid (Below w1.heap.size w1 w2 ∧ w2.rowIs g 5 b (fun _ => .int .u8 0)) := Lib.hid (by
    rw [hw2, ← hg]; exact ⟨(Below.refl _ _).alloc (Nat.le_refl _) _, World.rowIs_made w1 (.int .u8 0) b 5⟩)
  have S2 : Hid (St w2 p u) := Lib.hid (SP.out.of_block (BF.out.1.block _ SP.out.lt))
  have E2 : Hid (St w2 (w.heap.size + 1) u) := Lib.hid (HE.out.1.of_block (BF.out.1.block _ HE.out.1.lt))
  have Z2 : Hid (w2.rowIs w.heap.size 27 32 (fun _ => .int .u8 0) ∧ Below w.heap.size w w2) := Lib.hid ⟨ZR.out.1.of_block (BF.out.1.block _ ZR.out.1.lt), ZR.out.2.trans (BF.out.1.mono ZR.out.2.size)⟩
  have K2 : Hid (∀ w', Below w2.heap.size w2 w' → w'.cell? ⟨p, 9, none⟩ = some (.int .u64 (u.size : Int)) ∧ (convert 58 9 (.slice (some ⟨g, 0, none⟩) b b)).run Try.prog w' = .ok (.string (bs (List.replicate b 0))) w') := Lib.hid (fun w' hb => by
    have r2 : w'.rowIs g 5 b (fun _ => .int .u8 0) := BF.out.2.of_block (hb.block _ BF.out.2.lt)
    refine ⟨(hb.cell (p := ⟨p, 9, none⟩) S2.out.lt).trans (S2.out.cell (i := 9) (by decide)), run_str 58 5 9 (by kernel_rfl) (by kernel_rfl) (by kernel_rfl) ⟨g, 0, none⟩ b b (List.replicate b 0) List.length_replicate (fun j hj => ?_)⟩
    rw [add0, r2.cell hj, List.getD_eq_getElem?_getD, List.getElem?_replicate, if_pos hj]; rfl)
  rw [← hw2, hg]
  clear hw2 hmk hg
  obtain ⟨N, hN⟩ : ∃ N, 8 * u.size = N := ⟨_, rfl⟩
  obtain ⟨n, hn⟩ : ∃ n, u.size = n := ⟨_, rfl⟩
  have hN2 : N < 18446744073709551616 := by have := HU.out; omega
  have hN3 : 8 * (n : Int) = (N : Int) := by omega
  have hN4 : IntKind.u64.wrap (N : Int) = (N : Int) := by rw [IntKind.wrap_u64]; omega
  have HN : Hid (8 * u.size = N ∧ u.size = n) := Lib.hid ⟨hN, hn⟩
  have hA : ({ data := #[128] } ++ bs (List.replicate b 0) : ByteArray).size ≤ 4611686018427387904 := by
    rw [ByteArray.size_append, bs_size, List.length_replicate]
    show 1 + b ≤ _
    omega
  have hz2 : (bs (List.replicate b 0)).size ≤ 64 := by rw [bs_size, List.length_replicate]; omega
  rw [hn] at K2
  clear hN hn
  obtain ⟨R, hR⟩ : ∃ R, bs (List.replicate b 0) = R := ⟨_, rfl⟩
  rw [hR] at K2 hA hz2
  have HR := Lib.hid hR
  have hcat : ¬ 9223372036854775807 < 1 + R.size := by omega
  clear hR
  refine wp_region_held_drew (S := fun w' => w'.cell? ⟨p, 9, none⟩ = some (.int .u64 (n : Int)) ∧ (convert 58 9 (.slice (some ⟨g, 0, none⟩) b b)).run Try.prog w' = .ok (.string R) w') (by kernel_rfl) (by first | exact K2.out _ (below_drewN (Below.refl _ _) 1) | exact K2.out _ ((below_drewN (Below.refl _ _) 1).trans hbp)) (fun hHeld => ?_)
  refine wpAnyH_take (i := 0) (oi := _) (v := _) rfl (by kernel_rfl) (by kernel_rfl) (by kernel_rfl) (fun _ _ _ h => h) (Or.inl ⟨by rfl, by (intro w hSw; (try dsimp only at hSw); go_simp; first | done | with_reducible rfl)⟩) (by assumption) ?_
  (try simp only [Act.put, List.setIfInBounds_toArray, List.set_cons_zero, List.set_cons_succ])
  refine wpAnyH_take (i := 1) (oi := _) (v := _) rfl (by kernel_rfl) (by kernel_rfl) (by kernel_rfl) (fun _ _ _ h => h) (Or.inl ⟨by rfl, by (intro w hSw; (try dsimp only at hSw); go_simp; first | done | with_reducible rfl)⟩) (by assumption) ?_
  (try simp only [Act.put, List.setIfInBounds_toArray, List.set_cons_zero, List.set_cons_succ])
  refine wpAnyH_take (i := 2) (oi := _) (v := _) rfl (by kernel_rfl) (by kernel_rfl) (by kernel_rfl) (fun _ _ _ h => h) (Or.inl ⟨by rfl, by (intro w hSw; (try dsimp only at hSw); go_simp; first | done | with_reducible rfl)⟩) (by assumption) ?_
  (try simp only [Act.put, List.setIfInBounds_toArray, List.set_cons_zero, List.set_cons_succ])
  refine wpAnyH_take (i := 3) (oi := _) (v := _) rfl (by kernel_rfl) (by kernel_rfl) (by kernel_rfl) (fun _ _ _ h => h) (Or.inl ⟨by rfl, by (intro w hSw; (try dsimp only at hSw); go_simp; first | done | with_reducible rfl)⟩) (by assumption) ?_
  (try simp only [Act.put, List.setIfInBounds_toArray, List.set_cons_zero, List.set_cons_succ])
  refine wpAnyH_take (i := 4) (oi := _) (v := _) rfl (by kernel_rfl) (by kernel_rfl) (by kernel_rfl) (fun _ _ _ h => h) (Or.inl ⟨by rfl, by (intro w hSw; (try dsimp only at hSw); go_simp; first | done | with_reducible rfl)⟩) (by assumption) ?_
  (try simp only [Act.put, List.setIfInBounds_toArray, List.set_cons_zero, List.set_cons_succ])
  refine wpAnyH_take (i := 5) (oi := _) (v := _) rfl (by kernel_rfl) (by kernel_rfl) (by kernel_rfl) (fun _ _ _ h => h) (Or.inl ⟨by rfl, by (intro w hSw; (try dsimp only at hSw); go_simp; first | done | with_reducible rfl)⟩) (by assumption) ?_
  (try simp only [Act.put, List.setIfInBounds_toArray, List.set_cons_zero, List.set_cons_succ])
  refine wpAnyH_take (i := 6) (oi := _) (v := _) rfl (by kernel_rfl) (by kernel_rfl) (by kernel_rfl) (fun _ _ _ h => h) (Or.inl ⟨by rfl, by (intro w hSw; (try dsimp only at hSw); go_simp; first | done | with_reducible rfl)⟩) (by assumption) ?_
  (try simp only [Act.put, List.setIfInBounds_toArray, List.set_cons_zero, List.set_cons_succ])
  refine wpAnyH_take (i := 7) (oi := _) (v := _) rfl (by kernel_rfl) (by kernel_rfl) (by kernel_rfl) (fun _ _ _ h => h) (Or.inl ⟨by rfl, by (intro w hSw; (try dsimp only at hSw); go_simp; first | done | with_reducible rfl)⟩) (by assumption) ?_
  (try simp only [Act.put, List.setIfInBounds_toArray, List.set_cons_zero, List.set_cons_succ])
  refine wpAnyH_ready (rs := [8]) (by kernel_rfl) (by simp) (AllReadyH.cons rfl (fun K hK => ?_) AllReadyH.nil)
  try simp only [List.getElem_toArray, List.getElem_cons_succ, List.getElem_cons_zero]
  go_simp
  go_at_call 50
  refine (putFixed8_any _ N _ hN2 hA).mono ?_
  rintro e w3 ⟨rfl, hbp⟩
  have HL : Hid ({ data := #[128] } ++ R ++ bs (be8 N) = endB u.size) := Lib.hid (by unfold endB; rw [HB.out, HR.out, HN.out.1])
  rw [HL.out]
  go_simp
  refine hK.out _ _ (by first | exact K2.out _ (below_drewN (Below.refl _ _) 1) | exact K2.out _ ((below_drewN (Below.refl _ _) 1).trans hbp)) (fun hHeld => ?_)
  clear hK K
  (try simp only [Act.put, List.setIfInBounds_toArray, List.set_cons_zero, List.set_cons_succ])
  refine wpAnyH_take (i := 9) (oi := _) (v := _) rfl (by kernel_rfl) (by kernel_rfl) (by kernel_rfl) (fun _ _ _ h => h) (Or.inl ⟨by rfl, by (intro w hSw; (try dsimp only at hSw); go_simp; first | done | with_reducible rfl)⟩) (by assumption) ?_
  (try simp only [Act.put, List.setIfInBounds_toArray, List.set_cons_zero, List.set_cons_succ])
  refine wpAnyH_take (i := 10) (oi := _) (v := _) rfl (by kernel_rfl) (by kernel_rfl) (by kernel_rfl) (fun _ _ _ h => h) (Or.inl ⟨by rfl, by (intro w hSw; (try dsimp only at hSw); go_simp; first | done | with_reducible rfl)⟩) (by assumption) ?_
  (try simp only [Act.put, List.setIfInBounds_toArray, List.set_cons_zero, List.set_cons_succ])
  refine wpAnyH_take (i := 11) (oi := _) (v := _) rfl (by kernel_rfl) (by kernel_rfl) (by kernel_rfl) (fun _ _ _ h => h) (Or.inl ⟨by rfl, by (intro w hSw; (try dsimp only at hSw); go_simp; first | done | with_reducible rfl)⟩) (by assumption) ?_
  (try simp only [Act.put, List.setIfInBounds_toArray, List.set_cons_zero, List.set_cons_succ])
  refine wpAnyH_take (i := 12) (oi := _) (v := _) rfl (by kernel_rfl) (by kernel_rfl) (by kernel_rfl) (fun _ _ _ h => h) (Or.inl ⟨by rfl, by (intro w hSw; (try dsimp only at hSw); go_simp; first | done | with_reducible rfl)⟩) (by assumption) ?_
  (try simp only [Act.put, List.setIfInBounds_toArray, List.set_cons_zero, List.set_cons_succ])
  refine wpAnyH_take (i := 13) (oi := _) (v := _) rfl (by kernel_rfl) (by kernel_rfl) (by kernel_rfl) (fun _ _ _ h => h) (Or.inl ⟨by rfl, by (intro w hSw; (try dsimp only at hSw); go_simp; first | done | with_reducible rfl)⟩) (by assumption) ?_
  (try simp only [Act.put, List.setIfInBounds_toArray, List.set_cons_zero, List.set_cons_succ])
  refine wpAnyH_done (by kernel_rfl) ?_ _
  have D3 := Lib.hid ((below_drewN (Below.refl _ _) 1).trans hbp)
  have E3 := Lib.hid (E2.out.of_block (D3.out.block _ E2.out.lt) : St w3 (w.heap.size + 1) u)
  have Z3 : Hid (w3.rowIs w.heap.size 27 32 (fun _ => .int .u8 0) ∧ Below w.heap.size w w3) := Lib.hid ⟨Z2.out.1.of_block (D3.out.block _ Z2.out.1.lt), Z2.out.2.trans (D3.out.mono Z2.out.2.size)⟩
  have HZ : u.size + (endB u.size).size ≤ 4611686018427387904 := by
    rw [endB_size, HB.out]; have := HU.out; omega
  have HEQ := Lib.hid (sha_eq u (by have := HU.out; omega))
  clear hbp c8 ha1 hb1 hb2 hN3 hN4 hA hz2 hcat hN2
  go_wp2_with fail
  refine (write_any (w.heap.size + 1) u (endB u.size) w3 E3.out HZ).mono ?_
  rintro e w4 ⟨rfl, hS, hg4⟩
  have E4 := Lib.hid hS
  have Z4 : Hid (w4.rowIs w.heap.size 27 32 (fun _ => .int .u8 0) ∧ Below w.heap.size w w4) := Lib.hid ⟨Z3.out.1.of_block (hg4.block _ Z3.out.1.lt (by simp)), below_grown Z3.out.2 hg4 (fun g hg => by cases hg; omega)⟩
  have h1s : w.heap.size + 1 < w4.heap.size := E4.out.lt
  clear hS hg4 HZ
  have ZN : Hid ((w4.alloc zeroId).rowIs w4.heap.size 27 32 (fun _ => .int .u8 0)) := Lib.hid (zeros_row w4 (T := 27) (c := _) (n := 32) (z := .int .u8 0) (by rfl))
  go_upto_region 9 with fail
  change Code.wp _ _ _ _ (w4.alloc zeroId)
  have R5 : Hid (St (w4.alloc zeroId) (w.heap.size + 1) (u ++ endB u.size) ∧ (w4.alloc zeroId).rowIs w.heap.size 27 32 (fun _ => .int .u8 0) ∧ Below w.heap.size w (w4.alloc zeroId)) := Lib.hid ⟨E4.out.alloc _, Z4.out.1.alloc _, Z4.out.2.alloc Z4.out.2.size _⟩
  generalize w4.alloc zeroId = w5 at ZN R5 ⊢
  obtain ⟨g8, hg8⟩ : ∃ g8, w4.heap.size = g8 := ⟨_, rfl⟩
  rw [hg8] at ZN h1s ⊢
  clear hg8
  obtain ⟨q, hq⟩ : ∃ q, (u ++ endB u.size).size / 64 = q := ⟨_, rfl⟩
  have HQ := Lib.hid hq
  clear hq
  obtain ⟨F, hF⟩ : ∃ F, hsF (byteAt (u ++ endB u.size)) q = F := ⟨_, rfl⟩
  have HF := Lib.hid hF
  clear hF
  go_loopw [38] (fun i wr => ∃ k : Nat, k ≤ 32 ∧ i = .int .i64 (k : Int) ∧ Hid (wr.rowIs g8 27 32 (u8V (shaI (byteAt u) u.size k)) ∧ St wr (w.heap.size + 1) (u ++ endB u.size) ∧ wr.rowIs w.heap.size 27 32 (fun _ => .int .u8 0) ∧ Below w.heap.size w wr)) (fun i _ => 32 - (intOf i).toNat)
  case atStart => exact ⟨0, by omega, rfl, Lib.hid ⟨ZN.out.congr fun i _ => by unfold u8V shaI; rw [if_neg (by omega)]; rfl, R5.out⟩⟩
  case round =>
    obtain ⟨k, hk, rfl, HR⟩ := hrel
    by_cases hlt : k < 32
    · obtain ⟨m, hm⟩ : ∃ m, k / 4 = m := ⟨_, rfl⟩
      obtain ⟨r, hr⟩ : ∃ r, k % 4 = r := ⟨_, rfl⟩
      obtain ⟨s8, hs8⟩ : ∃ s8, 8 * r = s8 := ⟨_, rfl⟩
      obtain ⟨sh, hsh⟩ : ∃ sh, 24 - s8 = sh := ⟨_, rfl⟩
      have hmi : (k : Int) / 4 = (m : Int) := by omega
      have hri : bits .and .i64 (k : Int) 3 = (r : Int) := by rw [and3 k hlt, hr]
      have hsi : (8 : Int) * (r : Int) = (s8 : Int) := by omega
      have hshi : (24 : Int) - (s8 : Int) = (sh : Int) := by omega
      have hm8 : m < 8 := by omega
      have HV : Hid (shaF (byteAt u) u.size k = UInt8.ofNat ((F m).toNat / 2 ^ sh)) := Lib.hid (by rw [HEQ.out k, HQ.out, HF.out, hm, hr, hs8, hsh])
      have c1 : wr.cell? ⟨w.heap.size + 1, m, none⟩ = some (.int .u32 ((F m).toNat : Int)) := (HR.out.2.1.cell (by omega)).trans (by unfold stV; rw [if_pos hm8, HQ.out, HF.out]; rfl)
      obtain ⟨v, ck⟩ : ∃ v, wr.cell? ⟨g8, k, none⟩ = some v := ⟨_, HR.out.1.cell hlt⟩
      have fk := HR.out.1.frozen k
      generalize F m = y at c1 HV
      have hy : y.toNat < 4294967296 := y.toNat_lt
      have hsh2 : sh < 32 := by omega
      clear hm hr hs8 hsh
      go_wp2
      go_roundw
      case rel =>
        refine ⟨k + 1, by omega, by go_num, Lib.hid ⟨(HR.out.1.set k _).congr fun i hi => ?_, HR.out.2.1.setOther (by simp; omega) _, HR.out.2.2.1.setOther (by simp; omega) _, HR.out.2.2.2.setCell (by show w.heap.size ≤ g8; omega) _⟩⟩
        unfold u8V shaI
        by_cases e : i = k
        · rw [if_pos e, if_pos (by omega), e, HV.out, byte_shift]
        · rw [if_neg e]
          by_cases h3 : i < k
          · rw [if_pos h3, if_pos (by omega)]
          · rw [if_neg h3, if_neg (by omega)]
      case measure => simp [intOf]; omega
    · obtain rfl : k = 32 := by omega
      have I1 : Hid (wr.rowIs g8 27 32 (u8V (shaF (byteAt u) u.size))) := Lib.hid (HR.out.1.congr fun i hi => by unfold u8V shaI; rw [if_pos hi])
      have e1 : row32 wr g8 0 = idA (shaF (byteAt u) u.size) := row32_id I1.out
      have o1 := ok32_of HR.out.1 (off := 0) (by decide)
      have o2 := ok32_of HR.out.2.2.1 (off := 0) (by decide)
      have f1 := idA_full (shaF (byteAt u) u.size)
      have HP := Lib.hid (id_put (shaF (byteAt u) u.size) HR.out.2.2.1 HR.out.2.2.2 (Nat.le_refl _))
      rw [show ((32 : Nat) : Int) = 32 from rfl]
      go_wp2
      refine bodyPost_ret (results_row_tmp (p := 2) (u := 3) rfl _ _ w.heap.size 27 (idA (shaF (byteAt u) u.size)) (0, 0) rfl HP.out.1 Try.underlying27 (by rw [idA_size]; kernel_rfl)) rfl ⟨?_, HP.out.2⟩
      rfl
end Go.Proofs.Ytfoandpcoakcjaa
