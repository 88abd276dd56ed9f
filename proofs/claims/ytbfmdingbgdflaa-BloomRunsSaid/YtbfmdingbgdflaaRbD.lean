/- Walks: the reference's Put; its filter's Encode. No conditions. -/
import Derived.Test.YtbfmdingbgdflaaRbA
import Derived.Test.YtbfmdingbgdflaaBloF
import Derived.BigQuiet
import Derived.StillTailTactics
namespace Go.Proofs.Ytbfmdingbgdflaa
open Go.RowKit Blo Wir
set_option linter.unusedVariables false
set_option linter.unusedSimpArgs false
theorem bs_app (a b : List UInt8) : bs (a ++ b) = bs a ++ bs b := (ByteArray.mk_append_mk a b).symm
theorem one_byte (w : World) (v : Value) : (w.alloc (.cells #[v] 5)).cell? ⟨w.heap.size, 0, none⟩ = some v :=
  (World.rowIs_alloc w #[v] 5 (fun _ => v) (fun i hi => by
    have : i = 0 := by simpa using hi
    subst this; rfl)).cell (i := 0) (by simp)
set_option maxRecDepth 100000 in
set_option maxHeartbeats 0 in
theorem rput_any (s : ByteArray) (n : Nat) (w : World) (hn : n < 18446744073709551616) (hs : s.size ≤ 4611686018427387904) :
    Calls Try.prog 73 #[.string s, .int .u64 (n : Int)] w fun e w' => e = .returned (.string (s ++ bs (putL n))) ∧ Below w.heap.size w w' := by
  go_enter Try.func73, Try.ntmps73
  go_wp2
  go_loopw [0, 1] (fun t x wr => ∃ (p : List UInt8) (m : Nat), p.length ≤ 9 ∧ m < 18446744073709551616 ∧ t = .string (s ++ bs p) ∧ x = .int .u64 (m : Int) ∧ Hid (m * 2 ^ (7 * p.length) < 2 ^ 64 ∧ putL n = p ++ putN (9 - p.length) m ∧ Below w.heap.size w wr)) (fun _ x _ => (intOf x).toNat)
  case atStart => exact ⟨[], n, by simp, hn, by
    rw [show s ++ bs [] = s from ByteArray.ext (by simp [bs])], rfl, Lib.hid ⟨by simpa using hn, rfl, Below.refl _ _⟩⟩
  case round =>
    obtain ⟨p, m, hp, hm64, rfl, rfl, HR⟩ := hrel
    have hps : (s ++ bs p).size ≤ 4611686018427387904 + 9 := by rw [ByteArray.size_append, bs_size]; omega
    by_cases hge : m < 128
    · have hgei : ¬ (128 : Int) ≤ (m : Int) := by omega
      have PL : Hid (s ++ bs (putL n) = s ++ bs p ++ bs [UInt8.ofNat m]) := Lib.hid (by rw [HR.out.2.1, putN_small _ _ hge, bs_app, ByteArray.append_assoc])
      have BE := Lib.hid HR.out.2.2
      have hm8 : (m : Int) % 256 = (m : Int) := by omega
      have W8 : IntKind.u8.wrap (m : Int) = (m : Int) := by rw [IntKind.wrap_u8]; omega
      have EM : ((UInt8.ofNat m).toNat : Int) = (m : Int) := by rw [UInt8.toNat_ofNat']; omega
      generalize s ++ bs p = T at *
      have z1 : (bs [UInt8.ofNat m]).size = 1 := rfl
      have RC : Hid (∀ j, j < 1 → (wr.alloc (.cells #[.int .u8 (m : Int)] 5)).cell? (({ block := wr.heap.size, off := 0 } : Addr).add j) = some (.int .u8 (([UInt8.ofNat m].getD j 0).toNat : Int))) := Lib.hid (fun j hj => by
        obtain rfl : j = 0 := by omega
        rw [add0, one_byte wr _]
        show _ = some (Value.int .u8 ((UInt8.ofNat m).toNat : Int))
        rw [EM])
      clear EM
      go_wp2_with (with_reducible refine conv_str_wp (e := 5) (by kernel_rfl) (by kernel_rfl) (by kernel_rfl) rfl _ rfl ⟨wr.heap.size, 0, none⟩ 1 1 rfl [UInt8.ofNat m] rfl RC.out ?_)
      go_ret
      exact ⟨by rw [PL.out]; rfl, BE.out.alloc BE.out.size _⟩
    · have hgei : (128 : Int) ≤ (m : Int) := by omega
      have hpl : p.length < 9 := by
        apply Classical.byContradiction
        intro h9
        have e9 : p.length = 9 := by omega
        have := HR.out.1
        rw [e9] at this
        have e1 : 2 ^ (7 * 9) = 9223372036854775808 := by decide
        have e2 : 2 ^ 64 = 18446744073709551616 := by decide
        omega
      obtain ⟨r, hr⟩ : ∃ r, m % 128 = r := ⟨_, rfl⟩
      obtain ⟨q, hq⟩ : ∃ q, m / 128 = q := ⟨_, rfl⟩
      obtain ⟨b, hb⟩ : ∃ b, r + 128 = b := ⟨_, rfl⟩
      have E1 : (m : Int) % 128 = (r : Int) := by omega
      have E2 : (m : Int) / 128 = (q : Int) := by omega
      have E3 : (r : Int) + 128 = (b : Int) := by omega
      have W1 : (r : Int) % 256 = (r : Int) := by omega
      have W2 : (b : Int) % 256 = (b : Int) := by omega
      have V1 : IntKind.u8.wrap (r : Int) = (r : Int) := by rw [IntKind.wrap_u8]; omega
      have V2 : IntKind.u8.wrap (b : Int) = (b : Int) := by rw [IntKind.wrap_u8]; omega
      have EM : ((UInt8.ofNat b).toNat : Int) = (b : Int) := by rw [UInt8.toNat_ofNat']; omega
      have hq64 : q < 18446744073709551616 := by omega
      have hqm : q < m := by omega
      have HN : Hid (q * 2 ^ (7 * (p ++ [UInt8.ofNat b]).length) < 2 ^ 64 ∧ putL n = (p ++ [UInt8.ofNat b]) ++ putN (9 - (p ++ [UInt8.ofNat b]).length) q ∧ s ++ bs (p ++ [UInt8.ofNat b]) = s ++ bs p ++ bs [UInt8.ofNat b] ∧ (p ++ [UInt8.ofNat b]).length ≤ 9) := Lib.hid (by
        have hl : (p ++ [UInt8.ofNat b]).length = p.length + 1 := by simp
        rw [hl]
        refine ⟨?_, ?_, by rw [bs_app, ByteArray.append_assoc], hpl⟩
        · refine Nat.lt_of_le_of_lt ?_ HR.out.1
          rw [Nat.mul_add, Nat.pow_add, Nat.mul_comm (2 ^ (7 * p.length)), ← Nat.mul_assoc]
          exact Nat.mul_le_mul_right _ (by show q * 128 ≤ m; omega)
        · rw [HR.out.2.1, show 9 - p.length = (9 - (p.length + 1)) + 1 from by omega, putN_big _ _ hge, List.append_assoc, hr, hq, hb]; rfl)
      have BE := Lib.hid HR.out.2.2
      clear hr hq hb
      obtain ⟨T, hT⟩ : ∃ T, s ++ bs p = T := ⟨_, rfl⟩
      rw [hT] at HN hps ⊢
      clear hT
      have z1 : (bs [UInt8.ofNat b]).size = 1 := rfl
      have RC : Hid (∀ j, j < 1 → (wr.alloc (.cells #[.int .u8 (b : Int)] 5)).cell? (({ block := wr.heap.size, off := 0 } : Addr).add j) = some (.int .u8 (([UInt8.ofNat b].getD j 0).toNat : Int))) := Lib.hid (fun j hj => by
        obtain rfl : j = 0 := by omega
        rw [add0, one_byte wr _]
        show _ = some (Value.int .u8 ((UInt8.ofNat b).toNat : Int))
        rw [EM])
      clear EM
      go_wp2_with (with_reducible refine conv_str_wp (e := 5) (by kernel_rfl) (by kernel_rfl) (by kernel_rfl) rfl _ rfl ⟨wr.heap.size, 0, none⟩ 1 1 rfl [UInt8.ofNat b] rfl RC.out ?_)
      · go_roundw
        case rel => exact ⟨p ++ [UInt8.ofNat b], q, HN.out.2.2.2, hq64, by rw [HN.out.2.2.1], by first | rfl | go_num, Lib.hid ⟨HN.out.1, HN.out.2.1, BE.out.alloc BE.out.size _⟩⟩
        case measure => simp [intOf] <;> omega
set_option maxRecDepth 100000 in
set_option maxHeartbeats 0 in
theorem rencode_any (w : World) (P g N n H : Nat) (B : Nat → Bool) (F : Nat → UInt8) (h : Rf w P g N H B) (hB : Bt B F n) (hN : 8 * n = N) (hn2 : N ≤ 16777216) (hH : H ≤ 8) :
    Calls Try.prog 33 #[.pointer (some ⟨P, 0, none⟩)] w fun e w' => e = .returned (.string (encB n H F)) ∧ Below w.heap.size w w' := by
  have c0 : w.cell? ⟨P, 0, none⟩ = some (.int .i64 (N : Int)) := h.blk.cell 0
  have X := Lib.hid h
  have hq8 : (N : Int) / 8 = (n : Int) := by omega
  have HE : Hid (listF (encF B N) n = listF F n ∧ 8 * n = N) := Lib.hid ⟨List.map_congr_left fun j hj => by rw [← hN]; exact hB.enc j (by simpa using hj), hN⟩
  have mk := fun W => bytes_made W n (by omega)
  clear h hB
  go_enter Try.func33, Try.ntmps33
  go_wp2
  have S0 : Hid (Rf (w.alloc (.cells (madeCells #[.int .u8 0] n) 5)) P g N H B ∧ (w.alloc (.cells (madeCells #[.int .u8 0] n) 5)).rowIs w.heap.size 5 n (u8V (encF B 0)) ∧ Below w.heap.size w (w.alloc (.cells (madeCells #[.int .u8 0] n) 5))) := Lib.hid ⟨X.out.below ((Below.refl _ _).alloc (Nat.le_refl _) _), (World.rowIs_made w (.int .u8 0) n 5).congr fun i _ => rfl, (Below.refl _ _).alloc (Nat.le_refl _) _⟩
  have HL := Lib.hid (And.intro X.out.blk.lt X.out.row.lt)
  generalize w.alloc (.cells (madeCells #[.int .u8 0] n) 5) = w1 at S0 ⊢
  obtain ⟨D, hD⟩ : ∃ D, w.heap.size = D := ⟨_, rfl⟩
  have HD := Lib.hid hD
  rw [hD] at S0 HL
  try rw [hD]
  clear hD mk c0 hq8
  go_loopw [4] (fun i wr => ∃ k : Nat, k ≤ N ∧ i = .int .i64 (k : Int) ∧ Hid (Rf wr P g N H B ∧ wr.rowIs D 5 n (u8V (encF B k)) ∧ Below D w wr)) (fun i _ => N - (intOf i).toNat)
  case atStart => exact ⟨0, by omega, rfl, S0⟩
  case round =>
    obtain ⟨k, hk, rfl, HR⟩ := hrel
    have d0 : wr.cell? ⟨P, 0, none⟩ = some (.int .i64 (N : Int)) := HR.out.1.blk.cell 0
    by_cases hlt : k < N
    · have hlti : (k : Int) < (N : Int) := by omega
      have d2 : wr.cell? ⟨P, 2, none⟩ = some (.slice (some ⟨g, 0, none⟩) N N) := HR.out.1.blk.cell 2
      have d3 : wr.cell? ⟨g, k, none⟩ = some (.bool (B k)) := HR.out.1.row.cell hlt
      cases hb : B k with
      | true =>
        rw [hb] at d3
        have HB : Hid (B k = true) := Lib.hid hb
        clear hb
        have hk8 : k / 8 < n := by omega
        have c2 : wr.cell? ⟨D, k / 8, none⟩ = some (.int .u8 ((encF B k (k / 8)).toNat : Int)) := HR.out.2.1.cell hk8
        have c3 : (encF B k (k / 8)).toNat < 256 := (encF B k (k / 8)).toNat_lt
        have c4 : wr.frozen? ⟨D, k / 8, none⟩ = false := HR.out.2.1.frozen _
        have hm8 : k % 8 < 8 := Nat.mod_lt _ (by omega)
        have SB := Lib.hid (shl_bits (encF B k (k / 8)) (k % 8) hm8)
        obtain ⟨fb, hfb⟩ : ∃ fb, encF B k (k / 8) = fb := ⟨_, rfl⟩
        rw [hfb] at c2 c3 SB
        have HFB := Lib.hid hfb
        clear hfb
        have q0 : 0 ≤ (k : Int) / 8 := by omega
        have q1 : (k : Int) / 8 < (n : Int) := by omega
        have q2 : ((k : Int) / 8).toNat = k / 8 := by omega
        have hw1 : IntKind.i64.wrap ((k : Int) / 8) = (k : Int) / 8 := IntWalk.i64_in _ (by omega)
        have hw2 : (k : Int).tmod 8 = (k : Int) % 8 := Int.tmod_eq_emod_of_nonneg (by omega)
        have hw3 : IntKind.i64.wrap ((k : Int) % 8) = (k : Int) % 8 := IntWalk.i64_in _ (by omega)
        have r0 : 0 ≤ (k : Int) % 8 := by omega
        have r2 : ((k : Int) % 8).toNat = k % 8 := by omega
        go_wp2
        refine wp_region_still_tail 13 (by kernel_rfl) (by kernel_rfl) ?_
        simp only [List.take_succ_cons, List.take_zero, List.drop_succ_cons, List.drop_zero]
        repeat still_step
        try refine wpStill_nil ?_
        go_wp2
        go_roundw
        case rel =>
          have hl := HL.out
          refine ⟨k + 1, by omega, by go_num, Lib.hid ⟨⟨(HR.out.1.blk.far (by show P ≠ D; omega) _).drew, (HR.out.1.row.of_block (Below.heap_setCell _ _ _ _ (by show g ≠ D; omega)) : World.rowIs _ _ _ _ _)⟩, ((HR.out.2.1.set (k / 8) _).drew).congr fun j hj => ?_, (HR.out.2.2.setCell (by show _ ≤ D; omega) _).drew⟩⟩
          rw [encF, if_pos HB.out]
          simp only [u8V, setF]
          by_cases e : j = k / 8
          · rw [if_pos e, if_pos e, SB.out, e, HFB.out]
          · rw [if_neg e, if_neg e]
        case measure => simp [intOf]; omega
      | false =>
        rw [hb] at d3
        have HB : Hid (¬ B k = true) := Lib.hid (by rw [hb]; decide)
        clear hb
        go_wp2
        go_roundw
        case rel => exact ⟨k + 1, by omega, by go_num, Lib.hid ⟨HR.out.1, HR.out.2.1.congr fun i _ => by rw [encF, if_neg HB.out], HR.out.2.2⟩⟩
        case measure => simp [intOf]; omega
    · obtain rfl : k = N := by omega
      have K3 : Hid (∀ w', Below wr.heap.size wr w' → w'.cell? ⟨P, 0, none⟩ = some (.int .i64 (k : Int)) ∧ w'.cell? ⟨P, 1, none⟩ = some (.int .i64 (H : Int)) ∧ (convert 48 9 (.slice (some ⟨D, 0, none⟩) n n)).run Try.prog w' = .ok (.string (bs (listF F n))) w') := Lib.hid (fun w' hb => by
        have f := HR.out.1.below hb
        have r := HR.out.2.1.of_block (hb.block _ HR.out.2.1.lt)
        refine ⟨f.blk.cell 0, f.blk.cell 1, ?_⟩
        rw [← HE.out.1]
        exact buf_str (bufIs.of_row r))
      have hw5 : IntKind.u64.wrap (k : Int) = (k : Int) := by rw [IntKind.wrap_u64]; omega
      have hw4 : IntKind.u64.wrap (H : Int) = (H : Int) := by rw [IntKind.wrap_u64]; omega
      obtain ⟨A, hA⟩ : ∃ A, bs [77, 66, 70, 49] ++ bs (putL k) = A := ⟨_, rfl⟩
      have hAs : A.size ≤ 14 := by
        have := (putN_length 9 k).2
        rw [← hA, ByteArray.size_append, bs_size, bs_size]; show 4 + _ ≤ 14; unfold putL; omega
      have hPs : (bs (putL H)).size ≤ 10 := by
        have := (putN_length 9 H).2
        rw [bs_size]; unfold putL; omega
      have hLs : (bs (listF F n)).size ≤ 2097152 := by rw [bs_size, listF_length]; have := HE.out.2; omega
      have hcat : ¬ 9223372036854775807 < A.size + (bs (putL H)).size + (bs (listF F n)).size := by omega
      have PUT1 : ∀ W, Calls Try.prog 73 #[.string { data := #[77, 66, 70, 49] }, .int .u64 (k : Int)] W fun e w' => e = .returned (.string A) ∧ Below W.heap.size W w' := fun W => by
        rw [← hA]; exact rput_any (bs [77, 66, 70, 49]) k W (by omega) (by decide)
      have EB : Hid (encB n H F = A ++ bs (putL H) ++ bs (listF F n)) := Lib.hid (by unfold encB; rw [HE.out.2, hA])
      have BR := Lib.hid HR.out.2.2
      clear hA HR
      go_wp2
      clear d0
      have HB0 : Hid (Below wr.heap.size wr wr.drew) := Lib.hid (Below.refl _ _).drew
      have SA := K3.out _ HB0.out
      refine wp_region_held_drew (S := fun w' => w'.cell? ⟨P, 0, none⟩ = some (.int .i64 (k : Int)) ∧ w'.cell? ⟨P, 1, none⟩ = some (.int .i64 (H : Int)) ∧ (convert 48 9 (.slice (some ⟨D, 0, none⟩) n n)).run Try.prog w' = .ok (.string (bs (listF F n))) w') (by kernel_rfl) (by exact SA) (fun hHeld => ?_)
      refine wpAnyH_take (i := 0) (oi := _) (v := _) rfl (by as_aux_lemma => kernel_rfl) (by as_aux_lemma => kernel_rfl) (by as_aux_lemma => kernel_rfl) (fun _ _ _ h => h) (Or.inl ⟨by kernel_rfl, by (intro w hSw; (try dsimp only at hSw); go_simp; first | done | with_reducible rfl)⟩) (by assumption) ?_
      (try simp only [List.getElem_toArray, List.getElem_cons_succ, List.getElem_cons_zero, Act.put, List.setIfInBounds_toArray, List.set_cons_zero, List.set_cons_succ])
      refine wpAnyH_take (i := 1) (oi := _) (v := _) rfl (by as_aux_lemma => kernel_rfl) (by as_aux_lemma => kernel_rfl) (by as_aux_lemma => kernel_rfl) (fun _ _ _ h => h) (Or.inl ⟨by kernel_rfl, by (intro w hSw; (try dsimp only at hSw); go_simp; first | done | with_reducible rfl)⟩) (by assumption) ?_
      (try simp only [List.getElem_toArray, List.getElem_cons_succ, List.getElem_cons_zero, Act.put, List.setIfInBounds_toArray, List.set_cons_zero, List.set_cons_succ])
      refine wpAnyH_take (i := 2) (oi := _) (v := _) rfl (by as_aux_lemma => kernel_rfl) (by as_aux_lemma => kernel_rfl) (by as_aux_lemma => kernel_rfl) (fun _ _ _ h => h) (Or.inl ⟨by kernel_rfl, by (intro w hSw; (try dsimp only at hSw); go_simp; first | done | with_reducible rfl)⟩) (by assumption) ?_
      (try simp only [List.getElem_toArray, List.getElem_cons_succ, List.getElem_cons_zero, Act.put, List.setIfInBounds_toArray, List.set_cons_zero, List.set_cons_succ])
      refine wpAnyH_take (i := 3) (oi := _) (v := _) rfl (by as_aux_lemma => kernel_rfl) (by as_aux_lemma => kernel_rfl) (by as_aux_lemma => kernel_rfl) (fun _ _ _ h => h) (Or.inl ⟨by kernel_rfl, by (intro w hSw; (try dsimp only at hSw); go_simp; first | done | with_reducible rfl)⟩) (by assumption) ?_
      (try simp only [List.getElem_toArray, List.getElem_cons_succ, List.getElem_cons_zero, Act.put, List.setIfInBounds_toArray, List.set_cons_zero, List.set_cons_succ])
      refine wpAnyH_take (i := 4) (oi := _) (v := _) rfl (by as_aux_lemma => kernel_rfl) (by as_aux_lemma => kernel_rfl) (by as_aux_lemma => kernel_rfl) (fun _ _ _ h => h) (Or.inl ⟨by kernel_rfl, by (intro w hSw; (try dsimp only at hSw); go_simp; first | done | with_reducible rfl)⟩) (by assumption) ?_
      (try simp only [List.getElem_toArray, List.getElem_cons_succ, List.getElem_cons_zero, Act.put, List.setIfInBounds_toArray, List.set_cons_zero, List.set_cons_succ])
      refine wpAnyH_take (i := 6) (oi := _) (v := _) rfl (by as_aux_lemma => kernel_rfl) (by as_aux_lemma => kernel_rfl) (by as_aux_lemma => kernel_rfl) (fun _ _ _ h => h) (Or.inl ⟨by kernel_rfl, by (intro w hSw; (try dsimp only at hSw); go_simp; first | done | with_reducible rfl)⟩) (by assumption) ?_
      (try simp only [List.getElem_toArray, List.getElem_cons_succ, List.getElem_cons_zero, Act.put, List.setIfInBounds_toArray, List.set_cons_zero, List.set_cons_succ])
      refine wpAnyH_take (i := 7) (oi := _) (v := _) rfl (by as_aux_lemma => kernel_rfl) (by as_aux_lemma => kernel_rfl) (by as_aux_lemma => kernel_rfl) (fun _ _ _ h => h) (Or.inl ⟨by kernel_rfl, by (intro w hSw; (try dsimp only at hSw); go_simp; first | done | with_reducible rfl)⟩) (by assumption) ?_
      (try simp only [List.getElem_toArray, List.getElem_cons_succ, List.getElem_cons_zero, Act.put, List.setIfInBounds_toArray, List.set_cons_zero, List.set_cons_succ])
      refine wpAnyH_take (i := 8) (oi := _) (v := _) rfl (by as_aux_lemma => kernel_rfl) (by as_aux_lemma => kernel_rfl) (by as_aux_lemma => kernel_rfl) (fun _ _ _ h => h) (Or.inl ⟨by kernel_rfl, by (intro w hSw; (try dsimp only at hSw); go_simp; first | done | with_reducible rfl)⟩) (by assumption) ?_
      (try simp only [List.getElem_toArray, List.getElem_cons_succ, List.getElem_cons_zero, Act.put, List.setIfInBounds_toArray, List.set_cons_zero, List.set_cons_succ])
      refine wpAnyH_take (i := 9) (oi := _) (v := _) rfl (by as_aux_lemma => kernel_rfl) (by as_aux_lemma => kernel_rfl) (by as_aux_lemma => kernel_rfl) (fun _ _ _ h => h) (Or.inl ⟨by kernel_rfl, by (intro w hSw; (try dsimp only at hSw); go_simp; first | done | with_reducible rfl)⟩) (by assumption) ?_
      (try simp only [List.getElem_toArray, List.getElem_cons_succ, List.getElem_cons_zero, Act.put, List.setIfInBounds_toArray, List.set_cons_zero, List.set_cons_succ])
      refine wpAnyH_take (i := 10) (oi := _) (v := _) rfl (by as_aux_lemma => kernel_rfl) (by as_aux_lemma => kernel_rfl) (by as_aux_lemma => kernel_rfl) (fun _ _ _ h => h) (Or.inl ⟨by kernel_rfl, by (intro w hSw; (try dsimp only at hSw); go_simp; first | done | with_reducible rfl)⟩) (by assumption) ?_
      (try simp only [List.getElem_toArray, List.getElem_cons_succ, List.getElem_cons_zero, Act.put, List.setIfInBounds_toArray, List.set_cons_zero, List.set_cons_succ])
      refine wpAnyH_take (i := 12) (oi := _) (v := _) rfl (by as_aux_lemma => kernel_rfl) (by as_aux_lemma => kernel_rfl) (by as_aux_lemma => kernel_rfl) (fun _ _ _ h => h) (Or.inl ⟨by kernel_rfl, by (intro w hSw; (try dsimp only at hSw); go_simp; first | done | with_reducible rfl)⟩) (by assumption) ?_
      (try simp only [List.getElem_toArray, List.getElem_cons_succ, List.getElem_cons_zero, Act.put, List.setIfInBounds_toArray, List.set_cons_zero, List.set_cons_succ])
      refine wpAnyH_take (i := 13) (oi := _) (v := _) rfl (by as_aux_lemma => kernel_rfl) (by as_aux_lemma => kernel_rfl) (by as_aux_lemma => kernel_rfl) (fun _ _ _ h => h) (Or.inl ⟨by kernel_rfl, by (intro w hSw; (try dsimp only at hSw); go_simp; first | done | with_reducible rfl)⟩) (by assumption) ?_
      (try simp only [List.getElem_toArray, List.getElem_cons_succ, List.getElem_cons_zero, Act.put, List.setIfInBounds_toArray, List.set_cons_zero, List.set_cons_succ])
      refine wpAnyH_ready (rs := [5]) (by as_aux_lemma => kernel_rfl) (by simp) (AllReadyH.cons rfl (fun K hK => ?_) AllReadyH.nil)
      try simp only [List.getElem_toArray, List.getElem_cons_succ, List.getElem_cons_zero]
      go_simp
      go_at_call 73
      refine (PUT1 _).mono ?_
      rintro e wn ⟨rfl, hbn⟩
      have HB1 := Lib.hid (HB0.out.trans (hbn.mono HB0.out.size))
      have SA := K3.out _ HB1.out
      clear hbn
      go_simp
      refine hK.out _ _ (by exact SA) (fun hHeld => ?_)
      clear hK K
      (try simp only [List.getElem_toArray, List.getElem_cons_succ, List.getElem_cons_zero, Act.put, List.setIfInBounds_toArray, List.set_cons_zero, List.set_cons_succ])
      refine wpAnyH_ready (rs := [11]) (by as_aux_lemma => kernel_rfl) (by simp) (AllReadyH.cons rfl (fun K hK => ?_) AllReadyH.nil)
      try simp only [List.getElem_toArray, List.getElem_cons_succ, List.getElem_cons_zero]
      go_simp
      go_at_call 73
      refine (rput_any A H _ (by omega) (by omega)).mono ?_
      rintro e wn ⟨rfl, hbn⟩
      have HB2 := Lib.hid (HB1.out.trans (hbn.mono HB1.out.size))
      have SA := K3.out _ HB2.out
      clear hbn
      go_simp
      refine hK.out _ _ (by exact SA) (fun hHeld => ?_)
      clear hK K
      (try simp only [List.getElem_toArray, List.getElem_cons_succ, List.getElem_cons_zero, Act.put, List.setIfInBounds_toArray, List.set_cons_zero, List.set_cons_succ])
      refine wpAnyH_take (i := 14) (oi := _) (v := _) rfl (by as_aux_lemma => kernel_rfl) (by as_aux_lemma => kernel_rfl) (by as_aux_lemma => kernel_rfl) (fun _ _ _ h => h) (Or.inl ⟨by kernel_rfl, by (intro w hSw; (try dsimp only at hSw); go_simp; first | done | with_reducible rfl)⟩) (by assumption) ?_
      (try simp only [List.getElem_toArray, List.getElem_cons_succ, List.getElem_cons_zero, Act.put, List.setIfInBounds_toArray, List.set_cons_zero, List.set_cons_succ])
      refine wpAnyH_take (i := 15) (oi := _) (v := _) rfl (by as_aux_lemma => kernel_rfl) (by as_aux_lemma => kernel_rfl) (by as_aux_lemma => kernel_rfl) (fun _ _ _ h => h) (Or.inl ⟨by kernel_rfl, by (intro w hSw; (try dsimp only at hSw); go_simp; first | done | with_reducible rfl)⟩) (by assumption) ?_
      (try simp only [List.getElem_toArray, List.getElem_cons_succ, List.getElem_cons_zero, Act.put, List.setIfInBounds_toArray, List.set_cons_zero, List.set_cons_succ])
      refine wpAnyH_done (by as_aux_lemma => kernel_rfl) ?_ _
      have B4 : Hid (Below D w wn) := Lib.hid (BR.out.trans (HB2.out.mono (by have := BR.out.size; rw [HD.out] at this; exact this)))
      go_wp2
      go_ret
      exact ⟨by rw [EB.out]; rfl, by rw [HD.out]; exact B4.out⟩
end Go.Proofs.Ytbfmdingbgdflaa
