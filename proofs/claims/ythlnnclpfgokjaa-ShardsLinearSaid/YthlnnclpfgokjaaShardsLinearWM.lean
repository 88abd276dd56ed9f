/- Walk: the law ShardsLinear returns true. -/
import Derived.Test.YthlnnclpfgokjaaMgShardsLinear8
import Derived.Test.YthlnnclpfgokjaaShLinBM
import Derived.Deep.DeepCutAuto
namespace Go.Proofs.Ythlnnclpfgokjaa
open Go.RowKit Gf
set_option linter.unusedVariables false
set_option linter.unusedSimpArgs false
/-- n bytes 0. -/
def zeroS (n : Nat) : ByteArray := bs (List.replicate n 0)
theorem zeroS_size (n : Nat) : (zeroS n).size = n := by unfold zeroS; rw [bs_size]; simp
theorem zeros_conv (w : World) (n : Nat) : (convert 44 9 (.slice (some ⟨w.heap.size, 0, none⟩) n n)).run Try.prog (w.alloc (.cells (madeCells #[.int .u8 0] n) 5)) = .ok (.string (zeroS n)) (w.alloc (.cells (madeCells #[.int .u8 0] n) 5)) := by
  refine runStr _ _ _ _ (by simp) fun j hj => ?_
  rw [add0, (World.rowIs_made w (.int .u8 0) n 5).cell hj]
  simp [List.getD, hj]
theorem zeros_conv2 (w : World) (o : Obj) (n : Nat) : (convert 44 9 (.slice (some ⟨w.heap.size + 1, 0, none⟩) n n)).run Try.prog ((w.alloc o).alloc (.cells (madeCells #[.int .u8 0] n) 5)) = .ok (.string (zeroS n)) ((w.alloc o).alloc (.cells (madeCells #[.int .u8 0] n) 5)) := by
  have := zeros_conv (w.alloc o) n
  rw [show (w.alloc o).heap.size = w.heap.size + 1 from by simp] at this
  exact this
set_option maxRecDepth 100000 in
set_option maxHeartbeats 16000000 in
theorem shardsLinear_walk (a b : ByteArray) (k m fr ot at' : Int) (y : UInt8) (w : World)
    (ha : a.size ≤ 140737488351232) (hb : b.size ≤ 140737488351232) (h1 : -9223372036854775808 ≤ k) (h2 : k ≤ 9223372036854775807) (h3 : -9223372036854775808 ≤ m) (h4 : m ≤ 9223372036854775807)
    (h5 : -9223372036854775808 ≤ fr) (h6 : fr ≤ 9223372036854775807) (h7 : -9223372036854775808 ≤ ot) (h8 : ot ≤ 9223372036854775807) (h9 : -9223372036854775808 ≤ at') (h10 : at' ≤ 9223372036854775807) :
    Calls Try.prog 14 #[.string a, .string b, .int .i64 k, .int .i64 m, .int .i64 fr, .int .i64 ot, .int .i64 at', .int .u8 (y.toNat : Int)] w fun e w' => e = .returned (.bool true) ∧ Below w.heap.size w w' := by
  obtain ⟨N, hN1, hN2, hN3⟩ : ∃ N : Nat, a.size ≤ N ∧ b.size ≤ N ∧ (N = a.size ∨ N = b.size) := by
    rcases Nat.le_total a.size b.size with h | h
    · exact ⟨b.size, h, Nat.le_refl _, .inr rfl⟩
    · exact ⟨a.size, Nat.le_refl _, h, .inl rfl⟩
  have HN := Lib.hid hN3
  obtain ⟨da, hda⟩ : ∃ d : Nat, (N : Int) - (a.size : Int) = (d : Int) := ⟨N - a.size, by omega⟩
  obtain ⟨db, hdb⟩ : ∃ d : Nat, (N : Int) - (b.size : Int) = (d : Int) := ⟨N - b.size, by omega⟩
  have hNb : N ≤ 140737488351232 := by omega
  have EA : Hid (a.size + da = N) := Lib.hid (by omega)
  have EB : Hid (b.size + db = N) := Lib.hid (by omega)
  have bda : da ≤ 140737488351232 := by omega
  have bdb : db ≤ 140737488351232 := by omega
  have hmk1 := fun W => bytes_made48 W da (by omega)
  have hmk2 := fun W => bytes_made48 W db (by omega)
  have hcv1 := fun W => zeros_conv W da
  have hcv2 := fun (W : World) (o : Obj) => zeros_conv2 W o db
  clear hN3
  obtain ⟨tb, htb⟩ : ∃ tb, tailC 14 (Try.f14.body.getD .skip) = tb := ⟨_, rfl⟩
  have hT : LinTail1 tb w := by rw [← htb]; exact lin_tail14 w
  go_enter Try.func14, Try.ntmps14
  change Code.wp _ (takeC 14 (Try.f14.body.getD .skip) (tailC 14 (Try.f14.body.getD .skip))) _ _ _
  rw [htb]
  conv =>
    arg 2; whnf; arg 2; whnf; arg 2; whnf; arg 2; whnf; arg 2; whnf; arg 2; whnf; arg 2; whnf; arg 2; whnf; arg 2; whnf; arg 2; whnf; arg 2; whnf; arg 2; whnf; arg 2; whnf; arg 2; whnf; arg 2; whnf
  clear htb
  go_wp2_with fail
  refine (shAwake_any _).mono ?_
  rintro e w1 ⟨rfl, hb1⟩
  have HB1 := Lib.hid hb1
  have s1 := hb1.size
  clear hb1
  go_wp2_with fail
  refine (size_any k m _ h1 h2 h3 h4).mono ?_
  rintro e wz ⟨K, M, q0, rfl, K1, K2, KM, hwz⟩
  have HBz : Hid (Below w.heap.size w wz) := Lib.hid (by rw [hwz]; exact below_drewN HB1.out _)
  clear hwz HB1
  go_upto_region 4 with fail
  go_cut [17] (fun s17 wx => s17 = .int .i64 (N : Int) ∧ wz = wx)
  case first =>
    go_wp2_with fail
    all_goals
      go_meet
      refine ⟨?_, rfl⟩
      congr 1
      have := HN.out
      omega
  case rest =>
    obtain ⟨rfl, rfl⟩ := hcut
    clear HN
    have EZ1 : (a ++ zeroS da).size = N := by rw [ByteArray.size_append, zeroS_size]; exact EA.out
    have EZ2 : (b ++ zeroS db).size = N := by rw [ByteArray.size_append, zeroS_size]; exact EB.out
    obtain ⟨sa, hsa⟩ : ∃ sa, a ++ zeroS da = sa := ⟨_, rfl⟩
    obtain ⟨sb, hsb⟩ : ∃ sb, b ++ zeroS db = sb := ⟨_, rfl⟩
    rw [hsa] at EZ1
    rw [hsb] at EZ2
    obtain ⟨D, hD⟩ : ∃ D, cutL sa K = D := ⟨_, rfl⟩
    obtain ⟨E, hE⟩ : ∃ E, cutL sb K = E := ⟨_, rfl⟩
    have XC1 : Hid (cutR sa (K : Int) = (D, 0)) := Lib.hid (by unfold cutR; rw [if_pos (by omega), Int.toNat_natCast, hD])
    have XC2 : Hid (cutR sb (K : Int) = (E, 0)) := Lib.hid (by unfold cutR; rw [if_pos (by omega), Int.toNat_natCast, hE])
    have DL : Hid (D.length = K) := Lib.hid (by rw [← hD, cutL_length])
    have EL : Hid (E.length = K) := Lib.hid (by rw [← hE, cutL_length])
    obtain ⟨Wd, hWd⟩ : ∃ Wd, cutN sa K = Wd := ⟨_, rfl⟩
    have hWd2 : cutN sb K = Wd := by rw [← hWd]; unfold cutN; rw [EZ1, EZ2]
    have DZ : Hid (∀ j, j < K → (sAt D j).size = Wd) := Lib.hid (fun j hj => by rw [← hD, ← hWd]; unfold cutL; rw [sAt_map _ _ _ hj, bs_size]; simp)
    have EZ : Hid (∀ j, j < K → (sAt E j).size = Wd) := Lib.hid (fun j hj => by rw [← hE, ← hWd2]; unfold cutL; rw [sAt_map _ _ _ hj, bs_size]; simp)
    have DG := cutN_ge sa K K1
    rw [hWd] at DG
    have hKW : Wd * K ≤ N + K := by omega
    have hKW2 : K * Wd ≤ 140737488355392 := by rw [Nat.mul_comm]; omega
    have hW2 : Wd ≤ 140737488355328 := by have := Nat.le_mul_of_pos_right Wd K1; omega
    have DA : Hid (alikeB D = true) := Lib.hid (by rw [← hD]; exact (cut_alike sa K K1).1)
    have EAl : Hid (alikeB E = true) := Lib.hid (by rw [← hE]; exact (cut_alike sb K K1).1)
    have hsz1 : sa.size ≤ 140737488355328 := by omega
    have hsz2 : sb.size ≤ 140737488355328 := by omega
    have hzs1 : (zeroS da).size = da := zeroS_size _
    have hzs2 : (zeroS db).size = db := zeroS_size _
    clear EZ1 EZ2 hD hE hWd hWd2 DG
    go_wp2_with fail
    clear hmk1 hmk2 hcv1 hcv2 hda hdb hsa hsb hzs1 hzs2
    generalize hw2 : (wz.alloc (.cells (madeCells #[.int .u8 0] da) 5)).alloc (.cells (madeCells #[.int .u8 0] db) 5) = w2
    have HB2 : Hid (Below w.heap.size w w2) := Lib.hid (by rw [← hw2]; exact (HBz.out.alloc HBz.out.size _).alloc (by have := HBz.out.size; simp; omega) _)
    have s2 := HB2.out.size
    clear hw2 HBz
    refine (cut_any sa (K : Int) _ hsz1).mono ?_
    rintro e w3 ⟨v3, rfl, ho3, hb3⟩
    rw [XC1.out] at ho3 ⊢
    have HO3 : Hid (w3.ownsRow w2.heap.size 9 1 v3 K (strV D)) := Lib.hid (by have := ho3; rw [show (D, (0 : Int)).1.length = K from DL.out] at this; exact this)
    have HB3 : Hid (Below w.heap.size w w3) := Lib.hid (HB2.out.trans (hb3.mono s2))
    have s3 := HB3.out.size
    clear ho3 hb3
    obtain ⟨gd, cd, rfl, hcd, hgd1, hgd2, hrd⟩ := own_headD HO3.out K1
    have HRD := Lib.hid hrd
    clear hrd HO3
    go_wp2_with fail
    refine (cut_any sb (K : Int) _ hsz2).mono ?_
    rintro e w4 ⟨v4, rfl, ho4, hb4⟩
    rw [XC2.out] at ho4 ⊢
    have HO4 : Hid (w4.ownsRow w3.heap.size 9 1 v4 K (strV E)) := Lib.hid (by have := ho4; rw [show (E, (0 : Int)).1.length = K from EL.out] at this; exact this)
    have HB4 : Hid (Below w.heap.size w w4) := Lib.hid (HB3.out.trans (hb4.mono s3))
    have s4 := HB4.out.size
    have HRD4 := Lib.hid ((HRD.out.below hb4).more hb4.size)
    clear ho4 hb4
    obtain ⟨ge, ce, rfl, hce, hge1, hge2, hre⟩ := own_headD HO4.out K1
    have HRE4 := Lib.hid hre
    clear hre HO4
    obtain ⟨r0, hr0⟩ : ∃ r0, sAt D 0 = r0 := ⟨_, rfl⟩
    have hc0 : w4.cell? ⟨gd, 0, none⟩ = some (.string r0) := by rw [← hr0]; exact reads_cellS HRD4.out DL.out 0 (by omega)
    have hr0s : r0.size = Wd := by rw [← hr0]; exact DZ.out 0 (by omega)
    clear hr0
    have hKi : (0 : Int) < (K : Int) := by omega
    obtain ⟨t1, ht1⟩ : ∃ t1 : Int, fr.tmod ((Wd : Int) + 1) = t1 := ⟨_, rfl⟩
    have bt1 := tmod_bd fr ((Wd : Int) + 1) (by omega)
    rw [ht1] at bt1
    obtain ⟨bt1a, bt1b⟩ := bt1
    obtain ⟨F, hF⟩ : ∃ F : Nat, (t1 + (Wd : Int) + 1) % ((Wd : Int) + 1) = (F : Int) := ⟨((t1 + (Wd : Int) + 1) % ((Wd : Int) + 1)).toNat, by have := Int.emod_nonneg (t1 + (Wd : Int) + 1) (show ((Wd : Int) + 1) ≠ 0 by omega); omega⟩
    have F1 : F ≤ Wd := by have := Int.emod_lt_of_pos (t1 + (Wd : Int) + 1) (show (0 : Int) < (Wd : Int) + 1 by omega); omega
    obtain ⟨t2, ht2⟩ : ∃ t2 : Int, ot.tmod ((Wd : Int) + 1 - (F : Int)) = t2 := ⟨_, rfl⟩
    have bt2 := tmod_bd ot ((Wd : Int) + 1 - (F : Int)) (by omega)
    rw [ht2] at bt2
    obtain ⟨bt2a, bt2b⟩ := bt2
    obtain ⟨V, hV⟩ : ∃ V : Nat, (t2 + (Wd : Int) + 1 - (F : Int)) % ((Wd : Int) + 1 - (F : Int)) = (V : Int) := ⟨((t2 + (Wd : Int) + 1 - (F : Int)) % ((Wd : Int) + 1 - (F : Int))).toNat, by have := Int.emod_nonneg (t2 + (Wd : Int) + 1 - (F : Int)) (show ((Wd : Int) + 1 - (F : Int)) ≠ 0 by omega); omega⟩
    have V1 : F + V ≤ Wd := by have := Int.emod_lt_of_pos (t2 + (Wd : Int) + 1 - (F : Int)) (show (0 : Int) < (Wd : Int) + 1 - (F : Int) by omega); omega
    obtain ⟨G, hG⟩ : ∃ G : Nat, (F : Int) + (V : Int) = (G : Int) := ⟨F + V, by omega⟩
    have hn1 : (((Wd : Int) + 1) == 0) = false := by rw [beq_eq_false_iff_ne]; omega
    have hn2 : (((Wd : Int) + 1 - (F : Int)) == 0) = false := by rw [beq_eq_false_iff_ne]; omega
    have G1 : F ≤ G := by omega
    have G2 : G ≤ Wd := by omega
    clear V1
    go_wp2_with fail
    simp only [hF]
    clear ht1 ht2 hF hV hG hc0 hr0s hn1 hn2 bt1a bt1b bt2a bt2b
    have hFG : (F : Int) ≤ (G : Int) := by omega
    go_loopw [23, 24, 25, 26] (fun v1 v2 v3 i wr => ∃ j : Nat, j ≤ K ∧ i = .int .i64 j ∧ Hid (Three wr w4.heap.size 9 v1 j (strV (overL D E j)) v2 j (strV (pieceL D j F G)) v3 j (strV (D.take j)) ∧ Below w4.heap.size w4 wr)) (fun _ _ _ i _ => K - (intOf i).toNat)
    case atStart => exact ⟨0, by omega, rfl, Lib.hid ⟨Three.nil _ _ _, Below.refl _ _⟩⟩
    case round =>
      obtain ⟨j, hj, rfl, HK⟩ := hrel
      by_cases hjl : j < K
      · obtain ⟨r1, hr1⟩ : ∃ r1, sAt D j = r1 := ⟨_, rfl⟩
        obtain ⟨r2, hr2⟩ : ∃ r2, sAt E j = r2 := ⟨_, rfl⟩
        have hz1 : r1.size = Wd := by rw [← hr1]; exact DZ.out j hjl
        have hz2 : r2.size = Wd := by rw [← hr2]; exact EZ.out j hjl
        have CX : Hid (∀ W, Below w4.heap.size w4 W → W.cell? ⟨gd, j, none⟩ = some (.string r1)) := Lib.hid (fun W hb => by rw [← hr1]; exact reads_cellS (HRD4.out.below hb) DL.out j hjl)
        have CY : Hid (∀ W, Below w4.heap.size w4 W → W.cell? ⟨ge, j, none⟩ = some (.string r2)) := Lib.hid (fun W hb => by rw [← hr2]; exact reads_cellS (HRE4.out.below hb) EL.out j hjl)
        have E1 : Hid (overL D E (j + 1) = overL D E j ++ [overS r1 r2]) := Lib.hid (by unfold overL; rw [map_succ, hr1, hr2])
        have E2 : Hid (pieceL D (j + 1) F G = pieceL D j F G ++ [r1.extract F G]) := Lib.hid (by unfold pieceL; rw [map_succ, hr1])
        have E3 : Hid (D.take (j + 1) = D.take j ++ [r1]) := Lib.hid (by
          have hjD : j < D.length := by rw [DL.out]; exact hjl
          rw [List.take_add_one, List.getElem?_eq_getElem hjD, ← hr1, sAt_get hjD]; rfl)
        clear hr1 hr2
        have hzo : r1.size ≤ 281474976710656 := by omega
        have hzo2 : r1.size ≤ r2.size := by omega
        have hzo3 : r2.size ≤ 9223372036854775807 := by omega
        have hx1 := CX.out wr HK.out.2
        have hx2 := CY.out wr HK.out.2
        have hji : (j : Int) < (K : Int) := by omega
        have hk1 : j ≤ 4611686018427387904 := by omega
        have hk2 : (j + 1) * 16 ≤ 140737488355328 := by omega
        have hGs : (G : Int) ≤ (r1.size : Int) := by omega
        clear hz1 hz2
        have CXY : Hid (∀ W, Below w4.heap.size w4 W → W.cell? ⟨gd, j, none⟩ = some (.string r1) ∧ W.cell? ⟨ge, j, none⟩ = some (.string r2)) := Lib.hid (fun W hb => ⟨CX.out W hb, CY.out W hb⟩)
        have HBK : Hid (∀ W, Below wr.heap.size wr.drew W → Below w4.heap.size w4 W) := Lib.hid (fun W hb => HK.out.2.drew.trans (hb.mono HK.out.2.size))
        have HTK : Hid (∀ W, Below wr.heap.size wr.drew W → Three W w4.heap.size 9 u23 j (strV (overL D E j)) u24 j (strV (pieceL D j F G)) u25 j (strV (D.take j))) := Lib.hid (fun W hb => HK.out.1.below ((Below.refl wr.heap.size wr).drew.trans hb))
        go_wp2
        refine wp_region_held_drew (S := fun w' => w'.cell? ⟨gd, j, none⟩ = some (.string r1) ∧ w'.cell? ⟨ge, j, none⟩ = some (.string r2)) (by kernel_rfl) (by first | exact CXY.out _ HK.out.2 | exact CXY.out _ HK.out.2.drew | exact CXY.out _ (HBK.out _ hbc) | exact CXY.out _ ((HBK.out _ hbc).alloc (HBK.out _ hbc).size _) | exact CXY.out _ (below_own (HBK.out _ hbc) (HTK.out _ hbc).t12.o1 hga)) (fun hHeld => ?_)
        refine wpAnyH_take (i := 0) (oi := _) (v := _) rfl (by as_aux_lemma => kernel_rfl) (by as_aux_lemma => kernel_rfl) (by as_aux_lemma => kernel_rfl) (fun _ _ _ h => h) (Or.inl ⟨by kernel_rfl, by (intro w hSw; (try dsimp only at hSw); go_simp; first | done | with_reducible rfl)⟩) (by assumption) ?_
        (try simp only [Act.put, List.setIfInBounds_toArray, List.set_cons_zero, List.set_cons_succ])
        refine wpAnyH_take (i := 1) (oi := _) (v := _) rfl (by as_aux_lemma => kernel_rfl) (by as_aux_lemma => kernel_rfl) (by as_aux_lemma => kernel_rfl) (fun _ _ _ h => h) (Or.inl ⟨by kernel_rfl, by (intro w hSw; (try dsimp only at hSw); go_simp; first | done | with_reducible rfl)⟩) (by assumption) ?_
        (try simp only [Act.put, List.setIfInBounds_toArray, List.set_cons_zero, List.set_cons_succ])
        refine wpAnyH_take (i := 2) (oi := _) (v := _) rfl (by as_aux_lemma => kernel_rfl) (by as_aux_lemma => kernel_rfl) (by as_aux_lemma => kernel_rfl) (fun _ _ _ h => h) (Or.inl ⟨by kernel_rfl, by (intro w hSw; (try dsimp only at hSw); go_simp; first | done | with_reducible rfl)⟩) (by assumption) ?_
        (try simp only [Act.put, List.setIfInBounds_toArray, List.set_cons_zero, List.set_cons_succ])
        refine wpAnyH_take (i := 3) (oi := _) (v := _) rfl (by as_aux_lemma => kernel_rfl) (by as_aux_lemma => kernel_rfl) (by as_aux_lemma => kernel_rfl) (fun _ _ _ h => h) (Or.inl ⟨by kernel_rfl, by (intro w hSw; (try dsimp only at hSw); go_simp; first | done | with_reducible rfl)⟩) (by assumption) ?_
        (try simp only [Act.put, List.setIfInBounds_toArray, List.set_cons_zero, List.set_cons_succ])
        refine wpAnyH_take (i := 4) (oi := _) (v := _) rfl (by as_aux_lemma => kernel_rfl) (by as_aux_lemma => kernel_rfl) (by as_aux_lemma => kernel_rfl) (fun _ _ _ h => h) (Or.inl ⟨by kernel_rfl, by (intro w hSw; (try dsimp only at hSw); go_simp; first | done | with_reducible rfl)⟩) (by assumption) ?_
        (try simp only [Act.put, List.setIfInBounds_toArray, List.set_cons_zero, List.set_cons_succ])
        refine wpAnyH_take (i := 5) (oi := _) (v := _) rfl (by as_aux_lemma => kernel_rfl) (by as_aux_lemma => kernel_rfl) (by as_aux_lemma => kernel_rfl) (fun _ _ _ h => h) (Or.inl ⟨by kernel_rfl, by (intro w hSw; (try dsimp only at hSw); go_simp; first | done | with_reducible rfl)⟩) (by assumption) ?_
        (try simp only [Act.put, List.setIfInBounds_toArray, List.set_cons_zero, List.set_cons_succ])
        refine wpAnyH_take (i := 6) (oi := _) (v := _) rfl (by as_aux_lemma => kernel_rfl) (by as_aux_lemma => kernel_rfl) (by as_aux_lemma => kernel_rfl) (fun _ _ _ h => h) (Or.inl ⟨by kernel_rfl, by (intro w hSw; (try dsimp only at hSw); go_simp; first | done | with_reducible rfl)⟩) (by assumption) ?_
        (try simp only [Act.put, List.setIfInBounds_toArray, List.set_cons_zero, List.set_cons_succ])
        refine wpAnyH_take (i := 7) (oi := _) (v := _) rfl (by as_aux_lemma => kernel_rfl) (by as_aux_lemma => kernel_rfl) (by as_aux_lemma => kernel_rfl) (fun _ _ _ h => h) (Or.inl ⟨by kernel_rfl, by (intro w hSw; (try dsimp only at hSw); go_simp; first | done | with_reducible rfl)⟩) (by assumption) ?_
        (try simp only [Act.put, List.setIfInBounds_toArray, List.set_cons_zero, List.set_cons_succ])
        refine wpAnyH_take (i := 8) (oi := _) (v := _) rfl (by as_aux_lemma => kernel_rfl) (by as_aux_lemma => kernel_rfl) (by as_aux_lemma => kernel_rfl) (fun _ _ _ h => h) (Or.inl ⟨by kernel_rfl, by (intro w hSw; (try dsimp only at hSw); go_simp; first | done | with_reducible rfl)⟩) (by assumption) ?_
        (try simp only [Act.put, List.setIfInBounds_toArray, List.set_cons_zero, List.set_cons_succ])
        refine wpAnyH_ready (rs := [9]) (by as_aux_lemma => kernel_rfl) (by simp) (AllReadyH.cons rfl (fun KK hK => ?_) AllReadyH.nil)
        try simp only [List.getElem_toArray, List.getElem_cons_succ, List.getElem_cons_zero]
        go_simp
        go_at_call 54
        refine (ovS_any r1 r2 _ hzo hzo2 hzo3).mono ?_
        rintro e wc ⟨rfl, hbc⟩
        go_simp
        refine hK.out _ _ (by first | exact CXY.out _ HK.out.2 | exact CXY.out _ HK.out.2.drew | exact CXY.out _ (HBK.out _ hbc) | exact CXY.out _ ((HBK.out _ hbc).alloc (HBK.out _ hbc).size _) | exact CXY.out _ (below_own (HBK.out _ hbc) (HTK.out _ hbc).t12.o1 hga)) (fun hHeld => ?_)
        clear hK KK
        (try simp only [Act.put, List.setIfInBounds_toArray, List.set_cons_zero, List.set_cons_succ])
        refine wpAnyH_ready (rs := [10]) (by as_aux_lemma => kernel_rfl) (by simp) (AllReadyH.cons rfl (fun KK hK => ?_) AllReadyH.nil)
        try simp only [List.getElem_toArray, List.getElem_cons_succ, List.getElem_cons_zero]
        go_simp
        refine hK.out _ _ (by first | exact CXY.out _ HK.out.2 | exact CXY.out _ HK.out.2.drew | exact CXY.out _ (HBK.out _ hbc) | exact CXY.out _ ((HBK.out _ hbc).alloc (HBK.out _ hbc).size _) | exact CXY.out _ (below_own (HBK.out _ hbc) (HTK.out _ hbc).t12.o1 hga)) (fun hHeld => ?_)
        clear hK KK
        (try simp only [Act.put, List.setIfInBounds_toArray, List.set_cons_zero, List.set_cons_succ])
        refine wpAnyH_ready (rs := [11]) (by as_aux_lemma => kernel_rfl) (by simp) (AllReadyH.cons rfl (fun KK hK => ?_) AllReadyH.nil)
        try simp only [List.getElem_toArray, List.getElem_cons_succ, List.getElem_cons_zero]
        rw [if_pos (by as_aux_lemma => kernel_rfl)]
        refine wp_append1b elemStr _ _ rfl w4.heap.size u23 j _ rfl (HTK.out _ hbc).t12.o1 (.string (overS r1 r2)) rfl rfl hk1 hk2 (HBK.out _ hbc).size ?_
        intro v1 wa hoa hga hda
        refine hK.out _ _ (by first | exact CXY.out _ HK.out.2 | exact CXY.out _ HK.out.2.drew | exact CXY.out _ (HBK.out _ hbc) | exact CXY.out _ ((HBK.out _ hbc).alloc (HBK.out _ hbc).size _) | exact CXY.out _ (below_own (HBK.out _ hbc) (HTK.out _ hbc).t12.o1 hga)) (fun hHeld => ?_)
        clear hK KK
        (try simp only [Act.put, List.setIfInBounds_toArray, List.set_cons_zero, List.set_cons_succ])
        refine wpAnyH_take (i := 12) (oi := _) (v := _) rfl (by as_aux_lemma => kernel_rfl) (by as_aux_lemma => kernel_rfl) (by as_aux_lemma => kernel_rfl) (fun _ _ _ h => h) (Or.inl ⟨by kernel_rfl, by (intro w hSw; (try dsimp only at hSw); go_simp; first | done | with_reducible rfl)⟩) (by assumption) ?_
        (try simp only [Act.put, List.setIfInBounds_toArray, List.set_cons_zero, List.set_cons_succ])
        refine wpAnyH_done (by as_aux_lemma => kernel_rfl) ?_ _
        simp only [List.getElem_toArray, List.getElem_cons_succ, List.getElem_cons_zero, List.set_cons_succ, List.set_cons_zero]
        have HBa := Lib.hid (below_own (HBK.out _ hbc) (HTK.out _ hbc).t12.o1 hga)
        have H1 := Lib.hid ((HTK.out _ hbc).push hoa hga hda)
        have hs1 := HBa.out.size
        have hx3 := CX.out wa HBa.out
        clear hoa hga hda hbc hHeld
        go_wp2_with (first
          | (at_builtin; refine append1_blk elemStr rfl _ _ rfl w4.heap.size u24 j _ (by rfl) H1.out.turn.t12.o1 (.string (r1.extract F G)) (by rfl) (by rfl) hk1 hk2 hs1 ?_; intro v2 wb hob hgb hdb; have HBb := Lib.hid (below_own HBa.out H1.out.turn.t12.o1 hgb); have H2 := Lib.hid (H1.out.turn.push hob hgb hdb); have hs2 := HBb.out.size; have hx4 := CX.out wb HBb.out; clear hob hgb hdb)
          | (at_builtin; refine append1_blk elemStr rfl _ _ rfl w4.heap.size u25 j _ (by rfl) H2.out.turn.t12.o1 (.string r1) (by rfl) (by rfl) hk1 hk2 hs2 ?_; intro v3 wd hod hgd' hdd; have HBd := Lib.hid (below_own HBb.out H2.out.turn.t12.o1 hgd'); have H3 := Lib.hid (H2.out.turn.push hod hgd' hdd).turn; clear hod hgd' hdd))
        go_roundw
        case rel => exact ⟨j + 1, by omega, by go_num, Lib.hid ⟨by rw [E1.out, E2.out, E3.out]; simpa [strV] using H3.out, HBd.out⟩⟩
        case measure => simp [intOf]; omega
      · obtain rfl : j = K := by omega
        have H5 : Hid (Three wr w4.heap.size 9 u23 j (strV (overL D E j)) u24 j (strV (pieceL D j F G)) u25 j (strV D)) := Lib.hid (by
          have h := HK.out.1
          rw [List.take_of_length_le (by rw [DL.out]; exact Nat.le_refl _)] at h
          exact h)
        have HB5 : Hid (Below w.heap.size w wr) := Lib.hid (HB4.out.trans (HK.out.2.mono s4))
        have s5 := HB5.out.size
        have HRD5 := Lib.hid ((HRD4.out.below HK.out.2).more HK.out.2.size)
        have HRE5 := Lib.hid ((HRE4.out.below HK.out.2).more HK.out.2.size)
        clear HK HRD4 HRE4
        have hgoW0 := HB4.out.size
        obtain ⟨Ab, cb, rfl, hcb, hrb⟩ := own_readsC H5.out.t12.o1
        obtain ⟨Ap, cp, rfl, hcp, hrp⟩ := own_readsC H5.out.t12.o2
        obtain ⟨go, co, rfl, hco, hgo1, hgo2, hro⟩ := own_headD H5.out.t23.o2 K1
        have HRB5 := Lib.hid hrb
        have HRP5 := Lib.hid hrp
        have HBO5 : Hid (bufIs wr 9 go j co (fun i => .string (sAt D i))) := Lib.hid ((bufIs.own (v := .bool true) H5.out.t23.o2).congr fun i hi => (by
          rw [List.getD_eq_getElem?_getD, strV_get _ _ (by rw [DL.out]; exact hi), sAt_get (by rw [DL.out]; exact hi)]; rfl))
        clear hrb hrp hro H5
        have hgoW : w.heap.size ≤ go := by omega
        go_wp2_with fail
        exact hT _ _ _ _ _ _ _ _ _ _ _ _ _ _ _ _ _ _ _ _ _ _ _ _ _ _ _ _ _ _ _ _ _ _ _ _ _ _ _ _ _ _ _ _ _ _ _ _ _ _ _ _ _ _ _ _ _ _ _ _ _ _ _ _ _ _ _ _ _ _ _ _ _ _ _ _ _ _ _ _ _ _ _ _ _ _ _ _ _ _ _ _ _ _ _ _ _ _ _ _ _ _ _ _ _ _ _ _ _ _ _ _ _ _ _ _ _ _ _ _ _ _ _ _ _ _ _ _ _ _ _ _ _ _ _ _ _ _ _ _ _ _ _ _ _ _ _ _ _ _ _ _ _ _ _ _ _ _ _ _ _ _ _ _ _ _ _ _ _ _ _ _ _ _ _ _ _ _ _ _ _ _ _ _ _ _ _ _ _ _ _ _ _ _ _ _ _ _ _ _ _ _ _ _ _ _ _ _ _ _ _ _ _ _ _ _ _ _ _ _ _ _ _ _ _ _ _ _ _ _ _ _ _ _ _ _ _ _ _ _ _ _ _ _ _ _ _ _ _ _ _ _ _ _ _ _ _ _ _ _ _ _ _ _ _ _ _ _ _ _ _ _ _ _ _ _ _ _ _ _ _ _ _ _ _ _ _ _ _ _ _ _ _ _ _ _ _ _ _ _ _ _ _ _ _ _ _ _ _ _ _ _ _ _ _ _ _ _ _ _ _ _ _ _ _ _ _ _ _ _ _ _ _ _ _ _ _ _ _ _ _ _ _ _ _ _ _ _ _ _ _ _ _ _ _ _ _ j M Wd F G at' y D E gd ge go cd ce cb cp co Ab Ap wr K1 K2 KM G1 G2 hW2 hKW2 h9 h10 DL EL DZ EZ DA EAl HRD5 HRE5 HRB5 HRP5 HBO5 hgoW HB5
end Go.Proofs.Ythlnnclpfgokjaa
