/- Walk: the law ShardsWrong returns true. -/
import Derived.Test.YthlnnclpfgokjaaShardsBackW
import Derived.Test.YthlnnclpfgokjaaShW
import Derived.Test.YthlnnclpfgokjaaShR
namespace Go.Proofs.Ythlnnclpfgokjaa
open Go.RowKit Gf
set_option linter.unusedVariables false
theorem map_sAt (l : List ByteArray) : (List.range l.length).map (sAt l) = l :=
  strs_ext (by simp) fun j hj => by
    rw [List.length_map, List.length_range] at hj
    rw [sAt_map _ _ _ hj]
theorem reads_cellS {w : World} {B g n : Nat} {l : List ByteArray} (h : Reads w B 1 (some ⟨g, 0, none⟩) n (strV l)) (hl : l.length = n) (j : Nat) (hj : j < n) : w.cell? ⟨g, j, none⟩ = some (.string (sAt l j)) := by
  obtain ⟨ad, e, _, hc⟩ := h.2 (by omega)
  injection e with e
  subst e
  have := hc j (.string (sAt l j)) (by rw [strV_get _ _ (by rw [hl]; exact hj), sAt_get (by rw [hl]; exact hj)])
  rw [add0] at this
  exact this
theorem buf_readsU {w : World} {e : TypeId} {g n cap : Nat} {F : Nat → UInt8} (h : bufIs w e g n cap (fun j => .int .u8 ((F j).toNat : Int))) : Reads w w.heap.size 1 (some ⟨g, 0, none⟩) n (u8s ((List.range n).map F)) := by
  refine ⟨by simp [u8s], fun _ => ⟨_, rfl, h.lt, fun j u hu => ?_⟩⟩
  have hj : j < n := by
    rcases Nat.lt_or_ge j n with h | h
    · exact h
    · rw [List.getElem?_eq_none (by simp [u8s]; exact h)] at hu; cases hu
  simp [u8s, hj] at hu
  rw [add0, h.cell hj, ← hu]
/-- x folded into 0 .. D-1. -/
theorem fold_at (x : Int) (D : Nat) (h1 : 1 ≤ D) (h2 : D ≤ 140737488355328) : ∃ (t : Int) (u W : Nat), x.tmod (D : Int) = t ∧ t + (D : Int) = (u : Int) ∧ W < D ∧ (u : Int).tmod (D : Int) = (W : Int) ∧ (u : Int) % (D : Int) = (W : Int) ∧ t % (D : Int) = (W : Int) ∧
    IntKind.i64.wrap (t + (D : Int)) = (u : Int) ∧ IntKind.i64.wrap t = t ∧ ((D : Int) == 0) = false ∧ IntKind.i64.wrap (W : Int) = (W : Int) ∧ u < 2 * D := by
  obtain ⟨c1, c2⟩ := tmod_bd x (D : Int) (by omega)
  obtain ⟨t, ht⟩ : ∃ t, x.tmod (D : Int) = t := ⟨_, rfl⟩
  rw [ht] at c1 c2
  obtain ⟨u, hu⟩ : ∃ u : Nat, t + (D : Int) = (u : Int) := ⟨(t + (D : Int)).toNat, by omega⟩
  have hW : u % D < D := Nat.mod_lt _ (by omega)
  have e : (u : Int) % (D : Int) = ((u % D : Nat) : Int) := rfl
  refine ⟨t, u, u % D, ht, hu, hW, by rw [Int.tmod_eq_emod_of_nonneg (by omega)]; rfl, e, ?_, by rw [hu]; exact IntWalk.i64_in _ (by omega), IntWalk.i64_in _ (by omega), by rw [beq_eq_false_iff_ne]; omega, IntWalk.i64_in _ (by omega), by omega⟩
  rw [← e, ← hu, Int.add_emod_right]
/-- A text with one byte changed. -/
def chg (r : ByteArray) (V : Nat) (z : UInt8) : Nat → UInt8 := fun j => if j = V then byteAt r V ^^^ z else byteAt r j
theorem chg_size (r : ByteArray) (V : Nat) (z : UInt8) : (bs ((List.range r.size).map (chg r V z))).size = r.size := by rw [bs_size]; simp
theorem chg_ne (r : ByteArray) (V : Nat) (z : UInt8) (hz : z ≠ 0) (hV : V < r.size) : bs ((List.range r.size).map (chg r V z)) ≠ r := fun e => by
  have h : byteAt (bs ((List.range r.size).map (chg r V z))) V = byteAt r V := by rw [e]
  rw [byteAt_bs, show ((List.range r.size).map (chg r V z)).getD V 0 = chg r V z V by simp [List.getD, hV]] at h
  unfold chg at h
  rw [if_pos rfl] at h
  exact hz (by
    have h2 : byteAt r V ^^^ (byteAt r V ^^^ z) = byteAt r V ^^^ byteAt r V := by rw [h]
    rw [← UInt8.xor_assoc, UInt8.xor_self, UInt8.zero_xor] at h2
    exact h2)
theorem chg_buf {w : World} {e : TypeId} {g cap : Nat} {r : ByteArray} {V : Nat} {z : UInt8} (X : Int) (h : bufIs w e g r.size cap (fun j => .int .u8 ((byteAt r j).toNat : Int))) (hX : X = ((byteAt r V ^^^ z).toNat : Int)) :
    bufIs (w.setCell ⟨g, V, none⟩ (.int .u8 X)) e g r.size cap (fun j => .int .u8 ((chg r V z j).toNat : Int)) := by
  refine (h.set V _).congr fun i _ => ?_
  unfold chg
  by_cases e : i = V
  · rw [if_pos e, if_pos e, hX]
  · rw [if_neg e, if_neg e]
theorem put_reads {w : World} {g T ca : Nat} (all : List ByteArray) (W : Nat) (t : ByteArray) (hl : all.length = T) (hW : W < T) (h : bufIs w 9 g T ca (fun i => .string (sAt all i))) :
    Reads (w.setCell ⟨g, W, none⟩ (.string t)) (w.setCell ⟨g, W, none⟩ (.string t)).heap.size 1 (some ⟨g, 0, none⟩) T (strV (putL all W t)) := by
  have h2 : bufIs (w.setCell ⟨g, W, none⟩ (.string t)) 9 g T ca (fun i => .string (sAt (putL all W t) i)) := (h.set W (.string t)).congr fun i _ => by
    rw [sAt_put _ _ _ _ (by rw [hl]; exact hW)]
    by_cases e : i = W
    · rw [if_pos e, if_pos e]
    · rw [if_neg e, if_neg e]
  have h3 := buf_readsS h2
  have h4 := map_sAt (putL all W t)
  rw [putL_length, hl] at h4
  rw [h4] at h3
  exact h3
set_option maxRecDepth 100000 in
set_option maxHeartbeats 16000000 in
theorem shardsWrong_walk (s : ByteArray) (k m wh at' : Int) (y : UInt8) (w : World)
    (hs : s.size ≤ 140737488351232) (h1 : -9223372036854775808 ≤ k) (h2 : k ≤ 9223372036854775807) (h3 : -9223372036854775808 ≤ m) (h4 : m ≤ 9223372036854775807)
    (h5 : -9223372036854775808 ≤ wh) (h6 : wh ≤ 9223372036854775807) (h7 : -9223372036854775808 ≤ at') (h8 : at' ≤ 9223372036854775807) :
    Calls Try.prog 15 #[.string s, .int .i64 k, .int .i64 m, .int .i64 wh, .int .i64 at', .int .u8 (y.toNat : Int)] w fun e w' => e = .returned (.bool true) ∧ Below w.heap.size w w' := by
  obtain ⟨K, hK⟩ : ∃ K : Nat, 1 + k.tmod 9 % 9 = (K : Int) := ⟨(1 + k.tmod 9 % 9).toNat, by omega⟩
  obtain ⟨M, hM⟩ : ∃ M : Nat, 1 + m.tmod 6 % 6 = (M : Int) := ⟨(1 + m.tmod 6 % 6).toNat, by omega⟩
  have bk := tmod_bd k 9 (by omega)
  have bm := tmod_bd m 6 (by omega)
  obtain ⟨bk1, bk2⟩ := bk
  obtain ⟨bm1, bm2⟩ := bm
  have K1 : 1 ≤ K := by omega
  have K2 : K ≤ 9 := by omega
  have M1 : 1 ≤ M := by omega
  have M2 : M ≤ 6 := by omega
  obtain ⟨T, hT⟩ : ∃ T, K + M = T := ⟨_, rfl⟩
  have hTi : (K : Int) + (M : Int) = (T : Int) := by omega
  have HT := Lib.hid hT
  have T1 : K ≤ T := by omega
  have T2 : T ≤ 15 := by omega
  have T3 : M ≤ T := by omega
  have hSS : (s ++ (⟨#[120]⟩ : ByteArray)).size = s.size + 1 := by rw [ByteArray.size_append]; rfl
  have HSS : (s ++ (⟨#[120]⟩ : ByteArray)).size ≤ 140737488355328 := by omega
  obtain ⟨D, hD⟩ : ∃ D, cutL (s ++ (⟨#[120]⟩ : ByteArray)) K = D := ⟨_, rfl⟩
  have XC : Hid (cutR (s ++ (⟨#[120]⟩ : ByteArray)) (K : Int) = (D, 0)) := Lib.hid (by unfold cutR; rw [if_pos (by omega), Int.toNat_natCast, hD])
  have DL : D.length = K := by rw [← hD, cutL_length]
  obtain ⟨DA, DZ⟩ := cut_alike (s ++ (⟨#[120]⟩ : ByteArray)) K K1
  have DG := cutN_ge (s ++ (⟨#[120]⟩ : ByteArray)) K K1
  rw [hD] at DA DZ
  rw [hSS] at DG
  obtain ⟨N, hN⟩ : ∃ N, cutN (s ++ (⟨#[120]⟩ : ByteArray)) K = N := ⟨_, rfl⟩
  rw [hN] at DZ DG
  have N1 : 1 ≤ N := by
    rcases Nat.eq_zero_or_pos N with h | h
    · subst h; omega
    · exact h
  have N2 : N ≤ 140737488355328 := by have := Nat.le_mul_of_pos_right N K1; omega
  have XE : Hid (encR D (M : Int) = (parL D M, 0)) := Lib.hid (by rw [encR_yes ⟨by omega, by omega, DA, by omega, by omega⟩, Int.toNat_natCast])
  have AL : (allL D M).length = T := by rw [allL_length, DL, hT]
  obtain ⟨t1, u1, W, ht1, hu1, hW, hm1, hm2, hm3, hw1, hw2, hT0, hw3, hw4⟩ := fold_at wh T (by omega) (by omega)
  obtain ⟨r, hr⟩ : ∃ r, sAt (allL D M) W = r := ⟨_, rfl⟩
  have HRr := Lib.hid hr
  have hrs : r.size = N := by rw [← hr, allL_size D M W DA (by omega), DZ]
  obtain ⟨t2, u2, V, ht2, hu2, hV, hn1, hn2, hn3, hx1, hx2, hN0, hx3, hx4⟩ := fold_at at' r.size (by omega) (by omega)
  subst hrs
  have hWT : (W : Int) < (T : Int) := by omega
  have hVN : (V : Int) < (r.size : Int) := by omega
  have HDL := Lib.hid DL
  have HDA := Lib.hid DA
  have HDZ := Lib.hid DZ
  have HAL := Lib.hid AL
  have HSZ : Hid (∀ i, i < T → (sAt (allL D M) i).size = r.size) := Lib.hid (fun i hi => by rw [allL_size D M i DA (by omega), DZ])
  have HS0 : (sAt D 0).size ≤ 281474976710656 := by omega
  clear hm2 hm3 hw1 hw3 hn2 hn3 hx1 hx3
  clear hT hD DL DA DZ AL DG hr hSS hN
  go_enter Try.func15, Try.ntmps15
  go_wp2_with fail
  refine (shAwake_any _).mono ?_
  rintro e w1 ⟨rfl, hb1⟩
  have HB1 := Lib.hid hb1
  have s1 := hb1.size
  clear hb1
  go_wp2_with fail
  refine (cut_any (s ++ (⟨#[120]⟩ : ByteArray)) (K : Int) _ HSS).mono ?_
  rintro e w2 ⟨v2, rfl, ho2, hb2⟩
  rw [XC.out] at ho2 ⊢
  have HO2 : Hid (w2.ownsRow w1.heap.size 9 1 v2 K (strV D)) := Lib.hid (by have := ho2; rw [show (D, (0 : Int)).1.length = K from HDL.out] at this; exact this)
  have HB2 : Hid (Below w.heap.size w w2) := Lib.hid (HB1.out.trans (hb2.mono s1))
  have s2 : w1.heap.size ≤ w2.heap.size := hb2.size
  clear ho2 hb2
  obtain ⟨gd, cd, rfl, hcd, hgd1, hgd2, hrd⟩ := own_headD HO2.out K1
  have HRD := Lib.hid hrd
  clear hrd
  go_wp2_with fail
  refine (encode_any _ K cd D (M : Int) _ _ HRD.out (Nat.le_refl _) (by omega) (by omega) (by omega) HS0).mono ?_
  rintro e w3 ⟨v3, rfl, ho3, hb3⟩
  rw [XE.out] at ho3 ⊢
  have HO3 : Hid (w3.ownsRow w2.heap.size 9 1 v3 M (strV (parL D M))) := Lib.hid (by have := ho3; rw [show (parL D M, (0 : Int)).1.length = M from parL_length _ _] at this; exact this)
  have HB3 : Hid (Below w.heap.size w w3) := Lib.hid (HB2.out.trans (hb3.mono HB2.out.size))
  have HRD3 := Lib.hid (HRD.out.below hb3)
  have s3 := hb3.size
  clear ho3 hb3
  obtain ⟨A3, c3, rfl, hc3, hr3⟩ := own_readsC HO3.out
  have HRP := Lib.hid hr3
  clear hr3
  obtain ⟨ii, hii, hz0, hz1, hz2⟩ := elemStr.info
  have HI := Lib.hid hii
  have HZ0 := Lib.hid hz0
  have HZ1 := Lib.hid hz1
  have HZB := Lib.hid hz2
  clear hii hz0 hz1 hz2
  have OE := Lib.hid (own_emptyB w3 9)
  have HRD4 : Hid (Reads (w3.alloc (.cells #[] 9)) w2.heap.size 1 (some ⟨gd, 0, none⟩) K (strV D)) := Lib.hid (HRD3.out.alloc s3 _)
  have HY : (∃ z : UInt8, z ≠ 0 ∧ Hid (∀ b : UInt8, bits .xor .u8 (b.toNat : Int) 1 = ((b ^^^ z).toNat : Int))) ∧ ((y.toNat : Int) == 0) = true ∨ (∃ z : UInt8, z ≠ 0 ∧ Hid (∀ b : UInt8, bits .xor .u8 (b.toNat : Int) (y.toNat : Int) = ((b ^^^ z).toNat : Int))) ∧ ((y.toNat : Int) == 0) = false := by
    by_cases hy : y = 0
    · exact .inl ⟨⟨1, by decide, Lib.hid fun b => xor_bits b 1⟩, by subst hy; rfl⟩
    · refine .inr ⟨⟨y, hy, Lib.hid fun b => xor_bits b y⟩, ?_⟩
      rw [beq_eq_false_iff_ne]
      intro h
      exact hy (UInt8.toNat_inj.1 (by show y.toNat = 0; omega))
  rcases HY with ⟨⟨z, hz, XB⟩, hy0⟩ | ⟨⟨z, hz, XB⟩, hy0⟩
  all_goals
    obtain ⟨t, ht⟩ : ∃ t, bs ((List.range r.size).map (chg r V z)) = t := ⟨_, rfl⟩
    have tz : t.size = r.size := by rw [← ht, chg_size]
    have tne : t ≠ sAt (allL D M) W := by rw [← ht, HRr.out]; exact chg_ne r V z hz hV
    have HTX := Lib.hid ht
    obtain ⟨PL, hPL⟩ : ∃ PL, putL (allL D M) W t = PL := ⟨_, rfl⟩
    have HPL := Lib.hid hPL
    have XF : Hid (fitR PL (K : Int) = (false, 0)) := Lib.hid (by have := wrong_fits D M W t (by rw [HDL.out]; omega) (by rw [HDL.out]; omega) (by rw [HDL.out]; omega) M1 HDA.out (by rw [HDL.out, HT.out]; exact hW) (by rw [tz, HDZ.out]) tne; rw [hPL, HDL.out] at this; exact this)
    have XR : Hid (2 ≤ M → ∀ i, i < T → ∃ G : List ByteArray, rebR PL (butB T fun j => j == i) (K : Int) = (G, 0) ∧ G.length = T ∧ ((∀ j, j < T → j ≠ i → sAt G j = sAt PL j) ↔ i = W)) := Lib.hid (fun m2 i hi => by have := wrong_reb D M W i t (by rw [HDL.out]; omega) (by rw [HDL.out]; omega) (by rw [HDL.out]; omega) m2 HDA.out (by rw [HDL.out, HT.out]; exact hW) (by rw [HDL.out, HT.out]; exact hi) (by rw [tz, HDZ.out]) tne; rw [hPL, HDL.out, HT.out] at this; exact this)
    have PLl : Hid (PL.length = T) := Lib.hid (by rw [← hPL, putL_length, HAL.out])
    have PSZ : Hid (∀ x ∈ PL, x.size ≤ 140737488355328) := Lib.hid (fun x hx => by
      obtain ⟨i, hi, rfl⟩ := List.getElem_of_mem hx
      rw [← sAt_get hi, ← hPL, sAt_put _ _ _ _ (by rw [HAL.out]; exact hW)]
      rw [PLl.out] at hi
      by_cases e : i = W
      · rw [if_pos e]; omega
      · rw [if_neg e]; have := HSZ.out i hi; omega)
    clear ht hPL tne
    go_wp2_with (first
      | (at_builtin; refine wpList_append_any _ rfl _ _ _ rfl w3.heap.size 9 ii _ 1 16 elemStr.ht HI.out HZ0.out HZ1.out HZB.out elemStr.hz (by decide) _ 0 [] rfl OE.out _ _ K cd (strV D) rfl HRD4.out (strV_one _) (by unfold maxLen; omega) (by omega) (by simp) ?_; intro v4 w4 ho4 hg4 hd4; clear hd4; have HO4 : Hid (w4.ownsRow w3.heap.size 9 1 v4 K (strV D)) := Lib.hid (by simpa using ho4); have HB4 : Hid (Below w3.heap.size w3 w4) := Lib.hid (below_grown ((Below.refl w3.heap.size w3).alloc (Nat.le_refl _) _) hg4 (by intro g h; injection h with h; exact Nat.le_of_eq h)); have s4 := HB4.out.size; clear ho4 hg4; have HRP4 := Lib.hid (HRP.out.below HB4.out))
      | (at_builtin; refine wpList_append_any _ rfl _ _ _ rfl w3.heap.size 9 ii _ 1 16 elemStr.ht HI.out HZ0.out HZ1.out HZB.out elemStr.hz (by decide) v4 K (strV D) rfl HO4.out _ _ M c3 (strV (parL D M)) rfl HRP4.out (strV_one _) (by unfold maxLen; omega) (by omega) s4 ?_; intro v5 w5 ho5 hg5 hd5; clear hd5; have HO5 : Hid (w5.ownsRow w3.heap.size 9 1 v5 T (strV (allL D M))) := Lib.hid (by rw [HT.out] at ho5; unfold allL; simpa [strV] using ho5); have HB5 := Lib.hid (below_own HB4.out HO4.out hg5); have s5 := HB5.out.size; clear ho5 hg5; obtain ⟨ga, ca, hva, hca, hga1, hga2, hra⟩ := own_headD HO5.out (by omega); subst hva; clear hra; have HBF : Hid (bufIs w5 9 ga T ca (fun i => .string (sAt (allL D M) i))) := Lib.hid ((bufIs.own (v := .bool true) HO5.out).congr fun i hi => (by rw [List.getD_eq_getElem?_getD, strV_get _ _ (by rw [HAL.out]; exact hi), sAt_get (by rw [HAL.out]; exact hi)]; rfl)); have hcw : w5.cell? ⟨ga, W, none⟩ = some (.string r) := (by rw [← HRr.out]; exact HBF.out.cell hW))
      | ((with_reducible refine conv_bytes_wp (e := 5) (by kernel_rfl) (by kernel_rfl) (by kernel_rfl) rfl _ rfl r rfl ?_); intro cap w6 hc6 hg6; have HC6 : Hid (bufIs w6 5 w5.heap.size r.size cap (fun j => .int .u8 ((byteAt r j).toNat : Int))) := Lib.hid hc6; have HB6 : Hid (Below w5.heap.size w5 w6) := Lib.hid (below_grown (Below.refl _ _) hg6 (by intro _ h; cases h)); have s6 := HB6.out.size; have hle6 := HC6.out.le; have hcv : w6.cell? ⟨w5.heap.size, V, none⟩ = some (.int .u8 ((byteAt r V).toNat : Int)) := HC6.out.cell hV; have hfv : w6.frozen? ⟨w5.heap.size, V, none⟩ = false := HC6.out.frozen (by omega); have hstr := str_reads (c := cap) (buf_readsU (chg_buf _ HC6.out (XB.out (byteAt r V)))); rw [HTX.out] at hstr; have BS := fun v => HB6.out.setCell (p := ⟨w5.heap.size, V, none⟩) (Nat.le_refl _) v; have HBW : Hid (∀ v, bufIs (w6.setCell ⟨w5.heap.size, V, none⟩ v) 9 ga T ca (fun i => .string (sAt (allL D M) i))) := Lib.hid (fun v => HBF.out.of_block ((BS v).block _ HBF.out.lt)); have hcW : ∀ v, (w6.setCell ⟨w5.heap.size, V, none⟩ v).cell? ⟨ga, W, none⟩ = some (.string r) := (fun v => by rw [← HRr.out]; exact (HBW.out v).cell hW); have hfW : ∀ v, (w6.setCell ⟨w5.heap.size, V, none⟩ v).frozen? ⟨ga, W, none⟩ = false := (fun v => (HBW.out v).frozen (by omega)); have HBS : Hid (∀ v u, Below w3.heap.size w3 ((w6.setCell ⟨w5.heap.size, V, none⟩ v).setCell ⟨ga, W, none⟩ u)) := Lib.hid (fun v u => (HB5.out.trans ((BS v).mono s5)).setCell (p := ⟨ga, W, none⟩) (by show w3.heap.size ≤ ga; omega) u); clear BS hc6 hg6))
    have HQL : Hid (∀ v, Reads ((w6.setCell ⟨w5.heap.size, V, none⟩ v).setCell ⟨ga, W, none⟩ (.string t)) ((w6.setCell ⟨w5.heap.size, V, none⟩ v).setCell ⟨ga, W, none⟩ (.string t)).heap.size 1 (some ⟨ga, 0, none⟩) T (strV PL)) := Lib.hid (fun v => by have h := put_reads (allL D M) W t HAL.out hW (HBW.out v); rw [HPL.out] at h; exact h)
    refine (fits_any _ T ca PL (K : Int) _ _ (HQL.out _) (Nat.le_refl _) hca (by omega) (fun x hx => by have := PSZ.out x hx; omega)).mono ?_
    rintro e w7 ⟨rfl, hb7⟩
    rw [XF.out]
    have HRP7 : Hid (Reads w7 w7.heap.size 1 (some ⟨ga, 0, none⟩) T (strV PL)) := Lib.hid (((HQL.out _).below hb7).more hb7.size)
    have HB7 : Hid (Below w.heap.size w w7) := Lib.hid (HB3.out.trans (((HBS.out _ _).trans (hb7.mono (HBS.out _ _).size)).mono HB3.out.size))
    clear hb7 HBS HBW hcW hfW hstr
    have hmk := fun W => bools_made W T (by omega)
    go_wp2
    go_loopw [21] (fun i wr => ∃ j : Nat, j ≤ T ∧ i = .int .i64 j ∧ Hid (Below w7.heap.size w7 wr)) (fun i _ => T - (intOf i).toNat)
    case atStart => exact ⟨0, by omega, rfl, Lib.hid (Below.refl _ _)⟩
    case round =>
      obtain ⟨j, hj, rfl, HK⟩ := hrel
      by_cases hgo : j < T ∧ 2 ≤ M
      · obtain ⟨hjl, hm2⟩ := hgo
        obtain ⟨G, hG, hGl, hGi⟩ := XR.out hm2 j hjl
        have XG := Lib.hid hG
        have XGl := Lib.hid hGl
        have XGi := Lib.hid hGi
        have sK := HK.out.size
        obtain ⟨wo, rfl⟩ : ∃ wo : World, wo = wr := ⟨_, rfl⟩
        clear hG hGl hGi
        go_wp2
        clear hmk
        go_loopw [23] (fun i wr => ∃ x : Nat, x ≤ T ∧ i = .int .i64 x ∧ Hid (wr.rowIs wo.heap.size 4 T (fun q => .bool (if q < x then !(q == j) else false)) ∧ Below w7.heap.size w7 wr)) (fun i _ => T - (intOf i).toNat)
        case atStart => exact ⟨0, by omega, rfl, Lib.hid ⟨(World.rowIs_made wo (.bool false) T 4).congr fun i _ => by simp, HK.out.alloc sK _⟩⟩
        case round =>
          obtain ⟨x, hx, rfl, HX⟩ := hrel
          by_cases hxl : x < T
          · obtain ⟨v1, hc1⟩ : ∃ v, wr.cell? ⟨wo.heap.size, x, none⟩ = some v := ⟨_, HX.out.1.cell hxl⟩
            have hf1 : wr.frozen? ⟨wo.heap.size, x, none⟩ = false := HX.out.1.frozen _
            by_cases hxj : x = j
            · subst hxj
              go_wp2
              go_roundw
              case rel =>
                refine ⟨x + 1, by omega, by go_num, Lib.hid ⟨(HX.out.1.set x _).congr fun i hi => ?_, HX.out.2.setCell (by first | exact sK | (show w7.heap.size ≤ wo.heap.size; exact sK)) _⟩⟩
                by_cases e : i = x
                · subst e; rw [if_pos rfl, if_pos (by omega)]; simp
                · rw [if_neg e]; congr 1
                  by_cases h : i < x
                  · rw [if_pos h, if_pos (by omega)]
                  · rw [if_neg h, if_neg (by omega)]
              case measure => simp [intOf]; omega
            · have hq : ((x : Int) == (j : Int)) = false := by rw [beq_eq_false_iff_ne]; omega
              go_wp2
              go_roundw
              case rel =>
                refine ⟨x + 1, by omega, by go_num, Lib.hid ⟨(HX.out.1.set x _).congr fun i hi => ?_, HX.out.2.setCell (by first | exact sK | (show w7.heap.size ≤ wo.heap.size; exact sK)) _⟩⟩
                by_cases e : i = x
                · subst e
                  have hni : ((i : Int) != (j : Int)) = true := by rw [bne_iff_ne]; omega
                  have hbn : (i == j) = false := beq_eq_false_iff_ne.2 hxj
                  rw [if_pos rfl, if_pos (by omega)]; simp [hni, hbn]
                · rw [if_neg e]; congr 1
                  by_cases h : i < x
                  · rw [if_pos h, if_pos (by omega)]
                  · rw [if_neg h, if_neg (by omega)]
              case measure => simp [intOf]; omega
          · obtain rfl : x = T := by omega
            have HRB : Hid (Reads wr wr.heap.size 1 (some ⟨wo.heap.size, 0, none⟩) x (boolV (butB x fun q => q == j))) := Lib.hid (row_readsB (HX.out.1.congr fun i hi => by rw [if_pos hi]))
            have HBX := Lib.hid HX.out.2
            have sX := HBX.out.size
            have HRX := Lib.hid (HRP7.out.below HBX.out)
            clear HX
            go_wp2_with fail
            refine (rebuild_any _ x ca PL _ x x _ (K : Int) _ _ _ HRX.out sX HRB.out (Nat.le_refl _) (by omega) (by omega) PSZ.out).mono ?_
            rintro e w8 ⟨v8, rfl, ho8, hb8⟩
            rw [XG.out] at ho8 ⊢
            have HO8 : Hid (w8.ownsRow wr.heap.size 9 1 v8 x (strV G)) := Lib.hid (by have := ho8; rw [show (G, (0 : Int)).1.length = x from XGl.out] at this; exact this)
            have HB8 : Hid (Below w7.heap.size w7 w8) := Lib.hid (HBX.out.trans (hb8.mono sX))
            have HRX8 := Lib.hid (HRP7.out.below HB8.out)
            have s8 := HB8.out.size
            clear ho8 hb8
            obtain ⟨gg, cg, rfl, hcg, hgg1, hgg2, hrg⟩ := own_headD HO8.out (by omega)
            have HRG := Lib.hid hrg
            clear hrg
            go_wp2
            go_loopw [26, 27] (fun sm i wr => ∃ (q : Nat) (b : Bool), q ≤ x ∧ i = .int .i64 q ∧ sm = .bool b ∧ (b = true ↔ ∀ y, y < q → y ≠ j → sAt G y = sAt PL y) ∧ Hid (Below w8.heap.size w8 wr)) (fun _ i _ => x - (intOf i).toNat)
            case atStart => exact ⟨0, true, by omega, rfl, rfl, ⟨fun _ y hy => by omega, fun _ => rfl⟩, Lib.hid (Below.refl _ _)⟩
            case round =>
              obtain ⟨q, b, hq, rfl, rfl, hbq, HQ⟩ := hrel
              have HBQ := Lib.hid hbq
              clear hbq
              by_cases hql : q < x
              · have hqi : (q : Int) < (x : Int) := by omega
                have c1 : wr.cell? ⟨gg, q, none⟩ = some (.string (sAt G q)) := reads_cellS (HRG.out.below HQ.out) XGl.out q hql
                have c2 : wr.cell? ⟨ga, q, none⟩ = some (.string (sAt PL q)) := reads_cellS (HRX8.out.below (HQ.out.mono s8)) PLl.out q hql
                have step : Hid (∀ b' : Bool, (b' = true ↔ b = true ∧ (q ≠ j → sAt G q = sAt PL q)) → (b' = true ↔ ∀ y, y < q + 1 → y ≠ j → sAt G y = sAt PL y)) := Lib.hid (fun b' hb' => by
                  rw [hb', HBQ.out]
                  exact ⟨fun h y hy hne => by
                    rcases Nat.lt_or_ge y q with h' | h'
                    · exact h.1 y h' hne
                    · obtain rfl : y = q := by omega
                      exact h.2 hne, fun h => ⟨fun y hy hne => h y (by omega) hne, fun hne => h q (by omega) hne⟩⟩)
                obtain ⟨a1, ha1⟩ : ∃ a1, sAt G q = a1 := ⟨_, rfl⟩
                obtain ⟨a2, ha2⟩ : ∃ a2, sAt PL q = a2 := ⟨_, rfl⟩
                rw [ha1] at c1 step
                rw [ha2] at c2 step
                clear ha1 ha2
                by_cases hb : b = true
                · subst hb
                  by_cases hqj : q = j
                  · subst hqj
                    go_wp2
                    go_quiet (fail)
                    go_wp2
                    go_roundw
                    case rel => exact ⟨q + 1, _, by omega, by go_num, rfl, step.out _ (by simp), Lib.hid (by first | exact HQ.out | exact below_drewN HQ.out _)⟩
                    case measure => simp [intOf]; omega
                  · have hqb : ((q : Int) == (j : Int)) = false := by rw [beq_eq_false_iff_ne]; omega
                    by_cases hae : a1 = a2
                    · subst hae
                      go_wp2
                      go_quiet (fail)
                      go_wp2
                      go_roundw
                      case rel => exact ⟨q + 1, _, by omega, by go_num, rfl, step.out _ (by simp), Lib.hid (by first | exact HQ.out | exact below_drewN HQ.out _)⟩
                      case measure => simp [intOf]; omega
                    · have hab : (a1.toList == a2.toList) = false := by rw [beq_str]; simpa using hae
                      go_wp2
                      go_quiet (fail)
                      go_wp2
                      go_roundw
                      case rel => exact ⟨q + 1, _, by omega, by go_num, rfl, step.out _ (by simp [hqj, hae]), Lib.hid (by first | exact HQ.out | exact below_drewN HQ.out _)⟩
                      case measure => simp [intOf]; omega
                · have hbf : b = false := by simpa using hb
                  subst hbf
                  go_wp2
                  go_quiet (fail)
                  go_wp2
                  go_roundw
                  case rel => exact ⟨q + 1, _, by omega, by go_num, rfl, step.out _ (by simp), Lib.hid (by first | exact HQ.out | exact below_drewN HQ.out _)⟩
                  case measure => simp [intOf]; omega
              · obtain rfl : q = x := by omega
                have hbw : b = true ↔ j = W := by rw [HBQ.out]; exact XGi.out
                have HE := Lib.hid (HB8.out.trans (HQ.out.mono s8))
                by_cases hjw : j = W
                · obtain rfl : b = true := hbw.2 hjw
                  subst hjw
                  go_wp2
                  go_roundw
                  case rel => exact ⟨j + 1, by omega, by go_num, HE⟩
                  case measure => simp [intOf]; omega
                · have hbf : b = false := by
                    rcases Bool.eq_false_or_eq_true b with h | h
                    · exact absurd (hbw.1 h) hjw
                    · exact h
                  subst hbf
                  have hjb : ((j : Int) == (W : Int)) = false := by rw [beq_eq_false_iff_ne]; omega
                  go_wp2
                  go_roundw
                  case rel => exact ⟨j + 1, by omega, by go_num, HE⟩
                  case measure => simp [intOf]; omega
      · have HE := Lib.hid (HB7.out.trans (HK.out.mono HB7.out.size))
        rcases (by omega : T ≤ j ∨ (j < T ∧ M < 2)) with hex | ⟨hex, hex2⟩
        all_goals
          go_wp2
          go_ret
          exact ⟨rfl, HE.out⟩
end Go.Proofs.Ythlnnclpfgokjaa
