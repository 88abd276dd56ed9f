/- Walk: the law ShardsBack returns true. -/
import Derived.Test.YthlnnclpfgokjaaShO
import Derived.Test.YthlnnclpfgokjaaShT
import Derived.Test.YthlnnclpfgokjaaShL
namespace Go.Proofs.Ythlnnclpfgokjaa
open Go.RowKit Gf
set_option linter.unusedVariables false
theorem cut_alike (s : ByteArray) (k : Nat) (h1 : 1 ≤ k) : alikeB (cutL s k) = true ∧ (sAt (cutL s k) 0).size = cutN s k := by
  have hz : ∀ j, j < k → (sAt (cutL s k) j).size = cutN s k := fun j hj => by
    unfold cutL; rw [sAt_map _ _ _ hj, bs_size]; simp
  refine ⟨(alikeB_iff _).2 fun j hj => ?_, hz 0 (by omega)⟩
  rw [cutL_length] at hj
  rw [hz j hj, hz 0 (by omega)]
theorem whole_cut (s : ByteArray) (k : Nat) (h1 : 1 ≤ k) (h2 : k ≤ 32) : wholeR (cutL s k) (s.size : Int) = (s, 0) ∧ (joinL (cutL s k)).length ≤ s.size + k := by
  have hj : joinL (cutL s k) = (List.range (k * cutN s k)).map fun i => byteAt s i := joinL_cut s (cutN s k) k
  have hg := cutN_ge s k h1
  rw [Nat.mul_comm] at hg
  have hl : (joinL (cutL s k)).length = k * cutN s k := by rw [hj]; simp
  refine ⟨?_, by omega⟩
  rw [wholeR_yes ⟨by rw [cutL_length]; exact h1, by rw [cutL_length]; exact h2, (cut_alike s k h1).1, by omega, by omega⟩, Int.toNat_natCast, hj, joinL_take s _ hg.1]
theorem own_emptyB (w : World) (e : TypeId) : (w.alloc (.cells #[] e)).ownsRow w.heap.size e 1 (.slice (some ⟨w.heap.size, 0, none⟩) 0 0) 0 [] :=
  ⟨rfl, .inr ⟨w.heap.size, 0, #[], rfl, Nat.le_refl _, heap_alloc_new w _, Nat.le_refl _, by unfold maxLen; omega, rfl, rfl⟩⟩
theorem own_headD {w : World} {base n : Nat} {e : TypeId} {v : Value} {xs : List Value} (h : w.ownsRow base e 1 v n xs) (hn : 1 ≤ n) : ∃ g c, v = .slice (some ⟨g, 0, none⟩) n c ∧ n ≤ c ∧ base ≤ g ∧ g < w.heap.size ∧ Reads w w.heap.size 1 (some ⟨g, 0, none⟩) n xs := by
  obtain ⟨A0, c0, e0, h0⟩ := own_reads h
  rcases h.2 with ⟨_, h2⟩ | ⟨g, cap, cur, rfl, h3, h4, h5, _⟩
  · omega
  · simp only [Value.slice.injEq, true_and] at e0
    obtain ⟨rfl, rfl⟩ := e0
    exact ⟨g, cap, rfl, h5, h3, (Array.getElem?_eq_some_iff.1 h4).1, h0⟩
theorem buf_readsS {w : World} {e : TypeId} {g n cap : Nat} {T : Nat → ByteArray} (h : bufIs w e g n cap (fun j => .string (T j))) : Reads w w.heap.size 1 (some ⟨g, 0, none⟩) n (strV ((List.range n).map T)) := by
  refine ⟨by simp [strV], fun _ => ⟨_, rfl, h.lt, fun j u hu => ?_⟩⟩
  have hj : j < n := by
    rcases Nat.lt_or_ge j n with h | h
    · exact h
    · rw [List.getElem?_eq_none (by simp [strV]; exact h)] at hu; cases hu
  simp [strV, hj] at hu
  rw [add0, h.cell hj, ← hu]
theorem row_readsB {w : World} {e : TypeId} {g n : Nat} {B : Nat → Bool} (h : w.rowIs g e n (fun j => .bool (B j))) : Reads w w.heap.size 1 (some ⟨g, 0, none⟩) n (boolV ((List.range n).map B)) := by
  refine ⟨by simp [boolV], fun _ => ⟨_, rfl, h.lt, fun j u hu => ?_⟩⟩
  have hj : j < n := by
    rcases Nat.lt_or_ge j n with h | h
    · exact h
    · rw [List.getElem?_eq_none (by simp [boolV]; exact h)] at hu; cases hu
  simp [boolV, hj] at hu
  rw [add0, h.cell hj, ← hu]
/-- Flags and shards, some of them taken out. -/
structure Torn (w : World) (gb gt n ct : Nat) (all : List ByteArray) (B : Nat → Bool) (T : Nat → ByteArray) (gone : Nat) : Prop where
  flags : w.rowIs gb 4 n (fun j => .bool (B j))
  texts : bufIs w 9 gt n ct (fun j => .string (T j))
  cnt : cntB B n + gone = n
  same : ∀ i, i < n → B i = true → T i = sAt all i
  size : ∀ i, i < n → (T i).size ≤ 140737488355328
  ne : gb ≠ gt
def putT (T : Nat → ByteArray) (a : Nat) (s : ByteArray) : Nat → ByteArray := fun i => if i = a then s else T i
theorem Torn.flag {w : World} {gb gt n ct : Nat} {all : List ByteArray} {B : Nat → Bool} {T : Nat → ByteArray} {gone : Nat} (h : Torn w gb gt n ct all B T gone) (a : Nat) (ha : a < n) (hb : B a = true) :
    Torn (w.setCell ⟨gb, a, none⟩ (.bool false)) gb gt n ct all (clr B a) T (gone + 1) := by
  refine ⟨(h.flags.set a (.bool false)).congr fun i _ => ?_, h.texts.of_block (Below.heap_setCell w _ _ gt (fun e => h.ne e.symm)), ?_, fun i hi hB => ?_, h.size, h.ne⟩
  · unfold clr
    by_cases e : i = a
    · rw [if_pos e, if_pos e]
    · rw [if_neg e, if_neg e]
  · have := cntB_clr B a hb n ha
    have := h.cnt
    omega
  · unfold clr at hB
    by_cases e : i = a
    · rw [if_pos e] at hB; cases hB
    · rw [if_neg e] at hB; exact h.same i hi hB
theorem Torn.text {w : World} {gb gt n ct : Nat} {all : List ByteArray} {B : Nat → Bool} {T : Nat → ByteArray} {gone : Nat} (h : Torn w gb gt n ct all B T gone) (a : Nat) (ha : a < n) (hb : B a = false) (s : ByteArray) (hs : s.size ≤ 140737488355328) :
    Torn (w.setCell ⟨gt, a, none⟩ (.string s)) gb gt n ct all B (putT T a s) gone := by
  refine ⟨h.flags.setOther h.ne _, ?_, h.cnt, fun i hi hB => ?_, fun i hi => ?_, h.ne⟩
  · have := h.texts.set a (.string s)
    refine this.congr fun i hi => ?_
    unfold putT
    by_cases e : i = a
    · rw [if_pos e, if_pos e]
    · rw [if_neg e, if_neg e]
  · unfold putT
    by_cases e : i = a
    · subst e; rw [hb] at hB; cases hB
    · rw [if_neg e]; exact h.same i hi hB
  · unfold putT
    by_cases e : i = a
    · rw [if_pos e]; exact hs
    · rw [if_neg e]; exact h.size i hi
theorem Torn.back {w : World} {gb gt ct : Nat} {D : List ByteArray} {M : Nat} {B : Nat → Bool} {T : Nat → ByteArray} {gone : Nat} (h : Torn w gb gt (D.length + M) ct (allL D M) B T gone) (h1 : 1 ≤ D.length) (h2 : D.length ≤ 32) (hm : D.length + M ≤ 64) (ha : alikeB D = true) :
    (gone ≤ M → rebR ((List.range (D.length + M)).map T) ((List.range (D.length + M)).map B) (D.length : Int) = (allL D M, 0)) ∧ (M < gone → rebR ((List.range (D.length + M)).map T) ((List.range (D.length + M)).map B) (D.length : Int) = ([], 70)) := by
  have hs : ∀ i, i < D.length + M → ((List.range (D.length + M)).map B).getD i false = true → sAt ((List.range (D.length + M)).map T) i = sAt (allL D M) i := fun i hi hB => by
    rw [getD_range _ _ _ hi] at hB
    rw [sAt_map _ _ _ hi]; exact h.same i hi hB
  have hp : (pickL ((List.range (D.length + M)).map B) (D.length + M)).length = cntB B (D.length + M) := by rw [pickL_range]; rfl
  have := h.cnt
  exact ⟨fun hg => reb_back D M _ _ h1 h2 hm ha (by simp) (by simp) hs (by omega), fun hg => reb_few D M _ _ h1 h2 hm ha (by simp) (by simp) hs (by omega)⟩
theorem Torn.below {w w' : World} {gb gt n ct : Nat} {all : List ByteArray} {B : Nat → Bool} {T : Nat → ByteArray} {gone : Nat} (h : Torn w gb gt n ct all B T gone) (hb : Below w.heap.size w w') : Torn w' gb gt n ct all B T gone :=
  ⟨h.flags.of_block (hb.block _ h.flags.lt), h.texts.below hb h.texts.lt, h.cnt, h.same, h.size, h.ne⟩
set_option maxRecDepth 100000 in
set_option maxHeartbeats 8000000 in
theorem shardsBack_walk (s : ByteArray) (k m : Int) (A : Option Addr) (n c : Nat) (l : List UInt8) (junk : ByteArray) (w : World)
    (hs : s.size ≤ 140737488351232) (h1 : -9223372036854775808 ≤ k) (h2 : k ≤ 9223372036854775807) (h3 : -9223372036854775808 ≤ m) (h4 : m ≤ 9223372036854775807)
    (hr : Reads w w.heap.size 1 A n (u8s l)) (hn : n ≤ 140737488351232) (hc : n ≤ c) (hj : junk.size ≤ 140737488351232) :
    Calls Try.prog 16 #[.string s, .int .i64 k, .int .i64 m, .slice A n c, .string junk] w fun e w' => e = .returned (.bool true) ∧ Below w.heap.size w w' := by
  have HR := Lib.hid hr
  clear hr
  go_enter Try.func16, Try.ntmps16
  go_wp2_with fail
  refine (shAwake_any _).mono ?_
  rintro e w1 ⟨rfl, hb1⟩
  have HB1 := Lib.hid hb1
  have s1 := hb1.size
  clear hb1
  go_wp2_with fail
  refine (size_any k m _ h1 h2 h3 h4).mono ?_
  rintro e wz ⟨K, M, q0, rfl, K1, K2, KM, rfl⟩
  obtain ⟨T, hT⟩ : ∃ T, K + M = T := ⟨_, rfl⟩
  have hTi : (K : Int) + (M : Int) = (T : Int) := by omega
  have HT := Lib.hid hT
  have T1 : K ≤ T := by omega
  have T2 : T ≤ 64 := by omega
  have T3 : M ≤ T := by omega
  obtain ⟨D, hD⟩ : ∃ D, cutL s K = D := ⟨_, rfl⟩
  have XC : Hid (cutR s (K : Int) = (D, 0)) := Lib.hid (by unfold cutR; rw [if_pos (by omega), Int.toNat_natCast, hD])
  have DL : D.length = K := by rw [← hD, cutL_length]
  obtain ⟨DA, DZ⟩ := cut_alike s K K1
  obtain ⟨DW, DJ⟩ := whole_cut s K K1 K2
  have DG := cutN_ge s K K1
  rw [hD] at DA DZ DW DJ
  have hN : cutN s K ≤ 140737488355328 := by have := Nat.le_mul_of_pos_right (cutN s K) K1; omega
  have XE : Hid (encR D (M : Int) = (parL D M, 0)) := Lib.hid (by rw [encR_yes ⟨by omega, by omega, DA, by omega, by omega⟩, Int.toNat_natCast])
  have XF : Hid (fitR (allL D M) (K : Int) = (true, 0)) := Lib.hid (by have := fits_all D M (by omega) (by omega) (by omega) DA; rw [DL] at this; exact this)
  have AL : (allL D M).length = T := by rw [allL_length, DL, hT]
  have HDL := Lib.hid DL
  have HDA := Lib.hid DA
  have HDW := Lib.hid DW
  have HAL := Lib.hid AL
  have HSZ : Hid (∀ i, i < T → (sAt (allL D M) i).size ≤ 140737488355328) := Lib.hid (fun i hi => by rw [allL_size D M i DA (by omega), DZ]; exact hN)
  have HS0 : (sAt D 0).size ≤ 281474976710656 := by omega
  have HJL : (joinL D).length ≤ 140737488355328 := by omega
  clear hT hD DL DA DZ DW AL DG DJ
  go_wp2_with fail
  refine (cut_any s (K : Int) _ (by omega)).mono ?_
  rintro e w2 ⟨v2, rfl, ho2, hb2⟩
  rw [XC.out] at ho2 ⊢
  have HO2 : Hid (w2.ownsRow w1.heap.size 9 1 v2 K (strV D)) := Lib.hid (by have := ho2; rw [show (D, (0 : Int)).1.length = K from HDL.out] at this; exact this)
  have HB2 : Hid (Below w.heap.size w w2) := Lib.hid ((below_drewN HB1.out q0).trans (hb2.mono s1))
  have s2 : w1.heap.size ≤ w2.heap.size := hb2.size
  clear ho2 hb2
  obtain ⟨gd, cd, rfl, hcd, hgd1, hgd2, hrd⟩ := own_headD HO2.out K1
  have HRD := Lib.hid hrd
  clear hrd
  go_wp2_with fail
  refine (encode_any _ K cd D (M : Int) _ _ HRD.out (Nat.le_refl _) (by omega) (by omega) (by omega) HS0).mono ?_
  rintro e w3 ⟨v3, rfl, ho3, hb3⟩
  rw [XE.out] at ho3 ⊢
  have HO3 : Hid (w3.ownsRow w2.heap.size 9 1 v3 M (strV (parL D M))) := Lib.hid (by have := ho3; rw [show (parL D M, (0 : Int)).1.length = M from parL_length _ _] at this; exact this)
  have HB3 : Hid (Below w.heap.size w w3) := Lib.hid (HB2.out.trans (hb3.mono HB2.out.size))
  have HRD3 := Lib.hid (HRD.out.below hb3)
  have s3 := hb3.size
  clear ho3 hb3
  obtain ⟨A3, c3, rfl, hc3, hr3⟩ := own_readsC HO3.out
  have HRP := Lib.hid hr3
  clear hr3
  obtain ⟨ii, hii, hz0, hz1, hz2⟩ := elemStr.info
  have HI := Lib.hid hii
  have HZ0 := Lib.hid hz0
  have HZ1 := Lib.hid hz1
  have HZB := Lib.hid hz2
  clear hii hz0 hz1 hz2
  have OE := Lib.hid (own_emptyB w3 9)
  have HRD4 : Hid (Reads (w3.alloc (.cells #[] 9)) w2.heap.size 1 (some ⟨gd, 0, none⟩) K (strV D)) := Lib.hid (HRD3.out.alloc s3 _)
  go_wp2_with (first
    | (at_builtin; refine wpList_append_any _ rfl _ _ _ rfl w3.heap.size 9 ii _ 1 16 elemStr.ht HI.out HZ0.out HZ1.out HZB.out elemStr.hz (by decide) _ 0 [] rfl OE.out _ _ K cd (strV D) rfl HRD4.out (strV_one _) (by unfold maxLen; omega) (by omega) (by simp) ?_; intro v4 w4 ho4 hg4 hd4; clear hd4; have HO4 : Hid (w4.ownsRow w3.heap.size 9 1 v4 K (strV D)) := Lib.hid (by simpa using ho4); have HB4 : Hid (Below w3.heap.size w3 w4) := Lib.hid (below_grown ((Below.refl w3.heap.size w3).alloc (Nat.le_refl _) _) hg4 (by intro g h; injection h with h; exact Nat.le_of_eq h)); have s4 := HB4.out.size; clear ho4 hg4; have HRP4 := Lib.hid (HRP.out.below HB4.out))
    | (at_builtin; refine wpList_append_any _ rfl _ _ _ rfl w3.heap.size 9 ii _ 1 16 elemStr.ht HI.out HZ0.out HZ1.out HZB.out elemStr.hz (by decide) v4 K (strV D) rfl HO4.out _ _ M c3 (strV (parL D M)) rfl HRP4.out (strV_one _) (by unfold maxLen; omega) (by omega) s4 ?_; intro v5 w5 ho5 hg5 hd5; clear hd5; have HO5 : Hid (w5.ownsRow w3.heap.size 9 1 v5 T (strV (allL D M))) := Lib.hid (by rw [HT.out] at ho5; unfold allL; simpa [strV] using ho5); have HB5 := Lib.hid (below_own HB4.out HO4.out hg5); have s5 := HB5.out.size; clear ho5 hg5; obtain ⟨ga, ca, hva, hca, hga1, hga2, hra⟩ := own_headD HO5.out (by omega); subst hva; have HRA := Lib.hid hra; clear hra))
  refine (fits_any _ T ca (allL D M) (K : Int) _ _ HRA.out (Nat.le_refl _) hca (by omega) (fun x hx => by obtain ⟨i, hi, rfl⟩ := List.getElem_of_mem hx; rw [← sAt_get hi]; have := HSZ.out i (by rw [HAL.out] at hi; exact hi); omega)).mono ?_
  rintro e w6 ⟨rfl, hb6⟩
  rw [XF.out]
  have HB6 : Hid (Below w3.heap.size w3 w6) := Lib.hid (HB5.out.trans (hb6.mono s5))
  have HRA6 := Lib.hid (HRA.out.below hb6)
  have s6 := hb6.size
  clear hb6
  go_wp2_with fail
  refine (whole_any _ K cd D (s.size : Int) _ _ ((HRD3.out.below (HB6.out.mono s3)).more (Nat.le_trans s3 HB6.out.size)) (Nat.le_refl _) hcd (by omega) (by omega) (by omega) (fun _ => ⟨gd, 0, rfl⟩) (fun _ _ _ => HJL)).mono ?_
  rintro e w7 ⟨rfl, hb7⟩
  rw [HDW.out]
  have HB7 : Hid (Below w.heap.size w w7) := Lib.hid (HB3.out.trans ((HB6.out.trans (hb7.mono HB6.out.size)).mono HB3.out.size))
  have HRA7 : Hid (Reads w7 w7.heap.size 1 (some ⟨ga, 0, none⟩) T (strV (allL D M))) := Lib.hid ((HRA6.out.below (hb7.mono s6)).more (by have := hb7.size; omega))
  have s7 := hb7.size
  clear hb7
  have hmk := fun W => bools_made W T (by omega)
  go_wp2
  clear hmk
  go_loopw [21] (fun i wr => ∃ j : Nat, j ≤ T ∧ i = .int .i64 j ∧ Hid (wr.rowIs w7.heap.size 4 T (fun x => .bool (decide (x < j))) ∧ Below w7.heap.size w7 wr)) (fun i _ => T - (intOf i).toNat)
  case atStart => exact ⟨0, by omega, rfl, Lib.hid ⟨(World.rowIs_made w7 (.bool false) T 4).congr fun i _ => by simp, (Below.refl _ _).alloc (Nat.le_refl _) _⟩⟩
  case round =>
    obtain ⟨j, hj, rfl, HK⟩ := hrel
    by_cases hjl : j < T
    · obtain ⟨v1, hc1⟩ : ∃ v, wr.cell? ⟨w7.heap.size, j, none⟩ = some v := ⟨_, HK.out.1.cell hjl⟩
      have hf1 : wr.frozen? ⟨w7.heap.size, j, none⟩ = false := HK.out.1.frozen _
      go_wp2
      go_roundw
      case rel =>
        refine ⟨j + 1, by omega, by go_num, Lib.hid ⟨(HK.out.1.set j _).congr fun i hi => ?_, HK.out.2.setCell (Nat.le_refl _) _⟩⟩
        by_cases e : i = j
        · subst e; rw [if_pos rfl, decide_eq_true (show i < i + 1 by omega)]
        · rw [if_neg e]; congr 1
          by_cases h : i < j
          · rw [decide_eq_true h, decide_eq_true (show i < j + 1 by omega)]
          · rw [decide_eq_false h, decide_eq_false (show ¬ i < j + 1 by omega)]
      case measure => simp [intOf]; omega
    · obtain rfl : j = T := by omega
      have HF : Hid (wr.rowIs w7.heap.size 4 j (fun _ => .bool true)) := Lib.hid (HK.out.1.congr fun i hi => by rw [decide_eq_true hi])
      have HBR := Lib.hid HK.out.2
      have s8 := HBR.out.size
      clear HK
      have OE8 := Lib.hid (own_emptyB wr 9)
      have HRA8 : Hid (Reads (wr.alloc (.cells #[] 9)) w7.heap.size 1 (some ⟨ga, 0, none⟩) j (strV (allL D M))) := Lib.hid ((HRA7.out.below HBR.out).alloc s8 _)
      go_wp2_with (at_builtin; refine wpList_append_any _ rfl _ _ _ rfl wr.heap.size 9 ii _ 1 16 elemStr.ht HI.out HZ0.out HZ1.out HZB.out elemStr.hz (by decide) _ 0 [] rfl OE8.out _ _ j ca (strV (allL D M)) rfl HRA8.out (strV_one _) (by unfold maxLen; omega) (by omega) (by simp) ?_; intro v9 w9 ho9 hg9 hd9; clear hd9; have HO9 : Hid (w9.ownsRow wr.heap.size 9 1 v9 j (strV (allL D M))) := Lib.hid (by simpa using ho9); have HB9 : Hid (Below wr.heap.size wr w9) := Lib.hid (below_grown ((Below.refl wr.heap.size wr).alloc (Nat.le_refl _) _) hg9 (by intro g h; injection h with h; exact Nat.le_of_eq h)); have s9 := HB9.out.size; clear ho9 hg9; obtain ⟨gt, ct, hvt, hct, hgt1, hgt2, hrt⟩ := own_headD HO9.out (by omega); subst hvt; clear hrt)
      have HTN : Hid (Torn w9 w7.heap.size gt j ct (allL D M) (fun _ => true) (sAt (allL D M)) 0) := Lib.hid ⟨HF.out.of_block (HB9.out.block _ HF.out.lt), (bufIs.own (v := .bool true) HO9.out).congr fun i hi => (by
          rw [List.getD_eq_getElem?_getD, strV_get _ _ (by rw [HAL.out]; exact hi), sAt_get (by rw [HAL.out]; exact hi)]; rfl), by rw [cntB_all]; rfl, fun i _ _ => rfl, fun i hi => HSZ.out i hi, by have := HF.out.lt; omega⟩
      have HB10 := Lib.hid (HBR.out.trans (HB9.out.mono s8))
      clear HF HO9 OE8 HRA8 HB9 HBR
      go_loopw [23, 24, 25] (fun g i _ wr => ∃ x q : Nat, x ≤ n ∧ q ≤ M ∧ i = .int .i64 x ∧ g = .int .i64 q ∧ Hid ((∃ B U, Torn wr w7.heap.size gt j ct (allL D M) B U q) ∧ Below w7.heap.size w7 wr)) (fun _ i _ _ => n - (intOf i).toNat)
      case atStart => exact ⟨0, 0, by omega, by omega, rfl, rfl, Lib.hid ⟨⟨_, _, HTN.out⟩, HB10.out⟩⟩
      case round =>
        obtain ⟨x, q, hx, hq, rfl, rfl, HX⟩ := hrel
        clear HTN
        by_cases hgo : x < n ∧ q < M
        · obtain ⟨hxn, hqm⟩ := hgo
          obtain ⟨⟨B, U, ht⟩, hbx⟩ := HX.out
          have HTX := Lib.hid ht
          have HBX := Lib.hid hbx
          clear ht hbx HX
          obtain ⟨al, hal, hbl, hcl⟩ := reads_u8 (HR.out.below ((HB7.out.trans (HBX.out.mono HB7.out.size)))) (by omega)
          subst hal
          have hcx := hcl x hxn
          obtain ⟨b, hbe⟩ : ∃ b, b = l.getD x 0 := ⟨_, rfl⟩
          rw [← hbe] at hcx
          clear hcl hbe
          obtain ⟨a, ha⟩ : ∃ a, b.toNat % j = a := ⟨_, rfl⟩
          have hal : a < j := by rw [← ha]; exact Nat.mod_lt _ (by omega)
          have hai : (b.toNat : Int) % (j : Int) = (a : Int) := by rw [← ha]; rfl
          have hb256 : b.toNat < 256 := b.toNat_lt
          have hgbs := HBX.out.size
          clear ha
          have hcf : wr.cell? ⟨w7.heap.size, a, none⟩ = some (.bool (B a)) := HTX.out.flags.cell hal
          by_cases hBa : B a = true
          · rw [hBa] at hcf
            have hf1 : wr.frozen? ⟨w7.heap.size, a, none⟩ = false := HTX.out.flags.frozen _
            have HT2 := Lib.hid (HTX.out.flag a hal hBa)
            have hct : (wr.setCell ⟨w7.heap.size, a, none⟩ (.bool false)).cell? ⟨gt, a, none⟩ = some (.string (U a)) := HT2.out.texts.cell hal
            have hft : (wr.setCell ⟨w7.heap.size, a, none⟩ (.bool false)).frozen? ⟨gt, a, none⟩ = false := HT2.out.texts.frozen (by omega)
            have HT3 := Lib.hid (HT2.out.text a hal (by unfold clr; rw [if_pos rfl]) junk (by omega))
            have HB3' := Lib.hid ((HBX.out.setCell (p := ⟨w7.heap.size, a, none⟩) (Nat.le_refl _) (.bool false)).setCell (p := ⟨gt, a, none⟩) (by show w7.heap.size ≤ gt; omega) (.string junk))
            go_wp2
            go_roundw
            case rel => exact ⟨x + 1, q + 1, by omega, by omega, by go_num, by go_num, Lib.hid ⟨⟨_, _, HT3.out⟩, HB3'.out⟩⟩
            case measure => simp [intOf]; omega
          · have hBf : B a = false := by simpa using hBa
            rw [hBf] at hcf
            go_wp2
            go_roundw
            case rel => exact ⟨x + 1, q, by omega, by omega, by go_num, rfl, Lib.hid ⟨⟨_, _, HTX.out⟩, HBX.out⟩⟩
            case measure => simp [intOf]; omega
        · obtain ⟨⟨B, U, ht⟩, hbx⟩ := HX.out
          have HTX := Lib.hid ht
          have HBX := Lib.hid hbx
          have hgs := hbx.size
          clear ht hbx HX
          have RU : Hid (Reads wr wr.heap.size 1 (some ⟨gt, 0, none⟩) j (strV ((List.range j).map U))) := Lib.hid (buf_readsS HTX.out.texts)
          have RB : Hid (Reads wr wr.heap.size 1 (some ⟨w7.heap.size, 0, none⟩) j (boolV ((List.range j).map B))) := Lib.hid (row_readsB HTX.out.flags)
          have XR : Hid (rebR ((List.range j).map U) ((List.range j).map B) (K : Int) = (allL D M, 0)) := Lib.hid (by
            have h := HTX.out
            rw [← HT.out, ← HDL.out] at h
            have := (Torn.back h (by rw [HDL.out]; exact K1) (by rw [HDL.out]; exact K2) (by rw [HDL.out]; exact KM) HDA.out).1 hq
            rw [HDL.out, HT.out] at this; exact this)
          have SU : Hid (∀ t ∈ (List.range j).map U, t.size ≤ 140737488355328) := Lib.hid (fun t ht => by
            simp only [List.mem_map, List.mem_range] at ht
            obtain ⟨i, hi, rfl⟩ := ht
            exact HTX.out.size i hi)
          have hexit : n ≤ x ∨ (x < n ∧ M ≤ q) := by omega
          clear hgo
          rcases hexit with hex | ⟨hex, hex2⟩
          all_goals
            go_wp2_with fail
            refine (rebuild_any _ j ct _ _ j j _ (K : Int) _ _ _ RU.out (Nat.le_refl _) RB.out (Nat.le_refl _) (by omega) (by omega) SU.out).mono ?_
            rintro e w11 ⟨v11, rfl, ho11, hb11⟩
            rw [XR.out] at ho11 ⊢
            have HO11 : Hid (w11.ownsRow wr.heap.size 9 1 v11 j (strV (allL D M))) := Lib.hid (by have := ho11; rw [show (allL D M, (0 : Int)).1.length = j from HAL.out] at this; exact this)
            have HTY := Lib.hid (HTX.out.below hb11)
            have HBY : Hid (Below w7.heap.size w7 w11) := Lib.hid (HBX.out.trans (hb11.mono hgs))
            have HRA11 := Lib.hid (HRA7.out.below HBY.out)
            have s11 := HBY.out.size
            clear ho11 hb11
            obtain ⟨A11, c11, rfl, _, hr11⟩ := own_readsC HO11.out
            have HR11 := Lib.hid hr11
            clear hr11 HTX HBX
            go_wp2_with fail
            refine (same_self A11 _ j c11 j ca (allL D M) _ _ _ HR11.out HRA11.out (by omega) (by omega)).mono ?_
            rintro e w12 ⟨rfl, q1, rfl⟩
            go_wp2
            go_loopw [23, 28] (fun g i wr => ∃ y p : Nat, y ≤ j ∧ p ≤ M + 1 ∧ i = .int .i64 y ∧ g = .int .i64 p ∧ Hid ((∃ B U, Torn wr w7.heap.size gt j ct (allL D M) B U p ∧ (p ≤ M → ∀ i, i < y → B i = false)) ∧ Below w7.heap.size w7 wr)) (fun _ i _ => j - (intOf i).toNat)
            case atStart => exact ⟨0, q, by omega, by omega, rfl, rfl, Lib.hid ⟨⟨_, _, HTY.out.below (below_drewN (Below.refl _ _) q1), fun _ i hi => by omega⟩, below_drewN HBY.out _⟩⟩
            case round =>
              obtain ⟨y, p, hy, hp, rfl, rfl, HY⟩ := hrel
              obtain ⟨⟨B', U', ht', hf'⟩, hb'⟩ := HY.out
              have HT' := Lib.hid ht'
              have HF' := Lib.hid hf'
              have HB' := Lib.hid hb'
              clear ht' hf' hb' HY HTY
              by_cases hyl : y < j
              · have hcf : wr.cell? ⟨w7.heap.size, y, none⟩ = some (.bool (B' y)) := HT'.out.flags.cell hyl
                have hf1 : wr.frozen? ⟨w7.heap.size, y, none⟩ = false := HT'.out.flags.frozen _
                by_cases hBy : B' y = true
                · rw [hBy] at hcf
                  by_cases hpm : p ≤ M
                  · have HT3 := Lib.hid (HT'.out.flag y hyl hBy)
                    have HF3 : Hid (p + 1 ≤ M → ∀ i, i < y + 1 → clr B' y i = false) := Lib.hid (fun h i hi => by
                      unfold clr
                      by_cases e : i = y
                      · rw [if_pos e]
                      · rw [if_neg e]; exact HF'.out (by omega) i (by omega))
                    have HB3' := Lib.hid (HB'.out.setCell (p := ⟨w7.heap.size, y, none⟩) (Nat.le_refl _) (.bool false))
                    go_wp2
                    go_roundw
                    case rel => exact ⟨y + 1, p + 1, by omega, by omega, by go_num, by go_num, Lib.hid ⟨⟨_, _, HT3.out, HF3.out⟩, HB3'.out⟩⟩
                    case measure => simp [intOf]; omega
                  · have hpm' : M < p := by omega
                    go_wp2
                    go_roundw
                    case rel => exact ⟨y + 1, p, by omega, by omega, by go_num, rfl, Lib.hid ⟨⟨_, _, HT'.out, fun h => by omega⟩, HB'.out⟩⟩
                    case measure => simp [intOf]; omega
                · have hBf : B' y = false := by simpa using hBy
                  rw [hBf] at hcf
                  have HF3 : Hid (p ≤ M → ∀ i, i < y + 1 → B' i = false) := Lib.hid (fun h i hi => by
                    by_cases e : i = y
                    · rw [e]; exact hBf
                    · exact HF'.out h i (by omega))
                  clear hBf hBy
                  go_wp2
                  go_roundw
                  case rel => exact ⟨y + 1, p, by omega, by omega, by go_num, rfl, Lib.hid ⟨⟨_, _, HT'.out, HF3.out⟩, HB'.out⟩⟩
                  case measure => simp [intOf]; omega
              · obtain rfl : y = j := by omega
                have hgone : M < p := by
                  rcases Nat.lt_or_ge M p with h | h
                  · exact h
                  · have h1 := cntB_none (HF'.out h)
                    have h2 := HT'.out.cnt
                    omega
                have RU' : Hid (Reads wr wr.heap.size 1 (some ⟨gt, 0, none⟩) y (strV ((List.range y).map U'))) := Lib.hid (buf_readsS HT'.out.texts)
                have RB' : Hid (Reads wr wr.heap.size 1 (some ⟨w7.heap.size, 0, none⟩) y (boolV ((List.range y).map B'))) := Lib.hid (row_readsB HT'.out.flags)
                have XR' : Hid (rebR ((List.range y).map U') ((List.range y).map B') (K : Int) = ([], 70)) := Lib.hid (by
                  have h := HT'.out
                  rw [← HT.out, ← HDL.out] at h
                  have := (Torn.back h (by rw [HDL.out]; exact K1) (by rw [HDL.out]; exact K2) (by rw [HDL.out]; exact KM) HDA.out).2 hgone
                  rw [HDL.out, HT.out] at this; exact this)
                have SU' : Hid (∀ t ∈ (List.range y).map U', t.size ≤ 140737488355328) := Lib.hid (fun t ht => by
                  simp only [List.mem_map, List.mem_range] at ht
                  obtain ⟨i, hi, rfl⟩ := ht
                  exact HT'.out.size i hi)
                have sfin := HB'.out.size
                go_wp2_with fail
                refine (rebuild_any _ y ct _ _ y y _ (K : Int) _ _ _ RU'.out (Nat.le_refl _) RB'.out (Nat.le_refl _) (by omega) (by omega) SU'.out).mono ?_
                rintro e w13 ⟨v13, rfl, ho13, hb13⟩
                rw [XR'.out]
                have HE := Lib.hid (HB7.out.trans ((HB'.out.trans (hb13.mono sfin)).mono HB7.out.size))
                clear ho13 hb13
                go_wp2
                go_ret
                exact ⟨rfl, HE.out⟩
end Go.Proofs.Ythlnnclpfgokjaa
