/- Walk: the law ShardsCut returns true (texts of a list of at most 1048576 bytes each). -/
import Derived.Test.YthlnnclpfgokjaaShR
import Derived.Test.YthlnnclpfgokjaaShT
import Derived.Test.YthlnnclpfgokjaaShD
import Derived.Test.YthlnnclpfgokjaaShJ
namespace Go.Proofs.Ythlnnclpfgokjaa
open Go.RowKit Gf
set_option linter.unusedVariables false
theorem own_emptyC (w : World) (e : TypeId) : (w.alloc (.cells #[] e)).ownsRow w.heap.size e 1 (.slice (some ⟨w.heap.size, 0, none⟩) 0 0) 0 [] :=
  ⟨rfl, .inr ⟨w.heap.size, 0, #[], rfl, Nat.le_refl _, heap_alloc_new w _, Nat.le_refl _, by unfold maxLen; omega, rfl, rfl⟩⟩
theorem own_headE {w : World} {base n : Nat} {e : TypeId} {v : Value} {xs : List Value} (h : w.ownsRow base e 1 v n xs) (hn : 1 ≤ n) : ∃ g c, v = .slice (some ⟨g, 0, none⟩) n c ∧ n ≤ c ∧ base ≤ g ∧ g < w.heap.size := by
  rcases h.2 with ⟨_, h2⟩ | ⟨g, cap, cur, rfl, h3, h4, h5, _⟩
  · omega
  · exact ⟨g, cap, rfl, h5, h3, (Array.getElem?_eq_some_iff.1 h4).1⟩
theorem own_addrE {w : World} {base n c : Nat} {e : TypeId} {A : Option Addr} {xs : List Value} (h : w.ownsRow base e 1 (.slice A n c) n xs) : ∀ ad, A = some ad → base ≤ ad.block ∧ ad.block < w.heap.size := by
  intro ad hA
  subst hA
  exact h.lt _ rfl
def markC : ByteArray := ⟨#[109, 97, 114, 107]⟩
/-- The list's row, the mark behind it. -/
def xV (n : Nat) (X : Nat → ByteArray) : Nat → Value := fun j => if j < n then .string (X j) else .string markC
theorem x_reads {w : World} {e : TypeId} {g n cap : Nat} {X : Nat → ByteArray} (h : bufIs w e g (n + 1) cap (xV n X)) : Reads w w.heap.size 1 (some ⟨g, 0, none⟩) n (strV ((List.range n).map X)) := by
  refine ⟨by simp [strV], fun _ => ⟨_, rfl, h.lt, fun j u hu => ?_⟩⟩
  have hj : j < n := by
    rcases Nat.lt_or_ge j n with h | h
    · exact h
    · rw [List.getElem?_eq_none (by simp [strV]; exact h)] at hu; cases hu
  simp [strV, hj] at hu
  rw [add0, h.cell (by omega), ← hu]
  unfold xV; rw [if_pos hj]
theorem x_mark {w : World} {e : TypeId} {g n cap : Nat} {X : Nat → ByteArray} (h : bufIs w e g (n + 1) cap (xV n X)) : w.cell? ⟨g, n, none⟩ = some (.string markC) := by
  rw [h.cell (by omega)]; unfold xV; rw [if_neg (by omega)]
def swapX (X : Nat → ByteArray) (i j : Nat) : Nat → ByteArray := fun x => if x = j then X i else if x = i then X j else X x
theorem x_swap {w : World} {e : TypeId} {g n cap : Nat} {X : Nat → ByteArray} (h : bufIs w e g (n + 1) cap (xV n X)) (i j : Nat) (hi : i < n) (hj : j < n) :
    bufIs ((w.setCell ⟨g, i, none⟩ (.string (X j))).setCell ⟨g, j, none⟩ (.string (X i))) e g (n + 1) cap (xV n (swapX X i j)) := by
  refine ((h.set i (.string (X j))).set j (.string (X i))).congr fun x hx => ?_
  unfold xV swapX
  by_cases e1 : x = j
  · subst e1; rw [if_pos rfl, if_pos hj, if_pos rfl]
  · rw [if_neg e1, if_neg e1]
    by_cases e2 : x = i
    · subst e2; rw [if_pos rfl, if_pos hi, if_pos rfl]
    · rw [if_neg e2, if_neg e2]
theorem joinL_le (b : Nat) : ∀ l : List ByteArray, (∀ s ∈ l, s.size ≤ b) → (joinL l).length ≤ l.length * b
  | [], _ => by simp [joinL]
  | s :: r, h => by
    have ih := joinL_le b r (fun x hx => h x (List.mem_cons_of_mem _ hx))
    have h1 := h s (by simp)
    unfold joinL at ih ⊢
    rw [List.flatMap_cons, List.length_append, List.length_cons, Nat.add_mul, Nat.one_mul, data_length]; omega
theorem sAt_le (l : List ByteArray) (b i : Nat) (h : ∀ s ∈ l, s.size ≤ b) : (sAt l i).size ≤ b := by
  rcases Nat.lt_or_ge i l.length with hi | hi
  · exact h _ (sAt_mem hi)
  · unfold sAt; rw [List.getD_eq_getElem?_getD, List.getElem?_eq_none hi]; exact Nat.zero_le _
theorem encR_len (l : List ByteArray) (m : Int) : (encR l m).1.length ≤ 64 := by
  unfold encR
  by_cases h : encOk l m
  · rw [if_pos h]; obtain ⟨_, _, _, h4, h5⟩ := h; show (parL l m.toNat).length ≤ 64; rw [parL_length]; omega
  · rw [if_neg h]; simp
theorem cutR_len (s : ByteArray) (k : Int) : (cutR s k).1.length ≤ 64 := by
  unfold cutR
  by_cases h : 1 ≤ k ∧ k ≤ 32
  · rw [if_pos h]; show (cutL s k.toNat).length ≤ 64; rw [cutL_length]; omega
  · rw [if_neg h]; simp
set_option maxRecDepth 100000 in
set_option maxHeartbeats 8000000 in
theorem shardsCut_walk (s : ByteArray) (k : Int) (A : Option Addr) (n c : Nat) (ss : List ByteArray) (x m : Int) (w : World)
    (hs0 : s.size ≤ 140737488351232) (h1 : -9223372036854775808 ≤ k) (h2 : k ≤ 9223372036854775807) (hr : Reads w w.heap.size 1 A n (strV ss)) (hn : n * 16 ≤ 140737488351232) (hs : ∀ s ∈ ss, s.size ≤ 1048576) (hc : n ≤ c)
    (h3 : -9223372036854775808 ≤ x) (h4 : x ≤ 9223372036854775807) (h5 : -9223372036854775808 ≤ m) (h6 : m ≤ 9223372036854775807) :
    Calls Try.prog 11 #[.string s, .int .i64 k, .slice A n c, .int .i64 x, .int .i64 m] w fun e w' => e = .returned (.bool true) ∧ Below w.heap.size w w' := by
  have HR := Lib.hid hr
  have HSL : Hid (ss.length = n) := Lib.hid hr.len
  have HS := Lib.hid hs
  obtain ⟨L, y, hL⟩ : ∃ L y, cutR s k = (L, y) := ⟨_, _, rfl⟩
  have hLl : L.length ≤ 64 := by have := cutR_len s k; rw [hL] at this; exact this
  have XR := Lib.hid hL
  clear hr hs hL
  have hbn : n + 1 ≤ 8796093022208 := by omega
  go_enter Try.func11, Try.ntmps11
  go_wp2_with fail
  refine (rcut_any s k _ (by omega)).mono ?_
  rintro e w1 ⟨va, rfl, hoa, hba⟩
  rw [XR.out] at hoa ⊢
  have HOA : Hid (w1.ownsRow w.heap.size 9 1 va L.length (strV L)) := Lib.hid hoa
  have HB1 := Lib.hid hba
  have s1 := hba.size
  clear hoa hba
  go_wp2_with fail
  refine (cut_any s k _ (by omega)).mono ?_
  rintro e w2 ⟨vb, rfl, hob, hbb⟩
  rw [XR.out] at hob ⊢
  have HOB : Hid (w2.ownsRow w1.heap.size 9 1 vb L.length (strV L)) := Lib.hid hob
  have HB2 := Lib.hid (HB1.out.trans (hbb.mono s1))
  have HB12 := Lib.hid hbb
  have s2 := hbb.size
  clear hob hbb
  go_wp2_with fail
  refine (cut_any s k _ (by omega)).mono ?_
  rintro e w3 ⟨vc, rfl, hoc, hbc⟩
  rw [XR.out] at hoc ⊢
  have HOC : Hid (w3.ownsRow w2.heap.size 9 1 vc L.length (strV L)) := Lib.hid hoc
  have HB3 := Lib.hid (HB2.out.trans (hbc.mono HB2.out.size))
  have HA3 : Hid (w3.ownsRow w.heap.size 9 1 va L.length (strV L)) := Lib.hid (own_below (own_below HOA.out HB12.out) hbc)
  have HB3' : Hid (w3.ownsRow w1.heap.size 9 1 vb L.length (strV L)) := Lib.hid (own_below HOB.out hbc)
  have s3 := hbc.size
  clear hoc hbc
  obtain ⟨Aa, ca, rfl, _, hra⟩ := own_readsC HA3.out
  obtain ⟨Ac, cc, rfl, _, hrc⟩ := own_readsC HOC.out
  have HRA := Lib.hid hra
  have HRC := Lib.hid hrc
  have DA : Hid (∀ ad, Aa = some ad → some ad.block ≠ vb.ownBlock) := Lib.hid (fun ad h e => by
    have h1 := own_addrE HOA.out ad h
    have h2 := (HOB.out.lt _ e.symm).1
    omega)
  have DC : Hid (∀ ad, Ac = some ad → some ad.block ≠ vb.ownBlock) := Lib.hid (fun ad h e => by
    have h1 := own_addrE HOC.out ad h
    have h2 := (HOB.out.lt _ e.symm).2
    omega)
  have DW : Hid (∀ g, vb.ownBlock = some g → w.heap.size ≤ g) := Lib.hid (fun g h => by have := (HOB.out.lt _ h).1; omega)
  clear hra hrc HOA HOB HOC HB12
  go_wp2_with fail
  refine (fresh_any vb L.length L Ac Aa cc ca _ _ _ _ HB3'.out (by omega) HRC.out (Nat.le_refl _) HRA.out (Nat.le_refl _) (by omega) DC.out DA.out).mono ?_
  rintro e w4 ⟨rfl, hgf⟩
  have HB4 := Lib.hid (below_grown HB3.out hgf DW.out)
  have s4 := HB4.out.size
  clear hgf HRA HRC DA DC DW HA3 HB3' HB1 HB2 HB3
  obtain ⟨ii, hii, hz0, hz1, hz2⟩ := elemStr.info
  have HI := Lib.hid hii
  have HZ0 := Lib.hid hz0
  have HZ1 := Lib.hid hz1
  have HZB := Lib.hid hz2
  clear hii hz0 hz1 hz2
  have OE := Lib.hid (own_emptyC w4 9)
  have HR4 : Hid (Reads (w4.alloc (.cells #[] 9)) w.heap.size 1 A n (strV ss)) := Lib.hid ((HR.out.below HB4.out).alloc s4 _)
  go_wp2_with (first
    | (at_builtin; refine wpList_append_any _ rfl _ _ _ rfl w4.heap.size 9 ii _ 1 16 elemStr.ht HI.out HZ0.out HZ1.out HZB.out elemStr.hz (by decide) _ 0 [] rfl OE.out _ A n c (strV ss) rfl HR4.out (strV_one _) (by unfold maxLen; omega) (by omega) (by simp) ?_; intro v5 w5 ho5 hg5 hd5; clear hd5; have HO5 : Hid (w5.ownsRow w4.heap.size 9 1 v5 n (strV ss)) := Lib.hid (by simpa using ho5); have HB5 : Hid (Below w4.heap.size w4 w5) := Lib.hid (below_grown ((Below.refl w4.heap.size w4).alloc (Nat.le_refl _) _) hg5 (by intro g h; injection h with h; exact Nat.le_of_eq h)); have s5 := HB5.out.size; clear ho5 hg5 OE HR4)
    | (at_builtin; refine append1_blk elemStr rfl _ _ rfl w4.heap.size v5 n _ rfl HO5.out (.string markC) rfl rfl (by omega) (by omega) s5 ?_; intro v6 w6 ho6 hg6 hd6; clear hd6; obtain ⟨g2, cap2, hv6, hcap2, hgb2, hgl2⟩ := own_headE ho6 (by omega); subst hv6; have HO6 : Hid (w6.ownsRow w4.heap.size 9 1 (.slice (some ⟨g2, 0, none⟩) (n + 1) cap2) (n + 1) (strV ss ++ [.string markC])) := Lib.hid ho6; have HB6 := Lib.hid (below_own HB5.out HO5.out hg6); have s6 := HB6.out.size; clear ho6 hg6))
  have HX6 : Hid (bufIs w6 9 g2 (n + 1) cap2 (xV n (sAt ss))) := Lib.hid ((bufIs.own (v := .bool true) HO6.out).congr fun j hj => by
    unfold xV
    rw [List.getD_eq_getElem?_getD]
    by_cases e : j < n
    · rw [if_pos e, List.getElem?_append_left (by rw [strV_length, HSL.out]; exact e), strV_get _ _ (by rw [HSL.out]; exact e), sAt_get (by rw [HSL.out]; exact e)]; rfl
    · rw [if_neg e, List.getElem?_append_right (by rw [strV_length, HSL.out]; omega), strV_length, HSL.out, show j - n = 0 by omega]; rfl)
  have HBX := Lib.hid (HB4.out.trans (HB6.out.mono s4))
  have HSX : Hid (∀ j, j < n → (sAt ss j).size ≤ 1048576) := Lib.hid (fun j hj => HS.out _ (sAt_mem (by rw [HSL.out]; exact hj)))
  have hgw : w.heap.size ≤ g2 := by omega
  clear HO5 HO6 HB5 HB6 HB4
  go_loopw [19, 20, 21, 22, 23, 24, 25, 26, 27, 28, 29, 30, 31] (fun i _ _ _ _ _ _ _ _ _ _ _ _ wr => ∃ (r : Nat) (X : Nat → ByteArray), r ≤ 2 ∧ i = .int .i64 r ∧ Hid (bufIs wr 9 g2 (n + 1) cap2 (xV n X) ∧ (∀ j, j < n → (X j).size ≤ 1048576) ∧ Below w.heap.size w wr)) (fun i _ _ _ _ _ _ _ _ _ _ _ _ _ => 2 - (intOf i).toNat)
  case atStart => exact ⟨0, _, by omega, rfl, Lib.hid ⟨HX6.out, HSX.out, HBX.out⟩⟩
  case round =>
    obtain ⟨r, X, hr2, rfl, HK⟩ := hrel
    clear HX6 HSX HBX
    by_cases hrl : r < 2
    · have hgr : g2 < wr.heap.size := HK.out.1.lt
      obtain ⟨XL, hXL⟩ : ∃ XL, XL = (List.range n).map X := ⟨_, rfl⟩
      have RX : Hid (Reads wr wr.heap.size 1 (some ⟨g2, 0, none⟩) n (strV XL)) := Lib.hid (by rw [hXL]; exact x_reads HK.out.1)
      have SX : ∀ s ∈ XL, s.size ≤ 1048576 := fun s h => by
        rw [hXL] at h
        simp only [List.mem_map, List.mem_range] at h
        obtain ⟨i, hi, rfl⟩ := h
        exact HK.out.2.1 i hi
      have hXLl : XL.length = n := by rw [hXL]; simp
      have SX47 : Hid (∀ s ∈ XL, s.size ≤ 140737488355328) := Lib.hid (fun s h => by have := SX s h; omega)
      have S0 : (sAt XL 0).size ≤ 281474976710656 := by have := sAt_le XL 1048576 0 SX; omega
      have HJ : Hid (1 ≤ n → n ≤ 32 → alikeB XL = true → (joinL XL).length ≤ 140737488355328) := Lib.hid (fun _ h32 _ => by
        have := joinL_le 1048576 XL SX
        rw [hXLl] at this
        have : n * 1048576 ≤ 32 * 1048576 := Nat.mul_le_mul_right _ h32
        omega)
      obtain ⟨P, z, hP⟩ : ∃ P z, encR XL m = (P, z) := ⟨_, _, rfl⟩
      have hPl : P.length ≤ 64 := by have := encR_len XL m; rw [hP] at this; exact this
      have XP := Lib.hid hP
      obtain ⟨Wt, u, hW⟩ : ∃ Wt u, wholeR XL x = (Wt, u) := ⟨_, _, rfl⟩
      have XW := Lib.hid hW
      have HXL := Lib.hid hXL
      clear hP hW SX hXL hXLl
      have OE1 := Lib.hid (own_emptyC wr 9)
      have RX1 : Hid (Reads (wr.alloc (.cells #[] 9)) wr.heap.size 1 (some ⟨g2, 0, none⟩) n (strV XL)) := Lib.hid (RX.out.alloc (Nat.le_refl _) _)
      go_wp2_with (at_builtin; refine wpList_append_any _ rfl _ _ _ rfl wr.heap.size 9 ii _ 1 16 elemStr.ht HI.out HZ0.out HZ1.out HZB.out elemStr.hz (by decide) _ 0 [] rfl OE1.out _ _ n cap2 (strV XL) rfl RX1.out (strV_one _) (by unfold maxLen; omega) (by omega) (by simp) ?_; intro v7 w7 ho7 hg7 hd7; clear hd7; have HO7 : Hid (w7.ownsRow wr.heap.size 9 1 v7 n (strV XL)) := Lib.hid (by simpa using ho7); have HB7 : Hid (Below wr.heap.size wr w7) := Lib.hid (below_grown ((Below.refl wr.heap.size wr).alloc (Nat.le_refl _) _) hg7 (by intro g h; injection h with h; exact Nat.le_of_eq h)); have s7 := HB7.out.size; clear ho7 hg7 OE1 RX1; obtain ⟨A7, c7, hv7, _, hr7⟩ := own_readsC HO7.out; subst hv7; have R7 := Lib.hid hr7; clear hr7)
      refine (rwhole_any A7 n c7 XL x _ _ R7.out (Nat.le_refl _) (by omega) h3 h4 HJ.out SX47.out).mono ?_
      rintro e w8 ⟨rfl, hb8⟩
      rw [XW.out]
      have HB8 : Hid (Below wr.heap.size wr w8) := Lib.hid (HB7.out.trans (hb8.mono s7))
      have R8 : Hid (Reads w8 w8.heap.size 1 A7 n (strV XL)) := Lib.hid ((R7.out.below hb8).more hb8.size)
      have s8 := HB8.out.size
      have t8 := hb8.size
      clear hb8
      go_wp2_with fail
      refine (whole_any _ n cap2 XL x _ _ (RX.out.below HB8.out) s8 (by omega) (by omega) h3 h4 (fun _ => ⟨g2, 0, rfl⟩) HJ.out).mono ?_
      rintro e w9 ⟨rfl, hb9⟩
      rw [XW.out]
      have HB9 : Hid (Below wr.heap.size wr w9) := Lib.hid (HB8.out.trans (hb9.mono s8))
      have R9 : Hid (Reads w9 w9.heap.size 1 A7 n (strV XL)) := Lib.hid ((R8.out.below hb9).more hb9.size)
      have s9 := HB9.out.size
      have t9 := hb9.size
      clear hb9
      go_wp2_with fail
      refine (rencode_any A7 n c7 XL m _ _ R9.out (Nat.le_refl _) (by omega) h5 h6 S0).mono ?_
      rintro e w10 ⟨vp, rfl, hop, hbp⟩
      rw [XP.out] at hop ⊢
      have HOP : Hid (w10.ownsRow w9.heap.size 9 1 vp P.length (strV P)) := Lib.hid hop
      have HB10 : Hid (Below wr.heap.size wr w10) := Lib.hid (HB9.out.trans (hbp.mono s9))
      have R10 : Hid (Reads w10 w10.heap.size 1 A7 n (strV XL)) := Lib.hid ((R9.out.below hbp).more hbp.size)
      have s10 := hbp.size
      clear hop hbp
      go_wp2_with fail
      refine (encode_any _ n cap2 XL m _ _ (RX.out.below HB10.out) (by omega) (by omega) h5 h6 S0).mono ?_
      rintro e w11 ⟨vq, rfl, hoq, hbq⟩
      rw [XP.out] at hoq ⊢
      have HOQ : Hid (w11.ownsRow w10.heap.size 9 1 vq P.length (strV P)) := Lib.hid hoq
      have HB11 : Hid (Below wr.heap.size wr w11) := Lib.hid (HB10.out.trans (hbq.mono (by omega)))
      have R11 : Hid (Reads w11 w11.heap.size 1 A7 n (strV XL)) := Lib.hid ((R10.out.below hbq).more hbq.size)
      have HOP11 : Hid (w11.ownsRow w9.heap.size 9 1 vp P.length (strV P)) := Lib.hid (own_below HOP.out hbq)
      have s11 := hbq.size
      clear hoq hbq
      go_wp2_with fail
      refine (encode_any _ n cap2 XL m _ _ (RX.out.below HB11.out) (by omega) (by omega) h5 h6 S0).mono ?_
      rintro e w12 ⟨vr, rfl, hor, hbr⟩
      rw [XP.out] at hor ⊢
      have HOR : Hid (w12.ownsRow w11.heap.size 9 1 vr P.length (strV P)) := Lib.hid hor
      have HB12 : Hid (Below wr.heap.size wr w12) := Lib.hid (HB11.out.trans (hbr.mono (by omega)))
      have R12 : Hid (Reads w12 w12.heap.size 1 A7 n (strV XL)) := Lib.hid ((R11.out.below hbr).more hbr.size)
      have HOP12 : Hid (w12.ownsRow w9.heap.size 9 1 vp P.length (strV P)) := Lib.hid (own_below HOP11.out hbr)
      have HOQ12 : Hid (w12.ownsRow w10.heap.size 9 1 vq P.length (strV P)) := Lib.hid (own_below HOQ.out hbr)
      have s12 := hbr.size
      clear hor hbr
      obtain ⟨Ap, cp, rfl, _, hrp⟩ := own_readsC HOP12.out
      obtain ⟨Ar, cr, rfl, _, hrr⟩ := own_readsC HOR.out
      have HRP := Lib.hid hrp
      have HRR := Lib.hid hrr
      have EP : Hid (∀ ad, Ap = some ad → some ad.block ≠ vq.ownBlock) := Lib.hid (fun ad h e => by
        have h1 := own_addrE HOP.out ad h
        have h2 := (HOQ.out.lt _ e.symm).1
        omega)
      have ER : Hid (∀ ad, Ar = some ad → some ad.block ≠ vq.ownBlock) := Lib.hid (fun ad h e => by
        have h1 := own_addrE HOR.out ad h
        have h2 := (HOQ.out.lt _ e.symm).2
        omega)
      have EW : Hid (∀ g, vq.ownBlock = some g → w10.heap.size ≤ g) := Lib.hid (fun g h => (HOQ.out.lt _ h).1)
      have EA : Hid (∀ ad, A7 = some ad → some ad.block ≠ vq.ownBlock) := Lib.hid (fun ad h e => by
        have h1 := own_addrE HO7.out ad h
        have h2 := (HOQ.out.lt _ e.symm).1
        omega)
      clear hrp hrr
      go_wp2_with fail
      refine (fresh_any vq P.length P Ar Ap cr cp _ _ _ _ HOQ12.out (by omega) HRR.out (Nat.le_refl _) HRP.out (Nat.le_refl _) (by omega) ER.out EP.out).mono ?_
      rintro e w13 ⟨rfl, hgq⟩
      have HX13 : Hid (bufIs w13 9 g2 (n + 1) cap2 (xV n X)) := Lib.hid ((HK.out.1.below HB12.out hgr).grown hgq (fun e => by have := EW.out g2 e.symm; omega))
      have R13 := Lib.hid (far_reads R12.out (Nat.le_refl _) hgq EA.out)
      have HB13 : Hid (Below w.heap.size w w13) := Lib.hid (below_grown (HK.out.2.2.trans (HB12.out.mono HK.out.2.2.size)) hgq (fun g h => by have := EW.out g h; have := HK.out.2.2.size; omega))
      have HSX := Lib.hid HK.out.2.1
      have RXX : Hid (Reads w13 w13.heap.size 1 (some ⟨g2, 0, none⟩) n (strV XL)) := Lib.hid (by rw [HXL.out]; exact x_reads HX13.out)
      clear hgq HK HRP HRR EP ER EA EW HOP HOQ HOR HOP11 HOP12 HOQ12 HB7 HB8 HB9 HB10 HB11 HB12 R7 R8 R9 R10 R11 R12 RX HO7
      go_wp2_with fail
      refine (same_self _ A7 n cap2 n c7 XL _ _ _ RXX.out R13.out (by omega) (by omega)).mono ?_
      rintro e w14 ⟨rfl, q1, rfl⟩
      have hcm : w13.cell? ⟨g2, n, none⟩ = some (.string ⟨#[109, 97, 114, 107]⟩) := x_mark HX13.out
      have hni : (n : Int) < (n : Int) + 1 := by omega
      clear R13 RXX
      obtain ⟨H, hH⟩ : ∃ H, n / 2 = H := ⟨_, rfl⟩
      have hHi : (n : Int) / 2 = (H : Int) := by rw [← hH]; rfl
      have hHn : 2 * H ≤ n := by omega
      clear hH
      go_wp2
      clear hcm
      go_loopw [31] (fun i wr => ∃ (j : Nat) (Y : Nat → ByteArray), j ≤ H ∧ i = .int .i64 j ∧ Hid (bufIs wr 9 g2 (n + 1) cap2 (xV n Y) ∧ (∀ j, j < n → (Y j).size ≤ 1048576) ∧ Below w.heap.size w wr)) (fun i _ => H - (intOf i).toNat)
      case atStart => exact ⟨0, X, by omega, rfl, Lib.hid ⟨HX13.out.drewN _, HSX.out, below_drewN HB13.out _⟩⟩
      case round =>
        obtain ⟨j, Y, hj, rfl, HY⟩ := hrel
        by_cases hjl : j < H
        · obtain ⟨e1, he1⟩ : ∃ e1 : Nat, (n : Int) - 1 = (e1 : Int) := ⟨n - 1, by omega⟩
          obtain ⟨t, ht⟩ : ∃ t : Nat, (e1 : Int) - (j : Int) = (t : Int) := ⟨n - 1 - j, by omega⟩
          have htn : t < n := by omega
          have hjn : j < n := by omega
          have hjt : j < t := by omega
          have ew1 : IntKind.i64.wrap ((n : Int) - 1) = (e1 : Int) := by rw [he1]; exact IntWalk.i64_in _ (by omega)
          have ew2 : IntKind.i64.wrap ((e1 : Int) - (j : Int)) = (t : Int) := by rw [ht]; exact IntWalk.i64_in _ (by omega)
          have hjni : (j : Int) < (n : Int) := by omega
          have htni : (t : Int) < (n : Int) := by omega
          have c1 : wr.cell? ⟨g2, j, none⟩ = some (.string (Y j)) := by rw [HY.out.1.cell (by omega)]; unfold xV; rw [if_pos hjn]
          have c2 : wr.cell? ⟨g2, t, none⟩ = some (.string (Y t)) := by rw [HY.out.1.cell (by omega)]; unfold xV; rw [if_pos htn]
          have f1 : wr.frozen? ⟨g2, j, none⟩ = false := HY.out.1.frozen (by omega)
          have f2 : wr.frozen? ⟨g2, t, none⟩ = false := HY.out.1.frozen (by omega)
          obtain ⟨v', hy'⟩ : ∃ v', ((wr.setCell ⟨g2, j, none⟩ (.string (Y t))).drew).cell? ⟨g2, t, none⟩ = some v' := by
            have := (HY.out.1.set j (.string (Y t))).cell (j := t) (by omega)
            exact ⟨_, this⟩
          have HS1 := Lib.hid (x_swap HY.out.1 j t hjn htn)
          have HS2 : Hid (∀ i, i < n → (swapX Y j t i).size ≤ 1048576) := Lib.hid (fun i hi => by
            unfold swapX
            by_cases h1 : i = t
            · rw [if_pos h1]; exact HY.out.2.1 j hjn
            · rw [if_neg h1]
              by_cases h2 : i = j
              · rw [if_pos h2]; exact HY.out.2.1 t htn
              · rw [if_neg h2]; exact HY.out.2.1 i hi)
          have HS3 := Lib.hid ((HY.out.2.2.setCell (p := ⟨g2, j, none⟩) hgw (.string (Y t))).setCell (p := ⟨g2, t, none⟩) hgw (.string (Y j)))
          clear HY
          go_wp2
          go_region
          go_wp2
          go_roundw
          case rel => exact ⟨j + 1, _, by omega, by go_num, Lib.hid ⟨HS1.out.drew, HS2.out, HS3.out.drew⟩⟩
          case measure => simp [intOf]; omega
        · obtain rfl : j = H := by omega
          go_wp2
          go_roundw
          case rel => exact ⟨r + 1, Y, by omega, by go_num, Lib.hid HY.out⟩
          case measure => simp [intOf]; omega
    · obtain rfl : r = 2 := by omega
      have HE := Lib.hid HK.out.2.2
      clear HK
      go_wp2
      go_ret
      exact ⟨rfl, HE.out⟩
end Go.Proofs.Ythlnnclpfgokjaa
