/- Walk: the law ShardsRebuilt returns true. -/
import Derived.Test.YthlnnclpfgokjaaShN
import Derived.Test.YthlnnclpfgokjaaShI
import Derived.Test.YthlnnclpfgokjaaShM
import Derived.Test.YthlnnclpfgokjaaPick
namespace Go.Proofs.Ythlnnclpfgokjaa
open Go.RowKit Gf
set_option linter.unusedVariables false
theorem own_empty (w : World) (e : TypeId) : (w.alloc (.cells #[] e)).ownsRow w.heap.size e 1 (.slice (some ⟨w.heap.size, 0, none⟩) 0 0) 0 [] :=
  ⟨rfl, .inr ⟨w.heap.size, 0, #[], rfl, Nat.le_refl _, heap_alloc_new w _, Nat.le_refl _, by unfold maxLen; omega, rfl, rfl⟩⟩
theorem own_headC {w : World} {base n : Nat} {e : TypeId} {v : Value} {xs : List Value} (h : w.ownsRow base e 1 v n xs) (hn : 1 ≤ n) : ∃ g c, v = .slice (some ⟨g, 0, none⟩) n c ∧ n ≤ c ∧ base ≤ g ∧ g < w.heap.size := by
  rcases h.2 with ⟨_, h2⟩ | ⟨g, cap, cur, rfl, h3, h4, h5, _⟩
  · omega
  · exact ⟨g, cap, rfl, h5, h3, (Array.getElem?_eq_some_iff.1 h4).1⟩
theorem boolV_one (l : List Bool) : ∀ u ∈ boolV l, u.oneCell' = true := by
  intro u hu; simp only [boolV, List.mem_map] at hu; obtain ⟨b, _, rfl⟩ := hu; rfl
theorem reads_left {w : World} {B n m : Nat} {A : Option Addr} {xs ys : List Value} (h : Reads w B 1 A n (xs ++ ys)) (hx : xs.length = m) (hm : m ≤ n) : Reads w B 1 A m xs :=
  ⟨by omega, fun h0 => by
    obtain ⟨ad, e, hb, hc⟩ := h.2 (by omega)
    exact ⟨ad, e, hb, fun j u hu => hc j u (by rw [List.getElem?_append_left]; exact hu; exact (List.getElem?_eq_some_iff.1 hu).1)⟩⟩
theorem rebR_len (ss : List ByteArray) (tt : List Bool) (k : Int) : (rebR ss tt k).1.length ≤ 64 := by
  unfold rebR
  by_cases h : rebOk ss tt k
  · rw [if_pos h]
    obtain ⟨h1, h2, h3, h4, _⟩ := h
    by_cases ha : alikeB (someL ss tt ss.length) = false
    · rw [if_pos ha]; simp
    · rw [if_neg ha]
      by_cases hl : (pickL tt ss.length).length < k.toNat
      · rw [if_pos hl]; simp
      · rw [if_neg hl]; show (rebL ss tt k.toNat).length ≤ 64; rw [rebL_length _ _ _ (by omega)]; exact h4
  · rw [if_neg h]; simp
theorem own_addr {w : World} {base n c : Nat} {e : TypeId} {A : Option Addr} {xs : List Value} (h : w.ownsRow base e 1 (.slice A n c) n xs) : ∀ ad, A = some ad → base ≤ ad.block ∧ ad.block < w.heap.size := by
  intro ad hA
  subst hA
  exact h.lt _ rfl
def markB : ByteArray := ⟨#[109, 97, 114, 107]⟩
set_option maxRecDepth 100000 in
set_option maxHeartbeats 4000000 in
theorem shardsRebuilt_walk (A : Option Addr) (n c : Nat) (ss : List ByteArray) (A' : Option Addr) (n' c' : Nat) (tt : List Bool) (k : Int) (w : World)
    (hr : Reads w w.heap.size 1 A n (strV ss)) (hn : n * 16 ≤ 140737488351232) (hs : ∀ s ∈ ss, s.size ≤ 140737488351232) (hc : n ≤ c)
    (hr' : Reads w w.heap.size 1 A' n' (boolV tt)) (hn' : n' ≤ 140737488351232) (hc' : n' ≤ c') (hk1 : -9223372036854775808 ≤ k) (hk2 : k ≤ 9223372036854775807) :
    Calls Try.prog 12 #[.slice A n c, .slice A' n' c', .int .i64 k] w fun e w' => e = .returned (.bool true) ∧ Below w.heap.size w w' := by
  have HR := Lib.hid hr
  have HT := Lib.hid hr'
  have HZ : Hid (∀ s ∈ ss, s.size ≤ 140737488355328) := Lib.hid (fun s h => by have := hs s h; omega)
  have HZ2 : Hid (∀ s ∈ ss, s.size ≤ 281474976710656) := Lib.hid (fun s h => by have := hs s h; omega)
  have OE := Lib.hid (own_empty w 9)
  have HR0 : Hid (Reads (w.alloc (.cells #[] 9)) w.heap.size 1 A n (strV ss)) := Lib.hid (hr.alloc (Nat.le_refl _) _)
  clear hr hr' hs
  obtain ⟨ii, hii, hz0, hz1, hz2⟩ := elemStr.info
  have HI := Lib.hid hii
  have HZ0 := Lib.hid hz0
  have HZ1 := Lib.hid hz1
  have HZB := Lib.hid hz2
  clear hii hz0 hz1 hz2
  go_enter Try.func12, Try.ntmps12
  have HSL : Hid (ss.length = n) := Lib.hid HR.out.len
  have HTL : Hid (tt.length = n') := Lib.hid HT.out.boolLen
  have hbn : n + 1 ≤ 8796093022208 := by omega
  obtain ⟨ib, hib, hy0, hy1, hy2⟩ := elemBool.info
  have JI := Lib.hid hib
  have JZ0 := Lib.hid hy0
  have JZ1 := Lib.hid hy1
  have JZB := Lib.hid hy2
  clear hib hy0 hy1 hy2
  go_wp2_with (first
    | (at_builtin; refine wpList_append_any _ rfl _ _ _ rfl w.heap.size 9 ii _ 1 16 elemStr.ht HI.out HZ0.out HZ1.out HZB.out elemStr.hz (by decide) _ 0 [] rfl OE.out _ A n c (strV ss) rfl HR0.out (strV_one _) (by unfold maxLen; omega) (by omega) (by simp) ?_; intro v1 w1 ho1 hg1 hd1; clear hd1; have HO1 : Hid (w1.ownsRow w.heap.size 9 1 v1 n (strV ss)) := Lib.hid (by simpa using ho1); have HB1 : Hid (Below w.heap.size w w1) := Lib.hid (below_grown ((Below.refl w.heap.size w).alloc (Nat.le_refl _) _) hg1 (by intro g h; injection h with h; exact Nat.le_of_eq h)); have s1 := HB1.out.size; clear ho1 hg1 OE HR0)
    | (at_builtin; refine append1_blk elemStr rfl _ _ rfl w.heap.size v1 n _ rfl HO1.out (.string markB) rfl rfl (by omega) (by omega) s1 ?_; intro v2 w2 ho2 hg2 hd2; clear hd2; obtain ⟨g2, cap2, hv2, hcap2, hgb2, hgl2⟩ := own_headC ho2 (by omega); subst hv2; have HO2 : Hid (w2.ownsRow w.heap.size 9 1 (.slice (some ⟨g2, 0, none⟩) (n + 1) cap2) (n + 1) (strV ss ++ [.string markB])) := Lib.hid ho2; have HB2 := Lib.hid (below_own HB1.out HO1.out hg2); have s2 := HB2.out.size; clear ho2 hg2; have OE2 := Lib.hid (own_empty w2 4); have HT2 : Hid (Reads (w2.alloc (.cells #[] 4)) w.heap.size 1 A' n' (boolV tt)) := Lib.hid ((HT.out.below HB2.out).alloc s2 _))
    | (at_builtin; refine wpList_append_any _ rfl _ _ _ rfl w2.heap.size 4 ib _ 1 1 elemBool.ht JI.out JZ0.out JZ1.out JZB.out elemBool.hz (by decide) _ 0 [] rfl OE2.out _ A' n' c' (boolV tt) rfl HT2.out (boolV_one _) (by unfold maxLen; omega) (by omega) (by simp) ?_; intro v3 w3 ho3 hg3 hd3; clear hd3; have HO3 : Hid (w3.ownsRow w2.heap.size 4 1 v3 n' (boolV tt)) := Lib.hid (by simpa using ho3); have HB3 : Hid (Below w2.heap.size w2 w3) := Lib.hid (below_grown ((Below.refl w2.heap.size w2).alloc (Nat.le_refl _) _) hg3 (by intro g h; injection h with h; exact Nat.le_of_eq h)); have s3 := HB3.out.size; clear ho3 hg3 OE2 HT2)
    | (at_builtin; refine append1_blk elemBool rfl _ _ rfl w2.heap.size v3 n' _ rfl HO3.out (.bool true) rfl rfl (by omega) (by omega) s3 ?_; intro v4 w4 ho4 hg4 hd4; clear hd4; obtain ⟨g4, cap4, hv4, hcap4, hgb4, hgl4⟩ := own_headC ho4 (by omega); subst hv4; have HO4 : Hid (w4.ownsRow w2.heap.size 4 1 (.slice (some ⟨g4, 0, none⟩) (n' + 1) cap4) (n' + 1) (boolV tt ++ [.bool true])) := Lib.hid ho4; have HB4 := Lib.hid (below_own HB3.out HO3.out hg4); have s4 := HB4.out.size; clear ho4 hg4))
  have HBW : Hid (Below w.heap.size w w4) := Lib.hid (HB2.out.trans (HB4.out.mono s2))
  have sW := HBW.out.size
  have RX : Hid (Reads w4 w4.heap.size 1 (some ⟨g2, 0, none⟩) (n + 1) (strV ss ++ [.string markB])) := Lib.hid (by
    obtain ⟨A0, c0, e0, h0⟩ := own_reads HO2.out
    simp only [Value.slice.injEq, true_and] at e0
    obtain ⟨rfl, rfl⟩ := e0
    exact (h0.below HB4.out).more (by omega))
  have RY : Hid (Reads w4 w4.heap.size 1 (some ⟨g4, 0, none⟩) (n' + 1) (boolV tt ++ [.bool true])) := Lib.hid (by
    obtain ⟨A0, c0, e0, h0⟩ := own_reads HO4.out
    simp only [Value.slice.injEq, true_and] at e0
    obtain ⟨rfl, rfl⟩ := e0
    exact h0)
  have RX0 : Hid (Reads w4 w4.heap.size 1 (some ⟨g2, 0, none⟩) n (strV ss)) := Lib.hid (reads_left RX.out (by rw [strV_length, HSL.out]) (by omega))
  have RY0 : Hid (Reads w4 w4.heap.size 1 (some ⟨g4, 0, none⟩) n' (boolV tt)) := Lib.hid (reads_left RY.out (by rw [boolV_length, HTL.out]) (by omega))
  have RS : Hid (Reads w4 w4.heap.size 1 A n (strV ss)) := Lib.hid ((HR.out.below HBW.out).more sW)
  have RT : Hid (Reads w4 w4.heap.size 1 A' n' (boolV tt)) := Lib.hid ((HT.out.below HBW.out).more sW)
  have CM : Hid (w4.cell? ⟨g2, n, none⟩ = some (.string markB)) := Lib.hid (by
    obtain ⟨ad, e, _, hcell⟩ := RX.out.2 (by omega)
    injection e with e; subst e
    have := hcell n (.string markB) (by rw [List.getElem?_append_right (by rw [strV_length, HSL.out]; exact Nat.le_refl _), strV_length, HSL.out]; simp)
    rw [add0] at this; exact this)
  have CT : Hid (w4.cell? ⟨g4, n', none⟩ = some (.bool true)) := Lib.hid (by
    obtain ⟨ad, e, _, hcell⟩ := RY.out.2 (by omega)
    injection e with e; subst e
    have := hcell n' (.bool true) (by rw [List.getElem?_append_right (by rw [boolV_length, HTL.out]; exact Nat.le_refl _), boolV_length, HTL.out]; simp)
    rw [add0] at this; exact this)
  have hg2 : g2 < w4.heap.size := by omega
  obtain ⟨L, x, hL⟩ : ∃ L x, rebR ss tt k = (L, x) := ⟨_, _, rfl⟩
  have hLl : L.length ≤ 64 := by have := rebR_len ss tt k; rw [hL] at this; exact this
  have XR := Lib.hid hL
  clear hL HO1 HO2 HO3 HO4 HB1 HB2 HB3 HB4 RX RY HR HT s1 s2 s3 s4 hgl2 hgb2 hgb4
  refine (rrebuild_any A n c ss A' n' c' tt k _ _ _ RS.out (Nat.le_refl _) RT.out (Nat.le_refl _) (by omega) (by omega) HZ.out).mono ?_
  rintro e w5 ⟨va, rfl, hoa, hba⟩
  rw [XR.out] at hoa ⊢
  have HOA : Hid (w5.ownsRow w4.heap.size 9 1 va L.length (strV L)) := Lib.hid hoa
  have HBA := Lib.hid hba
  have sa := hba.size
  clear hoa hba
  go_wp2_with fail
  refine (rebuild_any _ n cap2 ss _ n' cap4 tt k _ _ _ (RX0.out.below HBA.out) sa (RY0.out.below HBA.out) sa (by omega) (by omega) HZ.out).mono ?_
  rintro e w6 ⟨vb, rfl, hob, hbb⟩
  rw [XR.out] at hob ⊢
  have HOB : Hid (w6.ownsRow w5.heap.size 9 1 vb L.length (strV L)) := Lib.hid hob
  have HBB : Hid (Below w4.heap.size w4 w6) := Lib.hid (HBA.out.trans (hbb.mono sa))
  have HB56 := Lib.hid hbb
  have sb := hbb.size
  clear hob hbb
  go_wp2_with fail
  refine (rebuild_any _ n cap2 ss _ n' cap4 tt k _ _ _ (RX0.out.below HBB.out) (by omega) (RY0.out.below HBB.out) (by omega) (by omega) (by omega) HZ.out).mono ?_
  rintro e w7 ⟨vc, rfl, hoc, hbc⟩
  rw [XR.out] at hoc ⊢
  have HOC : Hid (w7.ownsRow w6.heap.size 9 1 vc L.length (strV L)) := Lib.hid hoc
  have HBC : Hid (Below w4.heap.size w4 w7) := Lib.hid (HBB.out.trans (hbc.mono (by omega)))
  have HB67 := Lib.hid hbc
  have sc := hbc.size
  clear hoc hbc
  go_wp2_with fail
  refine (rfits_any A n c ss k _ _ (RS.out.below HBC.out) (by omega) hc (by omega) HZ2.out).mono ?_
  rintro e w8 ⟨rfl, hbd⟩
  have HBD : Hid (Below w4.heap.size w4 w8) := Lib.hid (HBC.out.trans (hbd.mono (by omega)))
  have HB78 := Lib.hid hbd
  have sd := hbd.size
  clear hbd
  go_wp2_with fail
  refine (fits_any _ n cap2 ss k _ _ (RX0.out.below HBD.out) (by omega) (by omega) (by omega) HZ2.out).mono ?_
  rintro e w9 ⟨rfl, hbe⟩
  have HBE : Hid (Below w4.heap.size w4 w9) := Lib.hid (HBD.out.trans (hbe.mono (by omega)))
  have HB89 := Lib.hid hbe
  have se := hbe.size
  clear hbe
  obtain ⟨F, y, hF⟩ : ∃ F y, fitR ss k = (F, y) := ⟨_, _, rfl⟩
  rw [hF]
  clear hF
  have HA9 : Hid (w9.ownsRow w4.heap.size 9 1 va L.length (strV L)) := Lib.hid (own_below (own_below (own_below (own_below HOA.out HB56.out) HB67.out) HB78.out) HB89.out)
  have HB9 : Hid (w9.ownsRow w5.heap.size 9 1 vb L.length (strV L)) := Lib.hid (own_below (own_below (own_below HOB.out HB67.out) HB78.out) HB89.out)
  have HC9 : Hid (w9.ownsRow w6.heap.size 9 1 vc L.length (strV L)) := Lib.hid (own_below (own_below HOC.out HB78.out) HB89.out)
  obtain ⟨Aa, ca, rfl, _, hra⟩ := own_readsC HA9.out
  obtain ⟨Ac, cc, rfl, _, hrc⟩ := own_readsC HC9.out
  have HRA := Lib.hid hra
  have HRC := Lib.hid hrc
  have DA : Hid (∀ ad, Aa = some ad → some ad.block ≠ vb.ownBlock) := Lib.hid (fun ad h e => by
    have h1 := own_addr HOA.out ad h
    have h2 := (HOB.out.lt _ e.symm).1
    omega)
  have DC : Hid (∀ ad, Ac = some ad → some ad.block ≠ vb.ownBlock) := Lib.hid (fun ad h e => by
    have h1 := own_addr HOC.out ad h
    have h2 := (HOB.out.lt _ e.symm).2
    omega)
  have DW : Hid (∀ g, vb.ownBlock = some g → w4.heap.size ≤ g) := Lib.hid (fun g h => by have := (HOB.out.lt _ h).1; omega)
  clear hra hrc HOA HOB HOC HB56 HB67 HB78 HB89 HBA HBB HBC HBD
  go_wp2_with fail
  refine (fresh_any vb L.length L Ac Aa cc ca _ _ _ _ HB9.out (by omega) HRC.out (Nat.le_refl _) HRA.out (Nat.le_refl _) (by omega) DC.out DA.out).mono ?_
  rintro e w10 ⟨rfl, hgf⟩
  have HBF := Lib.hid (below_grown HBE.out hgf DW.out)
  have sf := HBF.out.size
  clear hgf
  go_wp2_with fail
  refine (same_self _ A n cap2 n c ss _ _ _ (RX0.out.below HBF.out) (RS.out.below HBF.out) (by omega) (by omega)).mono ?_
  rintro e w11 ⟨rfl, q, rfl⟩
  have hcm : w10.cell? ⟨g2, n, none⟩ = some (.string ⟨#[109, 97, 114, 107]⟩) := (HBF.out.cell hg2).trans CM.out
  have hct : w10.cell? ⟨g4, n', none⟩ = some (.bool true) := (HBF.out.cell hgl4).trans CT.out
  have HBG : Hid (Below w.heap.size w w10) := Lib.hid (HBW.out.trans (HBF.out.mono sW))
  have hni : (n : Int) < (n : Int) + 1 := by omega
  have hni' : (n' : Int) < (n' : Int) + 1 := by omega
  go_wp2
  clear hcm hct
  go_loopw [20] (fun i wr => ∃ j : Nat, j ≤ n' ∧ i = .int .i64 j ∧ ∃ m, wr = w10.drewN m) (fun i _ => n' - (intOf i).toNat)
  case atStart => exact ⟨0, by omega, rfl, _, rfl⟩
  case round =>
    obtain ⟨j, hj, rfl, m, rfl⟩ := hrel
    by_cases hjl : j < n'
    · obtain ⟨ay, hay, _, hcy⟩ := (RY0.out.below HBF.out).bool hjl
      obtain ⟨at_, hat, _, hctt⟩ := (RT.out.below HBF.out).bool hjl
      injection hay with hay
      subst hay hat
      have hcyj := hcy j hjl
      have hctj := hctt j hjl
      rw [add0] at hcyj
      clear hcy hctt
      have hji : (j : Int) < (n' : Int) := by omega
      generalize tt.getD j false = b at hcyj hctj
      go_wp2
      go_quiet (fail)
      go_wp2
      go_roundw
      case rel => exact ⟨j + 1, by omega, by go_num, _, rfl⟩
      case measure => simp [intOf]; omega
    · obtain rfl : j = n' := by omega
      go_wp2
      go_ret
      exact ⟨rfl, below_drewN HBG.out _⟩
end Go.Proofs.Ythlnnclpfgokjaa
