/- Walk: the law PackBuilds. -/
import Derived.Test.YtpfccicahfncbaaMgPackBack6
import Derived.Test.YtpfccicahfncbaaMgPackBack1
import Derived.Deep.RegionHeld3
import Derived.Deep.DeepCutAuto
namespace Go.Proofs.Ytpfccicahfncbaa
open Go.RowKit Wir Dig
set_option linter.unusedVariables false
set_option linter.unusedSimpArgs false
theorem add_zero (g j : Nat) : ({ block := g, off := 0, spot := none } : Addr).add j = ⟨g, j, none⟩ := by unfold Addr.add; split <;> simp_all
/-- The program's objects beside the document's. -/
theorem own_two {w1 : World} {base n g cap : Nat} {l : List PObj} (h : w1.ownsRow base 30 2 (.slice (some ⟨g, 0, none⟩) (n + 1) cap) (n + 1) (objV (l ++ [markO]))) (hl : l.length = n) :
    Reads w1 w1.heap.size 2 (some ⟨g, 0, none⟩) n (objV l) ∧ n + 1 ≤ cap ∧ w1.cell? ⟨g, n * 2, none⟩ = some (.int .u8 77) ∧ g < w1.heap.size := by
  have e : (objV (l ++ [markO])).take (n * 2) = objV l := by
    rw [objV_app, List.take_left' (by rw [objV_length, hl])]
  have hs := own_shorter h (Nat.le_succ n)
  rw [e] at hs
  have hr := Reads.of_own h
  obtain ⟨ad, hi, had, hb, hc, _⟩ := obj_cells hr n (Nat.lt_succ_self n)
  obtain rfl := Option.some.inj had
  refine ⟨Reads.of_own hs, ?_, ?_, hb⟩
  · rcases h.2 with ⟨h', _⟩ | ⟨g', cap', cur, h', _, _, a, _⟩
    · cases h'
    · simp at h'; omega
  · have hg : (l ++ [markO])[n]'(by simpa using hi) = markO := by rw [List.getElem_append_right (by omega)]; simp
    rw [hg] at hc
    have ea : ({ block := g, off := 0, spot := none } : Addr).add (n * 2) = ⟨g, n * 2, none⟩ := by unfold Addr.add; split <;> simp_all
    rw [ea] at hc
    exact hc
set_option maxRecDepth 100000 in
set_option maxHeartbeats 4000000 in
theorem packBuilds_walk (A : Option Addr) (n c : Nat) (l : List PObj) {w : World} (hr : Reads w w.heap.size 2 A n (objV l)) (hn : n * 24 ≤ 140737488351232) (hz : ∀ o ∈ l, o.2.size ≤ 140737488355328) (hc : n ≤ c) :
    Calls Try.prog 3 #[.slice A n c] w fun e w' => e = .returned (.bool true) ∧ Below w.heap.size w w' := by
  have HR := Lib.hid hr
  have HL := Lib.hid hr.objLen
  have HZ := Lib.hid hz
  have O1 := Lib.hid (own_any A n c l w w.heap.size hr (Nat.le_refl _) hn)
  clear hr hz
  go_enter Try.func3, Try.ntmps3
  go_wp2_with fail
  (with_reducible refine O1.out.mono ?_)
  rintro e w1 ⟨g, cap, rfl, ho1, hb1⟩
  obtain ⟨hm1, hcap, h77, hg1⟩ := own_two ho1 HL.out
  have HM := Lib.hid hm1
  have H77 := Lib.hid h77
  have HB1 := Lib.hid hb1
  have B2 := Lib.hid (build_any (some ⟨g, 0, none⟩) n cap l w1 w1.heap.size hm1 (Nat.le_refl _) (by omega) HZ.out)
  clear ho1 hb1 hm1 h77 O1
  go_wp2_with fail
  (with_reducible refine B2.out.mono ?_)
  rintro e w2 ⟨rfl, hb2⟩
  have HN2 : Hid (Below w1.heap.size w1 w2) := Lib.hid hb2
  have HB2 : Hid (Below w.heap.size w w2) := Lib.hid (HB1.out.trans (hb2.mono HB1.out.size))
  have B3 := Lib.hid (rbuild_any A n c l w2 w.heap.size (HR.out.below HB2.out) HB2.out.size (by omega) HZ.out)
  clear hb2 B2
  obtain ⟨P, hP⟩ : ∃ P, bldR l = P := ⟨_, rfl⟩
  rw [hP] at B3 ⊢
  obtain ⟨p, e⟩ := P
  clear hP
  go_wp2_with fail
  (with_reducible refine B3.out.mono ?_)
  rintro e' w3 ⟨rfl, hb3⟩
  have HN3 : Hid (Below w1.heap.size w1 w3) := Lib.hid (HN2.out.trans (hb3.mono HN2.out.size))
  have HB3 : Hid (Below w.heap.size w w3) := Lib.hid (HB2.out.trans (hb3.mono HB2.out.size))
  clear hb3 B3 HN2 HB2
  go_wp2_with fail
  go_loopw [8] (fun i wr => ∃ k : Nat, k ≤ n ∧ i = .int .i64 k ∧ Hid (Below w1.heap.size w1 wr)) (fun i _ => n - (intOf i).toNat)
  case atStart => exact ⟨0, by omega, rfl, HN3⟩
  case round =>
    obtain ⟨k, hk, rfl, HK⟩ := hrel
    by_cases hlt : k < n
    · obtain ⟨ad, hkl, rfl, hbl, hc0, hc1⟩ := obj_cells HR.out k hlt
      obtain ⟨ad2, hkl2, had2, hbl2, hd0, hd1⟩ := obj_cells HM.out k hlt
      obtain rfl := Option.some.inj had2
      clear had2
      have hz1 := HZ.out _ (List.getElem_mem hkl)
      have hC : Hid (∀ W : World, Below w1.heap.size w1 W → (W.cell? (ad.add (k * 2)) = some (.int .u8 ((l[k]).1.toNat : Int)) ∧ W.cell? ⟨(ad.add (k * 2)).block, (ad.add (k * 2)).off + 1, none⟩ = some (.string (l[k]).2)) ∧ W.cell? ⟨g, k * 2, none⟩ = some (.int .u8 ((l[k]).1.toNat : Int)) ∧ W.cell? ⟨g, k * 2 + 1, none⟩ = some (.string (l[k]).2)) := Lib.hid (fun W hW => by
        have hW' : Below w.heap.size w W := HB1.out.trans (hW.mono HB1.out.size)
        refine ⟨⟨?_, ?_⟩, ?_, ?_⟩
        · rw [hW'.cell (by rw [block_of_add]; omega)]; exact hc0
        · show W.cell? ((ad.add (k * 2)).add 1) = _
          rw [hW'.cell (by rw [block_of_add, block_of_add]; omega)]; exact hc1
        · rw [hW.cell (p := ⟨g, k * 2, none⟩) hg1]; rw [add_zero g (k * 2)] at hd0; exact hd0
        · rw [hW.cell (p := ⟨g, k * 2 + 1, none⟩) hg1]; rw [add_of_add, add_zero g (k * 2 + 1)] at hd1; exact hd1)
      obtain ⟨o, ho⟩ : ∃ o, l[k] = o := ⟨_, rfl⟩
      rw [ho] at hz1 hC
      clear hc0 hc1 hd0 hd1 ho hkl hkl2 hbl hbl2
      have hki : (k : Int) < (n : Int) := by omega
      have C1 := Lib.hid (fun W => check_any o W (by omega))
      have C2 := Lib.hid (fun W => rcheck_any o W (by omega))
      obtain ⟨ce, hce⟩ : ∃ ce, chkE o = ce := ⟨_, rfl⟩
      rw [hce] at C1 C2
      unfold objA at C1 C2
      clear hce
      have q1 : (((o.1.toNat : Nat) : Int) != (o.1.toNat : Int)) = false := by simp
      have q2 : (o.2.toList == o.2.toList) = true := beq_self_eq_true _
      have q3 : (ce != ce) = false := by simp
      have SA := hC.out wr HK.out
      have T4 : Hid (∀ W, Below wr.heap.size wr.drew W → Below w1.heap.size w1 W) := Lib.hid (fun W hb => HK.out.drew.trans (hb.mono HK.out.size))
      go_upto_region 7 with fail
      go_region_held3 (fun w' => (w'.cell? (ad.add (k * 2)) = some (.int .u8 (o.1.toNat : Int)) ∧ w'.cell? ⟨(ad.add (k * 2)).block, (ad.add (k * 2)).off + 1, none⟩ = some (.string o.2)) ∧ w'.cell? ⟨g, k * 2, none⟩ = some (.int .u8 (o.1.toNat : Int)) ∧ w'.cell? ⟨g, k * 2 + 1, none⟩ = some (.string o.2))
        (first | exact SA | exact hC.out _ HK.out.drew | exact hC.out _ (T4.out _ (hb4.trans (hb5.mono hb4.size))) | exact hC.out _ (T4.out _ hb4))
        ((first | (go_at_call 10; refine (C1.out _).mono ?_; rintro e' w4 ⟨rfl, hb4⟩) | (go_at_call 11; refine (C2.out _).mono ?_; rintro e' w5 ⟨rfl, hb5⟩)))
      have HK' := Lib.hid (T4.out _ (hb4.trans (hb5.mono hb4.size)))
      clear hb4 hb5 SA C1 C2 hC T4
      go_wp2
      go_roundw
      case rel => exact ⟨k + 1, by omega, by go_num, HK'⟩
      case measure => simp [intOf]; omega
    · obtain rfl : k = n := by omega
      have q1 : (p.toList == p.toList) = true := beq_self_eq_true _
      have q2 : (e == e) = true := by simp
      have h77 : wr.cell? ⟨g, k * 2, none⟩ = some (.int .u8 77) := by rw [HK.out.cell (p := ⟨g, k * 2, none⟩) hg1]; exact H77.out
      have hci : (k : Int) + 1 ≤ (cap : Int) := by omega
      have AW := Lib.hid (fun W => pkAwake_any W)
      have HBW : Hid (Below w.heap.size w wr) := Lib.hid (HB1.out.trans (HK.out.mono HB1.out.size))
      go_wp2_with fail
      (with_reducible refine (AW.out _).mono ?_)
      rintro e' w4 ⟨rfl, hb4⟩
      have HB4 := Lib.hid (HBW.out.trans (hb4.mono HBW.out.size))
      clear hb4 AW
      go_wp2
      go_ret
      exact ⟨rfl, HB4.out⟩
end Go.Proofs.Ytpfccicahfncbaa
