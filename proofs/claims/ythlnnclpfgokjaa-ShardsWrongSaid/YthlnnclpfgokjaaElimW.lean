/- Walk: field.eliminate. -/
import Derived.Test.YthlnnclpfgokjaaElim
import Derived.Test.YthlnnclpfgokjaaMade
import Derived.Test.YthlnnclpfgokjaaRow128
import Derived.BigRegion
namespace Go.Proofs.Ythlnnclpfgokjaa
open Go.RowKit Gf
set_option linter.unusedVariables false
def flat (M : Mat) : Nat → UInt8 := fun x => M (x / 128) (x % 128)
theorem flat_at (M : Mat) (i j : Nat) (hj : j < 128) : flat M (i * 128 + j) = M i j := by
  unfold flat
  rw [show (i * 128 + j) / 128 = i from by omega, show (i * 128 + j) % 128 = j from by omega]
theorem esteps_stop (n : Nat) (M : Mat) (c : Nat) (h : n ≤ (esteps n M c).2) (d : Nat) : esteps n M (c + d) = esteps n M c := by
  induction d with
  | zero => rfl
  | succ d ih =>
    rw [← Nat.add_assoc]
    show estep n (c + d) (esteps n M (c + d)) = _
    rw [ih, estep, if_neg (by omega)]
theorem flat_times (M : Mat) (a : Nat) (v : UInt8) : timesG (flat M) (a * 128) v 128 = flat (scaleR M a v) := by
  funext x
  unfold timesG flat scaleR
  by_cases h : a * 128 ≤ x ∧ x < a * 128 + 128
  · rw [if_pos h, if_pos (by omega)]
  · rw [if_neg h, if_neg (by omega)]
theorem flat_take (M : Mat) (a c k : Nat) (hk : k ≠ a) : takeG (flat (takeR M a c k)) (k * 128) (takeR M a c k k c) (fun j => flat (takeR M a c k) (a * 128 + j)) 128 = flat (takeR M a c (k + 1)) := by
  funext x
  unfold takeG
  by_cases h : k * 128 ≤ x ∧ x < k * 128 + 128
  · have e1 : x / 128 = k := by omega
    have e2 : x - k * 128 = x % 128 := by omega
    rw [if_pos h, e2]
    show _ ^^^ gm _ (flat (takeR M a c k) (a * 128 + x % 128)) = _
    rw [flat_at _ _ _ (Nat.mod_lt _ (by omega))]
    unfold flat takeR
    rw [e1, if_neg (by omega), if_neg (by omega), if_neg (by omega), if_pos ⟨by omega, hk⟩]
  · have e1 : x / 128 ≠ k := by omega
    rw [if_neg h]
    unfold flat takeR
    by_cases h2 : x / 128 < k ∧ x / 128 ≠ a
    · rw [if_pos h2, if_pos ⟨by omega, h2.2⟩]
    · rw [if_neg h2, if_neg (by omega)]
theorem takeR_self (M : Mat) (a c : Nat) : takeR M a c (a + 1) = takeR M a c a := by
  funext i j
  unfold takeR
  by_cases h : i < a ∧ i ≠ a
  · rw [if_pos h, if_pos ⟨by omega, h.2⟩]
  · rw [if_neg h, if_neg (by omega)]
theorem takeR_zero (M : Mat) (a c : Nat) : takeR M a c 0 = M := by
  funext i j; unfold takeR; rw [if_neg (by omega)]

attribute [local go_sem ↓] execOp_ld128 execOp_st128
attribute [local go_sem] run_ld128 run_st128
theorem u8V_one (G : Nat → UInt8) (x : Nat) : (u8V G x).oneCell' = true := rfl
/-- The exchange of two rows: first p's place gets row a, then a's place row p. -/
theorem swap_rows {w : World} {g N : Nat} {T : TypeId} {D : Mat} {p a : Nat} (h : w.rowIs g T N (u8V (flat D))) (hp : p * 128 + 128 ≤ N) (ha : a * 128 + 128 ≤ N) :
    full128 (row128 w g (a * 128)) = true ∧ full128 (row128 w g (p * 128)) = true ∧ ok128 w g (a * 128) = true ∧ ok128 w g (p * 128) = true ∧ ok128 (put128 w g (p * 128) (row128 w g (a * 128))) g (a * 128) = true ∧
    (put128 (put128 w g (p * 128) (row128 w g (a * 128))) g (a * 128) (row128 w g (p * 128))).rowIs g T N (u8V (flat (swapR D a p))) ∧
    w.grownBy (put128 (put128 w g (p * 128) (row128 w g (a * 128))) g (a * 128) (row128 w g (p * 128))) (some g) := by
  have f1 := row128_full h ha (u8V_one _)
  have f2 := row128_full h hp (u8V_one _)
  obtain ⟨r1, g1⟩ := put128_row h (p * 128) _ hp f1
  obtain ⟨r2, g2⟩ := put128_row r1 (a * 128) _ ha f2
  refine ⟨f1, f2, ok128_of h ha, ok128_of h hp, ok128_of r1 ha, r2.congr fun x _ => ?_, grown_both g1 g2⟩
  by_cases e1 : a * 128 ≤ x ∧ x < a * 128 + 128
  · have e2 : x / 128 = a := by omega
    have e3 : x - a * 128 = x % 128 := by omega
    rw [if_pos e1, e3, row128_get h hp _ (Nat.mod_lt _ (by omega))]
    unfold u8V
    rw [flat_at _ _ _ (Nat.mod_lt _ (by omega))]
    unfold flat swapR
    rw [e2, if_pos rfl]
  · have e2 : x / 128 ≠ a := by omega
    rw [if_neg e1]
    by_cases e4 : p * 128 ≤ x ∧ x < p * 128 + 128
    · have e5 : x / 128 = p := by omega
      have e3 : x - p * 128 = x % 128 := by omega
      rw [if_pos e4, e3, row128_get h ha _ (Nat.mod_lt _ (by omega))]
      unfold u8V
      rw [flat_at _ _ _ (Nat.mod_lt _ (by omega))]
      unfold flat swapR
      rw [if_neg e2, if_pos e5]
    · have e5 : x / 128 ≠ p := by omega
      rw [if_neg e4]
      unfold u8V flat swapR
      rw [if_neg e2, if_neg e5]
theorem swapR_comm (D : Mat) (a p : Nat) : swapR D a p = swapR D p a := by
  funext i j
  unfold swapR
  by_cases h1 : i = a
  · by_cases h2 : i = p
    · rw [if_pos h1, if_pos h2, ← h1, ← h2]
    · rw [if_pos h1, if_neg h2, if_pos h1]
  · rw [if_neg h1]
    by_cases h2 : i = p
    · rw [if_pos h2, if_pos h2]
    · rw [if_neg h2, if_neg h2, if_neg h1]

set_option maxRecDepth 100000 in
set_option maxHeartbeats 2000000 in
theorem eliminate_any (w : World) (g n cap cols : Nat) (M : Mat) (hG : w.rowIs g 72 (n * 128) (u8V (flat M))) (hn : n ≤ 64) (hc : cols ≤ 64) :
    Calls Try.prog 59 #[.slice (some ⟨g, 0, none⟩) n cap, .int .i64 (cols : Int)] w
      fun e w' => e = .returned (.int .i64 ((esteps n M cols).2 : Int)) ∧ w'.rowIs g 72 (n * 128) (u8V (flat (esteps n M cols).1)) ∧ w.grownBy w' (some g) := by
  have HG := Lib.hid hG
  clear hG
  go_enter Try.func59, Try.ntmps59
  go_wp2
  go_loopw [5, 6, 7, 8] (fun x y _ _ wr => ∃ c a : Nat, c ≤ cols ∧ a ≤ n ∧ x = .int .i64 (a : Int) ∧ y = .int .i64 (c : Int) ∧ Hid (a = (esteps n M c).2) ∧ Hid (wr.rowIs g 72 (n * 128) (u8V (flat (esteps n M c).1)) ∧ w.grownBy wr (some g))) (fun _ y _ _ _ => cols - (intOf y).toNat)
  case atStart => exact ⟨0, 0, by omega, by omega, rfl, rfl, Lib.hid rfl, Lib.hid ⟨HG.out, World.grownBy.refl _ _⟩⟩
  case round =>
    obtain ⟨c, a, hcc, han, rfl, rfl, EA, HR⟩ := hrel
    obtain ⟨D, hD⟩ : ∃ D, D = (esteps n M c).1 := ⟨_, rfl⟩
    have hES : esteps n M c = (D, a) := by rw [hD, EA.out]
    have HR1 : Hid (wr.rowIs g 72 (n * 128) (u8V (flat D)) ∧ w.grownBy wr (some g)) := Lib.hid (by rw [hD]; exact HR.out)
    have ES := Lib.hid hES
    clear hD hES HR
    by_cases hlt : c < cols ∧ a < n
    · obtain ⟨h1, h2⟩ := hlt
      go_wp2
      obtain ⟨wo, rfl⟩ : ∃ wo : World, wo = wr := ⟨_, rfl⟩
      go_loop [7] (fun t => ∃ p : Nat, a ≤ p ∧ p ≤ n ∧ t = .int .i64 (p : Int) ∧ Hid (pivot D c n a = findP D c n (n - p) p)) (fun t => n - (intOf t).toNat)
      case atStart => exact ⟨a, Nat.le_refl _, by omega, rfl, Lib.hid rfl⟩
      case round =>
        obtain ⟨p, hp1, hp2, rfl, HP⟩ := hrel
        by_cases hpn : p < n
        · have hcell : wo.cell? ⟨g, p * 128 + c, none⟩ = some (.int .u8 ((D p c).toNat : Int)) := by
            rw [HR1.out.1.cell (by omega)]; unfold u8V; rw [flat_at _ _ _ (by omega)]
          have hci : (c : Int) < 128 := by omega
          by_cases hz : D p c = 0
          · have ht : (((D p c).toNat : Int) == 0) = true := by rw [hz]; rfl
            have HP' : Hid (pivot D c n a = findP D c n (n - (p + 1)) (p + 1)) := Lib.hid (by
              rw [HP.out, show n - p = (n - (p + 1)) + 1 from by omega, findP_step _ _ _ _ _ (by omega) hz])
            clear hz
            go_wp2
            go_round
            case rel => exact ⟨p + 1, by omega, by omega, by go_num, HP'⟩
            case measure => simp [intOf]; omega
          · have ht := u8_ne hz
            have HP' : Hid (pivot D c n a = p) := Lib.hid (by rw [HP.out, findP_stop _ _ _ _ _ hz])
            have hne : ((p : Int) == (n : Int)) = false := by rw [beq_eq_false_iff_ne]; omega
            clear hz HP
            go_wp2
            obtain ⟨w2, rfl⟩ : ∃ w2 : World, w2 = wo := ⟨_, rfl⟩
            obtain ⟨q1, q2, q3, q4, q5, q6, q7⟩ := swap_rows (p := p) (a := a) HR1.out.1.drew (by omega) (by omega)
            have Q6 := Lib.hid q6
            have Q7 := Lib.hid (grown_both (only_drew HR1.out.2) q7)
            clear q6 q7 hcell
            go_region
            generalize put128 (put128 w2.drew g (p * 128) (row128 w2.drew g (a * 128))) g (a * 128) (row128 w2.drew g (p * 128)) = w5 at Q6 Q7 ⊢
            rw [swapR_comm] at Q6
            obtain ⟨E, hE⟩ : ∃ E, E = swapR D p a := ⟨_, rfl⟩
            rw [← hE] at Q6
            have HE := Lib.hid hE
            clear hE q1 q2 q3 q4 q5
            have hcell : w5.cell? ⟨g, a * 128 + c, none⟩ = some (.int .u8 ((E a c).toNat : Int)) := by
              rw [Q6.out.cell (by omega)]; unfold u8V; rw [flat_at _ _ _ (by omega)]
            go_wp2
            refine wp_region_still_tail 10 (by kernel_rfl) (by kernel_rfl) ?_
            simp only [List.take_succ_cons, List.take_zero, List.drop_succ_cons, List.drop_zero]
            repeat still_step
            still_call (swapW (inverse_any _ _))
            repeat still_step
            try refine wpStill_nil ?_
            go_wp2_with fail
            refine (timesRow_any w5.drew g (n * 128) _ (a * 128) _ Q6.out.drew (by omega)).mono ?_
            rintro e w6 ⟨rfl, hr6, hg6⟩
            rw [flat_times] at hr6
            obtain ⟨F, hF⟩ : ∃ F, F = scaleR E a (inv (E a c)) := ⟨_, rfl⟩
            rw [← hF] at hr6
            have HF := Lib.hid hF
            have R6 := Lib.hid hr6
            have G6 := Lib.hid (grown_both (only_drew Q7.out) hg6)
            have RED : Hid (F = red1 D p a c) := Lib.hid (by rw [HF.out, HE.out]; rfl)
            clear hF hr6 hg6 hcell
            go_wp2
            go_loopw [8, 67] (fun _ i wr => ∃ k : Nat, k ≤ n ∧ i = .int .i64 k ∧ Hid (wr.rowIs g 72 (n * 128) (u8V (flat (takeR F a c k))) ∧ w.grownBy wr (some g))) (fun _ i _ => n - (intOf i).toNat)
            case atStart => exact ⟨0, by omega, rfl, Lib.hid ⟨by rw [takeR_zero]; exact R6.out, G6.out⟩⟩
            case round =>
              obtain ⟨k, hk, rfl, HK⟩ := hrel
              by_cases hkn : k < n
              · by_cases hka : k = a
                · have hne : ((k : Int) != (a : Int)) = false := by rw [bne_eq_false_iff_eq]; omega
                  have HK' : Hid (wr.rowIs g 72 (n * 128) (u8V (flat (takeR F a c (k + 1)))) ∧ w.grownBy wr (some g)) := Lib.hid (by
                    have := HK.out; rw [hka] at this ⊢; rw [takeR_self]; exact this)
                  have e1 : (k : Int) ≤ a := by omega
                  have e2 : (a : Int) ≤ k := by omega
                  clear hka hne
                  go_wp2
                  go_roundw
                  case rel => exact ⟨k + 1, by omega, by go_num, HK'⟩
                  case measure => simp [intOf]; omega
                · have hcell : wr.cell? ⟨g, k * 128 + c, none⟩ = some (.int .u8 ((takeR F a c k k c).toNat : Int)) := by
                    rw [HK.out.1.cell (by omega)]; unfold u8V; rw [flat_at _ _ _ (by omega)]
                  have hci : (c : Int) < 128 := by omega
                  go_wp2
                  refine wp_region_still_tail 12 (by kernel_rfl) (by kernel_rfl) ?_
                  simp only [List.take_succ_cons, List.take_zero, List.drop_succ_cons, List.drop_zero]
                  repeat still_step
                  try refine wpStill_nil ?_
                  go_wp2_with fail
                  refine (take_any wr.drew g (n * 128) _ (k * 128) _ g (n * 128) (a * 128) _ HK.out.1.drew (by omega) HK.out.1.drew (by omega) (.inr ⟨rfl, rfl, rfl, by omega⟩)).mono ?_
                  rintro e w7 ⟨rfl, hr7, hg7⟩
                  rw [flat_take _ _ _ _ hka] at hr7
                  have HK' := Lib.hid (And.intro hr7 (grown_both (only_drew HK.out.2) hg7))
                  clear hr7 hg7 hcell
                  go_wp2
                  go_roundw
                  case rel => exact ⟨k + 1, by omega, by go_num, HK'⟩
                  case measure => simp [intOf]; omega
              · obtain rfl : k = n := by omega
                have hES : Hid (esteps k M (c + 1) = (takeR F a c k, a + 1)) := Lib.hid (by
                  show estep k c (esteps k M c) = _
                  rw [ES.out, estep, if_pos ⟨h2, by rw [HP'.out]; exact hpn⟩, HP'.out, RED.out])
                go_wp2
                go_roundw
                case rel => exact ⟨c + 1, a + 1, by omega, by omega, by go_num, by go_num, Lib.hid (by rw [hES.out]), Lib.hid (by rw [hES.out]; exact HK.out)⟩
                case measure => simp [intOf]; omega
        · obtain rfl : p = n := by omega
          have HP' : Hid (pivot D c p a = p) := Lib.hid (by rw [HP.out, Nat.sub_self]; rfl)
          have hES : Hid (esteps p M (c + 1) = (D, a)) := Lib.hid (by
            show estep p c (esteps p M c) = _
            rw [ES.out, estep, if_neg]
            intro h; have := h.2; simp only at this; rw [HP'.out] at this; omega)
          go_wp2
          go_roundw
          case rel => exact ⟨c + 1, a, by omega, by omega, rfl, by go_num, Lib.hid (by rw [hES.out]), Lib.hid (by rw [hES.out]; exact HR1.out)⟩
          case measure => simp [intOf]; omega
    · have hfin : Hid (esteps n M cols = (D, a)) := Lib.hid (by
        by_cases hc2 : c < cols
        · have := esteps_stop n M c (by rw [ES.out]; show n ≤ a; omega) (cols - c)
          rw [show c + (cols - c) = cols from by omega] at this
          rw [this, ES.out]
        · rw [show cols = c from by omega, ES.out])
      have hd : (decide ((c : Int) < (cols : Int)) && decide ((a : Int) < (n : Int))) = false := by
        rw [Bool.and_eq_false_iff, decide_eq_false_iff_not, decide_eq_false_iff_not]; omega
      by_cases hc2 : c < cols
      · have ha2 : n ≤ a := by omega
        clear hlt hd
        go_wp2
        go_ret
        exact ⟨by rw [hfin.out]; rfl, by rw [hfin.out]; exact HR1.out.1, HR1.out.2⟩
      · clear hlt hd
        go_wp2
        go_ret
        exact ⟨by rw [hfin.out]; rfl, by rw [hfin.out]; exact HR1.out.1, HR1.out.2⟩
end Go.Proofs.Ythlnnclpfgokjaa
