/- Walks: digest.New, State.Write. No conditions. -/
import Derived.Test.YtfoandpcoakcjaaDig1
namespace Go.Proofs.Ytfoandpcoakcjaa
open Go.RowKit Dig
set_option linter.unusedVariables false
set_option linter.unusedSimpArgs false
attribute [local go_sem ↓] execOp_ld8 execOp_st8 execOp_ld64 execOp_st64
attribute [local go_sem] run_ld8 run_st8 run_ld64 run_st64
/-- A state's cells: m blocks of the text u are summed. -/
def stV (u : ByteArray) (m : Nat) : Nat → Value := fun i => if i < 8 then uV (hsF (byteAt u) m) i else if i = 8 then .string (u.extract (64 * m) u.size) else .int .u64 (u.size : Int)
def St (w : World) (p : Nat) (u : ByteArray) : Prop := w.rowIs p 152 10 (stV u (u.size / 64))
def cells10 (f : Nat → UInt32) (s : ByteArray) (n : Int) : Array Value := uA 8 f ++ #[.string s, .int .u64 n]
theorem row10_new (w : World) (f : Nat → UInt32) (s : ByteArray) (n : Int) (g : Nat → Value) (h0 : ∀ i, i < 8 → g i = uV f i) (h8 : g 8 = .string s) (h9 : g 9 = .int .u64 n) (T : TypeId) :
    (w.alloc (.cells (cells10 f s n) T)).rowIs w.heap.size T 10 g := by
  have := World.rowIs_alloc w (cells10 f s n) T g (fun i hi => by
    have hz : (cells10 f s n).size = 10 := by simp [cells10, uA_size]
    rw [hz] at hi
    unfold cells10
    by_cases h : i < 8
    · rw [Array.getElem?_append_left (by rw [uA_size]; exact h), uA_get 8 f i h, h0 i h]; rfl
    · rw [Array.getElem?_append_right (by rw [uA_size]; omega), uA_size]
      obtain rfl | rfl : i = 8 ∨ i = 9 := by omega
      · rw [h8]; rfl
      · rw [h9]; rfl)
  have hz : (cells10 f s n).size = 10 := by simp [cells10, uA_size]
  rw [hz] at this
  exact this
theorem new10_lit : (Array.foldl (fun (cs : Array Value) (x : Value × Nat) => cs.setIfInBounds x.snd x.fst) #[.int .u32 0, .int .u32 0, .int .u32 0, .int .u32 0, .int .u32 0, .int .u32 0, .int .u32 0, .int .u32 0, .string { data := #[] }, .int .u64 0] (uA 8 firstF).zipIdx 0 (uA 8 firstF).size) = cells10 firstF ByteArray.empty 0 := by kernel_rfl
set_option maxRecDepth 100000 in
theorem newState_any (w : World) : Calls Try.prog 71 #[] w fun e w' => ∃ p, w.heap.size ≤ p ∧ e = .returned (.pointer (some ⟨p, 0, none⟩)) ∧ St w' p ByteArray.empty ∧ Below w.heap.size w w' := by
  go_enter Try.func71, Try.ntmps71
  go_wp2_with fail
  refine (first_any _).mono ?_; rintro e w1 ⟨rfl, hb⟩
  have B := Lib.hid hb
  clear hb
  go_wp2
  go_ret
  rw [new10_lit]
  exact ⟨w1.heap.size, B.out.size, rfl, row10_new w1 firstF _ _ _ (fun i hi => by unfold stV; rw [if_pos hi]; rfl) rfl rfl _, B.out.alloc B.out.size _⟩
def stS (w wr : World) (p K : Nat) (u : ByteArray) (m : Nat) : Prop := w.heap.size ≤ K ∧ p ≠ K ∧ wr.rowIs p 152 10 (stV u m) ∧ wr.rowIs K 91 64 (uV kF) ∧ w.grownBy wr (some p)
def tailOf (p : Nat) (wr : World) : Nat := match wr.cell? ⟨p, 8, none⟩ with
  | some (.string t) => t.size
  | _ => 0
theorem row8_st {W : World} {p m : Nat} {T : TypeId} {u : ByteArray} (h : W.rowIs p T 10 (stV u m)) : row8 W p 0 = uA 8 (hsF (byteAt u) m) := by
  apply Array.ext'
  unfold row8 uA
  simp only [List.map_inj_left]
  intro j hj
  have hj : j < 8 := by simpa using hj
  rw [Nat.zero_add, h.cell (by omega)]
  unfold stV uV
  rw [if_pos hj]; rfl
theorem hs_app (s d : ByteArray) : hsF (byteAt (s ++ d)) (s.size / 64) = hsF (byteAt s) (s.size / 64) :=
  hs_congr _ fun j hj => by rw [byteAt_app, if_pos (by omega)]
theorem st_next (u : ByteArray) (m : Nat) (h : 64 * m + 64 ≤ u.size) :
    roundsF (hsF (byteAt u) m) kF (fun i => byteAt ((u.extract (64 * m) u.size).extract 0 64) i) = hsF (byteAt u) (m + 1) := by
  rw [hsF]
  refine rounds_congr _ _ fun j hj => ?_
  have e1 : (u.extract (64 * m) u.size).size = u.size - 64 * m := by rw [ByteArray.size_extract]; omega
  rw [byteAt_cut _ _ _ _ (by rw [e1]; omega) (by omega), byteAt_cut _ _ _ _ (by omega) (by omega), Nat.zero_add]
theorem cut_size (u : ByteArray) (m : Nat) : (u.extract m u.size).size = u.size - m := by rw [ByteArray.size_extract]; omega
theorem cut_step (u : ByteArray) (m : Nat) (h : 64 * m + 64 ≤ u.size) : (u.extract (64 * m) u.size).extract 64 (u.extract (64 * m) u.size).size = u.extract (64 * (m + 1)) u.size := by
  rw [cut_size, cut_cut _ _ _ _ _ (by omega) (by omega)]; congr 1; omega
theorem cut_64 (t : ByteArray) (h : 64 ≤ t.size) : (t.extract 0 64).size = 64 := by rw [ByteArray.size_extract]; omega
set_option maxRecDepth 100000 in
set_option maxHeartbeats 0 in
theorem write_any (p : Nat) (s d : ByteArray) (w : World) (h : St w p s) (hs : s.size + d.size ≤ 4611686018427387904) :
    Calls Try.prog 72 #[.pointer (some ⟨p, 0, none⟩), .string d] w fun e w' => e = .returned (.int .i64 0) ∧ St w' p (s ++ d) ∧ w.grownBy w' (some p) := by
  have c8 : w.cell? ⟨p, 8, none⟩ = some (.string (s.extract (64 * (s.size / 64)) s.size)) := h.cell (i := 8) (by omega)
  have c9 : w.cell? ⟨p, 9, none⟩ = some (.int .u64 (s.size : Int)) := h.cell (i := 9) (by omega)
  have f8 := h.frozen 8
  have f9 := h.frozen 9
  have HW := Lib.hid h
  have u0 : (s ++ d).size = s.size + d.size := ByteArray.size_append
  have L0 : (s.extract (64 * (s.size / 64)) s.size).size ≤ 64 := by rw [ByteArray.size_extract]; omega
  go_enter Try.func72, Try.ntmps72
  have R1 : Hid (((w.setCell ⟨p, 9, none⟩ (.int .u64 ((s.size : Int) + (d.size : Int)))).setCell ⟨p, 8, none⟩ (.string (s.extract (64 * (s.size / 64)) s.size ++ d))).rowIs p 152 10 (stV (s ++ d) (s.size / 64)) ∧
      w.grownBy ((w.setCell ⟨p, 9, none⟩ (.int .u64 ((s.size : Int) + (d.size : Int)))).setCell ⟨p, 8, none⟩ (.string (s.extract (64 * (s.size / 64)) s.size ++ d))) (some p)) := Lib.hid (by
    refine ⟨((HW.out.set 9 _).set 8 _).congr fun i hi => ?_, only_setCell (g := p) (only_setCell (g := p) (p := ⟨p, 9, none⟩) (World.grownBy.refl _ _) (.inl rfl) _) (p := ⟨p, 8, none⟩) (.inl rfl) _⟩
    unfold stV
    rw [hs_app, u0, cut_app s d _ (by omega)]
    by_cases e8 : i = 8
    · subst e8; rfl
    · by_cases e9 : i = 9
      · subst e9; simp
      · rw [if_neg e8, if_neg e9, if_pos (by omega), if_pos (by omega)])
  have PL : p < w.heap.size := HW.out.lt
  have HP := Lib.hid PL
  have HU := Lib.hid u0
  have hu : (s ++ d).size ≤ 4611686018427387904 := by rw [u0]; exact hs
  go_wp2_with fail
  clear h c8 c9 f8 f9 u0 L0 PL
  generalize hw1 : ((w.setCell ⟨p, 9, none⟩ (.int .u64 ((s.size : Int) + (d.size : Int)))).setCell ⟨p, 8, none⟩ (.string (s.extract (64 * (s.size / 64)) s.size ++ d))) = w1 at R1 ⊢
  clear hw1 hs
  generalize hsd : s ++ d = u at *
  have HSD := Lib.hid hsd
  clear hsd
  obtain ⟨q, hq⟩ : ∃ q, s.size / 64 = q := ⟨_, rfl⟩
  have HQ : Hid (64 * q ≤ u.size) := Lib.hid (by rw [HU.out]; omega)
  rw [hq] at R1
  refine (constants_any _).mono ?_; rintro e w2 ⟨rfl, hb⟩
  have BW := Lib.hid (only_of_below hb (some p))
  have HB2 := Lib.hid hb
  clear hb
  obtain ⟨h1, h2, h3, h4⟩ := constants_new w2 (c := #[.int .u32 0, .int .u32 0, .int .u32 0, .int .u32 0, .int .u32 0, .int .u32 0, .int .u32 0, .int .u32 0, .int .u32 0, .int .u32 0, .int .u32 0, .int .u32 0, .int .u32 0, .int .u32 0, .int .u32 0, .int .u32 0, .int .u32 0, .int .u32 0, .int .u32 0, .int .u32 0, .int .u32 0, .int .u32 0, .int .u32 0, .int .u32 0, .int .u32 0, .int .u32 0, .int .u32 0, .int .u32 0, .int .u32 0, .int .u32 0, .int .u32 0, .int .u32 0, .int .u32 0, .int .u32 0, .int .u32 0, .int .u32 0, .int .u32 0, .int .u32 0, .int .u32 0, .int .u32 0, .int .u32 0, .int .u32 0, .int .u32 0, .int .u32 0, .int .u32 0, .int .u32 0, .int .u32 0, .int .u32 0, .int .u32 0, .int .u32 0, .int .u32 0, .int .u32 0, .int .u32 0, .int .u32 0, .int .u32 0, .int .u32 0, .int .u32 0, .int .u32 0, .int .u32 0, .int .u32 0, .int .u32 0, .int .u32 0, .int .u32 0, .int .u32 0]) (by kernel_rfl) rfl
  have H := Lib.hid (And.intro h2 h3)
  clear h2 h3
  have ST : Hid (stS w (put64 (w2.alloc (.cells #[.int .u32 0, .int .u32 0, .int .u32 0, .int .u32 0, .int .u32 0, .int .u32 0, .int .u32 0, .int .u32 0, .int .u32 0, .int .u32 0, .int .u32 0, .int .u32 0, .int .u32 0, .int .u32 0, .int .u32 0, .int .u32 0, .int .u32 0, .int .u32 0, .int .u32 0, .int .u32 0, .int .u32 0, .int .u32 0, .int .u32 0, .int .u32 0, .int .u32 0, .int .u32 0, .int .u32 0, .int .u32 0, .int .u32 0, .int .u32 0, .int .u32 0, .int .u32 0, .int .u32 0, .int .u32 0, .int .u32 0, .int .u32 0, .int .u32 0, .int .u32 0, .int .u32 0, .int .u32 0, .int .u32 0, .int .u32 0, .int .u32 0, .int .u32 0, .int .u32 0, .int .u32 0, .int .u32 0, .int .u32 0, .int .u32 0, .int .u32 0, .int .u32 0, .int .u32 0, .int .u32 0, .int .u32 0, .int .u32 0, .int .u32 0, .int .u32 0, .int .u32 0, .int .u32 0, .int .u32 0, .int .u32 0, .int .u32 0, .int .u32 0, .int .u32 0] 91)) w2.heap.size 0 (uA 64 kF)) p w2.heap.size u q) := Lib.hid (by
    have g1 := R1.out.2
    have g2 := grown_both g1 BW.out
    have hs2 : w.heap.size ≤ w2.heap.size := g2.size
    have hp := HP.out
    refine ⟨hs2, by omega, ((R1.out.1.of_block (HB2.out.block _ R1.out.1.lt)).of_block (H.out.2.block _ (by omega))), ⟨_, H.out.1, uA_size _ _, fun i hi => uA_get _ _ _ hi⟩, grown_both g2 (only_of_below H.out.2 _)⟩)
  go_wp2_with fail
  generalize put64 (w2.alloc (.cells #[.int .u32 0, .int .u32 0, .int .u32 0, .int .u32 0, .int .u32 0, .int .u32 0, .int .u32 0, .int .u32 0, .int .u32 0, .int .u32 0, .int .u32 0, .int .u32 0, .int .u32 0, .int .u32 0, .int .u32 0, .int .u32 0, .int .u32 0, .int .u32 0, .int .u32 0, .int .u32 0, .int .u32 0, .int .u32 0, .int .u32 0, .int .u32 0, .int .u32 0, .int .u32 0, .int .u32 0, .int .u32 0, .int .u32 0, .int .u32 0, .int .u32 0, .int .u32 0, .int .u32 0, .int .u32 0, .int .u32 0, .int .u32 0, .int .u32 0, .int .u32 0, .int .u32 0, .int .u32 0, .int .u32 0, .int .u32 0, .int .u32 0, .int .u32 0, .int .u32 0, .int .u32 0, .int .u32 0, .int .u32 0, .int .u32 0, .int .u32 0, .int .u32 0, .int .u32 0, .int .u32 0, .int .u32 0, .int .u32 0, .int .u32 0, .int .u32 0, .int .u32 0, .int .u32 0, .int .u32 0, .int .u32 0, .int .u32 0, .int .u32 0, .int .u32 0] 91)) w2.heap.size 0 (uA 64 kF) = w3 at ST ⊢
  generalize w2.heap.size = K at ST ⊢
  clear h1 h4 H BW HB2 R1 HU
  have HST := ST.out
  have HQ2 := HQ.out
  go_loopw [] (fun wr => ∃ m, 64 * m ≤ u.size ∧ stS w wr p K u m) (fun wr => tailOf p wr)
  case atStart => exact ⟨q, HQ2, HST⟩
  case round =>
    obtain ⟨m, hm, hK, hpK, R, RK, G⟩ := hrel
    have c8 : wr.cell? ⟨p, 8, none⟩ = some (.string (u.extract (64 * m) u.size)) := R.cell (i := 8) (by omega)
    have f8 := R.frozen 8
    have k8 := ok8_of R (off := 0) (by omega)
    have r8 := row8_st R
    have ez := cut_size u (64 * m)
    have TW : Hid (tailOf p wr = u.size - 64 * m) := Lib.hid (by unfold tailOf; rw [c8]; exact ez)
    have HR := Lib.hid (And.intro R (And.intro RK G))
    have HM := Lib.hid hm
    have EZ := Lib.hid ez
    have HU := Lib.hid hu
    have tz : (u.extract (64 * m) u.size).size ≤ 4611686018427387904 := by rw [ez]; exact Nat.le_trans (Nat.sub_le _ _) hu
    have HKK := Lib.hid (And.intro hK hpK)
    clear R RK G hm ez hu hK hpK hq
    by_cases hge : 64 ≤ (u.extract (64 * m) u.size).size
    · have hsz := cut_64 _ hge
      have HG : Hid (64 * m + 64 ≤ u.size) := Lib.hid (by have := EZ.out; have := HM.out; clear tz; omega)
      have SN := Lib.hid (st_next u m HG.out)
      have CC := Lib.hid (cut_step u m HG.out)
      generalize ht : u.extract (64 * m) u.size = t at *
      have TT := Lib.hid ht
      clear ht
      have k8' : ok8 { wr with drawn := wr.drawn + 1 } p 0 = true := k8
      have r8' : row8 { wr with drawn := wr.drawn + 1 } p 0 = uA 8 (hsF (byteAt u) m) := r8
      have k8'' : ok8 wr.drew p 0 = true := k8
      have r8'' : row8 wr.drew p 0 = uA 8 (hsF (byteAt u) m) := r8
      have n5 := u8_full (hsF (byteAt u) (m + 1))
      have AF : Hid (∀ w5, Below wr.heap.size wr.drew w5 → w5.rowIs p 152 10 (stV u m)) := Lib.hid (fun w5 hb5 => HR.out.1.of_block (hb5.block _ HR.out.1.lt))
      have AF2 : Hid (∀ w5, Below wr.heap.size wr.drew w5 → (ok8 w5 p 0 = true ∧ w5.cell? ⟨p, 8, none⟩ = some (.string t)) ∧
          (ok8 (put8 w5 p 0 (uA 8 (hsF (byteAt u) (m + 1)))) p 0 = true ∧ (put8 w5 p 0 (uA 8 (hsF (byteAt u) (m + 1)))).cell? ⟨p, 8, none⟩ = some (.string t))) := Lib.hid (fun w5 hb5 => by
        have R5 := AF.out w5 hb5
        obtain ⟨q1, q2⟩ := put8_row R5 0 (uA 8 (hsF (byteAt u) (m + 1))) (by decide) (u8_full _)
        have e1 : stV u m 8 = .string t := by unfold stV; rw [TT.out]; rfl
        exact ⟨⟨ok8_of R5 (by decide), (R5.cell (i := 8) (by decide)).trans (by rw [e1])⟩, ok8_of q1 (by decide), (q1.cell (i := 8) (by decide)).trans (by rw [← e1]; rfl)⟩)
      have RK9 : Hid (wr.drew.rowIs K 91 64 (uV kF)) := Lib.hid HR.out.2.1
      have hgi : (64 : Int) ≤ (t.size : Int) := by omega
      have SA := (AF2.out wr.drew (Below.refl _ _)).1
      go_wp2
      refine wp_region_held_drew (S := fun w' => ok8 w' p 0 = true ∧ w'.cell? ⟨p, 8, none⟩ = some (.string t)) (by kernel_rfl) (by first | exact SA | exact SB | exact SC) (fun hHeld => ?_)
      refine wpAnyH_take (i := 0) (oi := _) (v := _) rfl (by kernel_rfl) (by kernel_rfl) (by kernel_rfl) (fun _ _ _ h => h) (Or.inl ⟨by rfl, by (intro w hSw; (try dsimp only at hSw); go_simp; first | done | with_reducible rfl)⟩) (by assumption) ?_
      (try simp only [Act.put, List.setIfInBounds_toArray, List.set_cons_zero, List.set_cons_succ])
      refine wpAnyH_take (i := 1) (oi := _) (v := _) rfl (by kernel_rfl) (by kernel_rfl) (by kernel_rfl) (fun _ _ _ h => h) (Or.inl ⟨by rfl, by (intro w hSw; (try dsimp only at hSw); go_simp; first | done | with_reducible rfl)⟩) (by assumption) ?_
      (try simp only [Act.put, List.setIfInBounds_toArray, List.set_cons_zero, List.set_cons_succ])
      refine wpAnyH_take (i := 2) (oi := _) (v := _) rfl (by kernel_rfl) (by kernel_rfl) (by kernel_rfl) (fun _ _ _ h => h) (Or.inl ⟨by rfl, by (intro w hSw; (try dsimp only at hSw); go_simp; first | done | with_reducible rfl)⟩) (by assumption) ?_
      (try simp only [Act.put, List.setIfInBounds_toArray, List.set_cons_zero, List.set_cons_succ])
      refine wpAnyH_take (i := 3) (oi := _) (v := _) rfl (by kernel_rfl) (by kernel_rfl) (by kernel_rfl) (fun _ _ _ h => h) (Or.inl ⟨by rfl, by (intro w hSw; (try dsimp only at hSw); go_simp; first | done | with_reducible rfl)⟩) (by assumption) ?_
      (try simp only [Act.put, List.setIfInBounds_toArray, List.set_cons_zero, List.set_cons_succ])
      refine wpAnyH_take (i := 5) (oi := _) (v := _) rfl (by kernel_rfl) (by kernel_rfl) (by kernel_rfl) (fun _ _ _ h => h) (Or.inl ⟨by rfl, by (intro w hSw; (try dsimp only at hSw); go_simp; first | done | with_reducible rfl)⟩) (by assumption) ?_
      (try simp only [Act.put, List.setIfInBounds_toArray, List.set_cons_zero, List.set_cons_succ])
      refine wpAnyH_take (i := 6) (oi := _) (v := _) rfl (by kernel_rfl) (by kernel_rfl) (by kernel_rfl) (fun _ _ _ h => h) (Or.inl ⟨by rfl, by (intro w hSw; (try dsimp only at hSw); go_simp; first | done | with_reducible rfl)⟩) (by assumption) ?_
      (try simp only [Act.put, List.setIfInBounds_toArray, List.set_cons_zero, List.set_cons_succ])
      refine wpAnyH_take (i := 7) (oi := _) (v := _) rfl (by kernel_rfl) (by kernel_rfl) (by kernel_rfl) (fun _ _ _ h => h) (Or.inl ⟨by rfl, by (intro w hSw; (try dsimp only at hSw); go_simp; first | done | with_reducible rfl)⟩) (by assumption) ?_
      (try simp only [Act.put, List.setIfInBounds_toArray, List.set_cons_zero, List.set_cons_succ])
      refine wpAnyH_take (i := 8) (oi := _) (v := _) rfl (by kernel_rfl) (by kernel_rfl) (by kernel_rfl) (fun _ _ _ h => h) (Or.inl ⟨by rfl, by (intro w hSw; (try dsimp only at hSw); go_simp; first | done | with_reducible rfl)⟩) (by assumption) ?_
      (try simp only [Act.put, List.setIfInBounds_toArray, List.set_cons_zero, List.set_cons_succ])
      refine wpAnyH_take (i := 9) (oi := _) (v := _) rfl (by kernel_rfl) (by kernel_rfl) (by kernel_rfl) (fun _ _ _ h => h) (Or.inl ⟨by rfl, by (intro w hSw; (try dsimp only at hSw); go_simp; first | done | with_reducible rfl)⟩) (by assumption) ?_
      (try simp only [Act.put, List.setIfInBounds_toArray, List.set_cons_zero, List.set_cons_succ])
      refine wpAnyH_ready (rs := [4]) (by kernel_rfl) (by simp) (AllReadyH.cons rfl (fun K hK => ?_) AllReadyH.nil)
      try simp only [List.getElem_toArray, List.getElem_cons_succ, List.getElem_cons_zero]
      go_simp
      refine hK.out _ _ (by first | exact SA | exact SB | exact SC) (fun hHeld => ?_)
      clear hK K
      (try simp only [Act.put, List.setIfInBounds_toArray, List.set_cons_zero, List.set_cons_succ])
      refine wpAnyH_ready (rs := [10]) (by kernel_rfl) (by simp) (AllReadyH.cons rfl (fun K hK => ?_) AllReadyH.nil)
      try simp only [List.getElem_toArray, List.getElem_cons_succ, List.getElem_cons_zero]
      go_simp
      go_at_call 103
      refine (rounds_any (hsF (byteAt u) m) kF (t.extract 0 64) _ wr.drew hsz RK9.out).mono ?_
      rintro e w5 ⟨rfl, hb5⟩
      rw [SN.out]
      have SB := (AF2.out w5 hb5).1
      have SC := (AF2.out w5 hb5).2
      have k5 := SB.1
      have HB5 := Lib.hid hb5
      clear hb5
      go_wp2_with fail
      refine hK.out _ _ (by first | exact SA | exact SB | exact SC) (fun hHeld => ?_)
      clear hK K
      (try simp only [Act.put, List.setIfInBounds_toArray, List.set_cons_zero, List.set_cons_succ])
      refine wpAnyH_take (i := 11) (oi := _) (v := _) rfl (by kernel_rfl) (by kernel_rfl) (by kernel_rfl) (fun _ _ _ h => h) (Or.inl ⟨by rfl, by (intro w hSw; (try dsimp only at hSw); go_simp; first | done | with_reducible rfl)⟩) (by assumption) ?_
      (try simp only [Act.put, List.setIfInBounds_toArray, List.set_cons_zero, List.set_cons_succ])
      refine wpAnyH_take (i := 12) (oi := _) (v := _) rfl (by kernel_rfl) (by kernel_rfl) (by kernel_rfl) (fun _ _ _ h => h) (Or.inl ⟨by rfl, by (intro w hSw; (try dsimp only at hSw); go_simp; first | done | with_reducible rfl)⟩) (by assumption) ?_
      (try simp only [Act.put, List.setIfInBounds_toArray, List.set_cons_zero, List.set_cons_succ])
      refine wpAnyH_ready (rs := [13]) (by kernel_rfl) (by simp) (AllReadyH.cons rfl (fun K hK => ?_) AllReadyH.nil)
      try simp only [List.getElem_toArray, List.getElem_cons_succ, List.getElem_cons_zero]
      go_simp
      refine hK.out _ _ (by first | exact SA | exact SB | exact SC) (fun hHeld => ?_)
      clear hK K
      (try simp only [Act.put, List.setIfInBounds_toArray, List.set_cons_zero, List.set_cons_succ])
      refine wpAnyH_done (by kernel_rfl) ?_ _
      clear tz
      have hb5 := HB5.out
      have R5 := AF.out w5 hb5
      obtain ⟨q1, q2⟩ := put8_row R5 0 (uA 8 (hsF (byteAt u) (m + 1))) (by decide) (u8_full _)
      have c5 : (put8 w5 p 0 (uA 8 (hsF (byteAt u) (m + 1)))).cell? ⟨p, 8, none⟩ = some (.string t) := (q1.cell (i := 8) (by decide)).trans (by unfold stV; rw [TT.out]; rfl)
      have f5 := q1.frozen 8
      have R6 : Hid (((put8 w5 p 0 (uA 8 (hsF (byteAt u) (m + 1)))).setCell ⟨p, 8, none⟩ (.string (t.extract 64 t.size))).rowIs p 152 10 (stV u (m + 1))) := Lib.hid ((q1.set 8 _).congr fun i hi => by
        by_cases e8 : i = 8
        · subst e8; rw [if_pos rfl, CC.out]; rfl
        · rw [if_neg e8]
          unfold stV
          by_cases e9 : i = 9
          · subst e9; rfl
          · rw [if_pos (by omega), if_pos (by omega)]
            simp [uA, uV, show i < 8 by omega])
      have G6 := Lib.hid (grown_both (grown_both HR.out.2.2 (only_of_below (Below.trans ((Below.refl _ _).drew : Below wr.heap.size wr wr.drew) hb5) (some p))) q2)
      have RK5 : Hid (((put8 w5 p 0 (uA 8 (hsF (byteAt u) (m + 1)))).setCell ⟨p, 8, none⟩ (.string (t.extract 64 t.size))).rowIs K 91 64 (uV kF)) := Lib.hid (by
        have r := HR.out.2.1
        have r5 : w5.rowIs K 91 64 (uV kF) := r.of_block (hb5.block _ r.lt)
        exact (r5.of_block (q2.block _ r5.lt (by simp; exact fun e => HKK.out.2 e.symm))).setOther (by simp; exact fun e => HKK.out.2 e.symm) _)
      have TT2 : Hid (tailOf p ((put8 w5 p 0 (uA 8 (hsF (byteAt u) (m + 1)))).setCell ⟨p, 8, none⟩ (.string (t.extract 64 t.size))) = u.size - 64 * (m + 1)) := Lib.hid (by
        have c := R6.out.cell (i := 8) (by decide)
        unfold tailOf; rw [c]; exact cut_size _ _)
      clear R5 q1 q2 hb5
      go_wp2
      go_roundw
      case rel => exact ⟨m + 1, by have := HG.out; omega, HKK.out.1, HKK.out.2, R6.out, RK5.out, only_setCell (g := p) G6.out (p := ⟨p, 8, none⟩) (.inl rfl) _⟩
      case measure => rw [TW.out, TT2.out]; have := HG.out; omega
    · have hgl : ¬ (64 : Int) ≤ ((u.extract (64 * m) u.size).size : Int) := by omega
      have E : Hid (m = u.size / 64) := Lib.hid (by have := EZ.out; have := HM.out; clear tz; omega)
      generalize u.extract (64 * m) u.size = t at *
      go_wp2
      go_ret
      exact ⟨rfl, by rw [HSD.out]; unfold St; rw [← E.out]; exact HR.out.1, HR.out.2.2⟩
end Go.Proofs.Ytfoandpcoakcjaa
