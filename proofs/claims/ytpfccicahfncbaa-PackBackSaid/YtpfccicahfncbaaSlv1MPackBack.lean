/- Walk: pack.Salvage's function: one more entry. -/
import Derived.Test.YtpfccicahfncbaaScn1MPackBack
namespace Go.Proofs.Ytpfccicahfncbaa
open Go.RowKit Wir Dig
set_option linter.unusedVariables false
set_option linter.unusedSimpArgs false
attribute [local go_sem ↓] execOp_bslE
attribute [local go_sem] run_bslE
/-- What Salvage's function works on: the list's variable, the list. -/
def ScJ (W : World) (base lb : Nat) (v : Value) (L : List (Nat × PObj)) : Prop :=
  Blk W lb 36 #[v] ∧ W.ownsRow base 44 35 v L.length (entsV L) ∧ base ≤ lb ∧ base ≤ W.heap.size
theorem ScJ.below {W W' : World} {base lb : Nat} {v : Value} {L : List (Nat × PObj)} (h : ScJ W base lb v L) (hb : Below W.heap.size W W') : ScJ W' base lb v L :=
  ⟨h.1.below hb h.1.lt, own_below h.2.1 hb, h.2.2.1, Nat.le_trans h.2.2.2 hb.size⟩
theorem ScJ.push {W W' : World} {base lb off : Nat} {o : PObj} {v v' : Value} {L : List (Nat × PObj)} (h : ScJ W base lb v L) (hg : W.grownBy W' v.ownBlock) (ho : W'.ownsRow base 44 35 v' (L.length + 1) (entsV L ++ (entA off o).toList)) :
    Blk W' lb 36 #[v] ∧ (∀ {W'' : World}, W'' = W'.setCell ⟨lb, 0, none⟩ v' → ScJ W'' base lb v' (L ++ [(off, o)])) := by
  have k5 : v.ownBlock ≠ some lb := fun e => by
    obtain ⟨cc, fz, hc⟩ := Lib.ownsRow_kind h.2.1 lb e
    exact kinds hc h.1 (by decide)
  have L6 := h.1.grown hg k5.symm
  have hol : v'.ownBlock ≠ some lb := fun e => by
    obtain ⟨cc, fz, hc⟩ := Lib.ownsRow_kind ho lb e
    exact kinds hc L6 (by decide)
  refine ⟨L6, ?_⟩
  rintro W'' rfl
  refine ⟨L6.set_ 0 _, ?_, h.2.2.1, ?_⟩
  · rw [List.length_append, entsV_app, entsV_one]
    exact ownsRow_setCell_other ho (a := ⟨lb, 0, none⟩) hol v'
  · have := (Below.refl base W').setCell (p := ⟨lb, 0, none⟩) h.2.2.1 v'
    exact Nat.le_trans (Nat.le_trans h.2.2.2 hg.size) this.size
theorem own_far {w W W' : World} {base lb : Nat} {v : Value} {L : List (Nat × PObj)} (h : ScJ w base lb v L) (h2 : ScJ W base lb v L) (hg : W.grownBy W' v.ownBlock) : v.ownBlock ≠ some w.heap.size := fun e => by
  have := (h.2.1.lt _ e).2; omega
set_option maxRecDepth 100000 in
set_option maxHeartbeats 1000000 in
theorem salvageF_any (off : Nat) (o : PObj) (base lb : Nat) (v : Value) (L : List (Nat × PObj)) (w : World) (h : ScJ w base lb v L) (hL : L.length ≤ 65536) (ho : o.2.size ≤ 2097152) (hoff : off ≤ 4611686018427387904) :
    Calls Try.prog 43 #[.int .i64 (off : Int), objA o, .pointer (some ⟨lb, 0, none⟩)] w fun e w' => ∃ v', e = .returned (.bool (decide (L.length < 65536))) ∧ ScJ w' base lb v' (if L.length < 65536 then L ++ [(off, o)] else L) ∧ Below base w w' := by
  have E1 := Lib.hid (fun W => entry_any off o W ho hoff)
  unfold objA at E1
  have hbw : base ≤ w.heap.size := h.2.2.2
  have HS : Hid (ScJ (w.alloc (.cells #[.int .u8 (o.1.toNat : Int), .string o.2] 30)) base lb v L ∧ Blk (w.alloc (.cells #[.int .u8 (o.1.toNat : Int), .string o.2] 30)) w.heap.size 30 #[.int .u8 (o.1.toNat : Int), .string o.2] ∧ Below w.heap.size w (w.alloc (.cells #[.int .u8 (o.1.toNat : Int), .string o.2] 30))) := Lib.hid ⟨h.below ((Below.refl _ _).alloc (Nat.le_refl _) _), Blk.new _ _ _, (Below.refl _ _).alloc (Nat.le_refl _) _⟩
  have HH := Lib.hid h
  obtain ⟨nv0, cv0, Av0, rfl⟩ := own_value h.2.1
  obtain rfl : nv0 = L.length := own_len h.2.1
  clear h
  have hes : (entA off o).size = 35 := entA_size off o
  have hL2 : (L.length + 1) * 56 ≤ 140737488355328 := by omega
  have hL1 : L.length ≤ 4611686018427387904 := by omega
  have HE1 := Lib.hid (entA_one off o)
  unfold objA
  have c0 := HS.out.1.1.cell 0
  have c1 : (w.alloc (.cells #[.int .u8 (o.1.toNat : Int), .string o.2] 30)).cell? ⟨lb, 0, none⟩ = some (.slice Av0 L.length cv0) := c0
  clear c0
  by_cases h6 : L.length < 65536
  · have HD : Hid (decide (L.length < 65536) = true) := Lib.hid (decide_eq_true h6)
    have h6i : ((L.length : Int) == 65536) = false := by rw [beq_eq_false_iff_ne]; omega
    rw [if_pos h6, HD.out]
    clear h6
    go_enter Try.func43, Try.ntmps43
    go_upto_region 1 with fail
    generalize w.alloc (.cells #[.int .u8 (o.1.toNat : Int), .string o.2] 30) = w1 at HS c1 ⊢
    go_upto_region 3 with fail
    clear h6i
    have SA := And.intro (HS.out.2.1.cell 0) (HS.out.2.1.cell 1)
    change w1.drew.cell? _ = _ ∧ w1.drew.cell? _ = _ at SA
    change w1.drew.cell? _ = _ at c1
    refine wp_region_held_drew (S := fun w' => w'.cell? ⟨w.heap.size, 0, none⟩ = some (.int .u8 (o.1.toNat : Int)) ∧ w'.cell? ⟨w.heap.size, 1, none⟩ = some (.string o.2)) (by kernel_rfl) (by first | exact SE | exact SD | exact SC | exact SB | exact SA) (fun hHeld => ?_)
    refine wpAnyH_take (i := 1) (oi := _) (v := _) rfl (by as_aux_lemma => kernel_rfl) (by as_aux_lemma => kernel_rfl) (by as_aux_lemma => kernel_rfl) (fun _ _ _ h => h) (Or.inl ⟨by kernel_rfl, by (intro w hSw; (try dsimp only at hSw); go_simp; first | done | with_reducible rfl)⟩) (by assumption) ?_
    (try simp only [Act.put, List.setIfInBounds_toArray, List.set_cons_zero, List.set_cons_succ])
    refine wpAnyH_take (i := 2) (oi := _) (v := _) rfl (by as_aux_lemma => kernel_rfl) (by as_aux_lemma => kernel_rfl) (by as_aux_lemma => kernel_rfl) (fun _ _ _ h => h) (Or.inl ⟨by kernel_rfl, by (intro w hSw; (try dsimp only at hSw); go_simp; first | done | with_reducible rfl)⟩) (by assumption) ?_
    (try simp only [Act.put, List.setIfInBounds_toArray, List.set_cons_zero, List.set_cons_succ])
    refine wpAnyH_ready (rs := [0, 3]) (by as_aux_lemma => kernel_rfl) (by simp) (AllReadyH.cons rfl (fun K hK => ?_) (AllReadyH.cons rfl (fun K hK => ?_) AllReadyH.nil))
    · try simp only [List.getElem_toArray, List.getElem_cons_succ, List.getElem_cons_zero]
      go_simp
      refine hK.out _ _ (by first | exact SE | exact SD | exact SC | exact SB | exact SA) (fun hHeld => ?_)
      clear hK K
      (try simp only [Act.put, List.setIfInBounds_toArray, List.set_cons_zero, List.set_cons_succ])
      refine wpAnyH_ready (rs := [3]) (by as_aux_lemma => kernel_rfl) (by simp) (AllReadyH.cons rfl (fun K hK => ?_) AllReadyH.nil)
      try simp only [List.getElem_toArray, List.getElem_cons_succ, List.getElem_cons_zero]
      go_simp
      (with_reducible refine (E1.out _).mono ?_)
      rintro e w2 ⟨rfl, hb2⟩
      have HS2 : Hid (ScJ w2 base lb (.slice Av0 L.length cv0) L ∧ Blk w2 w.heap.size 30 #[.int .u8 (o.1.toNat : Int), .string o.2] ∧ Below w.heap.size w w2) := Lib.hid ⟨HS.out.1.below (((Below.refl _ w1).drew).trans hb2), HS.out.2.1.below (((Below.refl _ w1).drew).trans hb2) HS.out.2.1.lt, HS.out.2.2.trans ((((Below.refl _ w1).drew).trans hb2).mono HS.out.2.2.size)⟩
      have SB := And.intro (HS2.out.2.1.cell 0) (HS2.out.2.1.cell 1)
      have c2 := HS2.out.1.1.cell 0
      have SC := And.intro ((HS2.out.2.1.alloc (.cells (entA off o) 44)).cell 0) ((HS2.out.2.1.alloc (.cells (entA off o) 44)).cell 1)
      have c3 := (HS2.out.1.1.alloc (.cells (entA off o) 44)).cell 0
      clear hb2
      go_simp
      refine hK.out _ _ (by first | exact SE | exact SD | exact SC | exact SB | exact SA) (fun hHeld => ?_)
      clear hK K
      (try simp only [Act.put, List.setIfInBounds_toArray, List.set_cons_zero, List.set_cons_succ])
      refine wpAnyH_ready (rs := [4]) (by as_aux_lemma => kernel_rfl) (by simp) (AllReadyH.cons rfl (fun K hK => ?_) AllReadyH.nil)
      try simp only [List.getElem_toArray, List.getElem_cons_succ, List.getElem_cons_zero]
      go_simp
      refine hK.out _ _ (by first | exact SE | exact SD | exact SC | exact SB | exact SA) (fun hHeld => ?_)
      clear hK K
      (try simp only [Act.put, List.setIfInBounds_toArray, List.set_cons_zero, List.set_cons_succ])
      refine wpAnyH_ready (rs := [5]) (by as_aux_lemma => kernel_rfl) (by simp) (AllReadyH.cons rfl (fun K hK => ?_) AllReadyH.nil)
      try simp only [List.getElem_toArray, List.getElem_cons_succ, List.getElem_cons_zero]
      rw [if_pos (by as_aux_lemma => kernel_rfl)]
      refine wp_appendN elemEnt _ _ rfl base (.slice Av0 L.length cv0) L.length _ rfl HS2.out.1.2.1 (entA off o) hes rfl HE1.out hL1 hL2 HS2.out.1.2.2.2 ?_
      intro v' w' hown hgr hd
      clear hd
      obtain ⟨nv, cv, Av, rfl⟩ := own_value hown
      have HPU := Lib.hid (HS2.out.1.push hgr hown)
      have HBP := Lib.hid ((HS2.out.2.2.mono hbw).grown hgr HS2.out.1.2.2.2 (fun k hk => (HS2.out.1.2.1.lt k hk).1))
      have HQ6 := Lib.hid (HS2.out.2.1.grown hgr (own_far HH.out HS2.out.1 hgr).symm)
      have SD := And.intro (HQ6.out.cell 0) (HQ6.out.cell 1)
      have SE := And.intro ((HQ6.out.far (p := ⟨lb, 0, none⟩) (Blk.ne_ HQ6.out HPU.out.1 (by decide)) (.slice Av nv cv)).cell 0) ((HQ6.out.far (p := ⟨lb, 0, none⟩) (Blk.ne_ HQ6.out HPU.out.1 (by decide)) (.slice Av nv cv)).cell 1)
      have l0 := HPU.out.1.cell 0
      have l1 := HPU.out.1.frozen 0
      clear hown hgr
      refine hK.out _ _ (by first | exact SE | exact SD | exact SC | exact SB | exact SA) (fun hHeld => ?_)
      clear hK K
      (try simp only [Act.put, List.setIfInBounds_toArray, List.set_cons_zero, List.set_cons_succ])
      refine wpAnyH_ready (rs := [6]) (by as_aux_lemma => kernel_rfl) (by simp) (AllReadyH.cons rfl (fun K hK => ?_) AllReadyH.nil)
      try simp only [List.getElem_toArray, List.getElem_cons_succ, List.getElem_cons_zero]
      go_simp
      refine hK.out _ _ (by first | exact SE | exact SD | exact SC | exact SB | exact SA) (fun hHeld => ?_)
      clear hK K
      (try simp only [Act.put, List.setIfInBounds_toArray, List.set_cons_zero, List.set_cons_succ])
      refine wpAnyH_done (by as_aux_lemma => kernel_rfl) ?_ _
      go_wp2
      go_ret
      exact ⟨_, rfl, HPU.out.2 rfl, HBP.out.setCell (p := ⟨lb, 0, none⟩) HS2.out.1.2.2.1 _⟩
    · try simp only [List.getElem_toArray, List.getElem_cons_succ, List.getElem_cons_zero]
      go_simp
      (with_reducible refine (E1.out _).mono ?_)
      rintro e w2 ⟨rfl, hb2⟩
      have HS2 : Hid (ScJ w2 base lb (.slice Av0 L.length cv0) L ∧ Blk w2 w.heap.size 30 #[.int .u8 (o.1.toNat : Int), .string o.2] ∧ Below w.heap.size w w2) := Lib.hid ⟨HS.out.1.below (((Below.refl _ w1).drew).trans hb2), HS.out.2.1.below (((Below.refl _ w1).drew).trans hb2) HS.out.2.1.lt, HS.out.2.2.trans ((((Below.refl _ w1).drew).trans hb2).mono HS.out.2.2.size)⟩
      have SB := And.intro (HS2.out.2.1.cell 0) (HS2.out.2.1.cell 1)
      have c2 := HS2.out.1.1.cell 0
      have SC := And.intro ((HS2.out.2.1.alloc (.cells (entA off o) 44)).cell 0) ((HS2.out.2.1.alloc (.cells (entA off o) 44)).cell 1)
      have c3 := (HS2.out.1.1.alloc (.cells (entA off o) 44)).cell 0
      clear hb2
      go_simp
      refine hK.out _ _ (by first | exact SE | exact SD | exact SC | exact SB | exact SA) (fun hHeld => ?_)
      clear hK K
      (try simp only [Act.put, List.setIfInBounds_toArray, List.set_cons_zero, List.set_cons_succ])
      refine wpAnyH_ready (rs := [0, 4]) (by as_aux_lemma => kernel_rfl) (by simp) (AllReadyH.cons rfl (fun K hK => ?_) (AllReadyH.cons rfl (fun K hK => ?_) AllReadyH.nil))
      · try simp only [List.getElem_toArray, List.getElem_cons_succ, List.getElem_cons_zero]
        go_simp
        refine hK.out _ _ (by first | exact SE | exact SD | exact SC | exact SB | exact SA) (fun hHeld => ?_)
        clear hK K
        (try simp only [Act.put, List.setIfInBounds_toArray, List.set_cons_zero, List.set_cons_succ])
        refine wpAnyH_ready (rs := [4]) (by as_aux_lemma => kernel_rfl) (by simp) (AllReadyH.cons rfl (fun K hK => ?_) AllReadyH.nil)
        try simp only [List.getElem_toArray, List.getElem_cons_succ, List.getElem_cons_zero]
        go_simp
        refine hK.out _ _ (by first | exact SE | exact SD | exact SC | exact SB | exact SA) (fun hHeld => ?_)
        clear hK K
        (try simp only [Act.put, List.setIfInBounds_toArray, List.set_cons_zero, List.set_cons_succ])
        refine wpAnyH_ready (rs := [5]) (by as_aux_lemma => kernel_rfl) (by simp) (AllReadyH.cons rfl (fun K hK => ?_) AllReadyH.nil)
        try simp only [List.getElem_toArray, List.getElem_cons_succ, List.getElem_cons_zero]
        rw [if_pos (by as_aux_lemma => kernel_rfl)]
        refine wp_appendN elemEnt _ _ rfl base (.slice Av0 L.length cv0) L.length _ rfl HS2.out.1.2.1 (entA off o) hes rfl HE1.out hL1 hL2 HS2.out.1.2.2.2 ?_
        intro v' w' hown hgr hd
        clear hd
        obtain ⟨nv, cv, Av, rfl⟩ := own_value hown
        have HPU := Lib.hid (HS2.out.1.push hgr hown)
        have HBP := Lib.hid ((HS2.out.2.2.mono hbw).grown hgr HS2.out.1.2.2.2 (fun k hk => (HS2.out.1.2.1.lt k hk).1))
        have HQ6 := Lib.hid (HS2.out.2.1.grown hgr (own_far HH.out HS2.out.1 hgr).symm)
        have SD := And.intro (HQ6.out.cell 0) (HQ6.out.cell 1)
        have SE := And.intro ((HQ6.out.far (p := ⟨lb, 0, none⟩) (Blk.ne_ HQ6.out HPU.out.1 (by decide)) (.slice Av nv cv)).cell 0) ((HQ6.out.far (p := ⟨lb, 0, none⟩) (Blk.ne_ HQ6.out HPU.out.1 (by decide)) (.slice Av nv cv)).cell 1)
        have l0 := HPU.out.1.cell 0
        have l1 := HPU.out.1.frozen 0
        clear hown hgr
        refine hK.out _ _ (by first | exact SE | exact SD | exact SC | exact SB | exact SA) (fun hHeld => ?_)
        clear hK K
        (try simp only [Act.put, List.setIfInBounds_toArray, List.set_cons_zero, List.set_cons_succ])
        refine wpAnyH_ready (rs := [6]) (by as_aux_lemma => kernel_rfl) (by simp) (AllReadyH.cons rfl (fun K hK => ?_) AllReadyH.nil)
        try simp only [List.getElem_toArray, List.getElem_cons_succ, List.getElem_cons_zero]
        go_simp
        refine hK.out _ _ (by first | exact SE | exact SD | exact SC | exact SB | exact SA) (fun hHeld => ?_)
        clear hK K
        (try simp only [Act.put, List.setIfInBounds_toArray, List.set_cons_zero, List.set_cons_succ])
        refine wpAnyH_done (by as_aux_lemma => kernel_rfl) ?_ _
        go_wp2
        go_ret
        exact ⟨_, rfl, HPU.out.2 rfl, HBP.out.setCell (p := ⟨lb, 0, none⟩) HS2.out.1.2.2.1 _⟩
      · try simp only [List.getElem_toArray, List.getElem_cons_succ, List.getElem_cons_zero]
        go_simp
        refine hK.out _ _ (by first | exact SE | exact SD | exact SC | exact SB | exact SA) (fun hHeld => ?_)
        clear hK K
        (try simp only [Act.put, List.setIfInBounds_toArray, List.set_cons_zero, List.set_cons_succ])
        refine wpAnyH_ready (rs := [0]) (by as_aux_lemma => kernel_rfl) (by simp) (AllReadyH.cons rfl (fun K hK => ?_) AllReadyH.nil)
        try simp only [List.getElem_toArray, List.getElem_cons_succ, List.getElem_cons_zero]
        go_simp
        refine hK.out _ _ (by first | exact SE | exact SD | exact SC | exact SB | exact SA) (fun hHeld => ?_)
        clear hK K
        (try simp only [Act.put, List.setIfInBounds_toArray, List.set_cons_zero, List.set_cons_succ])
        refine wpAnyH_ready (rs := [5]) (by as_aux_lemma => kernel_rfl) (by simp) (AllReadyH.cons rfl (fun K hK => ?_) AllReadyH.nil)
        try simp only [List.getElem_toArray, List.getElem_cons_succ, List.getElem_cons_zero]
        rw [if_pos (by as_aux_lemma => kernel_rfl)]
        refine wp_appendN elemEnt _ _ rfl base (.slice Av0 L.length cv0) L.length _ rfl HS2.out.1.2.1 (entA off o) hes rfl HE1.out hL1 hL2 HS2.out.1.2.2.2 ?_
        intro v' w' hown hgr hd
        clear hd
        obtain ⟨nv, cv, Av, rfl⟩ := own_value hown
        have HPU := Lib.hid (HS2.out.1.push hgr hown)
        have HBP := Lib.hid ((HS2.out.2.2.mono hbw).grown hgr HS2.out.1.2.2.2 (fun k hk => (HS2.out.1.2.1.lt k hk).1))
        have HQ6 := Lib.hid (HS2.out.2.1.grown hgr (own_far HH.out HS2.out.1 hgr).symm)
        have SD := And.intro (HQ6.out.cell 0) (HQ6.out.cell 1)
        have SE := And.intro ((HQ6.out.far (p := ⟨lb, 0, none⟩) (Blk.ne_ HQ6.out HPU.out.1 (by decide)) (.slice Av nv cv)).cell 0) ((HQ6.out.far (p := ⟨lb, 0, none⟩) (Blk.ne_ HQ6.out HPU.out.1 (by decide)) (.slice Av nv cv)).cell 1)
        have l0 := HPU.out.1.cell 0
        have l1 := HPU.out.1.frozen 0
        clear hown hgr
        refine hK.out _ _ (by first | exact SE | exact SD | exact SC | exact SB | exact SA) (fun hHeld => ?_)
        clear hK K
        (try simp only [Act.put, List.setIfInBounds_toArray, List.set_cons_zero, List.set_cons_succ])
        refine wpAnyH_ready (rs := [6]) (by as_aux_lemma => kernel_rfl) (by simp) (AllReadyH.cons rfl (fun K hK => ?_) AllReadyH.nil)
        try simp only [List.getElem_toArray, List.getElem_cons_succ, List.getElem_cons_zero]
        go_simp
        refine hK.out _ _ (by first | exact SE | exact SD | exact SC | exact SB | exact SA) (fun hHeld => ?_)
        clear hK K
        (try simp only [Act.put, List.setIfInBounds_toArray, List.set_cons_zero, List.set_cons_succ])
        refine wpAnyH_done (by as_aux_lemma => kernel_rfl) ?_ _
        go_wp2
        go_ret
        exact ⟨_, rfl, HPU.out.2 rfl, HBP.out.setCell (p := ⟨lb, 0, none⟩) HS2.out.1.2.2.1 _⟩
  · have HD : Hid (decide (L.length < 65536) = false) := Lib.hid (decide_eq_false h6)
    have h6i : ((L.length : Int) == 65536) = true := by rw [beq_iff_eq]; omega
    rw [if_neg h6, HD.out]
    clear h6
    go_enter Try.func43, Try.ntmps43
    go_upto_region 1 with fail
    generalize w.alloc (.cells #[.int .u8 (o.1.toNat : Int), .string o.2] 30) = w1 at HS c1 ⊢
    go_wp2
    go_ret
    exact ⟨_, rfl, HS.out.1, HS.out.2.2.mono hbw⟩
end Go.Proofs.Ytpfccicahfncbaa
