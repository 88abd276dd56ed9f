/- Several texts of the claim joined into one (part 7): plain facts and walks. No conditions but those that each theorem tells. -/
import Derived.Test.YtfoandpcoakcjaaMgParityTablesUpto5
import Derived.Test.YtfoandpcoakcjaaMgParityTablesUpto6
import Derived.Test.YtfoandpcoakcjaaMgParityTablesUpto3
import Derived.StillTailTactics
import Derived.Test.YtfoandpcoakcjaaMgParityTablesUpto2
import Derived.Deep.DeepCutAuto
namespace Go.Proofs.Ytfoandpcoakcjaa
open Go.RowKit Wir
set_option linter.unusedVariables false
set_option linter.unusedSimpArgs false
theorem sliceCut_any (s : ByteArray) (w : World) (hs : s.size ≤ 140737488355328) : Calls Try.prog 64 #[.string s, .string ⟨#[45]⟩] w fun e w' => e = .returned (.tuple #[.string (cX s), .string (cY s), .bool (cTwo s)]) ∧ Below w.heap.size w w' := by
  have IX := Lib.hid (fun W => Try.stringslite_Index_one s 45 W)
  obtain ⟨i, hi⟩ : ∃ i, cI s = i := ⟨_, rfl⟩
  rw [show Lib.indexByte s.data.toList 45 = i from hi] at IX
  have HX : Hid (cX s = if 0 ≤ i then s.extract 0 i.toNat else s) := Lib.hid (by rw [cX, hi])
  have HY : Hid (cY s = if 0 ≤ i then s.extract (i.toNat + 1) s.size else ByteArray.empty) := Lib.hid (by rw [cY, hi])
  have HT : Hid (cTwo s = decide (0 ≤ i)) := Lib.hid (by rw [cTwo, hi])
  by_cases h0 : 0 ≤ i
  · obtain ⟨o, ho⟩ : ∃ o : Nat, i = o := ⟨i.toNat, by omega⟩
    have hlt : o < s.size := by
      obtain ⟨g1, _⟩ := Lib.indexByte_some (hi.trans ho)
      exact (list_get s o 45 g1).1
    subst ho
    rw [if_pos h0, Int.toNat_natCast] at HX HY
    rw [decide_eq_true h0] at HT
    clear hi
    have q1 : (o : Int) ≤ (s.size : Int) := by omega
    have q2 : (o : Int) + 1 ≤ (s.size : Int) := by omega
    have q3 : (0 : Int) ≤ (o : Int) + 1 := by omega
    have qw : IntKind.i64.wrap ((o : Int) + 1) = (o : Int) + 1 := by rw [IntKind.wrap_i64]; omega
    have qn : ((o : Int) + 1).toNat = o + 1 := by omega
    go_enter Try.func64, Try.ntmps64
    go_wp2_with fail
    (with_reducible refine (IX.out _).mono ?_)
    rintro e w1 ⟨rfl, rfl⟩
    go_upto_region 3 with fail
    refine wp_region_held_drew (S := fun w' => True) (by kernel_rfl) (by trivial) (fun hHeld => ?_)
    refine wpAnyH_take (i := 0) (oi := { dst := some 13, op := .move (.tmp 0), type := 9, pos := "strings.go:82", after := #[], guard := none }) (v := _) rfl (by as_aux_lemma => kernel_rfl) (by as_aux_lemma => kernel_rfl) (by as_aux_lemma => kernel_rfl) (fun _ _ _ h => h) (Or.inl ⟨by kernel_rfl, by (intro w hSw; (try dsimp only at hSw); go_simp; first | done | with_reducible rfl)⟩) (by assumption) ?_
    (try simp only [List.getElem_toArray, List.getElem_cons_succ, List.getElem_cons_zero, Act.put, List.setIfInBounds_toArray, List.set_cons_zero, List.set_cons_succ])
    refine wpAnyH_take (i := 1) (oi := { dst := some 14, op := .move (.tmp 7), type := 3, pos := "strings.go:82", after := #[], guard := none }) (v := _) rfl (by as_aux_lemma => kernel_rfl) (by as_aux_lemma => kernel_rfl) (by as_aux_lemma => kernel_rfl) (fun _ _ _ h => h) (Or.inl ⟨by kernel_rfl, by (intro w hSw; (try dsimp only at hSw); go_simp; first | done | with_reducible rfl)⟩) (by assumption) ?_
    (try simp only [List.getElem_toArray, List.getElem_cons_succ, List.getElem_cons_zero, Act.put, List.setIfInBounds_toArray, List.set_cons_zero, List.set_cons_succ])
    refine wpAnyH_take (i := 2) (oi := { dst := some 15, op := .slice 9 (.tmp 13) none (some (.tmp 14)) none, type := 9, pos := "strings.go:82", after := #[{ on := 0, ground := .data }, { on := 1, ground := .data }], guard := none }) (v := _) rfl (by as_aux_lemma => kernel_rfl) (by as_aux_lemma => kernel_rfl) (by as_aux_lemma => kernel_rfl) (fun _ _ _ h => h) (Or.inl ⟨by kernel_rfl, by (intro w hSw; (try dsimp only at hSw); go_simp; first | done | with_reducible rfl)⟩) (by assumption) ?_
    (try simp only [List.getElem_toArray, List.getElem_cons_succ, List.getElem_cons_zero, Act.put, List.setIfInBounds_toArray, List.set_cons_zero, List.set_cons_succ])
    refine wpAnyH_take (i := 3) (oi := { dst := some 16, op := .move (.tmp 0), type := 9, pos := "strings.go:82", after := #[], guard := none }) (v := _) rfl (by as_aux_lemma => kernel_rfl) (by as_aux_lemma => kernel_rfl) (by as_aux_lemma => kernel_rfl) (fun _ _ _ h => h) (Or.inl ⟨by kernel_rfl, by (intro w hSw; (try dsimp only at hSw); go_simp; first | done | with_reducible rfl)⟩) (by assumption) ?_
    (try simp only [List.getElem_toArray, List.getElem_cons_succ, List.getElem_cons_zero, Act.put, List.setIfInBounds_toArray, List.set_cons_zero, List.set_cons_succ])
    refine wpAnyH_take (i := 4) (oi := { dst := some 17, op := .move (.tmp 7), type := 3, pos := "strings.go:82", after := #[], guard := none }) (v := _) rfl (by as_aux_lemma => kernel_rfl) (by as_aux_lemma => kernel_rfl) (by as_aux_lemma => kernel_rfl) (fun _ _ _ h => h) (Or.inl ⟨by kernel_rfl, by (intro w hSw; (try dsimp only at hSw); go_simp; first | done | with_reducible rfl)⟩) (by assumption) ?_
    (try simp only [List.getElem_toArray, List.getElem_cons_succ, List.getElem_cons_zero, Act.put, List.setIfInBounds_toArray, List.set_cons_zero, List.set_cons_succ])
    refine wpAnyH_take (i := 5) (oi := { dst := some 18, op := .move (.tmp 1), type := 9, pos := "strings.go:82", after := #[], guard := none }) (v := _) rfl (by as_aux_lemma => kernel_rfl) (by as_aux_lemma => kernel_rfl) (by as_aux_lemma => kernel_rfl) (fun _ _ _ h => h) (Or.inl ⟨by kernel_rfl, by (intro w hSw; (try dsimp only at hSw); go_simp; first | done | with_reducible rfl)⟩) (by assumption) ?_
    (try simp only [List.getElem_toArray, List.getElem_cons_succ, List.getElem_cons_zero, Act.put, List.setIfInBounds_toArray, List.set_cons_zero, List.set_cons_succ])
    refine wpAnyH_take (i := 6) (oi := { dst := some 19, op := .call { callee := Callee.builtin Builtin.len, args := #[.tmp 18], argTypes := #[9] }, type := 3, pos := "strings.go:82", after := #[{ on := 5, ground := .data }], guard := none }) (v := _) rfl (by as_aux_lemma => kernel_rfl) (by as_aux_lemma => kernel_rfl) (by as_aux_lemma => kernel_rfl) (fun _ _ _ h => h) (Or.inl ⟨by kernel_rfl, by (intro w hSw; (try dsimp only at hSw); go_simp; first | done | with_reducible rfl)⟩) (by assumption) ?_
    (try simp only [List.getElem_toArray, List.getElem_cons_succ, List.getElem_cons_zero, Act.put, List.setIfInBounds_toArray, List.set_cons_zero, List.set_cons_succ])
    refine wpAnyH_take (i := 7) (oi := { dst := some 20, op := .binOp BinOp.add 3 (.tmp 17) (.tmp 19) 3, type := 3, pos := "strings.go:82", after := #[{ on := 4, ground := .data }, { on := 6, ground := .data }], guard := none }) (v := _) rfl (by as_aux_lemma => kernel_rfl) (by as_aux_lemma => kernel_rfl) (by as_aux_lemma => kernel_rfl) (fun _ _ _ h => h) (Or.inl ⟨by kernel_rfl, by (intro w hSw; (try dsimp only at hSw); go_simp; first | done | with_reducible rfl)⟩) (by assumption) ?_
    (try simp only [List.getElem_toArray, List.getElem_cons_succ, List.getElem_cons_zero, Act.put, List.setIfInBounds_toArray, List.set_cons_zero, List.set_cons_succ])
    refine wpAnyH_take (i := 8) (oi := { dst := some 21, op := .slice 9 (.tmp 16) (some (.tmp 20)) none none, type := 9, pos := "strings.go:82", after := #[{ on := 3, ground := .data }, { on := 7, ground := .data }], guard := none }) (v := _) rfl (by as_aux_lemma => kernel_rfl) (by as_aux_lemma => kernel_rfl) (by as_aux_lemma => kernel_rfl) (fun _ _ _ h => h) (Or.inl ⟨by kernel_rfl, by (intro w hSw; (try dsimp only at hSw); go_simp; first | done | with_reducible rfl)⟩) (by assumption) ?_
    (try simp only [List.getElem_toArray, List.getElem_cons_succ, List.getElem_cons_zero, Act.put, List.setIfInBounds_toArray, List.set_cons_zero, List.set_cons_succ])
    refine wpAnyH_take (i := 9) (oi := { dst := some 4, op := .assign (.tmp 15), type := 9, pos := "strings.go:82", after := #[{ on := 2, ground := .data }, { on := 0, ground := .phase }, { on := 1, ground := .phase }, { on := 2, ground := .phase }, { on := 3, ground := .textOnly Departure.lateStores }, { on := 4, ground := .textOnly Departure.lateStores }, { on := 5, ground := .textOnly Departure.lateStores }, { on := 6, ground := .textOnly Departure.lateStoresUnsure }, { on := 7, ground := .textOnly Departure.lateStores }, { on := 8, ground := .textOnly Departure.lateStoresUnsure }], guard := none }) (v := _) rfl (by as_aux_lemma => kernel_rfl) (by as_aux_lemma => kernel_rfl) (by as_aux_lemma => kernel_rfl) (fun _ _ _ h => h) (Or.inl ⟨by kernel_rfl, by (intro w hSw; (try dsimp only at hSw); go_simp; first | done | with_reducible rfl)⟩) (by assumption) ?_
    (try simp only [List.getElem_toArray, List.getElem_cons_succ, List.getElem_cons_zero, Act.put, List.setIfInBounds_toArray, List.set_cons_zero, List.set_cons_succ])
    refine wpAnyH_take (i := 10) (oi := { dst := some 5, op := .assign (.tmp 21), type := 9, pos := "strings.go:82", after := #[{ on := 8, ground := .data }, { on := 9, ground := .chain }, { on := 0, ground := .phase }, { on := 1, ground := .phase }, { on := 2, ground := .phase }, { on := 3, ground := .phase }, { on := 4, ground := .phase }, { on := 5, ground := .phase }, { on := 6, ground := .phase }, { on := 7, ground := .phase }, { on := 8, ground := .phase }, { on := 9, ground := .phase }], guard := none }) (v := _) rfl (by as_aux_lemma => kernel_rfl) (by as_aux_lemma => kernel_rfl) (by as_aux_lemma => kernel_rfl) (fun _ _ _ h => h) (Or.inl ⟨by kernel_rfl, by (intro w hSw; (try dsimp only at hSw); go_simp; first | done | with_reducible rfl)⟩) (by assumption) ?_
    (try simp only [List.getElem_toArray, List.getElem_cons_succ, List.getElem_cons_zero, Act.put, List.setIfInBounds_toArray, List.set_cons_zero, List.set_cons_succ])
    refine wpAnyH_take (i := 11) (oi := { dst := some 6, op := .assign (.const (Value.bool true)), type := 4, pos := "strings.go:82", after := #[{ on := 10, ground := .chain }, { on := 0, ground := .phase }, { on := 1, ground := .phase }, { on := 2, ground := .phase }, { on := 3, ground := .phase }, { on := 4, ground := .phase }, { on := 5, ground := .phase }, { on := 6, ground := .phase }, { on := 7, ground := .phase }, { on := 8, ground := .phase }, { on := 9, ground := .phase }, { on := 10, ground := .phase }], guard := none }) (v := _) rfl (by as_aux_lemma => kernel_rfl) (by as_aux_lemma => kernel_rfl) (by as_aux_lemma => kernel_rfl) (fun _ _ _ h => h) (Or.inl ⟨by kernel_rfl, by (intro w hSw; (try dsimp only at hSw); go_simp; first | done | with_reducible rfl)⟩) (by assumption) ?_
    (try simp only [List.getElem_toArray, List.getElem_cons_succ, List.getElem_cons_zero, Act.put, List.setIfInBounds_toArray, List.set_cons_zero, List.set_cons_succ])
    refine wpAnyH_done (by as_aux_lemma => kernel_rfl) ?_ _
    go_wp2
    go_ret3
    refine ⟨?_, (Below.refl _ _).drew⟩
    rw [HX.out, HY.out, HT.out]; rfl
  · rw [if_neg h0] at HX HY
    rw [decide_eq_false h0] at HT
    clear hi
    have q1 : i < 0 := by omega
    go_enter Try.func64, Try.ntmps64
    go_wp2_with fail
    (with_reducible refine (IX.out _).mono ?_)
    rintro e w1 ⟨rfl, rfl⟩
    go_wp2
    go_ret3
    refine ⟨?_, Below.refl _ _⟩
    rw [HX.out, HY.out, HT.out]; rfl
theorem strCut_any (s : ByteArray) (w : World) (hs : s.size ≤ 140737488355328) : Calls Try.prog 35 #[.string s, .string ⟨#[45]⟩] w fun e w' => e = .returned (.tuple #[.string (cX s), .string (cY s), .bool (cTwo s)]) ∧ Below w.heap.size w w' := by
  have IX := Lib.hid (sliceCut_any s w hs)
  go_enter Try.func35, Try.ntmps35
  go_wp2_with fail
  (with_reducible refine IX.out.mono ?_)
  rintro e w1 ⟨rfl, hb⟩
  have HB := Lib.hid hb
  clear hb
  go_wp2
  go_ret3
  exact ⟨rfl, HB.out⟩
theorem two_ids' (w : World) (I J : Nat → UInt8) : ((w.alloc (.cells (idA I) 27)).alloc (.cells (idA J) 27)).rowIs w.heap.size 27 32 (u8V I) ∧ ((w.alloc (.cells (idA I) 27)).alloc (.cells (idA J) 27)).rowIs (w.heap.size + 1) 27 32 (u8V J) ∧ Below w.heap.size w ((w.alloc (.cells (idA I) 27)).alloc (.cells (idA J) 27)) := by
  have r2 := id_row (w.alloc (.cells (idA I) 27)) J 27
  rw [← size1] at r2
  exact ⟨(id_row w I _).alloc _, r2, ((Below.refl _ _).alloc (Nat.le_refl _) _).alloc (by simp) _⟩
def BoxS (p q : Nat) (I J : Nat → UInt8) (w' : World) : Prop := ok32 w' p 0 = true ∧ row32 w' p 0 = idA I ∧ ok32 w' q 0 = true ∧ row32 w' q 0 = idA J
attribute [local go_sem ↓] execOp_ld32 execOp_st32
attribute [local go_sem] run_ld32 run_st32
theorem textL_size (I : Nat → UInt8) : (bs (textL I)).size = 64 := (text_back I).1
set_option maxRecDepth 100000 in
set_option maxHeartbeats 1000000 in
theorem pname_any (I J : Nat → UInt8) (w : World) : Calls Try.prog 16 #[.agg (idA I), .agg (idA J)] w fun e w' => e = .returned (.string (nameT I J)) ∧ Below w.heap.size w w' := by
  have T := Lib.hid (two_ids' w I J)
  have T1 := Lib.hid (fun W => text_any I W)
  have T2 := Lib.hid (fun W => text_any J W)
  have z1 := textL_size I
  have z2 := textL_size J
  have HN : Hid (nameT I J = par4 ++ bs (textL I) ++ dsh ++ bs (textL J) ++ px3) := Lib.hid rfl
  generalize bs (textL I) = x at T1 z1 HN
  generalize bs (textL J) = y at T2 z2 HN
  have a1 := ByteArray.size_append (a := par4) (b := x)
  have a2 := ByteArray.size_append (a := par4 ++ x) (b := dsh)
  have a3 := ByteArray.size_append (a := par4 ++ x ++ dsh) (b := y)
  have a4 := ByteArray.size_append (a := par4 ++ x ++ dsh ++ y) (b := px3)
  have p4 : par4.size = 4 := rfl
  have d1 : dsh.size = 1 := rfl
  have p3 : px3.size = 3 := rfl
  unfold par4 dsh px3 at *
  go_enter Try.func16, Try.ntmps16
  go_upto_region 1 with fail
  change Code.wp _ _ _ _ ((w.alloc (.cells (idA I) 27)).alloc (.cells (idA J) 27))
  generalize (w.alloc (.cells (idA I) 27)).alloc (.cells (idA J) 27) = w2 at T ⊢
  have KS : Hid (∀ W, Below w2.heap.size w2 W → BoxS w.heap.size (w.heap.size + 1) I J W) := Lib.hid (fun W hW => by
    have r1 := T.out.1.of_block (hW.block _ T.out.1.lt)
    have r2 := T.out.2.1.of_block (hW.block _ T.out.2.1.lt)
    exact ⟨ok32_of r1 (by omega), row32_id r1, ok32_of r2 (by omega), row32_id r2⟩)
  have HB0 : Hid (Below w2.heap.size w2 w2.drew) := Lib.hid (Below.refl _ _).drew
  have SA := KS.out _ HB0.out
  unfold BoxS at SA
  refine wp_region_held_drew (S := fun w' => ok32 w' w.heap.size 0 = true ∧ row32 w' w.heap.size 0 = idA I ∧ ok32 w' (w.heap.size + 1) 0 = true ∧ row32 w' (w.heap.size + 1) 0 = idA J) (by kernel_rfl) (by first | exact SA | exact SB) (fun hHeld => ?_)
  refine wpAnyH_take (i := 0) (oi := { dst := some 5, op := .load 27 (.tmp 2), type := 27, pos := "parity.go:283", after := #[], guard := none }) (v := _) rfl (by as_aux_lemma => kernel_rfl) (by as_aux_lemma => kernel_rfl) (by as_aux_lemma => kernel_rfl) (fun _ _ _ h => h) (Or.inl ⟨by kernel_rfl, by (intro w hSw; (try dsimp only at hSw); go_simp; first | done | with_reducible rfl)⟩) (by assumption) ?_
  (try simp only [List.getElem_toArray, List.getElem_cons_succ, List.getElem_cons_zero, Act.put, List.setIfInBounds_toArray, List.set_cons_zero, List.set_cons_succ])
  refine wpAnyH_take (i := 4) (oi := { dst := some 9, op := .load 27 (.tmp 3), type := 27, pos := "parity.go:283", after := #[], guard := none }) (v := _) rfl (by as_aux_lemma => kernel_rfl) (by as_aux_lemma => kernel_rfl) (by as_aux_lemma => kernel_rfl) (fun _ _ _ h => h) (Or.inl ⟨by kernel_rfl, by (intro w hSw; (try dsimp only at hSw); go_simp; first | done | with_reducible rfl)⟩) (by assumption) ?_
  (try simp only [List.getElem_toArray, List.getElem_cons_succ, List.getElem_cons_zero, Act.put, List.setIfInBounds_toArray, List.set_cons_zero, List.set_cons_succ])
  refine wpAnyH_ready (rs := [1]) (by as_aux_lemma => kernel_rfl) (by simp) (AllReadyH.cons rfl (fun K hK => ?_) AllReadyH.nil)
  try simp only [List.getElem_toArray, List.getElem_cons_succ, List.getElem_cons_zero]
  go_simp
  go_at_call 37
  refine (T1.out _).mono ?_
  rintro e wn ⟨rfl, hbn⟩
  have HB1 : Hid (Below w2.heap.size w2 wn) := Lib.hid (by first | exact HB0.out.trans (hbn.mono HB0.out.size) | exact HB2.out.trans (hbn.mono HB2.out.size))
  have SA := KS.out _ HB1.out
  unfold BoxS at SA
  clear hbn
  go_simp
  refine hK.out _ _ (by first | exact SA | exact SB) (fun hHeld => ?_)
  clear hK K
  (try simp only [List.getElem_toArray, List.getElem_cons_succ, List.getElem_cons_zero, Act.put, List.setIfInBounds_toArray, List.set_cons_zero, List.set_cons_succ])
  refine wpAnyH_take (i := 2) (oi := { dst := some 7, op := .binOp BinOp.add 9 (.const (Value.string { data := #[112, 97, 114, 45] })) (.tmp 6) 9, type := 9, pos := "parity.go:283", after := #[{ on := 1, ground := .data }], guard := none }) (v := _) rfl (by as_aux_lemma => kernel_rfl) (by as_aux_lemma => kernel_rfl) (by as_aux_lemma => kernel_rfl) (fun _ _ _ h => h) (Or.inl ⟨by kernel_rfl, by (intro w hSw; (try dsimp only at hSw); go_simp; first | done | with_reducible rfl)⟩) (by assumption) ?_
  (try simp only [List.getElem_toArray, List.getElem_cons_succ, List.getElem_cons_zero, Act.put, List.setIfInBounds_toArray, List.set_cons_zero, List.set_cons_succ])
  refine wpAnyH_take (i := 3) (oi := { dst := some 8, op := .binOp BinOp.add 9 (.tmp 7) (.const (Value.string { data := #[45] })) 9, type := 9, pos := "parity.go:283", after := #[{ on := 2, ground := .data }], guard := none }) (v := _) rfl (by as_aux_lemma => kernel_rfl) (by as_aux_lemma => kernel_rfl) (by as_aux_lemma => kernel_rfl) (fun _ _ _ h => h) (Or.inl ⟨by kernel_rfl, by (intro w hSw; (try dsimp only at hSw); go_simp; first | done | with_reducible rfl)⟩) (by assumption) ?_
  (try simp only [List.getElem_toArray, List.getElem_cons_succ, List.getElem_cons_zero, Act.put, List.setIfInBounds_toArray, List.set_cons_zero, List.set_cons_succ])
  refine wpAnyH_ready (rs := [5]) (by as_aux_lemma => kernel_rfl) (by simp) (AllReadyH.cons rfl (fun K hK => ?_) AllReadyH.nil)
  try simp only [List.getElem_toArray, List.getElem_cons_succ, List.getElem_cons_zero]
  go_simp
  go_at_call 37
  refine (T2.out _).mono ?_
  rintro e wn ⟨rfl, hbn⟩
  have HB2 : Hid (Below w2.heap.size w2 wn) := Lib.hid (by first | exact HB1.out.trans (hbn.mono HB1.out.size) | exact HB0.out.trans (hbn.mono HB0.out.size))
  have SB := KS.out _ HB2.out
  unfold BoxS at SB
  clear hbn
  go_simp
  refine hK.out _ _ (by first | exact SA | exact SB) (fun hHeld => ?_)
  clear hK K
  (try simp only [List.getElem_toArray, List.getElem_cons_succ, List.getElem_cons_zero, Act.put, List.setIfInBounds_toArray, List.set_cons_zero, List.set_cons_succ])
  refine wpAnyH_take (i := 6) (oi := { dst := some 11, op := .binOp BinOp.add 9 (.tmp 8) (.tmp 10) 9, type := 9, pos := "parity.go:283", after := #[{ on := 3, ground := .data }, { on := 5, ground := .data }], guard := none }) (v := _) rfl (by as_aux_lemma => kernel_rfl) (by as_aux_lemma => kernel_rfl) (by as_aux_lemma => kernel_rfl) (fun _ _ _ h => h) (Or.inl ⟨by kernel_rfl, by (intro w hSw; (try dsimp only at hSw); go_simp; first | done | with_reducible rfl)⟩) (by assumption) ?_
  (try simp only [List.getElem_toArray, List.getElem_cons_succ, List.getElem_cons_zero, Act.put, List.setIfInBounds_toArray, List.set_cons_zero, List.set_cons_succ])
  refine wpAnyH_take (i := 7) (oi := { dst := some 12, op := .binOp BinOp.add 9 (.tmp 11) (.const (Value.string { data := #[46, 112, 120] })) 9, type := 9, pos := "parity.go:283", after := #[{ on := 6, ground := .data }], guard := none }) (v := _) rfl (by as_aux_lemma => kernel_rfl) (by as_aux_lemma => kernel_rfl) (by as_aux_lemma => kernel_rfl) (fun _ _ _ h => h) (Or.inl ⟨by kernel_rfl, by (intro w hSw; (try dsimp only at hSw); go_simp; first | done | with_reducible rfl)⟩) (by assumption) ?_
  (try simp only [List.getElem_toArray, List.getElem_cons_succ, List.getElem_cons_zero, Act.put, List.setIfInBounds_toArray, List.set_cons_zero, List.set_cons_succ])
  refine wpAnyH_take (i := 8) (oi := { dst := some 4, op := .assign (.tmp 12), type := 9, pos := "parity.go:283", after := #[{ on := 7, ground := .data }, { on := 5, ground := .chain }, { on := 0, ground := .phase }, { on := 1, ground := .phase }, { on := 2, ground := .phase }, { on := 3, ground := .phase }, { on := 4, ground := .phase }, { on := 5, ground := .phase }, { on := 6, ground := .phase }, { on := 7, ground := .phase }], guard := none }) (v := _) rfl (by as_aux_lemma => kernel_rfl) (by as_aux_lemma => kernel_rfl) (by as_aux_lemma => kernel_rfl) (fun _ _ _ h => h) (Or.inl ⟨by kernel_rfl, by (intro w hSw; (try dsimp only at hSw); go_simp; first | done | with_reducible rfl)⟩) (by assumption) ?_
  (try simp only [List.getElem_toArray, List.getElem_cons_succ, List.getElem_cons_zero, Act.put, List.setIfInBounds_toArray, List.set_cons_zero, List.set_cons_succ])
  refine wpAnyH_done (by as_aux_lemma => kernel_rfl) ?_ _
  go_wp2
  go_ret
  refine ⟨by rw [HN.out]; rfl, ?_⟩
  first | exact T.out.2.2.trans (HB1.out.mono T.out.2.2.size) | exact T.out.2.2.trans (HB2.out.mono T.out.2.2.size)
set_option maxRecDepth 100000 in
set_option maxHeartbeats 1000000 in
theorem rname_any (I J : Nat → UInt8) (w : World) : Calls Try.prog 17 #[.agg (idA I), .agg (idA J)] w fun e w' => e = .returned (.string (nameT I J)) ∧ Below w.heap.size w w' := by
  have T := Lib.hid (two_ids' w I J)
  have T1 := Lib.hid (fun W => rtext_any I W)
  have T2 := Lib.hid (fun W => rtext_any J W)
  have z1 := textL_size I
  have z2 := textL_size J
  have HN : Hid (nameT I J = par4 ++ bs (textL I) ++ dsh ++ bs (textL J) ++ px3) := Lib.hid rfl
  generalize bs (textL I) = x at T1 z1 HN
  generalize bs (textL J) = y at T2 z2 HN
  have a1 := ByteArray.size_append (a := par4) (b := x)
  have a2 := ByteArray.size_append (a := par4 ++ x) (b := dsh)
  have a3 := ByteArray.size_append (a := par4 ++ x ++ dsh) (b := y)
  have a4 := ByteArray.size_append (a := par4 ++ x ++ dsh ++ y) (b := px3)
  have p4 : par4.size = 4 := rfl
  have d1 : dsh.size = 1 := rfl
  have p3 : px3.size = 3 := rfl
  unfold par4 dsh px3 at *
  go_enter Try.func17, Try.ntmps17
  go_upto_region 1 with fail
  change Code.wp _ _ _ _ ((w.alloc (.cells (idA I) 27)).alloc (.cells (idA J) 27))
  generalize (w.alloc (.cells (idA I) 27)).alloc (.cells (idA J) 27) = w2 at T ⊢
  have KS : Hid (∀ W, Below w2.heap.size w2 W → BoxS w.heap.size (w.heap.size + 1) I J W) := Lib.hid (fun W hW => by
    have r1 := T.out.1.of_block (hW.block _ T.out.1.lt)
    have r2 := T.out.2.1.of_block (hW.block _ T.out.2.1.lt)
    exact ⟨ok32_of r1 (by omega), row32_id r1, ok32_of r2 (by omega), row32_id r2⟩)
  have HB0 : Hid (Below w2.heap.size w2 w2.drew) := Lib.hid (Below.refl _ _).drew
  have SA := KS.out _ HB0.out
  unfold BoxS at SA
  refine wp_region_held_drew (S := fun w' => ok32 w' w.heap.size 0 = true ∧ row32 w' w.heap.size 0 = idA I ∧ ok32 w' (w.heap.size + 1) 0 = true ∧ row32 w' (w.heap.size + 1) 0 = idA J) (by kernel_rfl) (by first | exact SA | exact SB) (fun hHeld => ?_)
  refine wpAnyH_take (i := 0) (oi := { dst := some 5, op := .load 27 (.tmp 2), type := 27, pos := "ref.go:293", after := #[], guard := none }) (v := _) rfl (by as_aux_lemma => kernel_rfl) (by as_aux_lemma => kernel_rfl) (by as_aux_lemma => kernel_rfl) (fun _ _ _ h => h) (Or.inl ⟨by kernel_rfl, by (intro w hSw; (try dsimp only at hSw); go_simp; first | done | with_reducible rfl)⟩) (by assumption) ?_
  (try simp only [List.getElem_toArray, List.getElem_cons_succ, List.getElem_cons_zero, Act.put, List.setIfInBounds_toArray, List.set_cons_zero, List.set_cons_succ])
  refine wpAnyH_take (i := 4) (oi := { dst := some 9, op := .load 27 (.tmp 3), type := 27, pos := "ref.go:293", after := #[], guard := none }) (v := _) rfl (by as_aux_lemma => kernel_rfl) (by as_aux_lemma => kernel_rfl) (by as_aux_lemma => kernel_rfl) (fun _ _ _ h => h) (Or.inl ⟨by kernel_rfl, by (intro w hSw; (try dsimp only at hSw); go_simp; first | done | with_reducible rfl)⟩) (by assumption) ?_
  (try simp only [List.getElem_toArray, List.getElem_cons_succ, List.getElem_cons_zero, Act.put, List.setIfInBounds_toArray, List.set_cons_zero, List.set_cons_succ])
  refine wpAnyH_ready (rs := [1]) (by as_aux_lemma => kernel_rfl) (by simp) (AllReadyH.cons rfl (fun K hK => ?_) AllReadyH.nil)
  try simp only [List.getElem_toArray, List.getElem_cons_succ, List.getElem_cons_zero]
  go_simp
  go_at_call 38
  refine (T1.out _).mono ?_
  rintro e wn ⟨rfl, hbn⟩
  have HB1 : Hid (Below w2.heap.size w2 wn) := Lib.hid (by first | exact HB0.out.trans (hbn.mono HB0.out.size) | exact HB2.out.trans (hbn.mono HB2.out.size))
  have SA := KS.out _ HB1.out
  unfold BoxS at SA
  clear hbn
  go_simp
  refine hK.out _ _ (by first | exact SA | exact SB) (fun hHeld => ?_)
  clear hK K
  (try simp only [List.getElem_toArray, List.getElem_cons_succ, List.getElem_cons_zero, Act.put, List.setIfInBounds_toArray, List.set_cons_zero, List.set_cons_succ])
  refine wpAnyH_take (i := 2) (oi := { dst := some 7, op := .binOp BinOp.add 9 (.const (Value.string { data := #[112, 97, 114, 45] })) (.tmp 6) 9, type := 9, pos := "ref.go:293", after := #[{ on := 1, ground := .data }], guard := none }) (v := _) rfl (by as_aux_lemma => kernel_rfl) (by as_aux_lemma => kernel_rfl) (by as_aux_lemma => kernel_rfl) (fun _ _ _ h => h) (Or.inl ⟨by kernel_rfl, by (intro w hSw; (try dsimp only at hSw); go_simp; first | done | with_reducible rfl)⟩) (by assumption) ?_
  (try simp only [List.getElem_toArray, List.getElem_cons_succ, List.getElem_cons_zero, Act.put, List.setIfInBounds_toArray, List.set_cons_zero, List.set_cons_succ])
  refine wpAnyH_take (i := 3) (oi := { dst := some 8, op := .binOp BinOp.add 9 (.tmp 7) (.const (Value.string { data := #[45] })) 9, type := 9, pos := "ref.go:293", after := #[{ on := 2, ground := .data }], guard := none }) (v := _) rfl (by as_aux_lemma => kernel_rfl) (by as_aux_lemma => kernel_rfl) (by as_aux_lemma => kernel_rfl) (fun _ _ _ h => h) (Or.inl ⟨by kernel_rfl, by (intro w hSw; (try dsimp only at hSw); go_simp; first | done | with_reducible rfl)⟩) (by assumption) ?_
  (try simp only [List.getElem_toArray, List.getElem_cons_succ, List.getElem_cons_zero, Act.put, List.setIfInBounds_toArray, List.set_cons_zero, List.set_cons_succ])
  refine wpAnyH_ready (rs := [5]) (by as_aux_lemma => kernel_rfl) (by simp) (AllReadyH.cons rfl (fun K hK => ?_) AllReadyH.nil)
  try simp only [List.getElem_toArray, List.getElem_cons_succ, List.getElem_cons_zero]
  go_simp
  go_at_call 38
  refine (T2.out _).mono ?_
  rintro e wn ⟨rfl, hbn⟩
  have HB2 : Hid (Below w2.heap.size w2 wn) := Lib.hid (by first | exact HB1.out.trans (hbn.mono HB1.out.size) | exact HB0.out.trans (hbn.mono HB0.out.size))
  have SB := KS.out _ HB2.out
  unfold BoxS at SB
  clear hbn
  go_simp
  refine hK.out _ _ (by first | exact SA | exact SB) (fun hHeld => ?_)
  clear hK K
  (try simp only [List.getElem_toArray, List.getElem_cons_succ, List.getElem_cons_zero, Act.put, List.setIfInBounds_toArray, List.set_cons_zero, List.set_cons_succ])
  refine wpAnyH_take (i := 6) (oi := { dst := some 11, op := .binOp BinOp.add 9 (.tmp 8) (.tmp 10) 9, type := 9, pos := "ref.go:293", after := #[{ on := 3, ground := .data }, { on := 5, ground := .data }], guard := none }) (v := _) rfl (by as_aux_lemma => kernel_rfl) (by as_aux_lemma => kernel_rfl) (by as_aux_lemma => kernel_rfl) (fun _ _ _ h => h) (Or.inl ⟨by kernel_rfl, by (intro w hSw; (try dsimp only at hSw); go_simp; first | done | with_reducible rfl)⟩) (by assumption) ?_
  (try simp only [List.getElem_toArray, List.getElem_cons_succ, List.getElem_cons_zero, Act.put, List.setIfInBounds_toArray, List.set_cons_zero, List.set_cons_succ])
  refine wpAnyH_take (i := 7) (oi := { dst := some 12, op := .binOp BinOp.add 9 (.tmp 11) (.const (Value.string { data := #[46, 112, 120] })) 9, type := 9, pos := "ref.go:293", after := #[{ on := 6, ground := .data }], guard := none }) (v := _) rfl (by as_aux_lemma => kernel_rfl) (by as_aux_lemma => kernel_rfl) (by as_aux_lemma => kernel_rfl) (fun _ _ _ h => h) (Or.inl ⟨by kernel_rfl, by (intro w hSw; (try dsimp only at hSw); go_simp; first | done | with_reducible rfl)⟩) (by assumption) ?_
  (try simp only [List.getElem_toArray, List.getElem_cons_succ, List.getElem_cons_zero, Act.put, List.setIfInBounds_toArray, List.set_cons_zero, List.set_cons_succ])
  refine wpAnyH_take (i := 8) (oi := { dst := some 4, op := .assign (.tmp 12), type := 9, pos := "ref.go:293", after := #[{ on := 7, ground := .data }, { on := 5, ground := .chain }, { on := 0, ground := .phase }, { on := 1, ground := .phase }, { on := 2, ground := .phase }, { on := 3, ground := .phase }, { on := 4, ground := .phase }, { on := 5, ground := .phase }, { on := 6, ground := .phase }, { on := 7, ground := .phase }], guard := none }) (v := _) rfl (by as_aux_lemma => kernel_rfl) (by as_aux_lemma => kernel_rfl) (by as_aux_lemma => kernel_rfl) (fun _ _ _ h => h) (Or.inl ⟨by kernel_rfl, by (intro w hSw; (try dsimp only at hSw); go_simp; first | done | with_reducible rfl)⟩) (by assumption) ?_
  (try simp only [List.getElem_toArray, List.getElem_cons_succ, List.getElem_cons_zero, Act.put, List.setIfInBounds_toArray, List.set_cons_zero, List.set_cons_succ])
  refine wpAnyH_done (by as_aux_lemma => kernel_rfl) ?_ _
  go_wp2
  go_ret
  refine ⟨by rw [HN.out]; rfl, ?_⟩
  first | exact T.out.2.2.trans (HB1.out.mono T.out.2.2.size) | exact T.out.2.2.trans (HB2.out.mono T.out.2.2.size)
end Go.Proofs.Ytfoandpcoakcjaa
namespace Go.Proofs.Ytfoandpcoakcjaa
open Go.RowKit
set_option linter.unusedVariables false
attribute [local go_sem ↓] execOp_ld32 execOp_st32 execOp_ld16 execOp_st16
attribute [local go_sem] run_ld32 run_st32 run_ld16 run_st16
set_option maxRecDepth 100000 in
set_option maxHeartbeats 0 in
theorem rparse_any (s : ByteArray) (w : World) (hs : s.size ≤ 140737488351232) :
    Calls Try.prog 32 #[.string s] w fun e w' => e = .returned (.tuple #[.agg (idA (pI s)), .int .i64 (pE s)]) ∧ Below w.heap.size w w' := by
  have ZR := Lib.hid (zero_rows w)
  go_enter Try.func32, Try.ntmps32
  go_upto_region 2 with fail
  change Code.wp _ _ _ _ ((w.alloc zeroId).alloc zeroId)
  generalize (w.alloc zeroId).alloc zeroId = w2 at ZR ⊢
  go_wp2_with fail
  refine (runhex_any s w2 hs).mono ?_; rintro e w1 ⟨⟨u, k, rfl, hu⟩, hb⟩
  have R : Hid (w1.rowIs w.heap.size 27 32 (fun _ => .int .u8 0) ∧ w1.rowIs (w.heap.size + 1) 27 32 (fun _ => .int .u8 0) ∧ Below w.heap.size w w1) := Lib.hid ⟨ZR.out.1.of_block (hb.block _ ZR.out.1.lt), ZR.out.2.1.of_block (hb.block _ ZR.out.2.1.lt), ZR.out.2.2.trans (hb.mono ZR.out.2.2.size)⟩
  clear hb ZR
  by_cases hp : pG s
  · obtain ⟨rfl, rfl⟩ := pG_yes hp hu
    have hI : pI s = idOf s := if_pos hp
    have hE : pE s = 0 := if_pos hp
    have HR := Lib.hid (And.intro hI hE)
    clear hI hE hp hu
    obtain ⟨u, hu⟩ : ∃ u, bs (unL s 32) = u := ⟨_, rfl⟩
    have h32 : (u.size : Int) = 32 := by rw [← hu, bs_size, unL_len]; rfl
    have h32n : u.size = 32 := by omega
    have HU : Hid (∀ k, k < 32 → byteAt u k = idOf s k) := Lib.hid (fun k hk => by rw [← hu, bytes_bs]; rfl)
    rw [hu]
    clear hu
    go_wp2
    go_loopw [7] (fun i wr => ∃ k : Nat, k ≤ 32 ∧ i = .int .i64 k ∧ Hid (wr.rowIs w.heap.size 27 32 (fun _ => .int .u8 0) ∧ wr.rowIs (w.heap.size + 1) 27 32 (u8V (idS u k)) ∧ Below w.heap.size w wr)) (fun i _ => 32 - (intOf i).toNat)
    case atStart => exact ⟨0, by omega, rfl, Lib.hid ⟨R.out.1, R.out.2.1.congr fun i _ => by unfold idS; simp only [u8V]; rw [if_neg (by omega)]; rfl, R.out.2.2⟩⟩
    case round =>
      obtain ⟨k, hk, rfl, HL⟩ := hrel
      by_cases h2 : k < 32
      · obtain ⟨v1, hc1⟩ : ∃ v, wr.cell? ⟨w.heap.size + 1, k, none⟩ = some v := ⟨_, HL.out.2.1.cell h2⟩
        have hf1 : wr.frozen? ⟨w.heap.size + 1, k, none⟩ = false := HL.out.2.1.frozen _
        have hk32 : (k : Int) < 32 := by omega
        have hks : k < u.size := by omega
        have E := Lib.hid (byteAt_get u k hks)
        go_wp2
        go_roundw
        case rel =>
          refine ⟨k + 1, by omega, by go_num, Lib.hid ⟨HL.out.1.of_block (Below.heap_setCell _ _ _ _ (by show w.heap.size ≠ w.heap.size + 1; omega)), (HL.out.2.1.set k _).congr fun i hi => ?_, HL.out.2.2.setCell (by show _ ≤ w.heap.size + 1; omega) _⟩⟩
          simp only [u8V, idS]
          by_cases e : i = k
          · rw [if_pos e, if_pos (by omega), e, E.out]
          · rw [if_neg e]
            by_cases h3 : i < k
            · rw [if_pos h3, if_pos (by omega)]
            · rw [if_neg h3, if_neg (by omega)]
        case measure => simp [intOf]; omega
      · obtain rfl : k = 32 := by omega
        have E : Hid (row32 wr (w.heap.size + 1) 0 = idA (byteAt u)) := Lib.hid (id_end HL.out.2.1 (.inl (by omega)))
        have e1 := E.out
        have o1 := ok32_of HL.out.2.1 (off := 0) (by omega)
        have o2 := ok32_of HL.out.1 (off := 0) (by omega)
        have f1 := idA_full (byteAt u)
        have HQ := Lib.hid (id_put (byteAt u) HL.out.1 HL.out.2.2 (Nat.le_refl _))
        have EI : Hid (idA (byteAt u) = idA (idOf s)) := Lib.hid (idA_congr HU.out)
        clear HL
        rw [show ((32 : Nat) : Int) = 32 from rfl]
        go_wp2
        refine bodyPost_ret (results_row_tmp (p := 2) (u := 3) rfl _ _ w.heap.size 27 (idA (byteAt u)) (0, 0) rfl HQ.out.1 Try.underlying27 (by rw [idA_size]; kernel_rfl)) rfl ⟨?_, HQ.out.2⟩
        rw [EI.out, HR.out.1, HR.out.2]
        rfl
  · have hk := pG_not hp hu
    have hI : pI s = zI := if_neg hp
    have hE : pE s = 4 := if_neg hp
    have HI := Lib.hid (And.intro hI hE)
    clear hI hE hp hu
    have e1 : row32 w1 (w.heap.size + 1) 0 = idA zI := row32_id (R.out.2.1.congr fun i _ => rfl)
    have o1 := ok32_of R.out.2.1 (off := 0) (by omega)
    have o2 := ok32_of R.out.1 (off := 0) (by omega)
    have f1 := idA_full zI
    have HQ := Lib.hid (id_put zI R.out.1 R.out.2.2 (Nat.le_refl _))
    clear R
    rcases hk with rfl | ⟨rfl, h32⟩
    · go_wp2
      refine bodyPost_ret (results_row_tmp (p := 2) (u := 3) rfl _ _ w.heap.size 27 (idA zI) (0, 0) rfl HQ.out.1 Try.underlying27 (by rw [idA_size]; kernel_rfl)) rfl ⟨?_, HQ.out.2⟩
      rw [HI.out.1, HI.out.2]
      rfl
    · have h32i : ¬ (u.size : Int) = 32 := by omega
      go_wp2
      refine bodyPost_ret (results_row_tmp (p := 2) (u := 3) rfl _ _ w.heap.size 27 (idA zI) (0, 0) rfl HQ.out.1 Try.underlying27 (by rw [idA_size]; kernel_rfl)) rfl ⟨?_, HQ.out.2⟩
      rw [HI.out.1, HI.out.2]
      rfl
end Go.Proofs.Ytfoandpcoakcjaa
namespace Go.Proofs.Ytfoandpcoakcjaa
open Go.RowKit Wir
set_option linter.unusedVariables false
set_option linter.unusedSimpArgs false
attribute [local go_sem ↓] execOp_ld32 execOp_st32
attribute [local go_sem] run_ld32 run_st32
theorem results_two {fn : Func} {p q u : Tmp} {ty e : TypeId} {n : Nat} (h : fn.results = #[.cell p ty, .cell q ty, .tmp u]) (tmps : Array Value) {P : Program} (w : World) (g g' : Nat) (t : TypeId) (cs cs' : Array Value) (fr : Nat × Nat)
    (hp : tmps.getD p undef = .pointer (some ⟨g, 0, none⟩)) (hq : tmps.getD q undef = .pointer (some ⟨g', 0, none⟩)) (hg : w.heap[g]? = some (.cells cs t fr)) (hg' : w.heap[g']? = some (.cells cs' t fr))
    (hu : P.underlying ty = some (.array n e)) (hi : (P.info? ty).map (·.size) = some cs.size) (hi' : (P.info? ty).map (·.size) = some cs'.size) :
    (results fn tmps).run P w = .ok (.tuple #[.agg cs, .agg cs', tmps.getD u undef]) w := by
  have hp' : tmps[p]?.getD undef = .pointer (some ⟨g, 0, none⟩) := by simpa using hp
  have hq' : tmps[q]?.getD undef = .pointer (some ⟨g', 0, none⟩) := by simpa using hq
  simp [results, h, hp', hq', asAddr, run_loadVar_row w g t ty cs fr (.array n e) hg hu rfl hi, run_loadVar_row w g' t ty cs' fr (.array n e) hg' hu rfl hi']
/-- Two boxes for names. -/
structure BB (w wr : World) (I J : Nat → UInt8) : Prop where
  r1 : wr.rowIs w.heap.size 27 32 (u8V I)
  r2 : wr.rowIs (w.heap.size + 1) 27 32 (u8V J)
  below : Below w.heap.size w wr
theorem BB.mono {w wr w' : World} {I J : Nat → UInt8} (h : BB w wr I J) (hb : Below wr.heap.size wr w') : BB w w' I J := ⟨h.r1.of_block (hb.block _ h.r1.lt), h.r2.of_block (hb.block _ h.r2.lt), h.below.trans (hb.mono h.below.size)⟩
theorem BB.put1 {w wr : World} {I J : Nat → UInt8} (h : BB w wr I J) (K : Nat → UInt8) : BB w (put32 wr w.heap.size 0 (idA K)) K J := by
  obtain ⟨q1, q2⟩ := put32_row h.r1 0 (idA K) (by omega) (idA_full K)
  refine ⟨q1.congr (fun i hi => ?_), h.r2.of_block (q2.block _ h.r2.lt (by simp)), below_grown h.below q2 (fun g e => by injection e with e; omega)⟩
  rw [if_pos (by omega), Nat.sub_zero, List.getD_eq_getElem?_getD, Array.getElem?_toList, idA_get K i hi]; rfl
theorem BB.put2 {w wr : World} {I J : Nat → UInt8} (h : BB w wr I J) (K : Nat → UInt8) : BB w (put32 wr (w.heap.size + 1) 0 (idA K)) I K := by
  obtain ⟨q1, q2⟩ := put32_row h.r2 0 (idA K) (by omega) (idA_full K)
  refine ⟨h.r1.of_block (q2.block _ h.r1.lt (by simp)), q1.congr (fun i hi => ?_), below_grown h.below q2 (fun g e => by injection e with e; omega)⟩
  rw [if_pos (by omega), Nat.sub_zero, List.getD_eq_getElem?_getD, Array.getElem?_toList, idA_get K i hi]; rfl
theorem BB.box {w wr : World} {I J : Nat → UInt8} (h : BB w wr I J) : ok32 wr w.heap.size 0 = true ∧ row32 wr w.heap.size 0 = idA I ∧ ok32 wr (w.heap.size + 1) 0 = true ∧ row32 wr (w.heap.size + 1) 0 = idA J := ⟨ok32_of h.r1 (by omega), row32_id h.r1, ok32_of h.r2 (by omega), row32_id h.r2⟩
theorem BB.start (w : World) : BB w ((w.alloc zeroId).alloc zeroId) zI zI := by
  obtain ⟨h1, h2, h3⟩ := zero_rows w
  exact ⟨h1, h2, h3⟩
theorem BB.drew {w wr : World} {I J : Nat → UInt8} (h : BB w wr I J) : BB w wr.drew I J := ⟨h.r1, h.r2, h.below.drew⟩
open Classical in
noncomputable def nmI (s : ByteArray) : Nat → UInt8 := if nmdB s then pI (nX s) else zI
open Classical in
noncomputable def nmJ (s : ByteArray) : Nat → UInt8 := if nmdB s then pI (nY s) else zI
open Classical in
noncomputable def nmdE (s : ByteArray) : Int := if nmdB s then 0 else 10
open Classical in
theorem pE_cases (s : ByteArray) : (pE s = 0 ∧ pG s) ∨ (pE s = 4 ∧ ¬ pG s) := by
  unfold pE
  by_cases h : pG s
  · rw [if_pos h]; exact .inl ⟨rfl, h⟩
  · rw [if_neg h]; exact .inr ⟨rfl, h⟩
theorem id_info : (Try.prog.info? 27).map (·.size) = some 32 := by kernel_rfl
set_option maxRecDepth 100000 in
set_option maxHeartbeats 2000000 in
theorem pnamed_any (s : ByteArray) (w : World) (hs : s.size ≤ 140737488351232) :
    Calls Try.prog 15 #[.string s] w fun e w' => e = .returned (.tuple #[.agg (idA (nmI s)), .agg (idA (nmJ s)), .int .i64 (nmdE s)]) ∧ Below w.heap.size w w' := by
  have B0 := Lib.hid (BB.start w)
  have C1 := Lib.hid (fun W => Try.strings_CutPrefix s par4 W)
  have hzA : (cA s).size ≤ s.size := by
    have h1 : (cA s).size = (Lib.trimPrefix s.data.toList par4.data.toList).length := bs_size _
    have h2 := Lib.trimPrefix_le s.data.toList par4.data.toList
    rw [Array.length_toList] at h2
    rw [h1]; exact h2
  have C2 := Lib.hid (fun W => Try.strings_CutSuffix (cA s) px3 W (by omega))
  have hzB : (cB (cA s)).size ≤ (cA s).size := by
    have h1 : (cB (cA s)).size = (Lib.trimSuffix (cA s).data.toList px3.data.toList).length := bs_size _
    have h2 : (Lib.trimSuffix (cA s).data.toList px3.data.toList).length ≤ (cA s).data.toList.length := by
      unfold Lib.trimSuffix
      split
      · rw [List.length_take]; omega
      · exact Nat.le_refl _
    rw [Array.length_toList] at h2
    rw [h1]; exact h2
  have C3 := Lib.hid (fun W => strCut_any (cB (cA s)) W (by omega))
  have hzX : (cX (cB (cA s))).size ≤ (cB (cA s)).size := by
    unfold cX; split
    · rw [ByteArray.size_extract]; omega
    · exact Nat.le_refl _
  have hzY : (cY (cB (cA s))).size ≤ (cB (cA s)).size := by
    unfold cY; split
    · rw [ByteArray.size_extract]; omega
    · exact Nat.zero_le _
  have C4 := Lib.hid (fun W => parse_any (cX (cB (cA s))) W (by omega))
  have C5 := Lib.hid (fun W => parse_any (cY (cB (cA s))) W (by omega))
  have NO := Lib.hid (fun h1 h2 h3 h4 h5 => nmd_of (s := s) h1 h2 h3 h4 h5)
  have NB := Lib.hid (fun h => nmd_back (s := s) h)
  have e1 : (⟨(Lib.trimPrefix s.data.toList par4.data.toList).toArray⟩ : ByteArray) = cA s := rfl
  have e2 : (⟨(Lib.trimSuffix (cA s).data.toList px3.data.toList).toArray⟩ : ByteArray) = cB (cA s) := rfl
  rw [e1, show Lib.hasPrefix s.data.toList par4.data.toList = cOk s from rfl] at C1
  rw [e2, show Lib.hasSuffix (cA s).data.toList px3.data.toList = cIs (cA s) from rfl] at C2
  clear e1 e2
  have PX := pE_cases (cX (cB (cA s)))
  have PY := pE_cases (cY (cB (cA s)))
  generalize cX (cB (cA s)) = x at *
  generalize cY (cB (cA s)) = y at *
  generalize cTwo (cB (cA s)) = two at *
  generalize cB (cA s) = b at *
  generalize cIs (cA s) = is at *
  generalize cA s = a at *
  generalize cOk s = ok at *
  have hYES : Hid (ok = true → is = true → two = true → pG x → pG y → nmI s = pI x ∧ nmJ s = pI y ∧ nmdE s = 0) := Lib.hid (fun h1 h2 h3 h4 h5 => by
    obtain ⟨q1, q2, q3⟩ := NO.out h1 h2 h3 h4 h5
    unfold nmI nmJ nmdE
    rw [if_pos q1, if_pos q1, if_pos q1, q2, q3]
    exact ⟨rfl, rfl, rfl⟩)
  have hNO : Hid (¬ (ok = true ∧ is = true ∧ two = true ∧ pG x ∧ pG y) → nmI s = zI ∧ nmJ s = zI ∧ nmdE s = 10) := Lib.hid (fun h => by
    have q1 : ¬ nmdB s := fun hn => h (by
      obtain ⟨b1, b2, b3, b4, b5⟩ := NB.out hn
      exact ⟨b1, b2, b3, by rw [b4]; exact hn.2.1, by rw [b5]; exact hn.2.2.1⟩)
    unfold nmI nmJ nmdE
    rw [if_neg q1, if_neg q1, if_neg q1]
    exact ⟨rfl, rfl, rfl⟩)
  clear NO NB hzA hzB hzX hzY
  unfold par4 at C1
  unfold px3 at C2
  go_enter Try.func15, Try.ntmps15
  go_upto_region 1 with fail
  change Code.wp _ _ _ _ ((w.alloc zeroId).alloc zeroId)
  generalize (w.alloc zeroId).alloc zeroId = w2 at B0 ⊢
  go_wp2_with fail
  (with_reducible refine (C1.out _).mono ?_)
  rintro e w3 ⟨rfl, rfl⟩
  go_wp2_with fail
  (with_reducible refine (C2.out _).mono ?_)
  rintro e w4 ⟨rfl, rfl⟩
  go_wp2_with fail
  (with_reducible refine (C3.out _).mono ?_)
  rintro e w5 ⟨rfl, hb5⟩
  have B5 := Lib.hid (B0.out.mono hb5)
  clear hb5 B0
  go_wp2_with fail
  (with_reducible refine (C4.out _).mono ?_)
  rintro e w6 ⟨rfl, hb6⟩
  have B6 := Lib.hid (B5.out.mono hb6)
  clear hb6 B5 C1 C2 C3 C4
  obtain ⟨o1, r1, o2, r2⟩ := B6.out.box
  have f1 := idA_full (pI x)
  have f2 := idA_full (pI y)
  go_upto_region 5 with fail
  have B7 := Lib.hid (B6.out.put1 (pI x))
  clear B6 o1 r1 o2 r2
  generalize put32 w6 w.heap.size 0 (idA (pI x)) = w7 at B7 ⊢
  go_wp2_with fail
  (with_reducible refine (C5.out _).mono ?_)
  rintro e w8 ⟨rfl, hb8⟩
  have B8 := Lib.hid (B7.out.mono hb8)
  clear hb8 B7 C5
  obtain ⟨o1, r1, o2, r2⟩ := B8.out.box
  go_upto_region 6 with fail
  have B9 := Lib.hid (B8.out.put2 (pI y))
  clear B8 o1 r1 o2 r2
  generalize put32 w8 (w.heap.size + 1) 0 (idA (pI y)) = w9 at B9 ⊢
  by_cases hall : ok = true ∧ is = true ∧ two = true ∧ pG x ∧ pG y
  · obtain ⟨rfl, rfl, rfl, hx, hy⟩ := hall
    obtain ⟨q1, q2, q3⟩ := hYES.out rfl rfl rfl hx hy
    have HQ := Lib.hid (And.intro q1 (And.intro q2 q3))
    have ex : pE x = 0 := by rcases PX with ⟨h, _⟩ | ⟨_, h⟩; exact h; exact absurd hx h
    have ey : pE y = 0 := by rcases PY with ⟨h, _⟩ | ⟨_, h⟩; exact h; exact absurd hy h
    clear hYES hNO PX PY hx hy q1 q2 q3
    rw [ex, ey]
    clear ex ey
    go_upto_region 8 with fail
    have BD := Lib.hid B9.out.drew
    obtain ⟨o1, r1, o2, r2⟩ := BD.out.box
    have B10 := Lib.hid (BD.out.put1 (pI x))
    obtain ⟨o1', r1', o2', r2'⟩ := B10.out.box
    have B11 := Lib.hid (B10.out.put2 (pI y))
    go_region
    go_wp2
    refine bodyPost_ret (results_two (p := 2) (q := 3) (u := 4) rfl _ _ w.heap.size (w.heap.size + 1) 27 (idA (pI x)) (idA (pI y)) (0, 0) rfl rfl (row_block B11.out.r1) (row_block B11.out.r2) Try.underlying27 (by rw [idA_size]; kernel_rfl) (by rw [idA_size]; kernel_rfl)) rfl ⟨?_, B11.out.below⟩
    rw [HQ.out.1, HQ.out.2.1, HQ.out.2.2]
    rfl
  · obtain ⟨q1, q2, q3⟩ := hNO.out hall
    have HQ := Lib.hid (And.intro q1 (And.intro q2 q3))
    have HA := Lib.hid hall
    clear hYES hNO q1 q2 q3 hall f1 f2
    go_cut [56] (fun v56 wx => v56 = .bool true ∧ wx = w9)
    case first =>
      cases ok with
      | false => go_wp2; go_meet; exact ⟨rfl, rfl⟩
      | true =>
      cases is with
      | false => go_wp2; go_meet; exact ⟨rfl, rfl⟩
      | true =>
      cases two with
      | false => go_wp2; go_meet; exact ⟨rfl, rfl⟩
      | true =>
      rcases PX with ⟨hx, gx⟩ | ⟨hx, gx⟩
      · have b1 : (pE x != 0) = false := by rw [hx]; rfl
        rcases PY with ⟨hy, gy⟩ | ⟨hy, gy⟩
        · exact absurd ⟨rfl, rfl, rfl, gx, gy⟩ HA.out
        · have b2 : (pE y != 0) = true := by rw [hy]; rfl
          clear hx gx hy gy
          go_wp2; go_meet; exact ⟨rfl, rfl⟩
      · have b1 : (pE x != 0) = true := by rw [hx]; rfl
        clear hx gx PY
        go_wp2; go_meet; exact ⟨rfl, rfl⟩
    case rest =>
      obtain ⟨rfl, rfl⟩ := hcut
      obtain ⟨o1, r1, o2, r2⟩ := B9.out.box
      have B10 := Lib.hid (B9.out.put1 zI)
      obtain ⟨o1', r1', o2', r2'⟩ := B10.out.box
      have B11 := Lib.hid (B10.out.put2 zI)
      have f0 := idA_full zI
      clear r1 r2 r1' r2' PX PY HA
      rw [← zero_lit] at f0 o1' o2'
      go_wp2
      refine bodyPost_ret (results_two (p := 2) (q := 3) (u := 4) rfl _ _ w.heap.size (w.heap.size + 1) 27 (idA zI) (idA zI) (0, 0) rfl rfl (row_block B11.out.r1) (row_block B11.out.r2) Try.underlying27 (by rw [idA_size]; kernel_rfl) (by rw [idA_size]; kernel_rfl)) rfl ⟨?_, B11.out.below⟩
      rw [HQ.out.1, HQ.out.2.1, HQ.out.2.2]
      rfl
end Go.Proofs.Ytfoandpcoakcjaa
namespace Go.Proofs.Ytfoandpcoakcjaa
open Go.RowKit Wir
set_option linter.unusedVariables false
set_option linter.unusedSimpArgs false
attribute [local go_sem ↓] execOp_ld32 execOp_st32
attribute [local go_sem] run_ld32 run_st32
/-- Four boxes for names: the last two hold what was read. -/
structure BQ (w wr : World) (p q : Nat) (I J : Nat → UInt8) : Prop where
  bb : BB w wr zI zI
  rp : wr.rowIs p 27 32 (u8V I)
  rq : wr.rowIs q 27 32 (u8V J)
  lo : w.heap.size + 1 < q
theorem BQ.mono {w wr w' : World} {p q : Nat} {I J : Nat → UInt8} (h : BQ w wr p q I J) (hb : Below wr.heap.size wr w') : BQ w w' p q I J := ⟨h.bb.mono hb, h.rp.of_block (hb.block _ h.rp.lt), h.rq.of_block (hb.block _ h.rq.lt), h.lo⟩
theorem BQ.box {w wr : World} {p q : Nat} {I J : Nat → UInt8} (h : BQ w wr p q I J) : ok32 wr p 0 = true ∧ row32 wr p 0 = idA I ∧ ok32 wr q 0 = true ∧ row32 wr q 0 = idA J := ⟨ok32_of h.rp (by omega), row32_id h.rp, ok32_of h.rq (by omega), row32_id h.rq⟩
theorem BQ.put1 {w wr : World} {p q : Nat} {I J : Nat → UInt8} (h : BQ w wr p q I J) (K : Nat → UInt8) : ok32 (put32 wr w.heap.size 0 (idA K)) q 0 = true ∧ row32 (put32 wr w.heap.size 0 (idA K)) q 0 = idA J := by
  obtain ⟨q1, q2⟩ := put32_row h.bb.r1 0 (idA K) (by omega) (idA_full K)
  have r := h.rq.of_block (q2.block _ h.rq.lt (fun e => by injection e with e; have := h.lo; omega))
  exact ⟨ok32_of r (by omega), row32_id r⟩
theorem BQ.drew {w wr : World} {p q : Nat} {I J : Nat → UInt8} (h : BQ w wr p q I J) : BQ w wr.drew p q I J := ⟨h.bb.drew, h.rp, h.rq, h.lo⟩
theorem nmd_yes {s : ByteArray} (h : nmdB s) : nmI s = pI (nX s) ∧ nmJ s = pI (nY s) ∧ nmdE s = 0 := by
  unfold nmI nmJ nmdE
  rw [if_pos h, if_pos h, if_pos h]
  exact ⟨rfl, rfl, rfl⟩
theorem nmd_no {s : ByteArray} (h : ¬ nmdB s) : nmI s = zI ∧ nmJ s = zI ∧ nmdE s = 10 := by
  unfold nmI nmJ nmdE
  rw [if_neg h, if_neg h, if_neg h]
  exact ⟨rfl, rfl, rfl⟩
set_option maxRecDepth 100000 in
set_option maxHeartbeats 2000000 in
theorem rnamed_any (s : ByteArray) (w : World) (hs : s.size ≤ 140737488351232) :
    Calls Try.prog 14 #[.string s] w fun e w' => e = .returned (.tuple #[.agg (idA (nmI s)), .agg (idA (nmJ s)), .int .i64 (nmdE s)]) ∧ Below w.heap.size w w' := by
  have B0 := Lib.hid (BB.start w)
  by_cases h136 : s.size = 136
  · have C4 := Lib.hid (fun W => rparse_any (nX s) W (by show (s.extract 4 68).size ≤ _; rw [ByteArray.size_extract]; omega))
    have C5 := Lib.hid (fun W => rparse_any (nY s) W (by show (s.extract 69 133).size ≤ _; rw [ByteArray.size_extract]; omega))
    have PX := pE_cases (nX s)
    have PY := pE_cases (nY s)
    have HB : Hid (nmdB s ↔ pG (nX s) ∧ pG (nY s) ∧ nameT (pI (nX s)) (pI (nY s)) = s) := Lib.hid ⟨fun h => h.2, fun h => ⟨h136, h⟩⟩
    have HY := Lib.hid (fun h => nmd_yes (s := s) h)
    have HN := Lib.hid (fun h => nmd_no (s := s) h)
    have hi1 : (s.size : Int) = 136 := by omega
    unfold nX nY at *
    generalize hX : s.extract 4 68 = x at *
    generalize hY : s.extract 69 133 = y at *
    go_enter Try.func14, Try.ntmps14
    go_upto_region 1 with fail
    change Code.wp _ _ _ _ ((w.alloc zeroId).alloc zeroId)
    generalize (w.alloc zeroId).alloc zeroId = w2 at B0 ⊢
    go_wp2_with fail
    (with_reducible refine (C4.out _).mono ?_)
    rintro e w3 ⟨rfl, hb3⟩
    have B3 := Lib.hid (B0.out.mono hb3)
    clear hb3 B0 C4
    obtain ⟨o5, n5, n5b⟩ := new_id w3 (pI x)
    have f5 := idA_full (pI x)
    have RX : Hid (BB w (put32 (w3.alloc zeroId) w3.heap.size 0 (idA (pI x))) zI zI ∧ (put32 (w3.alloc zeroId) w3.heap.size 0 (idA (pI x))).rowIs w3.heap.size 27 32 (u8V (pI x))) := Lib.hid ⟨B3.out.mono n5b, n5⟩
    unfold zeroId at o5
    clear n5 n5b B3
    go_upto_region 4 with fail
    change Code.wp _ _ _ _ (put32 (w3.alloc zeroId) w3.heap.size 0 (idA (pI x)))
    generalize put32 (w3.alloc zeroId) w3.heap.size 0 (idA (pI x)) = w4 at RX ⊢
    generalize w3.heap.size = xb at RX ⊢
    clear o5 f5
    go_wp2_with fail
    (with_reducible refine (C5.out _).mono ?_)
    rintro e w5 ⟨rfl, hb5⟩
    have R5 : Hid (BB w w5 zI zI ∧ w5.rowIs xb 27 32 (u8V (pI x))) := Lib.hid ⟨RX.out.1.mono hb5, RX.out.2.of_block (hb5.block _ RX.out.2.lt)⟩
    clear hb5 RX C5
    obtain ⟨o5, n5, n5b⟩ := new_id w5 (pI y)
    have f5 := idA_full (pI y)
    have RY : Hid (BQ w (put32 (w5.alloc zeroId) w5.heap.size 0 (idA (pI y))) xb w5.heap.size (pI x) (pI y)) := Lib.hid ⟨R5.out.1.mono n5b, R5.out.2.of_block (n5b.block _ R5.out.2.lt), n5, R5.out.1.r2.lt⟩
    unfold zeroId at o5
    clear n5 n5b R5
    go_upto_region 5 with fail
    change Code.wp _ _ _ _ (put32 (w5.alloc zeroId) w5.heap.size 0 (idA (pI y)))
    generalize put32 (w5.alloc zeroId) w5.heap.size 0 (idA (pI y)) = w6 at RY ⊢
    generalize w5.heap.size = yb at RY ⊢
    clear o5 f5
    have RN := Lib.hid (fun W => rname_any (pI x) (pI y) W)
    obtain ⟨k1, k2, k3, k4⟩ := RY.out.box
    by_cases hall : pG x ∧ pG y ∧ nameT (pI x) (pI y) = s
    · have HQ := Lib.hid (HY.out (HB.out.2 hall))
      obtain ⟨gx, gy, hn⟩ := hall
      have b1 : (pE x != 0) = false := by rcases PX with ⟨h, _⟩ | ⟨_, h⟩; rw [h]; rfl; exact absurd gx h
      have b2 : (pE y != 0) = false := by rcases PY with ⟨h, _⟩ | ⟨_, h⟩; rw [h]; rfl; exact absurd gy h
      have b3 : (s.toList == s.toList) = true := beq_self_eq_true _
      rw [hn] at RN
      clear PX PY HB HY HN gx gy hn
      go_wp2_with fail
      (with_reducible refine (RN.out _).mono ?_)
      rintro e w7 ⟨rfl, hb7⟩
      have B7 := Lib.hid (RY.out.mono hb7)
      clear hb7 RN RY k1 k2 k3 k4
      go_upto_region 7 with fail
      obtain ⟨k1, k2, k3, k4⟩ := B7.out.box
      obtain ⟨o1, r1, o2, r2⟩ := B7.out.bb.drew.box
      have e1 : ok32 w7.drew xb 0 = true := k1
      have e2 : row32 w7.drew xb 0 = idA (pI x) := k2
      have e3 : ok32 w7.drew yb 0 = true := k3
      have e4 : row32 w7.drew yb 0 = idA (pI y) := k4
      have f1 := idA_full (pI x)
      have f2 := idA_full (pI y)
      have B8 := Lib.hid (B7.out.bb.drew.put1 (pI x))
      obtain ⟨o1', r1', o2', r2'⟩ := B8.out.box
      have B9 := Lib.hid (B8.out.put2 (pI y))
      obtain ⟨e5, e6⟩ := B7.out.drew.put1 (pI x)
      clear k1 k2 k3 k4 r1 r2 r1' r2'
      go_region
      go_wp2
      refine bodyPost_ret (results_two (p := 2) (q := 3) (u := 4) rfl _ _ w.heap.size (w.heap.size + 1) 27 (idA (pI x)) (idA (pI y)) (0, 0) rfl rfl (row_block B9.out.r1) (row_block B9.out.r2) Try.underlying27 (by rw [idA_size]; kernel_rfl) (by rw [idA_size]; kernel_rfl)) rfl ⟨?_, B9.out.below⟩
      rw [HQ.out.1, HQ.out.2.1, HQ.out.2.2]
      rfl
    · have HQ := Lib.hid (HN.out (fun h => hall (HB.out.1 h)))
      have HA := Lib.hid hall
      clear HB HY HN hall
      go_cut [38] (fun v38 wx => v38 = .bool true ∧ Hid (BB w wx zI zI))
      case first =>
        rcases PX with ⟨hx, gx⟩ | ⟨hx, gx⟩
        · have b1 : (pE x != 0) = false := by rw [hx]; rfl
          rcases PY with ⟨hy, gy⟩ | ⟨hy, gy⟩
          · have b2 : (pE y != 0) = false := by rw [hy]; rfl
            have hne : nameT (pI x) (pI y) ≠ s := fun h => HA.out ⟨gx, gy, h⟩
            generalize nameT (pI x) (pI y) = nt at *
            have b3 : (nt.toList == s.toList) = false := by
              rw [beq_eq_false_iff_ne]; exact fun h => hne (by rw [ByteArray.toList_eq, ByteArray.toList_eq] at h; exact ByteArray.ext (Array.ext' h))
            clear hx gx hy gy hne
            go_wp2_with fail
            (with_reducible refine (RN.out _).mono ?_)
            rintro e w7 ⟨rfl, hb7⟩
            have B7 := Lib.hid (RY.out.bb.mono hb7)
            clear hb7
            go_wp2
            go_meet
            exact ⟨rfl, B7⟩
          · have b2 : (pE y != 0) = true := by rw [hy]; rfl
            clear hx gx hy gy
            go_wp2; go_meet; exact ⟨rfl, Lib.hid RY.out.bb⟩
        · have b1 : (pE x != 0) = true := by rw [hx]; rfl
          clear hx gx PY
          go_wp2; go_meet; exact ⟨rfl, Lib.hid RY.out.bb⟩
      case rest =>
        obtain ⟨rfl, B9⟩ := hcut
        obtain ⟨o1, r1, o2, r2⟩ := B9.out.box
        have B10 := Lib.hid (B9.out.put1 zI)
        obtain ⟨o1', r1', o2', r2'⟩ := B10.out.box
        have B11 := Lib.hid (B10.out.put2 zI)
        have f0 := idA_full zI
        clear r1 r2 r1' r2' PX PY HA k1 k2 k3 k4
        rw [← zero_lit] at f0 o1' o2'
        go_wp2
        refine bodyPost_ret (results_two (p := 2) (q := 3) (u := 4) rfl _ _ w.heap.size (w.heap.size + 1) 27 (idA zI) (idA zI) (0, 0) rfl rfl (row_block B11.out.r1) (row_block B11.out.r2) Try.underlying27 (by rw [idA_size]; kernel_rfl) (by rw [idA_size]; kernel_rfl)) rfl ⟨?_, B11.out.below⟩
        rw [HQ.out.1, HQ.out.2.1, HQ.out.2.2]
        rfl
  · have HQ := Lib.hid (nmd_no (s := s) (fun h => h136 h.1))
    have hi1 : ((s.size : Int) != 136) = true := by rw [bne_iff_ne]; omega
    go_enter Try.func14, Try.ntmps14
    go_upto_region 1 with fail
    change Code.wp _ _ _ _ ((w.alloc zeroId).alloc zeroId)
    generalize (w.alloc zeroId).alloc zeroId = w9 at B0 ⊢
    obtain ⟨o1, r1, o2, r2⟩ := B0.out.box
    have B10 := Lib.hid (B0.out.put1 zI)
    obtain ⟨o1', r1', o2', r2'⟩ := B10.out.box
    have B11 := Lib.hid (B10.out.put2 zI)
    have f0 := idA_full zI
    clear r1 r2 r1' r2'
    rw [← zero_lit] at f0 o1' o2'
    go_wp2
    refine bodyPost_ret (results_two (p := 2) (q := 3) (u := 4) rfl _ _ w.heap.size (w.heap.size + 1) 27 (idA zI) (idA zI) (0, 0) rfl rfl (row_block B11.out.r1) (row_block B11.out.r2) Try.underlying27 (by rw [idA_size]; kernel_rfl) (by rw [idA_size]; kernel_rfl)) rfl ⟨?_, B11.out.below⟩
    rw [HQ.out.1, HQ.out.2.1, HQ.out.2.2]
    rfl
end Go.Proofs.Ytfoandpcoakcjaa
