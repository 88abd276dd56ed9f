/- Walk: the law DigestSums. Conditions: the texts can be held. -/
import Derived.Test.YtbfmdingbgdflaaDigBackW
import Derived.Test.YtbfmdingbgdflaaOpnNames
import Derived.Test.YtbfmdingbgdflaaParse2
import Derived.Test.YtbfmdingbgdflaaRefLess
import Derived.Test.YtbfmdingbgdflaaRefSum
namespace Go.Proofs.Ytbfmdingbgdflaa
open Go.RowKit Dig
set_option linter.unusedVariables false
set_option linter.unusedSimpArgs false
attribute [local go_sem ↓] execOp_ld32 execOp_st32
attribute [local go_sem] run_ld32 run_st32
theorem rquick_v {K : Nat → UInt8} {h : ByteArray} (hK : shaF (byteAt h) h.size = K) (w : World) (hs : h.size ≤ 16777216) :
    Calls Try.prog 20 #[.string h] w fun e w' => e = .returned (.agg (idA K)) ∧ Below w.heap.size w w' := by
  rw [← hK]; exact quick_any h w (by omega)
theorem rsum_v {K : Nat → UInt8} {h : ByteArray} (hK : shaF (byteAt h) h.size = K) (w : World) (hs : h.size ≤ 16777216) :
    Calls Try.prog 41 #[.string h] w fun e w' => e = .returned (.agg (idA K)) ∧ Below w.heap.size w w' := by
  rw [← hK]; exact rsum_any h w (by omega)
set_option maxRecDepth 100000 in
theorem rof_v {K : Nat → UInt8} {k : UInt8} {s h : ByteArray} (hh : headB k s.size ++ s = h) (hK : shaF (byteAt h) h.size = K) (w : World) (hs : s.size ≤ 16777000) :
    Calls Try.prog 43 #[.int .u8 (k.toNat : Int), .string s] w fun e w' => e = .returned (.agg (idA K)) ∧ Below w.heap.size w w' := by
  have Z := Lib.hid (zero_one w)
  have hh16 : h.size ≤ 16777216 := by rw [← hh, ByteArray.size_append, headB_size]; omega
  have HH := Lib.hid hh
  have HK := Lib.hid hK
  have hs16 : s.size ≤ 16777216 := by omega
  clear hh hK
  go_enter Try.func43, Try.ntmps43
  go_upto_region 1 with fail
  change Code.wp _ _ _ _ (w.alloc zeroId)
  generalize w.alloc zeroId = w1 at Z ⊢
  go_wp2_with fail
  refine (whole_v HH.out _ hs16).mono ?_; rintro e w2 ⟨rfl, hb2⟩
  have B2 := Lib.hid hb2
  clear hb2
  go_wp2_with fail
  refine (rquick_v HK.out _ hh16).mono ?_; rintro e w3 ⟨rfl, hb3⟩
  have B3 := B2.out.trans (hb3.mono B2.out.size)
  have r3 : w3.rowIs w.heap.size 28 32 (fun _ => .int .u8 0) := Z.out.1.of_block (B3.block _ Z.out.1.lt)
  have o3 := ok32_of r3 (off := 0) (by omega)
  have f3 := idA_full K
  have HP := Lib.hid (id_put (w := w) K r3 (Z.out.2.trans (B3.mono Z.out.2.size)) (Nat.le_refl _))
  clear r3 B3 hb3
  go_wp2
  exact bodyPost_ret (v := .agg (idA K)) (results_cell_row rfl _ _ w.heap.size 28 _ (0, 0) _ rfl HP.out.1 Try.underlying28 rfl (by rw [idA_size]; kernel_rfl)) rfl ⟨rfl, HP.out.2⟩
theorem dparse_v {t : ByteArray} {P : Nat → UInt8} {k : Int} (hP : pI t = P) (hk : pE t = k) (w : World) (hs : t.size ≤ 140737488351232) :
    Calls Try.prog 37 #[.string t] w fun e w' => e = .returned (.tuple #[.agg (idA P), .int .i64 k]) ∧ Below w.heap.size w w' := by
  rw [← hP, ← hk]; exact parse_any t w hs
theorem rparse_v {t : ByteArray} {P : Nat → UInt8} {k : Int} (hP : pI t = P) (hk : pE t = k) (w : World) (hs : t.size ≤ 140737488351232) :
    Calls Try.prog 40 #[.string t] w fun e w' => e = .returned (.tuple #[.agg (idA P), .int .i64 k]) ∧ Below w.heap.size w w' := by
  rw [← hP, ← hk]; exact rparse_any t w hs
theorem rtext_v {I : Nat → UInt8} {t : ByteArray} (hT : bs (textL I) = t) (w : World) :
    Calls Try.prog 44 #[.agg (idA I)] w fun e w' => e = .returned (.string t) ∧ Below w.heap.size w w' := by
  rw [← hT]; exact rtext_any I w
theorem rless_v (I J : Nat → UInt8) {b : Bool} (hb : decide (cmpR I J 32 0 < 0) = b) (w : World) :
    Calls Try.prog 45 #[.agg (idA I), .agg (idA J)] w fun e w' => e = .returned (.bool b) ∧ Below w.heap.size w w' := by
  rw [← hb, ← ltR_cmp]; exact refLess_any I J w
/-- The two names and the text in their box. -/
structure Bx (w wr : World) (p : Nat) (I J : Nat → UInt8) (t : ByteArray) : Prop where
  row : wr.rowIs p 73 65 (fun i => if i < 32 then u8V I i else if i < 64 then u8V J (i - 32) else .string t)
  low : w.heap.size ≤ p
  below : Below w.heap.size w wr
theorem Bx.mono {w wr w' : World} {p : Nat} {I J : Nat → UInt8} {t : ByteArray} (h : Bx w wr p I J t) (hb : Below wr.heap.size wr w') : Bx w w' p I J t :=
  ⟨h.row.of_block (hb.block _ h.row.lt), h.low, h.below.trans (hb.mono h.below.size)⟩
theorem Bx.text {w wr : World} {p : Nat} {I J : Nat → UInt8} {t : ByteArray} (h : Bx w wr p I J t) : wr.cell? ⟨p, 64, none⟩ = some (.string t) := by
  have := h.row.cell (i := 64) (by omega)
  simpa using this
theorem Bx.one {w wr : World} {p : Nat} {I J : Nat → UInt8} {t : ByteArray} (h : Bx w wr p I J t) : ok32 wr p 0 = true ∧ row32 wr p 0 = idA I := ⟨ok32_of h.row (by omega), row32_at h.row (by omega) (fun j hj => by rw [if_pos (by omega), Nat.zero_add])⟩
theorem Bx.two {w wr : World} {p : Nat} {I J : Nat → UInt8} {t : ByteArray} (h : Bx w wr p I J t) : ok32 wr p 32 = true ∧ row32 wr p 32 = idA J := ⟨ok32_of h.row (by omega), row32_at h.row (by omega) (fun j hj => by rw [if_neg (by omega), if_pos (by omega), Nat.add_sub_cancel_left])⟩
/-- Besides: a name of its own. -/
def Id1 (wr : World) (q : Nat) (P : Nat → UInt8) : Prop := wr.rowIs q 28 32 (u8V P)
theorem Id1.mono {wr w' : World} {q : Nat} {P : Nat → UInt8} (h : Id1 wr q P) (hb : Below wr.heap.size wr w') : Id1 w' q P := World.rowIs.of_block h (hb.block _ (World.rowIs.lt h))
theorem Id1.holds {wr : World} {q : Nat} {P : Nat → UInt8} (h : Id1 wr q P) : ok32 wr q 0 = true ∧ row32 wr q 0 = idA P := ⟨ok32_of h (by omega), row32_id h⟩
set_option maxRecDepth 100000 in
set_option maxHeartbeats 0 in
theorem digestSums_walk (s : ByteArray) (k : UInt8) (I J : Nat → UInt8) (t : ByteArray) (w : World) (hs : s.size ≤ 140737488351232) (ht : t.size ≤ 140737488351232) :
    Calls Try.prog 9 #[.string s, .int .u8 (k.toNat : Int), .agg (nmA I J t)] w fun e w' => e = .returned (.bool true) ∧ Below w.heap.size w w' := by
  have T : Hid (Bx w (w.alloc (.cells (nmA I J t) 73)) w.heap.size I J t) := Lib.hid ⟨nm_row w I J t _, Nat.le_refl _, (Below.refl _ _).alloc (Nat.le_refl _) _⟩
  obtain ⟨P, hP⟩ : ∃ P, pI t = P := ⟨_, rfl⟩
  obtain ⟨x, hx⟩ : ∃ x, pE t = x := ⟨_, rfl⟩
  have HP := Lib.hid (And.intro hP hx)
  clear hP hx
  have hk0 : (0 : Int) ≤ (s.size : Int) := by omega
  go_enter Try.func9, Try.ntmps9
  go_upto_region 1 with fail
  generalize w.alloc (.cells (nmA I J t) 73) = w1 at T ⊢
  generalize hp : w.heap.size = p at T ⊢
  have HPP := Lib.hid hp
  clear hp
  go_cut [0] (fun v wx => v = .string (cut2k s) ∧ Hid (Bx w wx p I J t))
  case rest =>
    obtain ⟨rfl, HC⟩ := hcut
    have hq2 := cut2k_size s
    generalize cut2k s = u at *
    have c64 := HC.out.text
    go_wp2_with fail
    refine (dparse_v HP.out.1 HP.out.2 _ ht).mono ?_; rintro e w4 ⟨rfl, hb4⟩
    obtain ⟨o1, n2, n3⟩ := new_id w4 P
    have X5 : Hid (Bx w (put32 (w4.alloc zeroId) w4.heap.size 0 (idA P)) p I J t ∧ Id1 (put32 (w4.alloc zeroId) w4.heap.size 0 (idA P)) w4.heap.size P) := Lib.hid ⟨(HC.out.mono hb4).mono n3, n2⟩
    have f1 := idA_full P
    clear n2 n3 hb4 c64
    unfold zeroId at o1
    go_upto_region 3 with fail
    change Code.wp _ _ _ _ (put32 (w4.alloc zeroId) w4.heap.size 0 (idA P))
    generalize put32 (w4.alloc zeroId) w4.heap.size 0 (idA P) = w5 at X5 ⊢
    clear o1
    generalize w4.heap.size = q at X5 ⊢
    have c64 := X5.out.1.text
    go_wp2_with fail
    refine (rparse_v HP.out.1 HP.out.2 _ ht).mono ?_; rintro e w6 ⟨rfl, hb6⟩
    obtain ⟨o1, n2, n3⟩ := new_id w6 P
    have X7 : Hid (Bx w (put32 (w6.alloc zeroId) w6.heap.size 0 (idA P)) p I J t ∧ Id1 (put32 (w6.alloc zeroId) w6.heap.size 0 (idA P)) q P ∧ Id1 (put32 (w6.alloc zeroId) w6.heap.size 0 (idA P)) w6.heap.size P) := Lib.hid ⟨(X5.out.1.mono hb6).mono n3, (X5.out.2.mono hb6).mono n3, n2⟩
    clear n2 n3 hb6 c64
    unfold zeroId at o1
    go_upto_region 4 with fail
    change Code.wp _ _ _ _ (put32 (w6.alloc zeroId) w6.heap.size 0 (idA P))
    generalize put32 (w6.alloc zeroId) w6.heap.size 0 (idA P) = w7 at X7 ⊢
    clear o1 f1
    generalize w6.heap.size = r at X7 ⊢
    --REGION
    have KS : Hid (∀ w', Below w7.heap.size w7 w' → ok32 w' p 0 = true ∧ row32 w' p 0 = idA I ∧ ok32 w' p 32 = true ∧ row32 w' p 32 = idA J ∧ ok32 w' q 0 = true ∧ row32 w' q 0 = idA P ∧ ok32 w' r 0 = true ∧ row32 w' r 0 = idA P) := Lib.hid (fun w' hb => by
      have b := X7.out.1.mono hb
      have h1 := (X7.out.2.1.mono hb).holds
      have h2 := (X7.out.2.2.mono hb).holds
      exact ⟨b.one.1, b.one.2, b.two.1, b.two.2, h1.1, h1.2, h2.1, h2.2⟩)
    obtain ⟨K0, hK0⟩ : ∃ K, shaF (byteAt u) u.size = K := ⟨_, rfl⟩
    obtain ⟨h, hh⟩ : ∃ h, headB k u.size ++ u = h := ⟨_, rfl⟩
    obtain ⟨K, hK⟩ : ∃ K, shaF (byteAt h) h.size = K := ⟨_, rfl⟩
    obtain ⟨tx, hT⟩ : ∃ t, bs (textL I) = t := ⟨_, rfl⟩
    obtain ⟨b, hb1⟩ : ∃ b, decide (cmpR I J 32 0 < 0) = b := ⟨_, rfl⟩
    have hu16 : u.size ≤ 16777216 := by omega
    have hu167 : u.size ≤ 16777000 := by omega
    have hqs : ∀ (K : Nat → UInt8) W, (Op.equalIn 10000 28 (.agg (idA K)) (.agg (idA K))).run Try.prog W = .ok true W := fun K W => by rw [eq_ids, eqB_same]
    have HK0 := Lib.hid hK0
    have HH := Lib.hid hh
    have HK := Lib.hid hK
    have HT := Lib.hid hT
    have HL := Lib.hid hb1
    have HB0 : Hid (Below w7.heap.size w7 w7.drew) := Lib.hid (Below.refl _ _).drew
    have SA := KS.out _ HB0.out
    clear hK0 hh hK hT hb1 hq2
    refine wp_region_held_drew (S := fun w' => ok32 w' p 0 = true ∧ row32 w' p 0 = idA I ∧ ok32 w' p 32 = true ∧ row32 w' p 32 = idA J ∧ ok32 w' q 0 = true ∧ row32 w' q 0 = idA P ∧ ok32 w' r 0 = true ∧ row32 w' r 0 = idA P) (by kernel_rfl) (by exact SA) (fun hHeld => ?_)
    refine wpAnyH_take (i := 0) (oi := _) (v := _) rfl (by as_aux_lemma => kernel_rfl) (by as_aux_lemma => kernel_rfl) (by as_aux_lemma => kernel_rfl) (fun _ _ _ h => h) (Or.inl ⟨by kernel_rfl, by (intro w hSw; (try dsimp only at hSw); go_simp; first | done | with_reducible rfl)⟩) (by assumption) ?_
    (try simp only [List.getElem_toArray, List.getElem_cons_succ, List.getElem_cons_zero, Act.put, List.setIfInBounds_toArray, List.set_cons_zero, List.set_cons_succ])
    refine wpAnyH_take (i := 2) (oi := _) (v := _) rfl (by as_aux_lemma => kernel_rfl) (by as_aux_lemma => kernel_rfl) (by as_aux_lemma => kernel_rfl) (fun _ _ _ h => h) (Or.inl ⟨by kernel_rfl, by (intro w hSw; (try dsimp only at hSw); go_simp; first | done | with_reducible rfl)⟩) (by assumption) ?_
    (try simp only [List.getElem_toArray, List.getElem_cons_succ, List.getElem_cons_zero, Act.put, List.setIfInBounds_toArray, List.set_cons_zero, List.set_cons_succ])
    refine wpAnyH_ready (rs := [1]) (by as_aux_lemma => kernel_rfl) (by simp) (AllReadyH.cons rfl (fun K hK => ?_) AllReadyH.nil)
    try simp only [List.getElem_toArray, List.getElem_cons_succ, List.getElem_cons_zero]
    go_simp
    go_at_call 22
    refine (sum_v HK0.out _ hu16).mono ?_
    rintro e wn ⟨rfl, hbn⟩
    have HB1 := Lib.hid (HB0.out.trans (hbn.mono HB0.out.size))
    have SA := KS.out _ HB1.out
    clear hbn
    go_simp
    refine hK.out _ _ (by exact SA) (fun hHeld => ?_)
    clear hK K
    (try simp only [List.getElem_toArray, List.getElem_cons_succ, List.getElem_cons_zero, Act.put, List.setIfInBounds_toArray, List.set_cons_zero, List.set_cons_succ])
    refine wpAnyH_ready (rs := [3]) (by as_aux_lemma => kernel_rfl) (by simp) (AllReadyH.cons rfl (fun K hK => ?_) AllReadyH.nil)
    try simp only [List.getElem_toArray, List.getElem_cons_succ, List.getElem_cons_zero]
    go_simp
    go_at_call 41
    refine (rsum_v HK0.out _ hu16).mono ?_
    rintro e wn ⟨rfl, hbn⟩
    have HB2 := Lib.hid (HB1.out.trans (hbn.mono HB1.out.size))
    have SA := KS.out _ HB2.out
    clear hbn
    go_simp
    refine hK.out _ _ (by exact SA) (fun hHeld => ?_)
    clear hK K
    (try simp only [List.getElem_toArray, List.getElem_cons_succ, List.getElem_cons_zero, Act.put, List.setIfInBounds_toArray, List.set_cons_zero, List.set_cons_succ])
    refine wpAnyH_take (i := 4) (oi := _) (v := _) rfl (by as_aux_lemma => kernel_rfl) (by as_aux_lemma => kernel_rfl) (by as_aux_lemma => kernel_rfl) (fun _ _ _ h => h) (Or.inl ⟨by kernel_rfl, by (intro w hSw; (try dsimp only at hSw); go_simp; first | done | with_reducible rfl)⟩) (by assumption) ?_
    (try simp only [List.getElem_toArray, List.getElem_cons_succ, List.getElem_cons_zero, Act.put, List.setIfInBounds_toArray, List.set_cons_zero, List.set_cons_succ])
    refine wpAnyH_take (i := 5) (oi := _) (v := _) rfl (by as_aux_lemma => kernel_rfl) (by as_aux_lemma => kernel_rfl) (by as_aux_lemma => kernel_rfl) (fun _ _ _ h => h) (Or.inl ⟨by kernel_rfl, by (intro w hSw; (try dsimp only at hSw); go_simp; first | done | with_reducible rfl)⟩) (by assumption) ?_
    (try simp only [List.getElem_toArray, List.getElem_cons_succ, List.getElem_cons_zero, Act.put, List.setIfInBounds_toArray, List.set_cons_zero, List.set_cons_succ])
    refine wpAnyH_take (i := 6) (oi := _) (v := _) rfl (by as_aux_lemma => kernel_rfl) (by as_aux_lemma => kernel_rfl) (by as_aux_lemma => kernel_rfl) (fun _ _ _ h => h) (Or.inl ⟨by kernel_rfl, by (intro w hSw; (try dsimp only at hSw); go_simp; first | done | with_reducible rfl)⟩) (by assumption) ?_
    (try simp only [List.getElem_toArray, List.getElem_cons_succ, List.getElem_cons_zero, Act.put, List.setIfInBounds_toArray, List.set_cons_zero, List.set_cons_succ])
    refine wpAnyH_take (i := 8) (oi := _) (v := _) rfl (by as_aux_lemma => kernel_rfl) (by as_aux_lemma => kernel_rfl) (by as_aux_lemma => kernel_rfl) (fun _ _ _ h => h) (Or.inl ⟨by kernel_rfl, by (intro w hSw; (try dsimp only at hSw); go_simp; first | done | with_reducible rfl)⟩) (by assumption) ?_
    (try simp only [List.getElem_toArray, List.getElem_cons_succ, List.getElem_cons_zero, Act.put, List.setIfInBounds_toArray, List.set_cons_zero, List.set_cons_succ])
    refine wpAnyH_ready (rs := [7]) (by as_aux_lemma => kernel_rfl) (by simp) (AllReadyH.cons rfl (fun K hK => ?_) AllReadyH.nil)
    try simp only [List.getElem_toArray, List.getElem_cons_succ, List.getElem_cons_zero]
    go_simp
    go_at_call 22
    refine (sum_v HK0.out _ hu16).mono ?_
    rintro e wn ⟨rfl, hbn⟩
    have HB3 := Lib.hid (HB2.out.trans (hbn.mono HB2.out.size))
    have SA := KS.out _ HB3.out
    clear hbn
    go_simp
    refine hK.out _ _ (by exact SA) (fun hHeld => ?_)
    clear hK K
    (try simp only [List.getElem_toArray, List.getElem_cons_succ, List.getElem_cons_zero, Act.put, List.setIfInBounds_toArray, List.set_cons_zero, List.set_cons_succ])
    refine wpAnyH_ready (rs := [9]) (by as_aux_lemma => kernel_rfl) (by simp) (AllReadyH.cons rfl (fun K hK => ?_) AllReadyH.nil)
    try simp only [List.getElem_toArray, List.getElem_cons_succ, List.getElem_cons_zero]
    go_simp
    go_at_call 20
    refine (rquick_v HK0.out _ hu16).mono ?_
    rintro e wn ⟨rfl, hbn⟩
    have HB4 := Lib.hid (HB3.out.trans (hbn.mono HB3.out.size))
    have SA := KS.out _ HB4.out
    clear hbn
    go_simp
    refine hK.out _ _ (by exact SA) (fun hHeld => ?_)
    clear hK K
    (try simp only [List.getElem_toArray, List.getElem_cons_succ, List.getElem_cons_zero, Act.put, List.setIfInBounds_toArray, List.set_cons_zero, List.set_cons_succ])
    refine wpAnyH_take (i := 10) (oi := _) (v := _) rfl (by as_aux_lemma => kernel_rfl) (by as_aux_lemma => kernel_rfl) (by as_aux_lemma => kernel_rfl) (fun _ _ _ h => h) (Or.inl ⟨by kernel_rfl, by (intro w hSw; (try dsimp only at hSw); go_simp; first | done | with_reducible rfl)⟩) (by assumption) ?_
    (try simp only [List.getElem_toArray, List.getElem_cons_succ, List.getElem_cons_zero, Act.put, List.setIfInBounds_toArray, List.set_cons_zero, List.set_cons_succ])
    refine wpAnyH_take (i := 11) (oi := _) (v := _) rfl (by as_aux_lemma => kernel_rfl) (by as_aux_lemma => kernel_rfl) (by as_aux_lemma => kernel_rfl) (fun _ _ _ h => h) (Or.inl ⟨by kernel_rfl, by (intro w hSw; (try dsimp only at hSw); go_simp; first | done | with_reducible rfl)⟩) (by assumption) ?_
    (try simp only [List.getElem_toArray, List.getElem_cons_succ, List.getElem_cons_zero, Act.put, List.setIfInBounds_toArray, List.set_cons_zero, List.set_cons_succ])
    refine wpAnyH_take (i := 12) (oi := _) (v := _) rfl (by as_aux_lemma => kernel_rfl) (by as_aux_lemma => kernel_rfl) (by as_aux_lemma => kernel_rfl) (fun _ _ _ h => h) (Or.inl ⟨by kernel_rfl, by (intro w hSw; (try dsimp only at hSw); go_simp; first | done | with_reducible rfl)⟩) (by assumption) ?_
    (try simp only [List.getElem_toArray, List.getElem_cons_succ, List.getElem_cons_zero, Act.put, List.setIfInBounds_toArray, List.set_cons_zero, List.set_cons_succ])
    refine wpAnyH_take (i := 13) (oi := _) (v := _) rfl (by as_aux_lemma => kernel_rfl) (by as_aux_lemma => kernel_rfl) (by as_aux_lemma => kernel_rfl) (fun _ _ _ h => h) (Or.inl ⟨by kernel_rfl, by (intro w hSw; (try dsimp only at hSw); go_simp; first | done | with_reducible rfl)⟩) (by assumption) ?_
    (try simp only [List.getElem_toArray, List.getElem_cons_succ, List.getElem_cons_zero, Act.put, List.setIfInBounds_toArray, List.set_cons_zero, List.set_cons_succ])
    refine wpAnyH_take (i := 14) (oi := _) (v := _) rfl (by as_aux_lemma => kernel_rfl) (by as_aux_lemma => kernel_rfl) (by as_aux_lemma => kernel_rfl) (fun _ _ _ h => h) (Or.inl ⟨by kernel_rfl, by (intro w hSw; (try dsimp only at hSw); go_simp; first | done | with_reducible rfl)⟩) (by assumption) ?_
    (try simp only [List.getElem_toArray, List.getElem_cons_succ, List.getElem_cons_zero, Act.put, List.setIfInBounds_toArray, List.set_cons_zero, List.set_cons_succ])
    refine wpAnyH_take (i := 16) (oi := _) (v := _) rfl (by as_aux_lemma => kernel_rfl) (by as_aux_lemma => kernel_rfl) (by as_aux_lemma => kernel_rfl) (fun _ _ _ h => h) (Or.inl ⟨by kernel_rfl, by (intro w hSw; (try dsimp only at hSw); go_simp; first | done | with_reducible rfl)⟩) (by assumption) ?_
    (try simp only [List.getElem_toArray, List.getElem_cons_succ, List.getElem_cons_zero, Act.put, List.setIfInBounds_toArray, List.set_cons_zero, List.set_cons_succ])
    refine wpAnyH_take (i := 17) (oi := _) (v := _) rfl (by as_aux_lemma => kernel_rfl) (by as_aux_lemma => kernel_rfl) (by as_aux_lemma => kernel_rfl) (fun _ _ _ h => h) (Or.inl ⟨by kernel_rfl, by (intro w hSw; (try dsimp only at hSw); go_simp; first | done | with_reducible rfl)⟩) (by assumption) ?_
    (try simp only [List.getElem_toArray, List.getElem_cons_succ, List.getElem_cons_zero, Act.put, List.setIfInBounds_toArray, List.set_cons_zero, List.set_cons_succ])
    refine wpAnyH_ready (rs := [15]) (by as_aux_lemma => kernel_rfl) (by simp) (AllReadyH.cons rfl (fun K hK => ?_) AllReadyH.nil)
    try simp only [List.getElem_toArray, List.getElem_cons_succ, List.getElem_cons_zero]
    go_simp
    go_at_call 42
    refine (of_v HH.out HK.out _ hu16).mono ?_
    rintro e wn ⟨rfl, hbn⟩
    have HB5 := Lib.hid (HB4.out.trans (hbn.mono HB4.out.size))
    have SA := KS.out _ HB5.out
    clear hbn
    go_simp
    refine hK.out _ _ (by exact SA) (fun hHeld => ?_)
    clear hK K
    (try simp only [List.getElem_toArray, List.getElem_cons_succ, List.getElem_cons_zero, Act.put, List.setIfInBounds_toArray, List.set_cons_zero, List.set_cons_succ])
    refine wpAnyH_ready (rs := [18]) (by as_aux_lemma => kernel_rfl) (by simp) (AllReadyH.cons rfl (fun K hK => ?_) AllReadyH.nil)
    try simp only [List.getElem_toArray, List.getElem_cons_succ, List.getElem_cons_zero]
    go_simp
    go_at_call 43
    refine (rof_v HH.out HK.out _ hu167).mono ?_
    rintro e wn ⟨rfl, hbn⟩
    have HB6 := Lib.hid (HB5.out.trans (hbn.mono HB5.out.size))
    have SA := KS.out _ HB6.out
    clear hbn
    go_simp
    refine hK.out _ _ (by exact SA) (fun hHeld => ?_)
    clear hK K
    (try simp only [List.getElem_toArray, List.getElem_cons_succ, List.getElem_cons_zero, Act.put, List.setIfInBounds_toArray, List.set_cons_zero, List.set_cons_succ])
    refine wpAnyH_take (i := 19) (oi := _) (v := _) rfl (by as_aux_lemma => kernel_rfl) (by as_aux_lemma => kernel_rfl) (by as_aux_lemma => kernel_rfl) (fun _ _ _ h => h) (Or.inl ⟨by kernel_rfl, by (intro w hSw; (try dsimp only at hSw); go_simp; first | done | with_reducible rfl)⟩) (by assumption) ?_
    (try simp only [List.getElem_toArray, List.getElem_cons_succ, List.getElem_cons_zero, Act.put, List.setIfInBounds_toArray, List.set_cons_zero, List.set_cons_succ])
    refine wpAnyH_take (i := 20) (oi := _) (v := _) rfl (by as_aux_lemma => kernel_rfl) (by as_aux_lemma => kernel_rfl) (by as_aux_lemma => kernel_rfl) (fun _ _ _ h => h) (Or.inl ⟨by kernel_rfl, by (intro w hSw; (try dsimp only at hSw); go_simp; first | done | with_reducible rfl)⟩) (by assumption) ?_
    (try simp only [List.getElem_toArray, List.getElem_cons_succ, List.getElem_cons_zero, Act.put, List.setIfInBounds_toArray, List.set_cons_zero, List.set_cons_succ])
    refine wpAnyH_take (i := 21) (oi := _) (v := _) rfl (by as_aux_lemma => kernel_rfl) (by as_aux_lemma => kernel_rfl) (by as_aux_lemma => kernel_rfl) (fun _ _ _ h => h) (Or.inl ⟨by kernel_rfl, by (intro w hSw; (try dsimp only at hSw); go_simp; first | done | with_reducible rfl)⟩) (by assumption) ?_
    (try simp only [List.getElem_toArray, List.getElem_cons_succ, List.getElem_cons_zero, Act.put, List.setIfInBounds_toArray, List.set_cons_zero, List.set_cons_succ])
    refine wpAnyH_take (i := 22) (oi := { dst := some 50, op := .load 28 (.tmp 7), type := 28, pos := "law.go:20", after := #[{ on := 21, ground := .guard }], guard := some (21, true) }) (v := _) rfl (by as_aux_lemma => kernel_rfl) (by as_aux_lemma => kernel_rfl) (by as_aux_lemma => kernel_rfl) (fun _ _ _ h => h) (Or.inl ⟨by kernel_rfl, by (intro w hSw; (try dsimp only at hSw); go_simp; first | done | with_reducible rfl)⟩) (by assumption) ?_
    (try simp only [List.getElem_toArray, List.getElem_cons_succ, List.getElem_cons_zero, Act.put, List.setIfInBounds_toArray, List.set_cons_zero, List.set_cons_succ])
    refine wpAnyH_take (i := 23) (oi := { dst := some 51, op := .load 28 (.tmp 9), type := 28, pos := "law.go:20", after := #[{ on := 21, ground := .guard }], guard := some (21, true) }) (v := _) rfl (by as_aux_lemma => kernel_rfl) (by as_aux_lemma => kernel_rfl) (by as_aux_lemma => kernel_rfl) (fun _ _ _ h => h) (Or.inl ⟨by kernel_rfl, by (intro w hSw; (try dsimp only at hSw); go_simp; first | done | with_reducible rfl)⟩) (by assumption) ?_
    (try simp only [List.getElem_toArray, List.getElem_cons_succ, List.getElem_cons_zero, Act.put, List.setIfInBounds_toArray, List.set_cons_zero, List.set_cons_succ])
    refine wpAnyH_take (i := 24) (oi := _) (v := _) rfl (by as_aux_lemma => kernel_rfl) (by as_aux_lemma => kernel_rfl) (by as_aux_lemma => kernel_rfl) (fun _ _ _ h => h) (Or.inl ⟨by kernel_rfl, by (intro w hSw; (try dsimp only at hSw); go_simp; first | done | with_reducible rfl)⟩) (by assumption) ?_
    (try simp only [List.getElem_toArray, List.getElem_cons_succ, List.getElem_cons_zero, Act.put, List.setIfInBounds_toArray, List.set_cons_zero, List.set_cons_succ])
    refine wpAnyH_take (i := 25) (oi := _) (v := _) rfl (by as_aux_lemma => kernel_rfl) (by as_aux_lemma => kernel_rfl) (by as_aux_lemma => kernel_rfl) (fun _ _ _ h => h) (Or.inl ⟨by kernel_rfl, by (intro w hSw; (try dsimp only at hSw); go_simp; first | done | with_reducible rfl)⟩) (by assumption) ?_
    (try simp only [List.getElem_toArray, List.getElem_cons_succ, List.getElem_cons_zero, Act.put, List.setIfInBounds_toArray, List.set_cons_zero, List.set_cons_succ])
    refine wpAnyH_take (i := 26) (oi := _) (v := _) rfl (by as_aux_lemma => kernel_rfl) (by as_aux_lemma => kernel_rfl) (by as_aux_lemma => kernel_rfl) (fun _ _ _ h => h) (Or.inl ⟨by kernel_rfl, by (intro w hSw; (try dsimp only at hSw); go_simp; first | done | with_reducible rfl)⟩) (by assumption) ?_
    (try simp only [List.getElem_toArray, List.getElem_cons_succ, List.getElem_cons_zero, Act.put, List.setIfInBounds_toArray, List.set_cons_zero, List.set_cons_succ])
    refine wpAnyH_take (i := 27) (oi := _) (v := _) rfl (by as_aux_lemma => kernel_rfl) (by as_aux_lemma => kernel_rfl) (by as_aux_lemma => kernel_rfl) (fun _ _ _ h => h) (Or.inl ⟨by kernel_rfl, by (intro w hSw; (try dsimp only at hSw); go_simp; first | done | with_reducible rfl)⟩) (by assumption) ?_
    (try simp only [List.getElem_toArray, List.getElem_cons_succ, List.getElem_cons_zero, Act.put, List.setIfInBounds_toArray, List.set_cons_zero, List.set_cons_succ])
    refine wpAnyH_take (i := 28) (oi := _) (v := _) rfl (by as_aux_lemma => kernel_rfl) (by as_aux_lemma => kernel_rfl) (by as_aux_lemma => kernel_rfl) (fun _ _ _ h => h) (Or.inl ⟨by kernel_rfl, by (intro w hSw; (try dsimp only at hSw); go_simp; first | done | with_reducible rfl)⟩) (by assumption) ?_
    (try simp only [List.getElem_toArray, List.getElem_cons_succ, List.getElem_cons_zero, Act.put, List.setIfInBounds_toArray, List.set_cons_zero, List.set_cons_succ])
    refine wpAnyH_take (i := 29) (oi := _) (v := _) rfl (by as_aux_lemma => kernel_rfl) (by as_aux_lemma => kernel_rfl) (by as_aux_lemma => kernel_rfl) (fun _ _ _ h => h) (Or.inl ⟨by kernel_rfl, by (intro w hSw; (try dsimp only at hSw); go_simp; first | done | with_reducible rfl)⟩) (by assumption) ?_
    (try simp only [List.getElem_toArray, List.getElem_cons_succ, List.getElem_cons_zero, Act.put, List.setIfInBounds_toArray, List.set_cons_zero, List.set_cons_succ])
    refine wpAnyH_take (i := 30) (oi := _) (v := _) rfl (by as_aux_lemma => kernel_rfl) (by as_aux_lemma => kernel_rfl) (by as_aux_lemma => kernel_rfl) (fun _ _ _ h => h) (Or.inl ⟨by kernel_rfl, by (intro w hSw; (try dsimp only at hSw); go_simp; first | done | with_reducible rfl)⟩) (by assumption) ?_
    (try simp only [List.getElem_toArray, List.getElem_cons_succ, List.getElem_cons_zero, Act.put, List.setIfInBounds_toArray, List.set_cons_zero, List.set_cons_succ])
    refine wpAnyH_take (i := 31) (oi := _) (v := _) rfl (by as_aux_lemma => kernel_rfl) (by as_aux_lemma => kernel_rfl) (by as_aux_lemma => kernel_rfl) (fun _ _ _ h => h) (Or.inl ⟨by kernel_rfl, by (intro w hSw; (try dsimp only at hSw); go_simp; first | done | with_reducible rfl)⟩) (by assumption) ?_
    (try simp only [List.getElem_toArray, List.getElem_cons_succ, List.getElem_cons_zero, Act.put, List.setIfInBounds_toArray, List.set_cons_zero, List.set_cons_succ])
    refine wpAnyH_take (i := 32) (oi := _) (v := _) rfl (by as_aux_lemma => kernel_rfl) (by as_aux_lemma => kernel_rfl) (by as_aux_lemma => kernel_rfl) (fun _ _ _ h => h) (Or.inl ⟨by kernel_rfl, by (intro w hSw; (try dsimp only at hSw); go_simp; first | done | with_reducible rfl)⟩) (by assumption) ?_
    (try simp only [List.getElem_toArray, List.getElem_cons_succ, List.getElem_cons_zero, Act.put, List.setIfInBounds_toArray, List.set_cons_zero, List.set_cons_succ])
    refine wpAnyH_take (i := 33) (oi := { dst := some 61, op := .load 28 (.tmp 60), type := 28, pos := "law.go:20", after := #[{ on := 32, ground := .data }, { on := 31, ground := .guard }], guard := some (31, true) }) (v := _) rfl (by as_aux_lemma => kernel_rfl) (by as_aux_lemma => kernel_rfl) (by as_aux_lemma => kernel_rfl) (fun _ _ _ h => h) (Or.inl ⟨by kernel_rfl, by (intro w hSw; (try dsimp only at hSw); go_simp; first | done | with_reducible rfl)⟩) (by assumption) ?_
    (try simp only [List.getElem_toArray, List.getElem_cons_succ, List.getElem_cons_zero, Act.put, List.setIfInBounds_toArray, List.set_cons_zero, List.set_cons_succ])
    refine wpAnyH_take (i := 35) (oi := _) (v := _) rfl (by as_aux_lemma => kernel_rfl) (by as_aux_lemma => kernel_rfl) (by as_aux_lemma => kernel_rfl) (fun _ _ _ h => h) (Or.inl ⟨by kernel_rfl, by (intro w hSw; (try dsimp only at hSw); go_simp; first | done | with_reducible rfl)⟩) (by assumption) ?_
    (try simp only [List.getElem_toArray, List.getElem_cons_succ, List.getElem_cons_zero, Act.put, List.setIfInBounds_toArray, List.set_cons_zero, List.set_cons_succ])
    refine wpAnyH_take (i := 36) (oi := { dst := some 64, op := .load 28 (.tmp 63), type := 28, pos := "law.go:20", after := #[{ on := 35, ground := .data }, { on := 31, ground := .guard }], guard := some (31, true) }) (v := _) rfl (by as_aux_lemma => kernel_rfl) (by as_aux_lemma => kernel_rfl) (by as_aux_lemma => kernel_rfl) (fun _ _ _ h => h) (Or.inl ⟨by kernel_rfl, by (intro w hSw; (try dsimp only at hSw); go_simp; first | done | with_reducible rfl)⟩) (by assumption) ?_
    (try simp only [List.getElem_toArray, List.getElem_cons_succ, List.getElem_cons_zero, Act.put, List.setIfInBounds_toArray, List.set_cons_zero, List.set_cons_succ])
    refine wpAnyH_ready (rs := [34]) (by as_aux_lemma => kernel_rfl) (by simp) (AllReadyH.cons rfl (fun K hK => ?_) AllReadyH.nil)
    try simp only [List.getElem_toArray, List.getElem_cons_succ, List.getElem_cons_zero]
    go_simp
    go_at_call 38
    refine (text_v HT.out _).mono ?_
    rintro e wn ⟨rfl, hbn⟩
    have HB7 := Lib.hid (HB6.out.trans (hbn.mono HB6.out.size))
    have SA := KS.out _ HB7.out
    clear hbn
    go_simp
    refine hK.out _ _ (by exact SA) (fun hHeld => ?_)
    clear hK K
    (try simp only [List.getElem_toArray, List.getElem_cons_succ, List.getElem_cons_zero, Act.put, List.setIfInBounds_toArray, List.set_cons_zero, List.set_cons_succ])
    refine wpAnyH_ready (rs := [37]) (by as_aux_lemma => kernel_rfl) (by simp) (AllReadyH.cons rfl (fun K hK => ?_) AllReadyH.nil)
    try simp only [List.getElem_toArray, List.getElem_cons_succ, List.getElem_cons_zero]
    go_simp
    go_at_call 44
    refine (rtext_v HT.out _).mono ?_
    rintro e wn ⟨rfl, hbn⟩
    have HB8 := Lib.hid (HB7.out.trans (hbn.mono HB7.out.size))
    have SA := KS.out _ HB8.out
    clear hbn
    go_simp
    refine hK.out _ _ (by exact SA) (fun hHeld => ?_)
    clear hK K
    (try simp only [List.getElem_toArray, List.getElem_cons_succ, List.getElem_cons_zero, Act.put, List.setIfInBounds_toArray, List.set_cons_zero, List.set_cons_succ])
    refine wpAnyH_take (i := 38) (oi := _) (v := _) rfl (by as_aux_lemma => kernel_rfl) (by as_aux_lemma => kernel_rfl) (by as_aux_lemma => kernel_rfl) (fun _ _ _ h => h) (Or.inl ⟨by kernel_rfl, by (intro w hSw; (try dsimp only at hSw); go_simp; first | done | with_reducible rfl)⟩) (by assumption) ?_
    (try simp only [List.getElem_toArray, List.getElem_cons_succ, List.getElem_cons_zero, Act.put, List.setIfInBounds_toArray, List.set_cons_zero, List.set_cons_succ])
    refine wpAnyH_take (i := 39) (oi := _) (v := _) rfl (by as_aux_lemma => kernel_rfl) (by as_aux_lemma => kernel_rfl) (by as_aux_lemma => kernel_rfl) (fun _ _ _ h => h) (Or.inl ⟨by kernel_rfl, by (intro w hSw; (try dsimp only at hSw); go_simp; first | done | with_reducible rfl)⟩) (by assumption) ?_
    (try simp only [List.getElem_toArray, List.getElem_cons_succ, List.getElem_cons_zero, Act.put, List.setIfInBounds_toArray, List.set_cons_zero, List.set_cons_succ])
    refine wpAnyH_take (i := 40) (oi := _) (v := _) rfl (by as_aux_lemma => kernel_rfl) (by as_aux_lemma => kernel_rfl) (by as_aux_lemma => kernel_rfl) (fun _ _ _ h => h) (Or.inl ⟨by kernel_rfl, by (intro w hSw; (try dsimp only at hSw); go_simp; first | done | with_reducible rfl)⟩) (by assumption) ?_
    (try simp only [List.getElem_toArray, List.getElem_cons_succ, List.getElem_cons_zero, Act.put, List.setIfInBounds_toArray, List.set_cons_zero, List.set_cons_succ])
    refine wpAnyH_take (i := 41) (oi := _) (v := _) rfl (by as_aux_lemma => kernel_rfl) (by as_aux_lemma => kernel_rfl) (by as_aux_lemma => kernel_rfl) (fun _ _ _ h => h) (Or.inl ⟨by kernel_rfl, by (intro w hSw; (try dsimp only at hSw); go_simp; first | done | with_reducible rfl)⟩) (by assumption) ?_
    (try simp only [List.getElem_toArray, List.getElem_cons_succ, List.getElem_cons_zero, Act.put, List.setIfInBounds_toArray, List.set_cons_zero, List.set_cons_succ])
    refine wpAnyH_take (i := 42) (oi := { dst := some 70, op := .load 28 (.tmp 69), type := 28, pos := "law.go:20", after := #[{ on := 41, ground := .data }, { on := 40, ground := .guard }], guard := some (40, true) }) (v := _) rfl (by as_aux_lemma => kernel_rfl) (by as_aux_lemma => kernel_rfl) (by as_aux_lemma => kernel_rfl) (fun _ _ _ h => h) (Or.inl ⟨by kernel_rfl, by (intro w hSw; (try dsimp only at hSw); go_simp; first | done | with_reducible rfl)⟩) (by assumption) ?_
    (try simp only [List.getElem_toArray, List.getElem_cons_succ, List.getElem_cons_zero, Act.put, List.setIfInBounds_toArray, List.set_cons_zero, List.set_cons_succ])
    refine wpAnyH_take (i := 43) (oi := _) (v := _) rfl (by as_aux_lemma => kernel_rfl) (by as_aux_lemma => kernel_rfl) (by as_aux_lemma => kernel_rfl) (fun _ _ _ h => h) (Or.inl ⟨by kernel_rfl, by (intro w hSw; (try dsimp only at hSw); go_simp; first | done | with_reducible rfl)⟩) (by assumption) ?_
    (try simp only [List.getElem_toArray, List.getElem_cons_succ, List.getElem_cons_zero, Act.put, List.setIfInBounds_toArray, List.set_cons_zero, List.set_cons_succ])
    refine wpAnyH_take (i := 44) (oi := { dst := some 72, op := .load 28 (.tmp 71), type := 28, pos := "law.go:20", after := #[{ on := 43, ground := .data }, { on := 40, ground := .guard }], guard := some (40, true) }) (v := _) rfl (by as_aux_lemma => kernel_rfl) (by as_aux_lemma => kernel_rfl) (by as_aux_lemma => kernel_rfl) (fun _ _ _ h => h) (Or.inl ⟨by kernel_rfl, by (intro w hSw; (try dsimp only at hSw); go_simp; first | done | with_reducible rfl)⟩) (by assumption) ?_
    (try simp only [List.getElem_toArray, List.getElem_cons_succ, List.getElem_cons_zero, Act.put, List.setIfInBounds_toArray, List.set_cons_zero, List.set_cons_succ])
    refine wpAnyH_take (i := 46) (oi := _) (v := _) rfl (by as_aux_lemma => kernel_rfl) (by as_aux_lemma => kernel_rfl) (by as_aux_lemma => kernel_rfl) (fun _ _ _ h => h) (Or.inl ⟨by kernel_rfl, by (intro w hSw; (try dsimp only at hSw); go_simp; first | done | with_reducible rfl)⟩) (by assumption) ?_
    (try simp only [List.getElem_toArray, List.getElem_cons_succ, List.getElem_cons_zero, Act.put, List.setIfInBounds_toArray, List.set_cons_zero, List.set_cons_succ])
    refine wpAnyH_take (i := 47) (oi := { dst := some 75, op := .load 28 (.tmp 74), type := 28, pos := "law.go:20", after := #[{ on := 46, ground := .data }, { on := 40, ground := .guard }], guard := some (40, true) }) (v := _) rfl (by as_aux_lemma => kernel_rfl) (by as_aux_lemma => kernel_rfl) (by as_aux_lemma => kernel_rfl) (fun _ _ _ h => h) (Or.inl ⟨by kernel_rfl, by (intro w hSw; (try dsimp only at hSw); go_simp; first | done | with_reducible rfl)⟩) (by assumption) ?_
    (try simp only [List.getElem_toArray, List.getElem_cons_succ, List.getElem_cons_zero, Act.put, List.setIfInBounds_toArray, List.set_cons_zero, List.set_cons_succ])
    refine wpAnyH_take (i := 48) (oi := _) (v := _) rfl (by as_aux_lemma => kernel_rfl) (by as_aux_lemma => kernel_rfl) (by as_aux_lemma => kernel_rfl) (fun _ _ _ h => h) (Or.inl ⟨by kernel_rfl, by (intro w hSw; (try dsimp only at hSw); go_simp; first | done | with_reducible rfl)⟩) (by assumption) ?_
    (try simp only [List.getElem_toArray, List.getElem_cons_succ, List.getElem_cons_zero, Act.put, List.setIfInBounds_toArray, List.set_cons_zero, List.set_cons_succ])
    refine wpAnyH_take (i := 49) (oi := { dst := some 77, op := .load 28 (.tmp 76), type := 28, pos := "law.go:20", after := #[{ on := 48, ground := .data }, { on := 40, ground := .guard }], guard := some (40, true) }) (v := _) rfl (by as_aux_lemma => kernel_rfl) (by as_aux_lemma => kernel_rfl) (by as_aux_lemma => kernel_rfl) (fun _ _ _ h => h) (Or.inl ⟨by kernel_rfl, by (intro w hSw; (try dsimp only at hSw); go_simp; first | done | with_reducible rfl)⟩) (by assumption) ?_
    (try simp only [List.getElem_toArray, List.getElem_cons_succ, List.getElem_cons_zero, Act.put, List.setIfInBounds_toArray, List.set_cons_zero, List.set_cons_succ])
    refine wpAnyH_ready (rs := [45]) (by as_aux_lemma => kernel_rfl) (by simp) (AllReadyH.cons rfl (fun K hK => ?_) AllReadyH.nil)
    try simp only [List.getElem_toArray, List.getElem_cons_succ, List.getElem_cons_zero]
    go_simp
    go_at_call 39
    refine (less_v I J HL.out _).mono ?_
    rintro e wn ⟨rfl, hbn⟩
    have HB9 := Lib.hid (HB8.out.trans (hbn.mono HB8.out.size))
    have SA := KS.out _ HB9.out
    clear hbn
    go_simp
    refine hK.out _ _ (by exact SA) (fun hHeld => ?_)
    clear hK K
    (try simp only [List.getElem_toArray, List.getElem_cons_succ, List.getElem_cons_zero, Act.put, List.setIfInBounds_toArray, List.set_cons_zero, List.set_cons_succ])
    refine wpAnyH_ready (rs := [50]) (by as_aux_lemma => kernel_rfl) (by simp) (AllReadyH.cons rfl (fun K hK => ?_) AllReadyH.nil)
    try simp only [List.getElem_toArray, List.getElem_cons_succ, List.getElem_cons_zero]
    go_simp
    go_at_call 45
    refine (rless_v I J HL.out _).mono ?_
    rintro e wn ⟨rfl, hbn⟩
    have HB10 := Lib.hid (HB9.out.trans (hbn.mono HB9.out.size))
    have SA := KS.out _ HB10.out
    clear hbn
    go_simp
    refine hK.out _ _ (by exact SA) (fun hHeld => ?_)
    clear hK K
    (try simp only [List.getElem_toArray, List.getElem_cons_succ, List.getElem_cons_zero, Act.put, List.setIfInBounds_toArray, List.set_cons_zero, List.set_cons_succ])
    refine wpAnyH_take (i := 51) (oi := _) (v := _) rfl (by as_aux_lemma => kernel_rfl) (by as_aux_lemma => kernel_rfl) (by as_aux_lemma => kernel_rfl) (fun _ _ _ h => h) (Or.inl ⟨by kernel_rfl, by (intro w hSw; (try dsimp only at hSw); go_simp; first | done | with_reducible rfl)⟩) (by assumption) ?_
    (try simp only [List.getElem_toArray, List.getElem_cons_succ, List.getElem_cons_zero, Act.put, List.setIfInBounds_toArray, List.set_cons_zero, List.set_cons_succ])
    refine wpAnyH_take (i := 52) (oi := _) (v := _) rfl (by as_aux_lemma => kernel_rfl) (by as_aux_lemma => kernel_rfl) (by as_aux_lemma => kernel_rfl) (fun _ _ _ h => h) (Or.inl ⟨by kernel_rfl, by (intro w hSw; (try dsimp only at hSw); go_simp; first | done | with_reducible rfl)⟩) (by assumption) ?_
    (try simp only [List.getElem_toArray, List.getElem_cons_succ, List.getElem_cons_zero, Act.put, List.setIfInBounds_toArray, List.set_cons_zero, List.set_cons_succ])
    refine wpAnyH_take (i := 53) (oi := _) (v := _) rfl (by as_aux_lemma => kernel_rfl) (by as_aux_lemma => kernel_rfl) (by as_aux_lemma => kernel_rfl) (fun _ _ _ h => h) (Or.inl ⟨by kernel_rfl, by (intro w hSw; (try dsimp only at hSw); go_simp; first | done | with_reducible rfl)⟩) (by assumption) ?_
    (try simp only [List.getElem_toArray, List.getElem_cons_succ, List.getElem_cons_zero, Act.put, List.setIfInBounds_toArray, List.set_cons_zero, List.set_cons_succ])
    refine wpAnyH_ready (rs := [54]) (by as_aux_lemma => kernel_rfl) (by simp) (AllReadyH.cons rfl (fun K hK => ?_) AllReadyH.nil)
    try simp only [List.getElem_toArray, List.getElem_cons_succ, List.getElem_cons_zero]
    go_simp
    go_at_call 23
    refine (dawake_any _).mono ?_
    rintro e wn ⟨rfl, hbn⟩
    have HB11 := Lib.hid (HB10.out.trans (hbn.mono HB10.out.size))
    have SA := KS.out _ HB11.out
    clear hbn
    go_simp
    refine hK.out _ _ (by exact SA) (fun hHeld => ?_)
    clear hK K
    (try simp only [List.getElem_toArray, List.getElem_cons_succ, List.getElem_cons_zero, Act.put, List.setIfInBounds_toArray, List.set_cons_zero, List.set_cons_succ])
    refine wpAnyH_take (i := 55) (oi := _) (v := _) rfl (by as_aux_lemma => kernel_rfl) (by as_aux_lemma => kernel_rfl) (by as_aux_lemma => kernel_rfl) (fun _ _ _ h => h) (Or.inl ⟨by kernel_rfl, by (intro w hSw; (try dsimp only at hSw); go_simp; first | done | with_reducible rfl)⟩) (by assumption) ?_
    (try simp only [List.getElem_toArray, List.getElem_cons_succ, List.getElem_cons_zero, Act.put, List.setIfInBounds_toArray, List.set_cons_zero, List.set_cons_succ])
    refine wpAnyH_take (i := 56) (oi := _) (v := _) rfl (by as_aux_lemma => kernel_rfl) (by as_aux_lemma => kernel_rfl) (by as_aux_lemma => kernel_rfl) (fun _ _ _ h => h) (Or.inl ⟨by kernel_rfl, by (intro w hSw; (try dsimp only at hSw); go_simp; first | done | with_reducible rfl)⟩) (by assumption) ?_
    (try simp only [List.getElem_toArray, List.getElem_cons_succ, List.getElem_cons_zero, Act.put, List.setIfInBounds_toArray, List.set_cons_zero, List.set_cons_succ])
    refine wpAnyH_done (by as_aux_lemma => kernel_rfl) ?_ _
    have BE := Lib.hid (X7.out.1.below.trans (HB11.out.mono X7.out.1.below.size))
    go_wp2
    go_ret
    exact ⟨rfl, BE.out⟩
  · by_cases h2k : s.size ≤ 2000
    · have h3 : (s.size : Int) ≤ 2000 := by omega
      have E := Lib.hid (cut2k_small s h2k)
      go_wp2_with fail
      go_meet
      exact ⟨by rw [E.out], T⟩
    · have h3 : ¬ (s.size : Int) ≤ 2000 := by omega
      have h4 : (2000 : Int) ≤ (s.size : Int) := by omega
      have E := Lib.hid (cut2k_big s h2k)
      go_wp2_with fail
      go_meet
      exact ⟨by rw [E.out], T⟩
end Go.Proofs.Ytbfmdingbgdflaa
