/- Walks: awake and size, of the laws on shards. -/
import Derived.Test.YthlnnclpfgokjaaShQ
import Derived.Test.YthlnnclpfgokjaaShN
import Derived.Test.YthlnnclpfgokjaaShI
import Derived.Test.YthlnnclpfgokjaaPick
import Derived.Deep.RegionHeld3
namespace Go.Proofs.Ythlnnclpfgokjaa
open Go.RowKit Gf
set_option linter.unusedVariables false
set_option linter.unusedSimpArgs false
theorem litReads (w : World) (T : TypeId) (cs : Array Value) (xs : List Value) (n : Nat) (h : cs = xs.toArray) (hn : n = xs.length) : Reads (w.alloc (.cells cs T)) (w.heap.size + 1) 1 (some ⟨w.heap.size, 0, none⟩) n xs := by
  subst h hn
  refine ⟨by omega, fun _ => ⟨_, rfl, by simp, fun j u hj => ?_⟩⟩
  have hj' : j < xs.length := by
    rcases Nat.lt_or_ge j xs.length with h | h
    · exact h
    · simp [h] at hj
  have := (World.rowIs_alloc w xs.toArray T (fun j => xs.getD j undef) (fun i hi => by simp at hi; simp [hi])).cell (i := j) (by simpa using hj')
  have ea : ({ block := w.heap.size, off := 0, spot := none } : Addr).add j = ⟨w.heap.size, j, none⟩ := by unfold Addr.add; split <;> simp_all
  rw [ea, this]
  simp [List.getD, hj]
def sA5 : ByteArray := ⟨#[97, 98, 99, 100, 101]⟩
def sAb : ByteArray := ⟨#[97, 98, 99]⟩
def sDe : ByteArray := ⟨#[100, 101, 0]⟩
def cutA : List ByteArray := [sAb, sDe]
theorem cut_a5 : cutR sA5 2 = (cutA, 0) := by
  unfold cutR; rw [if_pos (by omega)]
  show (cutL sA5 2, (0 : Int)) = _
  have : cutL sA5 2 = cutA := by decide +kernel
  rw [this]
def parA : ByteArray := sAt (parL cutA 1) 0
theorem enc_a : encR cutA 1 = ([parA], 0) := by
  rw [encR_yes ⟨by decide, by decide, by decide +kernel, by omega, by decide⟩]; rfl
theorem all_a : allL cutA 1 = [sAb, sDe, parA] := rfl
set_option maxRecDepth 100000 in
theorem reb_a : rebR [ByteArray.empty, sDe, parA] [false, true, true] 2 = ([sAb, sDe, parA], 0) := by
  rw [← all_a]
  refine reb_back cutA 1 _ _ (by decide) (by decide) (by decide) (by decide +kernel) rfl rfl (fun i hi ht => ?_) (by decide)
  have hi : i < 3 := hi
  have : i = 0 ∨ i = 1 ∨ i = 2 := by omega
  rcases this with h | h | h <;> subst h
  · cases ht
  · rfl
  · rfl
theorem awake_reb (W : World) (g1 g2 : Nat) (h1 : Reads W W.heap.size 1 (some ⟨g1, 0, none⟩) 3 (strV [ByteArray.empty, sDe, parA])) (h2 : Reads W W.heap.size 1 (some ⟨g2, 0, none⟩) 3 (boolV [false, true, true])) :
    Calls Try.prog 49 #[.slice (some ⟨g1, 0, none⟩) 3 3, .slice (some ⟨g2, 0, none⟩) 3 3, .int .i64 2] W fun e W' => RetStrs W W' e ([sAb, sDe, parA], 0) := by
  have := rebuild_any (some ⟨g1, 0, none⟩) 3 3 _ (some ⟨g2, 0, none⟩) 3 3 _ 2 W _ _ h1 (Nat.le_refl _) h2 (Nat.le_refl _) (by omega) (by omega) (by
    intro s hs
    have : s.size ≤ 3 := by
      simp only [List.mem_cons, List.not_mem_nil, or_false] at hs
      rcases hs with rfl | rfl | rfl
      · decide
      · decide
      · unfold parA; rw [parL_at _ _ _ (by decide), sumL_size]; decide
    omega)
  rw [reb_a] at this
  exact this
set_option maxRecDepth 100000 in
set_option maxHeartbeats 2000000 in
theorem shAwake_any (w : World) : Calls Try.prog 52 #[] w fun e w' => e = .returned (.bool true) ∧ Below w.heap.size w w' := by
  go_enter Try.func52, Try.ntmps52
  go_wp2_with fail
  refine (cut_any sA5 2 _ (by decide)).mono ?_
  rintro e w1 ⟨va, rfl, hoa, hba⟩
  rw [cut_a5] at hoa ⊢
  have HOA : Hid (w1.ownsRow w.heap.size 9 1 va 2 (strV cutA)) := Lib.hid hoa
  have HB1 := Lib.hid hba
  have s1 := hba.size
  clear hoa hba
  obtain ⟨ga, ca, hva, hca, hga, hga2⟩ : ∃ g c, va = .slice (some ⟨g, 0, none⟩) 2 c ∧ 2 ≤ c ∧ w.heap.size ≤ g ∧ g < w1.heap.size := by
    rcases HOA.out.2 with ⟨_, h2⟩ | ⟨g, cap, cur, rfl, h3, h4, h5, _⟩
    · omega
    · exact ⟨g, cap, rfl, h5, h3, (Array.getElem?_eq_some_iff.1 h4).1⟩
  subst hva
  have RA : Hid (Reads w1 w1.heap.size 1 (some ⟨ga, 0, none⟩) 2 (strV cutA)) := Lib.hid (by
    obtain ⟨A0, c0, e0, h0⟩ := own_reads HOA.out
    simp only [Value.slice.injEq, true_and] at e0
    obtain ⟨rfl, rfl⟩ := e0
    exact h0)
  go_wp2_with fail
  refine (encode_any _ 2 ca cutA 1 _ _ RA.out (Nat.le_refl _) (by omega) (by omega) (by omega) (by decide)).mono ?_
  rintro e w2 ⟨vp, rfl, hop, hbp⟩
  rw [enc_a] at hop ⊢
  have HOP : Hid (w2.ownsRow w1.heap.size 9 1 vp 1 (strV [parA])) := Lib.hid hop
  have HB2 := Lib.hid (HB1.out.trans (hbp.mono s1))
  have RA2 := Lib.hid (RA.out.below hbp)
  have s2 := hbp.size
  clear hop hbp
  obtain ⟨gp, cp, hvp, hcp, hgp, hgp2⟩ : ∃ g c, vp = .slice (some ⟨g, 0, none⟩) 1 c ∧ 1 ≤ c ∧ w1.heap.size ≤ g ∧ g < w2.heap.size := by
    rcases HOP.out.2 with ⟨_, h2⟩ | ⟨g, cap, cur, rfl, h3, h4, h5, _⟩
    · omega
    · exact ⟨g, cap, rfl, h5, h3, (Array.getElem?_eq_some_iff.1 h4).1⟩
  subst hvp
  have RP : Hid (Reads w2 w2.heap.size 1 (some ⟨gp, 0, none⟩) 1 (strV [parA])) := Lib.hid (by
    obtain ⟨A0, c0, e0, h0⟩ := own_reads HOP.out
    simp only [Value.slice.injEq, true_and] at e0
    obtain ⟨rfl, rfl⟩ := e0
    exact h0)
  have RL : Hid (Reads (w2.alloc (.cells #[.string sAb, .string sDe] 9)) (w2.heap.size + 1) 1 (some ⟨w2.heap.size, 0, none⟩) 2 (strV cutA)) := Lib.hid (litReads w2 9 _ (strV cutA) 2 rfl rfl)
  have RA3 : Hid (Reads (w2.alloc (.cells #[.string sAb, .string sDe] 9)) w1.heap.size 1 (some ⟨ga, 0, none⟩) 2 (strV cutA)) := Lib.hid (RA2.out.alloc s2 _)
  unfold sAb sDe at RL RA3
  go_wp2_with fail
  refine (same_self _ _ 2 ca 2 2 cutA _ _ _ RA3.out RL.out (by omega) (by omega)).mono ?_
  rintro e w3 ⟨rfl, q, rfl⟩
  have HB3 : Hid (Below w.heap.size w ((w2.alloc (.cells #[.string ⟨#[97, 98, 99]⟩, .string ⟨#[100, 101, 0]⟩] 9)).drewN q)) := Lib.hid (below_drewN (HB2.out.alloc HB2.out.size _) _)
  go_wp2
  generalize hW : (w2.alloc (.cells #[.string ⟨#[97, 98, 99]⟩, .string ⟨#[100, 101, 0]⟩] 9)).drewN q = W at HB3
  have hWb : Below w2.heap.size w2 W := by rw [← hW]; exact below_drewN ((Below.refl w2.heap.size w2).alloc (Nat.le_refl _) _) _
  have RAW := Lib.hid (RA2.out.below (hWb.mono s2))
  have RPW := Lib.hid (RP.out.below hWb)
  have sW := hWb.size
  have KX : Hid (∀ W', Below W.heap.size W W' → W'.cell? ⟨ga, 1, none⟩ = some (.string sDe) ∧ W'.cell? ⟨gp, 0, none⟩ = some (.string parA)) := Lib.hid (fun W' hb => by
    obtain ⟨ad, e, _, hc⟩ := RAW.out.2 (by omega)
    injection e with e; subst e
    obtain ⟨ad', e', _, hc'⟩ := RPW.out.2 (by omega)
    injection e' with e'; subst e'
    have h1 := hc 1 (.string sDe) rfl
    have h2 := hc' 0 (.string parA) rfl
    rw [add0] at h1 h2
    exact ⟨(hb.cell (p := ⟨ga, 1, none⟩) (by show ga < _; omega)).trans h1, (hb.cell (p := ⟨gp, 0, none⟩) (by show gp < _; omega)).trans h2⟩)
  clear hW hWb RL RA3
  have R1 : Hid (∀ V : World, Calls Try.prog 49 #[.slice (some ⟨V.heap.size, 0, none⟩) 3 3, .slice (some ⟨V.heap.size + 1, 0, none⟩) 3 3, .int .i64 2]
      ((V.alloc (.cells #[.string ⟨#[]⟩, .string sDe, .string parA] 9)).alloc (.cells #[.bool false, .bool true, .bool true] 4)) fun e W' => ∃ v, e = .returned (.tuple #[v, .int .i64 0]) ∧ W'.ownsRow V.heap.size 9 1 v 3 (strV [sAb, sDe, parA]) ∧ Below V.heap.size V W') := Lib.hid (fun V => by
    have h1 := ((litReads V 9 #[.string ⟨#[]⟩, .string sDe, .string parA] (strV [ByteArray.empty, sDe, parA]) 3 rfl rfl).alloc (by simp) (.cells #[.bool false, .bool true, .bool true] 4)).more (show V.heap.size + 1 ≤ ((V.alloc (.cells #[.string ⟨#[]⟩, .string sDe, .string parA] 9)).alloc (.cells #[.bool false, .bool true, .bool true] 4)).heap.size by simp)
    have h2 := (litReads (V.alloc (.cells #[.string ⟨#[]⟩, .string sDe, .string parA] 9)) 4 #[.bool false, .bool true, .bool true] (boolV [false, true, true]) 3 rfl rfl).more (show _ ≤ ((V.alloc (.cells #[.string ⟨#[]⟩, .string sDe, .string parA] 9)).alloc (.cells #[.bool false, .bool true, .bool true] 4)).heap.size by simp)
    refine (awake_reb _ V.heap.size (V.heap.size + 1) h1 (by simpa using h2)).mono fun e W' ⟨v, he, ho, hb⟩ => ⟨v, he, own_base ho (by simp; omega), ?_⟩
    exact (((Below.refl V.heap.size V).alloc (Nat.le_refl _) _).alloc (by simp) _).trans (hb.mono (by simp; omega)))
  have R2 : Hid (∀ V : World, Calls Try.prog 49 #[.slice (some ⟨V.heap.size + 1, 0, none⟩) 3 3, .slice (some ⟨V.heap.size, 0, none⟩) 3 3, .int .i64 2]
      ((V.alloc (.cells #[.bool false, .bool true, .bool true] 4)).alloc (.cells #[.string ⟨#[]⟩, .string sDe, .string parA] 9)) fun e W' => ∃ v, e = .returned (.tuple #[v, .int .i64 0]) ∧ W'.ownsRow V.heap.size 9 1 v 3 (strV [sAb, sDe, parA]) ∧ Below V.heap.size V W') := Lib.hid (fun V => by
    have h2 := ((litReads V 4 #[.bool false, .bool true, .bool true] (boolV [false, true, true]) 3 rfl rfl).alloc (by simp) (.cells #[.string ⟨#[]⟩, .string sDe, .string parA] 9)).more (show V.heap.size + 1 ≤ ((V.alloc (.cells #[.bool false, .bool true, .bool true] 4)).alloc (.cells #[.string ⟨#[]⟩, .string sDe, .string parA] 9)).heap.size by simp)
    have h1 := (litReads (V.alloc (.cells #[.bool false, .bool true, .bool true] 4)) 9 #[.string ⟨#[]⟩, .string sDe, .string parA] (strV [ByteArray.empty, sDe, parA]) 3 rfl rfl).more (show _ ≤ ((V.alloc (.cells #[.bool false, .bool true, .bool true] 4)).alloc (.cells #[.string ⟨#[]⟩, .string sDe, .string parA] 9)).heap.size by simp)
    refine (awake_reb _ (V.heap.size + 1) V.heap.size (by simpa using h1) h2).mono fun e W' ⟨v, he, ho, hb⟩ => ⟨v, he, own_base ho (by simp; omega), ?_⟩
    exact (((Below.refl V.heap.size V).alloc (Nat.le_refl _) _).alloc (by simp) _).trans (hb.mono (by simp; omega)))
  refine wp_region_held_drew (S := fun w' => w'.cell? ⟨ga, 1, none⟩ = some (.string sDe) ∧ w'.cell? ⟨gp, 0, none⟩ = some (.string parA)) (by kernel_rfl) (by first | exact KX.out _ ((Below.refl _ _).drew) | exact KX.out _ (((Below.refl _ _).drew).alloc (Nat.le_refl _) _) | exact KX.out _ ((((Below.refl _ _).drew).alloc (Nat.le_refl _) _).alloc (by simp) _) | exact KX.out _ (((Below.refl _ _).drew).trans hb7)) (fun hHeld => ?_)
  refine wpAnyH_take (i := 0) (oi := _) (v := _) rfl (by as_aux_lemma => kernel_rfl) (by as_aux_lemma => kernel_rfl) (by as_aux_lemma => kernel_rfl) (fun _ _ _ h => h) (Or.inl ⟨by kernel_rfl, by (intro w hSw; (try dsimp only at hSw); go_simp; first | done | with_reducible rfl)⟩) (by assumption) ?_
  (try simp only [List.getElem_toArray, List.getElem_cons_succ, List.getElem_cons_zero, Act.put, List.setIfInBounds_toArray, List.set_cons_zero, List.set_cons_succ])
  refine wpAnyH_take (i := 1) (oi := _) (v := _) rfl (by as_aux_lemma => kernel_rfl) (by as_aux_lemma => kernel_rfl) (by as_aux_lemma => kernel_rfl) (fun _ _ _ h => h) (Or.inl ⟨by kernel_rfl, by (intro w hSw; (try dsimp only at hSw); go_simp; first | done | with_reducible rfl)⟩) (by assumption) ?_
  (try simp only [List.getElem_toArray, List.getElem_cons_succ, List.getElem_cons_zero, Act.put, List.setIfInBounds_toArray, List.set_cons_zero, List.set_cons_succ])
  refine wpAnyH_take (i := 2) (oi := _) (v := _) rfl (by as_aux_lemma => kernel_rfl) (by as_aux_lemma => kernel_rfl) (by as_aux_lemma => kernel_rfl) (fun _ _ _ h => h) (Or.inl ⟨by kernel_rfl, by (intro w hSw; (try dsimp only at hSw); go_simp; first | done | with_reducible rfl)⟩) (by assumption) ?_
  (try simp only [List.getElem_toArray, List.getElem_cons_succ, List.getElem_cons_zero, Act.put, List.setIfInBounds_toArray, List.set_cons_zero, List.set_cons_succ])
  refine wpAnyH_take (i := 3) (oi := _) (v := _) rfl (by as_aux_lemma => kernel_rfl) (by as_aux_lemma => kernel_rfl) (by as_aux_lemma => kernel_rfl) (fun _ _ _ h => h) (Or.inl ⟨by kernel_rfl, by (intro w hSw; (try dsimp only at hSw); go_simp; first | done | with_reducible rfl)⟩) (by assumption) ?_
  (try simp only [List.getElem_toArray, List.getElem_cons_succ, List.getElem_cons_zero, Act.put, List.setIfInBounds_toArray, List.set_cons_zero, List.set_cons_succ])
  refine wpAnyH_take (i := 4) (oi := _) (v := _) rfl (by as_aux_lemma => kernel_rfl) (by as_aux_lemma => kernel_rfl) (by as_aux_lemma => kernel_rfl) (fun _ _ _ h => h) (Or.inl ⟨by kernel_rfl, by (intro w hSw; (try dsimp only at hSw); go_simp; first | done | with_reducible rfl)⟩) (by assumption) ?_
  (try simp only [List.getElem_toArray, List.getElem_cons_succ, List.getElem_cons_zero, Act.put, List.setIfInBounds_toArray, List.set_cons_zero, List.set_cons_succ])
  refine wpAnyH_take (i := 5) (oi := _) (v := _) rfl (by as_aux_lemma => kernel_rfl) (by as_aux_lemma => kernel_rfl) (by as_aux_lemma => kernel_rfl) (fun _ _ _ h => h) (Or.inl ⟨by kernel_rfl, by (intro w hSw; (try dsimp only at hSw); go_simp; first | done | with_reducible rfl)⟩) (by assumption) ?_
  (try simp only [List.getElem_toArray, List.getElem_cons_succ, List.getElem_cons_zero, Act.put, List.setIfInBounds_toArray, List.set_cons_zero, List.set_cons_succ])
  refine wpAnyH_ready (rs := [6, 7]) (by as_aux_lemma => kernel_rfl) (by simp) (AllReadyH.cons rfl (fun KK hK => ?_) (AllReadyH.cons rfl (fun KK hK => ?_) AllReadyH.nil))
  · try simp only [List.getElem_toArray, List.getElem_cons_succ, List.getElem_cons_zero]
    go_simp
    refine hK.out _ _ (by first | exact KX.out _ ((Below.refl _ _).drew) | exact KX.out _ (((Below.refl _ _).drew).alloc (Nat.le_refl _) _) | exact KX.out _ ((((Below.refl _ _).drew).alloc (Nat.le_refl _) _).alloc (by simp) _) | exact KX.out _ (((Below.refl _ _).drew).trans hb7)) (fun hHeld => ?_)
    clear hK KK
    (try simp only [List.getElem_toArray, List.getElem_cons_succ, List.getElem_cons_zero, Act.put, List.setIfInBounds_toArray, List.set_cons_zero, List.set_cons_succ])
    refine wpAnyH_ready (rs := [7]) (by as_aux_lemma => kernel_rfl) (by simp) (AllReadyH.cons rfl (fun KK hK => ?_) AllReadyH.nil)
    try simp only [List.getElem_toArray, List.getElem_cons_succ, List.getElem_cons_zero]
    go_simp
    refine hK.out _ _ (by first | exact KX.out _ ((Below.refl _ _).drew) | exact KX.out _ (((Below.refl _ _).drew).alloc (Nat.le_refl _) _) | exact KX.out _ ((((Below.refl _ _).drew).alloc (Nat.le_refl _) _).alloc (by simp) _) | exact KX.out _ (((Below.refl _ _).drew).trans hb7)) (fun hHeld => ?_)
    clear hK KK
    (try simp only [List.getElem_toArray, List.getElem_cons_succ, List.getElem_cons_zero, Act.put, List.setIfInBounds_toArray, List.set_cons_zero, List.set_cons_succ])
    refine wpAnyH_ready (rs := [8]) (by as_aux_lemma => kernel_rfl) (by simp) (AllReadyH.cons rfl (fun KK hK => ?_) AllReadyH.nil)
    try simp only [List.getElem_toArray, List.getElem_cons_succ, List.getElem_cons_zero]
    go_simp
    go_at_call 49
    refine (R1.out W.drew).mono ?_
    rintro e w7 ⟨v7, rfl, ho7, hb7⟩
    go_simp
    refine hK.out _ _ (by first | exact KX.out _ ((Below.refl _ _).drew) | exact KX.out _ (((Below.refl _ _).drew).alloc (Nat.le_refl _) _) | exact KX.out _ ((((Below.refl _ _).drew).alloc (Nat.le_refl _) _).alloc (by simp) _) | exact KX.out _ (((Below.refl _ _).drew).trans hb7)) (fun hHeld => ?_)
    clear hK KK
    (try simp only [List.getElem_toArray, List.getElem_cons_succ, List.getElem_cons_zero, Act.put, List.setIfInBounds_toArray, List.set_cons_zero, List.set_cons_succ])
    refine wpAnyH_take (i := 9) (oi := _) (v := _) rfl (by as_aux_lemma => kernel_rfl) (by as_aux_lemma => kernel_rfl) (by as_aux_lemma => kernel_rfl) (fun _ _ _ h => h) (Or.inl ⟨by kernel_rfl, by (intro w hSw; (try dsimp only at hSw); go_simp; first | done | with_reducible rfl)⟩) (by assumption) ?_
    (try simp only [List.getElem_toArray, List.getElem_cons_succ, List.getElem_cons_zero, Act.put, List.setIfInBounds_toArray, List.set_cons_zero, List.set_cons_succ])
    refine wpAnyH_take (i := 10) (oi := _) (v := _) rfl (by as_aux_lemma => kernel_rfl) (by as_aux_lemma => kernel_rfl) (by as_aux_lemma => kernel_rfl) (fun _ _ _ h => h) (Or.inl ⟨by kernel_rfl, by (intro w hSw; (try dsimp only at hSw); go_simp; first | done | with_reducible rfl)⟩) (by assumption) ?_
    (try simp only [List.getElem_toArray, List.getElem_cons_succ, List.getElem_cons_zero, Act.put, List.setIfInBounds_toArray, List.set_cons_zero, List.set_cons_succ])
    refine wpAnyH_take (i := 11) (oi := _) (v := _) rfl (by as_aux_lemma => kernel_rfl) (by as_aux_lemma => kernel_rfl) (by as_aux_lemma => kernel_rfl) (fun _ _ _ h => h) (Or.inl ⟨by kernel_rfl, by (intro w hSw; (try dsimp only at hSw); go_simp; first | done | with_reducible rfl)⟩) (by assumption) ?_
    (try simp only [List.getElem_toArray, List.getElem_cons_succ, List.getElem_cons_zero, Act.put, List.setIfInBounds_toArray, List.set_cons_zero, List.set_cons_succ])
    refine wpAnyH_take (i := 12) (oi := _) (v := _) rfl (by as_aux_lemma => kernel_rfl) (by as_aux_lemma => kernel_rfl) (by as_aux_lemma => kernel_rfl) (fun _ _ _ h => h) (Or.inl ⟨by kernel_rfl, by (intro w hSw; (try dsimp only at hSw); go_simp; first | done | with_reducible rfl)⟩) (by assumption) ?_
    (try simp only [List.getElem_toArray, List.getElem_cons_succ, List.getElem_cons_zero, Act.put, List.setIfInBounds_toArray, List.set_cons_zero, List.set_cons_succ])
    refine wpAnyH_take (i := 13) (oi := _) (v := _) rfl (by as_aux_lemma => kernel_rfl) (by as_aux_lemma => kernel_rfl) (by as_aux_lemma => kernel_rfl) (fun _ _ _ h => h) (Or.inl ⟨by kernel_rfl, by (intro w hSw; (try dsimp only at hSw); go_simp; first | done | with_reducible rfl)⟩) (by assumption) ?_
    (try simp only [List.getElem_toArray, List.getElem_cons_succ, List.getElem_cons_zero, Act.put, List.setIfInBounds_toArray, List.set_cons_zero, List.set_cons_succ])
    refine wpAnyH_done (by as_aux_lemma => kernel_rfl) ?_ _
    have HB7 : Hid (Below w.heap.size w w7) := Lib.hid (HB3.out.trans ((((Below.refl W.heap.size W).drew).trans hb7).mono HB3.out.size))
    obtain ⟨g7, c7, hv7, hc7, hg7, hg72⟩ : ∃ g c, v7 = .slice (some ⟨g, 0, none⟩) 3 c ∧ 3 ≤ c ∧ W.heap.size ≤ g ∧ g < w7.heap.size := by
      rcases ho7.2 with ⟨_, h2⟩ | ⟨g, cap, cur, rfl, h3, h4, h5, _⟩
      · omega
      · exact ⟨g, cap, rfl, h5, h3, (Array.getElem?_eq_some_iff.1 h4).1⟩
    subst hv7
    have hcs := ho7.cells (g := g7) rfl
    have k0 := hcs 0 (.string sAb) rfl
    have k1 := hcs 1 (.string sDe) rfl
    have k2 := hcs 2 (.string parA) rfl
    obtain ⟨ka, kp⟩ := KX.out _ (((Below.refl _ _).drew).trans hb7)
    rw [add0] at k0 k1 k2
    have t0 : (sAb.toList == [97, 98, 99]) = true := by decide +kernel
    clear hb7 ho7 hcs hHeld
    go_wp2
    go_quiet (fail)
    go_wp2
    go_ret
    exact ⟨rfl, below_drewN HB7.out _⟩
  · try simp only [List.getElem_toArray, List.getElem_cons_succ, List.getElem_cons_zero]
    go_simp
    refine hK.out _ _ (by first | exact KX.out _ ((Below.refl _ _).drew) | exact KX.out _ (((Below.refl _ _).drew).alloc (Nat.le_refl _) _) | exact KX.out _ ((((Below.refl _ _).drew).alloc (Nat.le_refl _) _).alloc (by simp) _) | exact KX.out _ (((Below.refl _ _).drew).trans hb7)) (fun hHeld => ?_)
    clear hK KK
    (try simp only [List.getElem_toArray, List.getElem_cons_succ, List.getElem_cons_zero, Act.put, List.setIfInBounds_toArray, List.set_cons_zero, List.set_cons_succ])
    refine wpAnyH_ready (rs := [6]) (by as_aux_lemma => kernel_rfl) (by simp) (AllReadyH.cons rfl (fun KK hK => ?_) AllReadyH.nil)
    try simp only [List.getElem_toArray, List.getElem_cons_succ, List.getElem_cons_zero]
    go_simp
    refine hK.out _ _ (by first | exact KX.out _ ((Below.refl _ _).drew) | exact KX.out _ (((Below.refl _ _).drew).alloc (Nat.le_refl _) _) | exact KX.out _ ((((Below.refl _ _).drew).alloc (Nat.le_refl _) _).alloc (by simp) _) | exact KX.out _ (((Below.refl _ _).drew).trans hb7)) (fun hHeld => ?_)
    clear hK KK
    (try simp only [List.getElem_toArray, List.getElem_cons_succ, List.getElem_cons_zero, Act.put, List.setIfInBounds_toArray, List.set_cons_zero, List.set_cons_succ])
    refine wpAnyH_ready (rs := [8]) (by as_aux_lemma => kernel_rfl) (by simp) (AllReadyH.cons rfl (fun KK hK => ?_) AllReadyH.nil)
    try simp only [List.getElem_toArray, List.getElem_cons_succ, List.getElem_cons_zero]
    go_simp
    go_at_call 49
    refine (R2.out W.drew).mono ?_
    rintro e w7 ⟨v7, rfl, ho7, hb7⟩
    go_simp
    refine hK.out _ _ (by first | exact KX.out _ ((Below.refl _ _).drew) | exact KX.out _ (((Below.refl _ _).drew).alloc (Nat.le_refl _) _) | exact KX.out _ ((((Below.refl _ _).drew).alloc (Nat.le_refl _) _).alloc (by simp) _) | exact KX.out _ (((Below.refl _ _).drew).trans hb7)) (fun hHeld => ?_)
    clear hK KK
    (try simp only [List.getElem_toArray, List.getElem_cons_succ, List.getElem_cons_zero, Act.put, List.setIfInBounds_toArray, List.set_cons_zero, List.set_cons_succ])
    refine wpAnyH_take (i := 9) (oi := _) (v := _) rfl (by as_aux_lemma => kernel_rfl) (by as_aux_lemma => kernel_rfl) (by as_aux_lemma => kernel_rfl) (fun _ _ _ h => h) (Or.inl ⟨by kernel_rfl, by (intro w hSw; (try dsimp only at hSw); go_simp; first | done | with_reducible rfl)⟩) (by assumption) ?_
    (try simp only [List.getElem_toArray, List.getElem_cons_succ, List.getElem_cons_zero, Act.put, List.setIfInBounds_toArray, List.set_cons_zero, List.set_cons_succ])
    refine wpAnyH_take (i := 10) (oi := _) (v := _) rfl (by as_aux_lemma => kernel_rfl) (by as_aux_lemma => kernel_rfl) (by as_aux_lemma => kernel_rfl) (fun _ _ _ h => h) (Or.inl ⟨by kernel_rfl, by (intro w hSw; (try dsimp only at hSw); go_simp; first | done | with_reducible rfl)⟩) (by assumption) ?_
    (try simp only [List.getElem_toArray, List.getElem_cons_succ, List.getElem_cons_zero, Act.put, List.setIfInBounds_toArray, List.set_cons_zero, List.set_cons_succ])
    refine wpAnyH_take (i := 11) (oi := _) (v := _) rfl (by as_aux_lemma => kernel_rfl) (by as_aux_lemma => kernel_rfl) (by as_aux_lemma => kernel_rfl) (fun _ _ _ h => h) (Or.inl ⟨by kernel_rfl, by (intro w hSw; (try dsimp only at hSw); go_simp; first | done | with_reducible rfl)⟩) (by assumption) ?_
    (try simp only [List.getElem_toArray, List.getElem_cons_succ, List.getElem_cons_zero, Act.put, List.setIfInBounds_toArray, List.set_cons_zero, List.set_cons_succ])
    refine wpAnyH_take (i := 12) (oi := _) (v := _) rfl (by as_aux_lemma => kernel_rfl) (by as_aux_lemma => kernel_rfl) (by as_aux_lemma => kernel_rfl) (fun _ _ _ h => h) (Or.inl ⟨by kernel_rfl, by (intro w hSw; (try dsimp only at hSw); go_simp; first | done | with_reducible rfl)⟩) (by assumption) ?_
    (try simp only [List.getElem_toArray, List.getElem_cons_succ, List.getElem_cons_zero, Act.put, List.setIfInBounds_toArray, List.set_cons_zero, List.set_cons_succ])
    refine wpAnyH_take (i := 13) (oi := _) (v := _) rfl (by as_aux_lemma => kernel_rfl) (by as_aux_lemma => kernel_rfl) (by as_aux_lemma => kernel_rfl) (fun _ _ _ h => h) (Or.inl ⟨by kernel_rfl, by (intro w hSw; (try dsimp only at hSw); go_simp; first | done | with_reducible rfl)⟩) (by assumption) ?_
    (try simp only [List.getElem_toArray, List.getElem_cons_succ, List.getElem_cons_zero, Act.put, List.setIfInBounds_toArray, List.set_cons_zero, List.set_cons_succ])
    refine wpAnyH_done (by as_aux_lemma => kernel_rfl) ?_ _
    have HB7 : Hid (Below w.heap.size w w7) := Lib.hid (HB3.out.trans ((((Below.refl W.heap.size W).drew).trans hb7).mono HB3.out.size))
    obtain ⟨g7, c7, hv7, hc7, hg7, hg72⟩ : ∃ g c, v7 = .slice (some ⟨g, 0, none⟩) 3 c ∧ 3 ≤ c ∧ W.heap.size ≤ g ∧ g < w7.heap.size := by
      rcases ho7.2 with ⟨_, h2⟩ | ⟨g, cap, cur, rfl, h3, h4, h5, _⟩
      · omega
      · exact ⟨g, cap, rfl, h5, h3, (Array.getElem?_eq_some_iff.1 h4).1⟩
    subst hv7
    have hcs := ho7.cells (g := g7) rfl
    have k0 := hcs 0 (.string sAb) rfl
    have k1 := hcs 1 (.string sDe) rfl
    have k2 := hcs 2 (.string parA) rfl
    obtain ⟨ka, kp⟩ := KX.out _ (((Below.refl _ _).drew).trans hb7)
    rw [add0] at k0 k1 k2
    have t0 : (sAb.toList == [97, 98, 99]) = true := by decide +kernel
    clear hb7 ho7 hcs hHeld
    go_wp2
    go_quiet (fail)
    go_wp2
    go_ret
    exact ⟨rfl, below_drewN HB7.out _⟩
end Go.Proofs.Ythlnnclpfgokjaa
