/- Walk: pack.Scan's function: one more entry. -/
import Derived.Test.YtpfccicahfncbaaMgPackBack3
import Derived.Test.YtpfccicahfncbaaMgPackBack4
import Derived.Test.YtpfccicahfncbaaMgPackBack1
import Derived.OneCell
import Derived.Lib.OwnKind
namespace Go.Proofs.Ytpfccicahfncbaa
open Go.RowKit Wir Dig
set_option linter.unusedVariables false
set_option linter.unusedSimpArgs false
def bslE (a : Value) : Sem Next := do pure (.value (← Instr.buildSlice 36 1 #[(0, a)]))
theorem execOp_bslE (ρ : Operand → Value) (dst : Option Tmp) (a : Operand) (ty : TypeId) (pos : String) (after : Array Edge) (guard : Option (Nat × Bool)) :
    execOp ρ { dst, op := .buildSlice 36 1 #[(0, a)], type := ty, pos, after, guard } = bslE (ρ a) := by
  unfold execOp bslE; simp
theorem run_bslE (w : World) (vs : Array Value) (h : vs.size = 35) : (bslE (.agg vs)).run Try.prog w = .ok (.value (.slice (some ⟨w.heap.size, 0, none⟩) 1 1)) (w.alloc (.cells vs 44)) := by
  obtain ⟨l⟩ := vs
  obtain ⟨a0, a1, a2, a3, a4, a5, a6, a7, a8, a9, a10, a11, a12, a13, a14, a15, a16, a17, a18, a19, a20, a21, a22, a23, a24, a25, a26, a27, a28, a29, a30, a31, a32, a33, a34, e⟩ : ∃ a0 a1 a2 a3 a4 a5 a6 a7 a8 a9 a10 a11 a12 a13 a14 a15 a16 a17 a18 a19 a20 a21 a22 a23 a24 a25 a26 a27 a28 a29 a30 a31 a32 a33 a34, l = [a0, a1, a2, a3, a4, a5, a6, a7, a8, a9, a10, a11, a12, a13, a14, a15, a16, a17, a18, a19, a20, a21, a22, a23, a24, a25, a26, a27, a28, a29, a30, a31, a32, a33, a34] := by
    match l, h with
    | a0 :: a1 :: a2 :: a3 :: a4 :: a5 :: a6 :: a7 :: a8 :: a9 :: a10 :: a11 :: a12 :: a13 :: a14 :: a15 :: a16 :: a17 :: a18 :: a19 :: a20 :: a21 :: a22 :: a23 :: a24 :: a25 :: a26 :: a27 :: a28 :: a29 :: a30 :: a31 :: a32 :: a33 :: a34 :: [], _ => exact ⟨a0, a1, a2, a3, a4, a5, a6, a7, a8, a9, a10, a11, a12, a13, a14, a15, a16, a17, a18, a19, a20, a21, a22, a23, a24, a25, a26, a27, a28, a29, a30, a31, a32, a33, a34, rfl⟩
  subst e
  unfold bslE
  go_simp
attribute [local go_sem ↓] execOp_ld35 execOp_st35 execOp_ld32 execOp_st32 execOp_bslE
attribute [local go_sem] run_ld35 run_st35 run_ld32 run_st32 run_bslE
theorem elemEnt : ElemN Try.prog 36 44 (.agg #[.int .u8 0, .int .u8 0, .int .u8 0, .int .u8 0, .int .u8 0, .int .u8 0, .int .u8 0, .int .u8 0, .int .u8 0, .int .u8 0, .int .u8 0, .int .u8 0, .int .u8 0, .int .u8 0, .int .u8 0, .int .u8 0, .int .u8 0, .int .u8 0, .int .u8 0, .int .u8 0, .int .u8 0, .int .u8 0, .int .u8 0, .int .u8 0, .int .u8 0, .int .u8 0, .int .u8 0, .int .u8 0, .int .u8 0, .int .u8 0, .int .u8 0, .int .u8 0, .int .u8 0, .int .i64 0, .int .i64 0]) 35 56 := ElemN.of (by kernel_rfl) (by kernel_rfl) rfl (by omega)
/-- Entries as values. -/
def entsV (L : List (Nat × PObj)) : List Value := L.flatMap fun q => (entA q.1 q.2).toList
theorem entsV_app (a b : List (Nat × PObj)) : entsV (a ++ b) = entsV a ++ entsV b := by unfold entsV; rw [List.flatMap_append]
theorem entsV_one (off : Nat) (o : PObj) : entsV [(off, o)] = (entA off o).toList := by simp [entsV]
theorem entA_one (off : Nat) (o : PObj) : ∀ u ∈ (entA off o).toList, u.oneCell' = true := fun u hu => by
  have := entA_full off o
  unfold full35 at this
  rw [Bool.and_eq_true] at this
  exact (Array.all_eq_true_iff_forall_mem.1 this.2) u (by simpa using hu)
/-- What Scan's function works on: the map's variable, the list's, the list. -/
def ScI (W : World) (base mb lb m : Nat) (v : Value) (L : List (Nat × PObj)) : Prop :=
  Blk W mb 85 #[.map (some m)] ∧ Blk W lb 36 #[v] ∧ W.ownsRow base 44 35 v L.length (entsV L) ∧ base ≤ mb ∧ base ≤ lb ∧ base ≤ m ∧ base ≤ W.heap.size
theorem ScI.below {W W' : World} {base mb lb m : Nat} {v : Value} {L : List (Nat × PObj)} (h : ScI W base mb lb m v L) (hb : Below W.heap.size W W') : ScI W' base mb lb m v L :=
  ⟨h.1.below hb h.1.lt, h.2.1.below hb h.2.1.lt, own_below h.2.2.1 hb, h.2.2.2.1, h.2.2.2.2.1, h.2.2.2.2.2.1, Nat.le_trans h.2.2.2.2.2.2 hb.size⟩
/-- Where the map alone is written. -/
theorem ScI.map {W W' : World} {base mb lb m : Nat} {v : Value} {L : List (Nat × PObj)} (h : ScI W base mb lb m v L) (hm : ∃ es clock, W.heap[m]? = some (.map es clock)) (hg : W.grownBy W' (some m)) : ScI W' base mb lb m v L := by
  obtain ⟨es, clock, hm⟩ := hm
  have hne : ∀ g c T fr, W.heap[g]? = some (.cells c T fr) → some g ≠ some m := fun g c T fr hc e => by
    injection e with e; subst e; rw [hm] at hc; injection hc with hc; cases hc
  refine ⟨h.1.grown hg (hne _ _ _ _ h.1), h.2.1.grown hg (hne _ _ _ _ h.2.1), ⟨h.2.2.1.1, ?_⟩, h.2.2.2.1, h.2.2.2.2.1, h.2.2.2.2.2.1, Nat.le_trans h.2.2.2.2.2.2 hg.size⟩
  rcases h.2.2.1.2 with h5 | ⟨g, cap, cur, a1, a2, a3, a4⟩
  · exact .inl h5
  · exact .inr ⟨g, cap, cur, a1, a2, (hg.block g (Array.getElem?_eq_some_iff.1 a3).1 (hne _ _ _ _ a3)).trans a3, a4⟩
theorem ent_id {W : World} {g off : Nat} {o : PObj} (h : Blk W g 44 (entA off o)) : ok32 W g 0 = true ∧ row32 W g 0 = nmA o := by
  constructor
  · unfold ok32
    rw [show W.heap[g]? = some (.cells (entA off o) 44 (0, 0)) from h]
    simp only [decide_eq_true_eq]
    rw [entA_size]; omega
  · apply Array.ext
    · rw [row32_size, nmA_size]
    · intro i h1 h2
      rw [row32_size] at h1
      have a : W.cell? ⟨g, 0 + i, none⟩ = (entA off o)[0 + i]? := h.cell _
      have b : (entA off o)[0 + i]? = some ((nmA o)[i]) := by
        rw [Nat.zero_add]
        unfold entA
        rw [Array.getElem?_append_left h2, Array.getElem?_eq_getElem h2]
      rw [Nat.zero_add] at a b
      unfold row32
      simp [a, b]
theorem kinds {W : World} {g : Nat} {c c' : Array Value} {T T' : TypeId} {fz : Nat × Nat} (h : W.heap[g]? = some (.cells c T fz)) (h' : Blk W g T' c') (hne : T ≠ T') : False := by
  rw [show W.heap[g]? = some (.cells c' T' (0, 0)) from h'] at h
  injection h with h
  injection h with _ h _
  exact hne h.symm
theorem own_value {w : World} {base n size : Nat} {e : TypeId} {v : Value} {xs : List Value} (h : w.ownsRow base e size v n xs) : ∃ (n' c : Nat) (A : Option Addr), v = .slice A n' c := by
  rcases h.2 with ⟨rfl, _⟩ | ⟨g, cap, cur, rfl, _⟩
  · exact ⟨_, _, _, rfl⟩
  · exact ⟨_, _, _, rfl⟩
theorem own_len {w : World} {base n size nv cv : Nat} {A : Option Addr} {e : TypeId} {xs : List Value} (h : w.ownsRow base e size (.slice A nv cv) n xs) : nv = n := by
  rcases h.2 with ⟨hv, hn⟩ | ⟨g, cap, cur, hv, _⟩
  · simp at hv; omega
  · simp at hv; exact hv.2.1
theorem ent_row {W : World} {g off : Nat} {o : PObj} (h : Blk W g 44 (entA off o)) : ok35 W g 0 = true ∧ row35 W g 0 = entA off o := by
  constructor
  · unfold ok35
    rw [show W.heap[g]? = some (.cells (entA off o) 44 (0, 0)) from h]
    simp only [decide_eq_true_eq]
    rw [entA_size]; omega
  · apply Array.ext
    · rw [row35_size, entA_size]
    · intro i h1 h2
      rw [row35_size] at h1
      have a : W.cell? ⟨g, 0 + i, none⟩ = (entA off o)[0 + i]? := h.cell _
      have b : (entA off o)[0 + i]? = some ((entA off o)[i]) := by
        rw [Nat.zero_add, Array.getElem?_eq_getElem h2]
      rw [Nat.zero_add] at a b
      unfold row35
      simp [a, b]
set_option maxRecDepth 100000 in
set_option maxHeartbeats 1000000 in
theorem scanF_any (off : Nat) (o : PObj) (base mb lb m n : Nat) (v : Value) (L : List (Nat × PObj)) (S : List (Array Value)) (w : World) (h : ScI w base mb lb m v L) (hS : SeenC w m n S) (hn : n ≤ 65536) (hL : L.length ≤ 65536) (ho : o.2.size ≤ 2097152) (hoff : off ≤ 4611686018427387904) :
    Calls Try.prog 41 #[.int .i64 (off : Int), objA o, .pointer (some ⟨mb, 0, none⟩), .pointer (some ⟨lb, 0, none⟩)] w fun e w' => ∃ v', e = .returned (.bool (!(@decide (nmA o ∈ S) (Classical.propDecidable _)) && decide (L.length + 1 ≤ 65536))) ∧ ScI w' base mb lb m v' (L ++ [(off, o)]) ∧ (¬ nmA o ∈ S → SeenC w' m (n + 1) (nmA o :: S)) ∧ Below base w w' := by
  have E1 := Lib.hid (fun W => entry_any off o W ho hoff)
  unfold objA at E1
  have HS : Hid (ScI (w.alloc (.cells #[.int .u8 (o.1.toNat : Int), .string o.2] 30)) base mb lb m v L ∧ SeenC (w.alloc (.cells #[.int .u8 (o.1.toNat : Int), .string o.2] 30)) m n S ∧ Below w.heap.size w (w.alloc (.cells #[.int .u8 (o.1.toNat : Int), .string o.2] 30))) := Lib.hid ⟨h.below ((Below.refl _ _).alloc (Nat.le_refl _) _), hS.below ((Below.refl _ _).alloc (Nat.le_refl _) _), (Below.refl _ _).alloc (Nat.le_refl _) _⟩
  have hbw : base ≤ w.heap.size := h.2.2.2.2.2.2
  have HQ := Lib.hid (Blk.new w 30 #[.int .u8 (o.1.toNat : Int), .string o.2])
  have HH := Lib.hid h
  clear h hS
  unfold objA
  go_enter Try.func41, Try.ntmps41
  go_upto_region 1 with fail
  generalize w.alloc (.cells #[.int .u8 (o.1.toNat : Int), .string o.2] 30) = w1 at HS HQ ⊢
  have y0 := HQ.out.cell 0
  have y1 := HQ.out.cell 1
  go_wp2_with fail
  (with_reducible refine (E1.out _).mono ?_)
  rintro e w2 ⟨rfl, hb2⟩
  have HS2 : Hid (ScI w2 base mb lb m v L ∧ SeenC w2 m n S ∧ Below w.heap.size w w2) := Lib.hid ⟨HS.out.1.below hb2, HS.out.2.1.below hb2, HS.out.2.2.trans (hb2.mono HS.out.2.2.size)⟩
  clear hb2 E1 y0 y1 HS HQ
  have Z2 := zeroE_row w2
  have hep := entry_put (w := w2) (g := w2.heap.size) off o Z2 ((Below.refl _ _).alloc (Nat.le_refl _) _) (Nat.le_refl _)
  have HP := Lib.hid hep
  have o5 := ok35_of Z2 (Nat.le_refl 35)
  have f5 := entA_full off o
  unfold zeroEnt at o5
  clear Z2 hep
  go_upto_region 2 with fail
  change Code.wp _ _ _ _ (put35 (w2.alloc zeroEnt) w2.heap.size 0 (entA off o))
  have HS3 : Hid (ScI (put35 (w2.alloc zeroEnt) w2.heap.size 0 (entA off o)) base mb lb m v L ∧ SeenC (put35 (w2.alloc zeroEnt) w2.heap.size 0 (entA off o)) m n S ∧ Below w.heap.size w (put35 (w2.alloc zeroEnt) w2.heap.size 0 (entA off o))) := Lib.hid ⟨HS2.out.1.below HP.out.2.1, HS2.out.2.1.below HP.out.2.1, HS2.out.2.2.trans (HP.out.2.1.mono HS2.out.2.2.size)⟩
  have HG3 : Hid (Blk (put35 (w2.alloc zeroEnt) w2.heap.size 0 (entA off o)) w2.heap.size 44 (entA off o)) := Lib.hid HP.out.1
  have hg0 : w.heap.size ≤ w2.heap.size := HS2.out.2.2.size
  have hgm : m < w2.heap.size := HS2.out.2.1.lt
  obtain ⟨g, hg⟩ : ∃ g, w2.heap.size = g := ⟨_, rfl⟩
  rw [hg] at HS3 HG3 hg0 hgm ⊢
  generalize put35 (w2.alloc zeroEnt) g 0 (entA off o) = w3 at HS3 HG3 ⊢
  clear HS2 HP o5 hg
  obtain ⟨st, w4, w5, e1, e2, e3, e4, e5, e6, e7, e8, e9⟩ := SeenC.entry (w := w3.drew) (HS3.out.2.1.of_block rfl) (nmF o) (by unfold maxLen; omega)
  have e0 := SeenC.look' (w := w3.drew) (HS3.out.2.1.of_block rfl) (nmF o)
  have hcc := cnt_or S (nmF o)
  have HCC : Hid (cntS S (nmF o) = @ite _ (nmA o ∈ S) (Classical.propDecidable _) 1 0) := Lib.hid rfl
  rw [show idA (nmF o) = nmA o from rfl] at e0 e1 e2 e7 e8
  obtain ⟨c, hc⟩ : ∃ c, cntS S (nmF o) = c := ⟨_, rfl⟩
  rw [hc] at e0 e1 e2 e4 e7 hcc HCC
  clear hc
  have hm3 := (SeenC.map_block (w := w3.drew) (HS3.out.2.1.of_block rfl))
  have S3 : ScI w3.drew base mb lb m v L := HS3.out.1.below ((Below.refl _ w3).drew)
  have G3 : Blk w3.drew g 44 (entA off o) := HG3.out
  have S4 := S3.map hm3 e3
  have S5 := S4.map e6 e5
  have G4 := G3.grown e3 (fun e => by injection e with e; omega)
  have G5 := G4.grown e5 (fun e => by injection e with e; omega)
  have HB5 : Hid (Below base w w5) := Lib.hid (((HS3.out.2.2.mono hbw).drew.grown e3 S3.2.2.2.2.2.2 (fun k e => by injection e with e; have := S3.2.2.2.2.2.1; omega)).grown e5 S4.2.2.2.2.2.2 (fun k e => by injection e with e; have := S3.2.2.2.2.2.1; omega))
  have H5 := Lib.hid S5
  have HM5 : Hid (∃ es clock, w5.heap[m]? = some (.map es clock)) := Lib.hid (by
    obtain ⟨es, clock, he⟩ := e9
    exact ⟨es, clock, he⟩)
  have HG5 := Lib.hid G5
  have HE7 := Lib.hid e7
  have HE8 := Lib.hid e8
  have SA : w3.drew.cell? ⟨mb, 0, none⟩ = some (.map (some m)) ∧ ok32 w3.drew g 0 = true ∧ row32 w3.drew g 0 = nmA o := ⟨S3.1.cell 0, ent_id G3⟩
  have SB : w4.cell? ⟨mb, 0, none⟩ = some (.map (some m)) ∧ ok32 w4 g 0 = true ∧ row32 w4 g 0 = nmA o := ⟨S4.1.cell 0, ent_id G4⟩
  have SC : w5.cell? ⟨mb, 0, none⟩ = some (.map (some m)) ∧ ok32 w5 g 0 = true ∧ row32 w5 g 0 = nmA o := ⟨S5.1.cell 0, ent_id G5⟩
  have vc : IntKind.i64.wrap (c + 1) = c + 1 := wrap_small _ (by omega)
  clear e3 e5 e6 e7 e8 S3 S4 S5 G3 G4 G5 hm3 f5
  go_cut [11] (fun v11 wx => v11 = .map (some m) ∧ wx = w5)
  case first =>
    refine wp_region_held_drew (S := fun w' => w'.cell? ⟨mb, 0, none⟩ = some (.map (some m)) ∧ ok32 w' g 0 = true ∧ row32 w' g 0 = nmA o) (by kernel_rfl) (by first | exact SC | exact SB | exact SA) (fun hHeld => ?_)
    refine wpAnyH_take (i := 0) (oi := _) (v := _) rfl (by as_aux_lemma => kernel_rfl) (by as_aux_lemma => kernel_rfl) (by as_aux_lemma => kernel_rfl) (fun _ _ _ h => h) (Or.inl ⟨by kernel_rfl, by (intro w hSw; (try dsimp only at hSw); go_simp; first | done | with_reducible rfl)⟩) (by assumption) ?_
    (try simp only [Act.put, List.setIfInBounds_toArray, List.set_cons_zero, List.set_cons_succ])
    refine wpAnyH_take (i := 1) (oi := _) (v := _) rfl (by as_aux_lemma => kernel_rfl) (by as_aux_lemma => kernel_rfl) (by as_aux_lemma => kernel_rfl) (fun _ _ _ h => h) (Or.inl ⟨by kernel_rfl, by (intro w hSw; (try dsimp only at hSw); go_simp; first | done | with_reducible rfl)⟩) (by assumption) ?_
    (try simp only [Act.put, List.setIfInBounds_toArray, List.set_cons_zero, List.set_cons_succ])
    refine wpAnyH_take (i := 2) (oi := { dst := some 13, op := .load 42 (.tmp 12), type := 42, pos := "pack.go:119", after := #[{ on := 1, ground := .data }], guard := none }) (v := _) rfl (by as_aux_lemma => kernel_rfl) (by as_aux_lemma => kernel_rfl) (by as_aux_lemma => kernel_rfl) (fun _ _ _ h => h) (Or.inl ⟨by kernel_rfl, by (intro w hSw; (try dsimp only at hSw); go_simp; first | done | with_reducible rfl)⟩) (by assumption) ?_
    (try simp only [Act.put, List.setIfInBounds_toArray, List.set_cons_zero, List.set_cons_succ])
    refine wpAnyH_ready (rs := [3, 5]) (by as_aux_lemma => kernel_rfl) (by simp) (AllReadyH.cons rfl (fun K hK => ?_) (AllReadyH.cons rfl (fun K hK => ?_) AllReadyH.nil))
    · try simp only [List.getElem_toArray, List.getElem_cons_succ, List.getElem_cons_zero]
      go_simp
      refine hK.out _ _ (by first | exact SC | exact SB | exact SA) (fun hHeld => ?_)
      clear hK K
      (try simp only [Act.put, List.setIfInBounds_toArray, List.set_cons_zero, List.set_cons_succ])
      refine wpAnyH_take (i := 4) (oi := _) (v := _) rfl (by as_aux_lemma => kernel_rfl) (by as_aux_lemma => kernel_rfl) (by as_aux_lemma => kernel_rfl) (fun _ _ _ h => h) (Or.inl ⟨by kernel_rfl, by (intro w hSw; (try dsimp only at hSw); go_simp; first | done | with_reducible rfl)⟩) (by assumption) ?_
      (try simp only [Act.put, List.setIfInBounds_toArray, List.set_cons_zero, List.set_cons_succ])
      refine wpAnyH_ready (rs := [5]) (by as_aux_lemma => kernel_rfl) (by simp) (AllReadyH.cons rfl (fun K hK => ?_) AllReadyH.nil)
      try simp only [List.getElem_toArray, List.getElem_cons_succ, List.getElem_cons_zero]
      go_simp
      refine hK.out _ _ (by first | exact SC | exact SB | exact SA) (fun hHeld => ?_)
      clear hK K
      (try simp only [Act.put, List.setIfInBounds_toArray, List.set_cons_zero, List.set_cons_succ])
      refine wpAnyH_take (i := 6) (oi := _) (v := _) rfl (by as_aux_lemma => kernel_rfl) (by as_aux_lemma => kernel_rfl) (by as_aux_lemma => kernel_rfl) (fun _ _ _ h => h) (Or.inl ⟨by kernel_rfl, by (intro w hSw; (try dsimp only at hSw); go_simp; first | done | with_reducible rfl)⟩) (by assumption) ?_
      (try simp only [Act.put, List.setIfInBounds_toArray, List.set_cons_zero, List.set_cons_succ])
      refine wpAnyH_ready (rs := [7]) (by as_aux_lemma => kernel_rfl) (by simp) (AllReadyH.cons rfl (fun K hK => ?_) AllReadyH.nil)
      try simp only [List.getElem_toArray, List.getElem_cons_succ, List.getElem_cons_zero]
      go_simp
      refine hK.out _ _ (by first | exact SC | exact SB | exact SA) (fun hHeld => ?_)
      clear hK K
      (try simp only [Act.put, List.setIfInBounds_toArray, List.set_cons_zero, List.set_cons_succ])
      refine wpAnyH_done (by as_aux_lemma => kernel_rfl) ?_ _
      go_wp2
      go_meet
      exact ⟨rfl, rfl⟩
    · try simp only [List.getElem_toArray, List.getElem_cons_succ, List.getElem_cons_zero]
      go_simp
      refine hK.out _ _ (by first | exact SC | exact SB | exact SA) (fun hHeld => ?_)
      clear hK K
      (try simp only [Act.put, List.setIfInBounds_toArray, List.set_cons_zero, List.set_cons_succ])
      refine wpAnyH_take (i := 6) (oi := _) (v := _) rfl (by as_aux_lemma => kernel_rfl) (by as_aux_lemma => kernel_rfl) (by as_aux_lemma => kernel_rfl) (fun _ _ _ h => h) (Or.inl ⟨by kernel_rfl, by (intro w hSw; (try dsimp only at hSw); go_simp; first | done | with_reducible rfl)⟩) (by assumption) ?_
      (try simp only [Act.put, List.setIfInBounds_toArray, List.set_cons_zero, List.set_cons_succ])
      refine wpAnyH_ready (rs := [3]) (by as_aux_lemma => kernel_rfl) (by simp) (AllReadyH.cons rfl (fun K hK => ?_) AllReadyH.nil)
      try simp only [List.getElem_toArray, List.getElem_cons_succ, List.getElem_cons_zero]
      go_simp
      refine hK.out _ _ (by first | exact SC | exact SB | exact SA) (fun hHeld => ?_)
      clear hK K
      (try simp only [Act.put, List.setIfInBounds_toArray, List.set_cons_zero, List.set_cons_succ])
      refine wpAnyH_take (i := 4) (oi := _) (v := _) rfl (by as_aux_lemma => kernel_rfl) (by as_aux_lemma => kernel_rfl) (by as_aux_lemma => kernel_rfl) (fun _ _ _ h => h) (Or.inl ⟨by kernel_rfl, by (intro w hSw; (try dsimp only at hSw); go_simp; first | done | with_reducible rfl)⟩) (by assumption) ?_
      (try simp only [Act.put, List.setIfInBounds_toArray, List.set_cons_zero, List.set_cons_succ])
      refine wpAnyH_ready (rs := [7]) (by as_aux_lemma => kernel_rfl) (by simp) (AllReadyH.cons rfl (fun K hK => ?_) AllReadyH.nil)
      try simp only [List.getElem_toArray, List.getElem_cons_succ, List.getElem_cons_zero]
      go_simp
      refine hK.out _ _ (by first | exact SC | exact SB | exact SA) (fun hHeld => ?_)
      clear hK K
      (try simp only [Act.put, List.setIfInBounds_toArray, List.set_cons_zero, List.set_cons_succ])
      refine wpAnyH_done (by as_aux_lemma => kernel_rfl) ?_ _
      go_wp2
      go_meet
      exact ⟨rfl, rfl⟩
  case rest =>
    obtain ⟨rfl, rfl⟩ := hcut
    have hvg : v.ownBlock ≠ some g := fun e => by have := (HH.out.2.2.1.lt g e).2; omega
    have HVG := Lib.hid hvg
    clear hvg SA SB vc e0 e1 e2 e4
    have o8 := SC.2.1
    have r8 := SC.2.2
    have c5 := H5.out.2.1.cell 0
    have q5 := (ent_row HG5.out).1
    have q6 := (ent_row HG5.out).2
    have f5 := entA_full off o
    have hes : (entA off o).size = 35 := entA_size off o
    clear SC
    have hbl : base ≤ wc.heap.size := H5.out.2.2.2.2.2.2
    have hL2 : (L.length + 1) * 56 ≤ 140737488355328 := by omega
    have hL1 : L.length ≤ 4611686018427387904 := by omega
    have HO := Lib.hid H5.out.2.2.1
    have EV := Lib.hid (show entsV (L ++ [(off, o)]) = entsV L ++ (entA off o).toList from by rw [entsV_app, entsV_one])
    have HE1 := Lib.hid (entA_one off o)
    have k5 : v.ownBlock ≠ some lb := fun e => by
      obtain ⟨cc, fz, hc⟩ := Lib.ownsRow_kind HO.out lb e
      exact kinds hc H5.out.2.1 (by decide)
    have k6 : v.ownBlock ≠ some mb := fun e => by
      obtain ⟨cc, fz, hc⟩ := Lib.ownsRow_kind HO.out mb e
      exact kinds hc H5.out.1 (by decide)
    have K5 := Lib.hid k5
    have K6 := Lib.hid k6
    clear k5 k6
    go_upto_region 4 with (at_builtin; refine appendN_new elemEnt rfl _ _ rfl base v L.length _ rfl HO.out (entA off o) hes rfl HE1.out hL1 hL2 hbl ?_; intro v' w' hown hgr hd; clear hd; obtain ⟨nv, cv, Av, rfl⟩ := own_value hown; have L6 := Lib.hid (H5.out.2.1.grown hgr K5.out.symm); have M6 := Lib.hid (H5.out.1.grown hgr K6.out.symm); have G6 := Lib.hid (HG5.out.grown hgr HVG.out.symm); have HOW := Lib.hid hown; have HGR := Lib.hid hgr; have l0 := L6.out.cell 0; have l1 := L6.out.frozen 0; clear hown hgr)
    have hm5 : ∃ es clock, wc.heap[m]? = some (.map es clock) := HM5.out
    have hvm : v.ownBlock ≠ some m := fun e => by
      obtain ⟨cc, fz, hc⟩ := Lib.ownsRow_kind HO.out m e
      obtain ⟨es, clock, he⟩ := hm5
      rw [he] at hc; injection hc with hc; cases hc
    have hlm : lb ≠ m := fun e => by
      obtain ⟨es, clock, he⟩ := hm5
      have := H5.out.2.1
      unfold Blk at this
      rw [e, he] at this; injection this with this; cases this
    have hwm : w'.heap[m]? = wc.heap[m]? := by
      obtain ⟨es, clock, he⟩ := hm5
      exact HGR.out.block m (Array.getElem?_eq_some_iff.1 he).1 (fun e => hvm e.symm)
    have hol : (Value.slice Av nv cv).ownBlock ≠ some lb := fun e => by
      obtain ⟨cc, fz, hc⟩ := Lib.ownsRow_kind HOW.out lb e
      exact kinds hc L6.out (by decide)
    have hmlb : mb ≠ lb := Blk.ne_ M6.out L6.out (by decide)
    have hglb : g ≠ lb := Blk.ne_ G6.out L6.out (by decide)
    have L7 : Hid (Blk (w'.setCell ⟨lb, 0, none⟩ (.slice Av nv cv)) lb 36 #[.slice Av nv cv]) := Lib.hid (L6.out.set_ 0 _)
    have M7 : Hid (Blk (w'.setCell ⟨lb, 0, none⟩ (.slice Av nv cv)) mb 85 #[.map (some m)]) := Lib.hid (M6.out.far (p := ⟨lb, 0, none⟩) hmlb _)
    have G7 : Hid (Blk (w'.setCell ⟨lb, 0, none⟩ (.slice Av nv cv)) g 44 (entA off o)) := Lib.hid (G6.out.far (p := ⟨lb, 0, none⟩) hglb _)
    have O7 := Lib.hid (ownsRow_setCell_other HOW.out (a := ⟨lb, 0, none⟩) hol (.slice Av nv cv))
    have X7 : Hid ((w'.setCell ⟨lb, 0, none⟩ (.slice Av nv cv)).heap[m]? = wc.heap[m]?) := Lib.hid ((Below.heap_setCell _ _ _ _ hlm.symm).trans hwm)
    have B7 : Hid (Below base w (w'.setCell ⟨lb, 0, none⟩ (.slice Av nv cv))) := Lib.hid ((HB5.out.grown HGR.out hbl (fun k hk => (HO.out.lt k hk).1)).setCell (p := ⟨lb, 0, none⟩) H5.out.2.2.2.2.1 _)
    have hb7 : base ≤ (w'.setCell ⟨lb, 0, none⟩ (.slice Av nv cv)).heap.size := Nat.le_trans hbw B7.out.size
    generalize w'.setCell ⟨lb, 0, none⟩ (.slice Av nv cv) = w7 at L7 M7 G7 O7 X7 B7 hb7 ⊢
    have F7 : Hid (ScI w7 base mb lb m (.slice Av nv cv) (L ++ [(off, o)])) := Lib.hid ⟨M7.out, L7.out, by rw [EV.out, List.length_append]; exact O7.out, H5.out.2.2.2.1, H5.out.2.2.2.2.1, H5.out.2.2.2.2.2.1, hb7⟩
    obtain rfl : nv = L.length + 1 := own_len O7.out
    have hl8 := HE7.out w7 X7.out
    have m0 := M7.out.cell 0
    have l7 := L7.out.cell 0
    have o9 := (ent_id G7.out).1
    have r9 := (ent_id G7.out).2
    clear o8 r8 c5 q5 q6 f5 l0 l1 hvm hlm hwm hol hmlb hglb hm5
    by_cases hm : nmA o ∈ S
    · have HB : Hid ((!(@decide (nmA o ∈ S) (Classical.propDecidable _)) && decide (L.length + 1 ≤ 65536)) = false) := Lib.hid (by rw [@decide_eq_true _ (Classical.propDecidable _) hm]; rfl)
      have HM := Lib.hid hm
      obtain rfl : c = 1 := by rw [HCC.out, if_pos hm]
      clear hm hcc HCC
      go_wp2
      go_ret
      exact ⟨_, by rw [HB.out]; rfl, F7.out, fun h => absurd HM.out h, B7.out⟩
    · have HM : Hid (SeenC w7 m (n + 1) (nmA o :: S)) := Lib.hid ((HE8.out hm).of_block X7.out)
      have HB : Hid ((!(@decide (nmA o ∈ S) (Classical.propDecidable _)) && decide (L.length + 1 ≤ 65536)) = decide (L.length + 1 ≤ 65536)) := Lib.hid (by rw [@decide_eq_false _ (Classical.propDecidable _) hm]; rfl)
      obtain rfl : c = 0 := by rw [HCC.out, if_neg hm]
      clear hm hcc HCC
      by_cases hll : L.length + 1 ≤ 65536
      · have hd : decide ((L.length : Int) + 1 ≤ 65536) = true := by rw [decide_eq_true_eq]; omega
        have HD : Hid (decide (L.length + 1 ≤ 65536) = true) := Lib.hid (decide_eq_true hll)
        clear hll
        go_wp2
        go_ret
        exact ⟨_, by rw [HB.out, HD.out]; rfl, F7.out, fun _ => HM.out, B7.out⟩
      · have hd : decide ((L.length : Int) + 1 ≤ 65536) = false := by rw [decide_eq_false_iff_not]; omega
        have HD : Hid (decide (L.length + 1 ≤ 65536) = false) := Lib.hid (decide_eq_false hll)
        clear hll
        go_wp2
        go_ret
        exact ⟨_, by rw [HB.out, HD.out]; rfl, F7.out, fun _ => HM.out, B7.out⟩
end Go.Proofs.Ytpfccicahfncbaa
