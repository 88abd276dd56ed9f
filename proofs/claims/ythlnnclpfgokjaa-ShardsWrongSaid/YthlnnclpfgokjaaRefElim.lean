/- Walk: the reference's eliminate. -/
import Derived.Test.YthlnnclpfgokjaaRefRows
import Derived.Test.YthlnnclpfgokjaaFieldB
import Derived.Test.YthlnnclpfgokjaaElimW
import Derived.Test.YthlnnclpfgokjaaRefMade
namespace Go.Proofs.Ythlnnclpfgokjaa
open Go.RowKit Gf
set_option linter.unusedVariables false
def setM (M : Mat) (i j : Nat) (x : UInt8) : Mat := fun a b => if a = i ∧ b = j then x else M a b
namespace bmat
variable {w w' : World} {base n c go : Nat} {v : Value} {L gs caps : Nat → Nat} {M M' : Mat}
theorem congr (h : bmat w base v n L gs caps M) (e : ∀ i j, i < n → j < L i → M i j = M' i j) : bmat w base v n L gs caps M' :=
  ⟨h.out, fun i hi => ⟨(h.buf i hi).1, (h.buf i hi).2.congr fun j hj => by unfold numV; rw [e i j hi hj]⟩, h.ne⟩
theorem drew (h : bmat w base v n L gs caps M) : bmat w.drew base v n L gs caps M := ⟨h.out.drew, fun i hi => h.buf i hi, h.ne⟩
theorem row (h : bmat w base (.slice (some ⟨go, 0, none⟩) n c) n L gs caps M) {i : Nat} (hi : i < n) : w.cell? ⟨go, i, none⟩ = some (rowV gs L caps i) := by
  rw [h.out.cellAt i (by omega)]
  simp [rowsV, hi]
theorem num (h : bmat w base v n L gs caps M) {i j : Nat} (hi : i < n) (hj : j < L i) : w.cell? ⟨gs i, j, none⟩ = some (.int .u8 ((M i j).toNat : Int)) := (h.buf i hi).2.cell hj
theorem set (h : bmat w base v n L gs caps M) {i j : Nat} (hi : i < n) (hj : j < L i) (x : UInt8) :
    bmat (w.setCell ⟨gs i, j, none⟩ (.int .u8 (x.toNat : Int))) base v n L gs caps (setM M i j x) := by
  refine ⟨?_, fun k hk => ⟨(h.buf k hk).1, ?_⟩, h.ne⟩
  · refine ⟨h.out.1, ?_⟩
    rcases h.out.2 with h2 | ⟨g, cap, cur, a, b, d, e⟩
    · exact .inl h2
    · refine .inr ⟨g, cap, cur, a, b, (Below.heap_setCell w _ _ g (fun e => ?_)).trans d, e⟩
      subst a
      exact own_buf_ne h.out (h.buf i hi).2 (by decide) (by have e' : g = gs i := e; rw [e']; rfl)
  · by_cases e : k = i
    · subst e
      refine ((h.buf k hk).2.set j _).congr fun b hb => ?_
      show (if b = j then _ else Value.int .u8 ((M k b).toNat : Int)) = Value.int .u8 ((if k = k ∧ b = j then x else M k b).toNat : Int)
      by_cases e2 : b = j
      · rw [if_pos e2, if_pos ⟨rfl, e2⟩]
      · rw [if_neg e2, if_neg (fun h => e2 h.2)]
    · refine ((h.buf k hk).2.of_block (Below.heap_setCell w _ _ (gs k) (h.ne k i hk hi e))).congr fun b hb => ?_
      show Value.int .u8 ((M k b).toNat : Int) = Value.int .u8 ((if k = i ∧ b = j then x else M k b).toNat : Int)
      rw [if_neg (fun h => e h.1)]
def swp {α : Type} (f : Nat → α) (p a : Nat) : Nat → α := fun i => if i = p then f a else if i = a then f p else f i
theorem swap (h : bmat w base (.slice (some ⟨go, 0, none⟩) n c) n (fun _ => L 0) gs caps M) {p a : Nat} (hp : p < n) (ha : a < n) :
    bmat ((w.setCell ⟨go, p, none⟩ (rowV gs (fun _ => L 0) caps a)).setCell ⟨go, a, none⟩ (rowV gs (fun _ => L 0) caps p)) base (.slice (some ⟨go, 0, none⟩) n c) n (fun _ => L 0) (swp gs p a) (swp caps p a) (swapR M p a) ∧
    w.grownBy ((w.setCell ⟨go, p, none⟩ (rowV gs (fun _ => L 0) caps a)).setCell ⟨go, a, none⟩ (rowV gs (fun _ => L 0) caps p)) (some go) := by
  obtain ⟨o1, g1⟩ := h.out.stored p (rowV gs (fun _ => L 0) caps a)
  obtain ⟨o2, g2⟩ := o1.stored a (rowV gs (fun _ => L 0) caps p)
  have hg := grown_both g1 g2
  have hgo : ∀ i, i < n → gs i ≠ go := fun i hi e => own_buf_ne h.out (h.buf i hi).2 (by decide) (by rw [e]; rfl)
  have hb : ∀ i, i < n → base ≤ gs i ∧ bufIs _ 5 (gs i) (L 0) (caps i) (numV M i) := fun i hi => ⟨(h.buf i hi).1, (h.buf i hi).2.grown hg (fun e => hgo i hi (by injection e))⟩
  refine ⟨⟨?_, fun i hi => ?_, fun i k hi hk hne => ?_⟩, hg⟩
  · have e : ((rowsV gs (fun _ => L 0) caps n).set p (rowV gs (fun _ => L 0) caps a)).set a (rowV gs (fun _ => L 0) caps p) = rowsV (swp gs p a) (fun _ => L 0) (swp caps p a) n := by
      apply List.ext_getElem?
      intro i
      rw [List.getElem?_set, List.getElem?_set, List.length_set]
      have hl : (rowsV gs (fun _ => L 0) caps n).length = n := by simp [rowsV]
      rw [hl]
      by_cases hi : i < n
      · have er : ∀ (g c : Nat → Nat), (rowsV g (fun _ => L 0) c n)[i]? = some (rowV g (fun _ => L 0) c i) := fun g c => by simp [rowsV, hi]
        rw [er, er]
        unfold rowV swp
        by_cases e1 : i = p
        · by_cases e2 : a = i
          · rw [if_pos e2, if_pos (by omega), if_pos e1, if_pos e1, ← e1, e2]
          · rw [if_neg e2, if_pos e1.symm, if_pos (by omega), if_pos e1, if_pos e1]
        · by_cases e2 : a = i
          · rw [if_pos e2, if_pos (by omega), if_neg e1, if_neg e1, if_pos e2.symm, if_pos e2.symm]
          · rw [if_neg e2, if_neg (fun h => e1 h.symm), if_neg e1, if_neg e1, if_neg (fun h => e2 h.symm), if_neg (fun h => e2 h.symm)]
      · have er : ∀ (g c : Nat → Nat), (rowsV g (fun _ => L 0) c n)[i]? = none := fun g c => by simp [rowsV]; omega
        rw [er, er, if_neg (by omega), if_neg (by omega)]
    rw [← e]; exact o2
  · unfold swp numV swapR
    by_cases e1 : i = p
    · rw [if_pos e1, if_pos e1]
      refine ⟨(hb a ha).1, (hb a ha).2.congr fun j _ => ?_⟩
      rw [if_pos e1]; rfl
    · by_cases e2 : i = a
      · rw [if_neg e1, if_pos e2, if_neg e1, if_pos e2]
        refine ⟨(hb p hp).1, (hb p hp).2.congr fun j _ => ?_⟩
        rw [if_neg e1, if_pos e2]; rfl
      · rw [if_neg e1, if_neg e2, if_neg e1, if_neg e2]
        refine ⟨(hb i hi).1, (hb i hi).2.congr fun j _ => ?_⟩
        rw [if_neg e1, if_neg e2]; rfl
  · have hn := h.ne
    have key : ∀ x y, x < n → y < n → gs x = gs y → x = y := fun x y hx hy e => Classical.byContradiction fun hne => hn x y hx hy hne e
    have sw : ∀ x, x < n → ∃ y, y < n ∧ swp gs p a x = gs y ∧ y = (if x = p then a else if x = a then p else x) := fun x hx => by
      unfold swp
      by_cases e1 : x = p
      · exact ⟨a, ha, by rw [if_pos e1], by rw [if_pos e1]⟩
      · by_cases e2 : x = a
        · exact ⟨p, hp, by rw [if_neg e1, if_pos e2], by rw [if_neg e1, if_pos e2]⟩
        · exact ⟨x, hx, by rw [if_neg e1, if_neg e2], by rw [if_neg e1, if_neg e2]⟩
    obtain ⟨y1, hy1, e1, d1⟩ := sw i hi
    obtain ⟨y2, hy2, e2, d2⟩ := sw k hk
    intro e
    rw [e1, e2] at e
    have := key _ _ hy1 hy2 e
    rw [d1, d2] at this
    apply hne
    split at this <;> split at this <;> (try split at this) <;> (try split at this) <;> omega
end bmat

theorem below_grownB {B g : Nat} {w a b : World} (h : Below B w a) (hg : a.grownBy b (some g)) (hr : B ≤ g) (hs : B ≤ a.heap.size) : Below B w b :=
  ⟨hg.os.trans h.os, hg.tape.trans h.tape, hg.output.trans h.output, Nat.le_trans h.size hg.size, fun k hk => by
    exact (hg.block k (by omega) (fun e => by injection e with e; omega)).trans (h.block k hk)⟩
theorem own_block_lt' {w : World} {base g : Nat} {e : TypeId} {size n c : Nat} {xs : List Value} (h : w.ownsRow base e size (.slice (some ⟨g, 0, none⟩) n c) n xs) : g < w.heap.size := by
  rcases h.2 with ⟨h', _⟩ | ⟨g', cap, cur, h', _, hh, _⟩
  · cases h'
  · simp only [Value.slice.injEq, Option.some.injEq, Addr.mk.injEq, and_true, true_and] at h'
    obtain ⟨rfl, rfl⟩ := h'
    exact (Array.getElem?_eq_some_iff.1 hh).1
/-- Scaling, k numbers on. -/
def scaleK (M : Mat) (a : Nat) (v : UInt8) (k : Nat) : Mat := fun i j => if i = a ∧ j < k then gm (M i j) v else M i j
def takeK (M : Mat) (a i : Nat) (f : UInt8) (k : Nat) : Mat := fun i' j => if i' = i ∧ j < k then M i' j ^^^ gm f (M a j) else M i' j
theorem scaleK_step (M : Mat) (a : Nat) (v : UInt8) (k : Nat) : setM (scaleK M a v k) a k (gm (M a k) v) = scaleK M a v (k + 1) := by
  funext i j
  unfold setM scaleK
  by_cases e : i = a ∧ j = k
  · rw [if_pos e, if_pos ⟨e.1, by omega⟩, e.1, e.2]
  · rw [if_neg e]
    by_cases e2 : i = a ∧ j < k
    · rw [if_pos e2, if_pos ⟨e2.1, by omega⟩]
    · rw [if_neg e2, if_neg (fun h => by
        by_cases hj : j = k
        · exact e ⟨h.1, hj⟩
        · exact e2 ⟨h.1, by omega⟩)]
theorem takeK_step (M : Mat) (a i : Nat) (f : UInt8) (k : Nat) : setM (takeK M a i f k) i k (M i k ^^^ gm f (M a k)) = takeK M a i f (k + 1) := by
  funext i' j
  unfold setM takeK
  by_cases e : i' = i ∧ j = k
  · rw [if_pos e, if_pos ⟨e.1, by omega⟩, e.1, e.2]
  · rw [if_neg e]
    by_cases e2 : i' = i ∧ j < k
    · rw [if_pos e2, if_pos ⟨e2.1, by omega⟩]
    · rw [if_neg e2, if_neg (fun h => by
        by_cases hj : j = k
        · exact e ⟨h.1, hj⟩
        · exact e2 ⟨h.1, by omega⟩)]
theorem takeK_zero (M : Mat) (a i : Nat) (f : UInt8) : takeK M a i f 0 = M := by
  funext i' j; unfold takeK; rw [if_neg (by omega)]
theorem scaleK_zero (M : Mat) (a : Nat) (f : UInt8) : scaleK M a f 0 = M := by
  funext i' j; unfold scaleK; rw [if_neg (by omega)]
theorem takeR_step0 (M : Mat) (a c k : Nat) (h : takeR M a c k k c = 0) : takeR M a c (k + 1) = takeR M a c k := by
  funext i j
  unfold takeR at h ⊢
  by_cases e : i < k ∧ i ≠ a
  · rw [if_pos e, if_pos ⟨by omega, e.2⟩]
  · rw [if_neg e]
    by_cases e2 : i < k + 1 ∧ i ≠ a
    · have : i = k := by omega
      subst this
      rw [if_neg (by omega)] at h
      rw [if_pos e2, h, zero_gm, UInt8.xor_zero]
    · rw [if_neg e2]
theorem takeR_stepK (M : Mat) (a c k L : Nat) (hk : k ≠ a) (i j : Nat) (hj : j < L) : takeK (takeR M a c k) a k (takeR M a c k k c) L i j = takeR M a c (k + 1) i j := by
  unfold takeK
  by_cases e : i = k
  · subst e
    rw [if_pos ⟨rfl, hj⟩]
    unfold takeR
    rw [if_neg (by omega), if_neg (by omega), if_neg (by omega), if_pos ⟨by omega, hk⟩]
  · rw [if_neg (fun h => e h.1)]
    unfold takeR
    by_cases e2 : i < k ∧ i ≠ a
    · rw [if_pos e2, if_pos ⟨by omega, e2.2⟩]
    · rw [if_neg e2, if_neg (by omega)]

set_option maxRecDepth 100000 in
set_option maxHeartbeats 4000000 in
theorem reliminate_any (w : World) (base go n cc cols Lw : Nat) (gs0 caps0 : Nat → Nat) (M : Mat) (h : bmat w base (.slice (some ⟨go, 0, none⟩) n cc) n (fun _ => Lw) gs0 caps0 M) (hn : n ≤ 64) (hc : cols ≤ Lw) (hL : Lw ≤ 128) :
    Calls Try.prog 62 #[.slice (some ⟨go, 0, none⟩) n cc, .int .i64 (cols : Int)] w
      fun e w' => e = .returned (.int .i64 ((esteps n M cols).2 : Int)) ∧ (∃ gs caps, bmat w' base (.slice (some ⟨go, 0, none⟩) n cc) n (fun _ => Lw) gs caps (esteps n M cols).1) ∧ Below base w w' := by
  have H := Lib.hid h
  have hgo := own_ge h.out go rfl
  clear h
  go_enter Try.func62, Try.ntmps62
  go_wp2
  go_loopw [5, 6, 7, 8, 9, 10, 11, 12, 13] (fun x y _ _ _ _ _ _ _ wr => ∃ c a : Nat, c ≤ cols ∧ a ≤ n ∧ x = .int .i64 (a : Int) ∧ y = .int .i64 (c : Int) ∧ Hid (a = (esteps n M c).2) ∧ Hid ((∃ gs caps, bmat wr base (.slice (some ⟨go, 0, none⟩) n cc) n (fun _ => Lw) gs caps (esteps n M c).1) ∧ Below base w wr)) (fun _ y _ _ _ _ _ _ _ _ => cols - (intOf y).toNat)
  case atStart => exact ⟨0, 0, by omega, by omega, rfl, rfl, Lib.hid rfl, Lib.hid ⟨⟨_, _, H.out⟩, Below.refl _ _⟩⟩
  case round =>
    obtain ⟨c, a, hcc, han, rfl, rfl, EA, HR⟩ := hrel
    obtain ⟨D, hD⟩ : ∃ D, D = (esteps n M c).1 := ⟨_, rfl⟩
    have hES : esteps n M c = (D, a) := by rw [hD, EA.out]
    obtain ⟨⟨gs, caps, hm⟩, hbl⟩ := HR.out
    rw [← hD] at hm
    have HM := Lib.hid hm
    have HB := Lib.hid hbl
    have ES := Lib.hid hES
    clear hD hES HR hm hbl
    by_cases hlt : c < cols ∧ a < n
    · obtain ⟨h1, h2⟩ := hlt
      go_wp2
      obtain ⟨wo, rfl⟩ : ∃ wo : World, wo = wr := ⟨_, rfl⟩
      go_loop [7] (fun t => ∃ p : Nat, a ≤ p ∧ p ≤ n ∧ t = .int .i64 (p : Int) ∧ Hid (pivot D c n a = findP D c n (n - p) p)) (fun t => n - (intOf t).toNat)
      case atStart => exact ⟨a, Nat.le_refl _, by omega, rfl, Lib.hid rfl⟩
      case round =>
        obtain ⟨p, hp1, hp2, rfl, HP⟩ := hrel
        by_cases hpn : p < n
        · have hr1 : wo.cell? ⟨go, p, none⟩ = some (.slice (some ⟨gs p, 0, none⟩) Lw (caps p)) := HM.out.row hpn
          have hcell : wo.cell? ⟨gs p, c, none⟩ = some (.int .u8 ((D p c).toNat : Int)) := HM.out.num hpn (by show c < Lw; omega)
          have hci : (c : Int) < (Lw : Int) := by omega
          by_cases hz : D p c = 0
          · have ht : (((D p c).toNat : Int) == 0) = true := by rw [hz]; rfl
            have HP' : Hid (pivot D c n a = findP D c n (n - (p + 1)) (p + 1)) := Lib.hid (by
              rw [HP.out, show n - p = (n - (p + 1)) + 1 from by omega, findP_step _ _ _ _ _ (by omega) hz])
            clear hz
            go_wp2
            go_round
            case rel => exact ⟨p + 1, by omega, by omega, by go_num, HP'⟩
            case measure => simp [intOf]; omega
          · have ht := u8_ne hz
            have HP' : Hid (pivot D c n a = p) := Lib.hid (by rw [HP.out, findP_stop _ _ _ _ _ hz])
            have hne : ((p : Int) == (n : Int)) = false := by rw [beq_eq_false_iff_ne]; omega
            clear hz HP
            go_wp2
            clear hcell
            obtain ⟨w2, rfl⟩ : ∃ w2 : World, w2 = wo := ⟨_, rfl⟩
            obtain ⟨m1, g1⟩ := bmat.swap (L := fun _ => Lw) HM.out hpn h2
            have hr2 : w2.cell? ⟨go, a, none⟩ = some (.slice (some ⟨gs a, 0, none⟩) Lw (caps a)) := HM.out.row h2
            have hf1 : w2.frozen? ⟨go, p, none⟩ = false := HM.out.out.frozenAt p
            have hf2 : w2.frozen? ⟨go, a, none⟩ = false := HM.out.out.frozenAt a
            have M1 := Lib.hid m1.drew
            have B1 := Lib.hid (below_grownB HB.out g1 hgo (by have := own_block_lt' HM.out.out; omega)).drew
            obtain ⟨v', hy'⟩ : ∃ v', ((w2.setCell ⟨go, p, none⟩ (.slice (some ⟨gs a, 0, none⟩) Lw (caps a))).drew).cell? ⟨go, a, none⟩ = some v' := by
              have := (HM.out.out.stored p (.slice (some ⟨gs a, 0, none⟩) Lw (caps a))).1
              have h3 := this.cellAt a (by omega)
              have hl := this.1
              exact ⟨_, h3.trans (List.getElem?_eq_getElem (by omega))⟩
            clear m1 g1
            go_region
            unfold rowV at M1 B1
            generalize ((w2.setCell ⟨go, p, none⟩ (.slice (some ⟨gs a, 0, none⟩) Lw (caps a))).setCell ⟨go, a, none⟩ (.slice (some ⟨gs p, 0, none⟩) Lw (caps p))).drew = w5 at M1 B1 ⊢
            obtain ⟨E, hE⟩ : ∃ E, E = swapR D p a := ⟨_, rfl⟩
            obtain ⟨gz, hgz⟩ : ∃ E, E = bmat.swp gs p a := ⟨_, rfl⟩
            obtain ⟨cz, hcz⟩ : ∃ E, E = bmat.swp caps p a := ⟨_, rfl⟩
            rw [← hE, ← hgz, ← hcz] at M1
            have HE := Lib.hid hE
            clear hE hgz hcz hr1 hr2 hf1 hf2 hy'
            have hnz : Hid (E a c ≠ 0) := Lib.hid (by
              rw [HE.out]
              have := (pivot_spec D c n a han).2.2.2
              rw [HP'.out] at this
              have e : swapR D p a a c = D p c := by
                unfold swapR
                by_cases hq : a = p
                · rw [if_pos hq, hq]
                · rw [if_neg hq, if_pos rfl]
              rw [e]; exact this hpn)
            have hr1 : w5.cell? ⟨go, a, none⟩ = some (.slice (some ⟨gz a, 0, none⟩) Lw (cz a)) := M1.out.row h2
            have hcell : w5.cell? ⟨gz a, c, none⟩ = some (.int .u8 ((E a c).toNat : Int)) := M1.out.num h2 (by show c < Lw; omega)
            obtain ⟨V, hV⟩ : ∃ V, V = inv (E a c) := ⟨_, rfl⟩
            have HV := Lib.hid hV
            clear hV
            go_wp2_with fail
            refine (rover_x 1 _ 1 (E a c) rfl rfl hnz.out V (by rw [HV.out, one_gm]) _).mono ?_
            rintro e w' ⟨rfl, rfl⟩
            go_wp2
            clear hr1 hcell
            go_loopw [10] (fun i wr => ∃ k : Nat, k ≤ Lw ∧ i = .int .i64 k ∧ Hid (bmat wr base (.slice (some ⟨go, 0, none⟩) n cc) n (fun _ => Lw) gz cz (scaleK E a V k) ∧ Below base w wr)) (fun i _ => Lw - (intOf i).toNat)
            case atStart => exact ⟨0, by omega, rfl, Lib.hid ⟨by rw [scaleK_zero]; exact M1.out, B1.out⟩⟩
            case round =>
              obtain ⟨k, hk, rfl, HK⟩ := hrel
              have hr1 : wr.cell? ⟨go, a, none⟩ = some (.slice (some ⟨gz a, 0, none⟩) Lw (cz a)) := HK.out.1.row h2
              by_cases hkl : k < Lw
              · have hcell : wr.cell? ⟨gz a, k, none⟩ = some (.int .u8 ((E a k).toNat : Int)) := by
                  rw [HK.out.1.num h2 hkl]; unfold scaleK; rw [if_neg (by omega)]
                have hf1 : wr.frozen? ⟨gz a, k, none⟩ = false := (HK.out.1.buf a h2).2.frozen (by have := (HK.out.1.buf a h2).2.le; omega)
                have hki : (k : Int) < (Lw : Int) := by omega
                have ST := HK.out.1.drew.set h2 (j := k) hkl (gm (E a k) V)
                rw [scaleK_step] at ST
                have HK' := Lib.hid (And.intro ST (HK.out.2.drew.setCell (p := ⟨gz a, k, none⟩) (HK.out.1.buf a h2).1 (.int .u8 ((gm (E a k) V).toNat : Int))))
                clear ST
                go_wp2
                refine wp_region_still_tail 15 (by kernel_rfl) (by kernel_rfl) ?_
                simp only [List.take_succ_cons, List.take_zero, List.drop_succ_cons, List.drop_zero]
                repeat still_step
                still_call (swapW (rtimes_any _ _ _))
                repeat still_step
                try refine wpStill_nil ?_
                go_wp2
                go_roundw
                case rel => exact ⟨k + 1, by omega, by go_num, HK'⟩
                case measure => simp [intOf]; omega
              · obtain rfl : k = Lw := by omega
                have RED : Hid (bmat wr base (.slice (some ⟨go, 0, none⟩) n cc) n (fun _ => k) gz cz (red1 D p a c) ∧ Below base w wr) := Lib.hid ⟨HK.out.1.congr fun i j hi hj => by
                  unfold scaleK red1 scaleR
                  rw [← HE.out, ← HV.out]
                  by_cases e : i = a
                  · rw [if_pos ⟨e, hj⟩, if_pos e]
                  · rw [if_neg (fun h => e h.1), if_neg e], HK.out.2⟩
                obtain ⟨F, hF⟩ : ∃ F, F = red1 D p a c := ⟨_, rfl⟩
                rw [← hF] at RED
                have HF := Lib.hid hF
                clear hF HK
                go_wp2
                go_loopw [11, 12, 13] (fun i _ _ wr => ∃ i' : Nat, i' ≤ n ∧ i = .int .i64 i' ∧ Hid (bmat wr base (.slice (some ⟨go, 0, none⟩) n cc) n (fun _ => k) gz cz (takeR F a c i') ∧ Below base w wr)) (fun i _ _ _ => n - (intOf i).toNat)
                case atStart => exact ⟨0, by omega, rfl, Lib.hid ⟨by rw [takeR_zero]; exact RED.out.1, RED.out.2⟩⟩
                case round =>
                  obtain ⟨i, hi, rfl, HI⟩ := hrel
                  by_cases hin : i < n
                  · have hr1 : wr.cell? ⟨go, i, none⟩ = some (.slice (some ⟨gz i, 0, none⟩) k (cz i)) := HI.out.1.row hin
                    have hcell : wr.cell? ⟨gz i, c, none⟩ = some (.int .u8 ((takeR F a c i i c).toNat : Int)) := HI.out.1.num hin (by show c < k; omega)
                    have hci : (c : Int) < (k : Int) := by omega
                    obtain ⟨fv, hfv⟩ : ∃ f, f = takeR F a c i i c := ⟨_, rfl⟩
                    rw [← hfv] at hcell
                    have HFV := Lib.hid hfv
                    clear hfv
                    by_cases hia : i = a
                    · have HI' : Hid (bmat wr base (.slice (some ⟨go, 0, none⟩) n cc) n (fun _ => k) gz cz (takeR F a c (i + 1)) ∧ Below base w wr) := Lib.hid (by
                        have := HI.out; rw [hia] at this ⊢; rw [takeR_self]; exact this)
                      have e1 : (i : Int) ≤ a := by omega
                      have e2 : (a : Int) ≤ i := by omega
                      clear hia
                      go_wp2
                      go_roundw
                      case rel => exact ⟨i + 1, by omega, by go_num, HI'⟩
                      case measure => simp [intOf]; omega
                    · by_cases hf0 : fv = 0
                      · have HI' : Hid (bmat wr base (.slice (some ⟨go, 0, none⟩) n cc) n (fun _ => k) gz cz (takeR F a c (i + 1)) ∧ Below base w wr) := Lib.hid (by
                          rw [takeR_step0 _ _ _ _ (by rw [← HFV.out]; exact hf0)]; exact HI.out)
                        have ht : (((fv.toNat : Nat) : Int) == 0) = true := by rw [hf0]; rfl
                        clear hf0
                        go_wp2
                        go_roundw
                        case rel => exact ⟨i + 1, by omega, by go_num, HI'⟩
                        case measure => simp [intOf]; omega
                      · have ht := u8_ne hf0
                        have hne2 : ((i : Int) == (a : Int)) = false := by rw [beq_eq_false_iff_ne]; omega
                        have HIA := Lib.hid hia
                        clear hf0 hia
                        go_wp2
                        clear hcell hr1
                        obtain ⟨w8, rfl⟩ : ∃ wo : World, wo = wr := ⟨_, rfl⟩
                        have HIs := Lib.hid HI.out
                        clear HI
                        go_loopw [13] (fun j wr => ∃ j' : Nat, j' ≤ k ∧ j = .int .i64 j' ∧ Hid (bmat wr base (.slice (some ⟨go, 0, none⟩) n cc) n (fun _ => k) gz cz (takeK (takeR F a c i) a i fv j') ∧ Below base w wr)) (fun j _ => k - (intOf j).toNat)
                        case atStart => exact ⟨0, by omega, rfl, Lib.hid ⟨by rw [takeK_zero]; exact HIs.out.1, HIs.out.2⟩⟩
                        case round =>
                          obtain ⟨j, hj, rfl, HJ⟩ := hrel
                          have hr1 : wr.cell? ⟨go, i, none⟩ = some (.slice (some ⟨gz i, 0, none⟩) k (cz i)) := HJ.out.1.row hin
                          have hr2 : wr.cell? ⟨go, a, none⟩ = some (.slice (some ⟨gz a, 0, none⟩) k (cz a)) := HJ.out.1.row h2
                          by_cases hjk : j < k
                          · have hc1 : wr.cell? ⟨gz i, j, none⟩ = some (.int .u8 ((takeR F a c i i j).toNat : Int)) := by
                              rw [HJ.out.1.num hin hjk]; unfold takeK; rw [if_neg (by omega)]
                            have hc2 : wr.cell? ⟨gz a, j, none⟩ = some (.int .u8 ((takeR F a c i a j).toNat : Int)) := by
                              rw [HJ.out.1.num h2 hjk]; unfold takeK; rw [if_neg (by omega)]
                            have hf1 : wr.frozen? ⟨gz i, j, none⟩ = false := (HJ.out.1.buf i hin).2.frozen (by have := (HJ.out.1.buf i hin).2.le; omega)
                            have hki : (j : Int) < (k : Int) := by omega
                            have XB := Lib.hid (xor_bits (takeR F a c i i j) (gm fv (takeR F a c i a j)))
                            have ST := HJ.out.1.drew.set hin (j := j) hjk (takeR F a c i i j ^^^ gm fv (takeR F a c i a j))
                            rw [takeK_step] at ST
                            have HJ' := Lib.hid (And.intro ST (HJ.out.2.drew.setCell (p := ⟨gz i, j, none⟩) (HJ.out.1.buf i hin).1 (.int .u8 ((takeR F a c i i j ^^^ gm fv (takeR F a c i a j)).toNat : Int))))
                            clear ST
                            rw [← XB.out] at HJ'
                            go_wp2
                            refine wp_region_still_tail 23 (by kernel_rfl) (by kernel_rfl) ?_
                            simp only [List.take_succ_cons, List.take_zero, List.drop_succ_cons, List.drop_zero]
                            repeat still_step
                            still_call (swapW (rtimes_any _ _ _))
                            repeat still_step
                            try refine wpStill_nil ?_
                            go_wp2
                            go_roundw
                            case rel => exact ⟨j + 1, by omega, by go_num, HJ'⟩
                            case measure => simp [intOf]; omega
                          · obtain rfl : j = k := by omega
                            have HI' : Hid (bmat wr base (.slice (some ⟨go, 0, none⟩) n cc) n (fun _ => j) gz cz (takeR F a c (i + 1)) ∧ Below base w wr) := Lib.hid ⟨HJ.out.1.congr fun x y hx hy => by
                              rw [HFV.out]; exact takeR_stepK F a c i j HIA.out x y hy, HJ.out.2⟩
                            go_wp2
                            go_roundw
                            case rel => exact ⟨i + 1, by omega, by go_num, HI'⟩
                            case measure => simp [intOf]; omega
                  · obtain rfl : i = n := by omega
                    have hES : Hid (esteps i M (c + 1) = (takeR F a c i, a + 1)) := Lib.hid (by
                      show estep i c (esteps i M c) = _
                      rw [ES.out, estep, if_pos ⟨h2, by rw [HP'.out]; exact hpn⟩, HP'.out, HF.out])
                    go_wp2
                    go_roundw
                    case rel => exact ⟨c + 1, a + 1, by omega, by omega, by go_num, by go_num, Lib.hid (by rw [hES.out]), Lib.hid ⟨⟨gz, cz, by rw [hES.out]; exact HI.out.1⟩, HI.out.2⟩⟩
                    case measure => simp [intOf]; omega
        · obtain rfl : p = n := by omega
          have HP' : Hid (pivot D c p a = p) := Lib.hid (by rw [HP.out, Nat.sub_self]; rfl)
          have hES : Hid (esteps p M (c + 1) = (D, a)) := Lib.hid (by
            show estep p c (esteps p M c) = _
            rw [ES.out, estep, if_neg]
            intro h; have := h.2; simp only at this; rw [HP'.out] at this; omega)
          go_wp2
          go_roundw
          case rel => exact ⟨c + 1, a, by omega, by omega, rfl, by go_num, Lib.hid (by rw [hES.out]), Lib.hid ⟨⟨gs, caps, by rw [hES.out]; exact HM.out⟩, HB.out⟩⟩
          case measure => simp [intOf]; omega
    · have hfin : Hid (esteps n M cols = (D, a)) := Lib.hid (by
        by_cases hc2 : c < cols
        · have := esteps_stop n M c (by rw [ES.out]; show n ≤ a; omega) (cols - c)
          rw [show c + (cols - c) = cols from by omega] at this
          rw [this, ES.out]
        · rw [show cols = c from by omega, ES.out])
      by_cases hc2 : c < cols
      · have ha2 : n ≤ a := by omega
        clear hlt
        go_wp2
        go_ret
        exact ⟨by rw [hfin.out]; rfl, ⟨gs, caps, by rw [hfin.out]; exact HM.out⟩, HB.out⟩
      · clear hlt
        go_wp2
        go_ret
        exact ⟨by rw [hfin.out]; rfl, ⟨gs, caps, by rw [hfin.out]; exact HM.out⟩, HB.out⟩
end Go.Proofs.Ythlnnclpfgokjaa
