/- Walk: attrs.Same. -/
import Derived.Test.YtpfccicahfncbaaAttChk
import Derived.Test.YtpfccicahfncbaaEqX
namespace Go.Proofs.Ytpfccicahfncbaa
open Go.RowKit Wir
set_option linter.unusedVariables false
set_option linter.unusedSimpArgs false
def sameA (a b : Att) : Bool := ((a.nd.toNat : Int) == b.nd.toNat) && (((a.md.toNat : Int) == b.md.toNat) && (((a.ui.toNat : Int) == b.ui.toNat) && (((a.gi.toNat : Int) == b.gi.toNat) && ((a.mt == b.mt) && ((a.tg.toList == b.tg.toList) && sameX a.xs b.xs)))))
theorem sameA_iff (a b : Att) : sameA a b = true ↔ a = b := by
  unfold sameA sameX
  simp only [Bool.and_eq_true, beq_iff_eq, decide_eq_true_eq]
  constructor
  · rintro ⟨h1, h2, h3, h4, h5, h6, h7⟩
    obtain ⟨a1, a2, a3, a4, a5, a6, a7⟩ := a
    obtain ⟨b1, b2, b3, b4, b5, b6, b7⟩ := b
    dsimp only at *
    have e1 : a1 = b1 := UInt8.toNat_inj.1 (by omega)
    have e2 : a2 = b2 := UInt32.toNat_inj.1 (by omega)
    have e3 : a3 = b3 := UInt32.toNat_inj.1 (by omega)
    have e4 : a4 = b4 := UInt32.toNat_inj.1 (by omega)
    rw [e1, e2, e3, e4, h5, toList_inj h6, h7]
  · rintro rfl
    exact ⟨rfl, rfl, rfl, rfl, rfl, rfl, rfl⟩
set_option maxRecDepth 100000 in
set_option maxHeartbeats 1000000 in
theorem attSame_any (a b : Att) (A A' : Option Addr) (n c n' c' : Nat) (w : World) (B : Nat) (hr : Reads w B 2 A n (xtV a.xs)) (hr' : Reads w B 2 A' n' (xtV b.xs)) (hB : B ≤ w.heap.size) (hn : n ≤ 4611686018427387904) (hn' : n' ≤ 4611686018427387904) :
    Calls Try.prog 20 #[.agg (attV a A n c), .agg (attV b A' n' c')] w fun e w' => e = .returned (.bool (sameA a b)) ∧ Below w.heap.size w w' := by
  have HR := Lib.hid hr
  have HR' := Lib.hid hr'
  clear hr hr'
  obtain ⟨E, hE⟩ : ∃ E, sameA a b = E := ⟨_, rfl⟩
  have HE : Hid (sameA a b = E) := Lib.hid hE
  obtain ⟨p1, h1⟩ : ∃ p, ((a.nd.toNat : Int) == b.nd.toNat) = p := ⟨_, rfl⟩
  obtain ⟨p2, h2⟩ : ∃ p, ((a.md.toNat : Int) == b.md.toNat) = p := ⟨_, rfl⟩
  obtain ⟨p3, h3⟩ : ∃ p, ((a.ui.toNat : Int) == b.ui.toNat) = p := ⟨_, rfl⟩
  obtain ⟨p4, h4⟩ : ∃ p, ((a.gi.toNat : Int) == b.gi.toNat) = p := ⟨_, rfl⟩
  obtain ⟨p5, h5⟩ : ∃ p, (a.mt == b.mt) = p := ⟨_, rfl⟩
  obtain ⟨p6, h6⟩ : ∃ p, (a.tg.toList == b.tg.toList) = p := ⟨_, rfl⟩
  have HE2 : Hid ((p1 && (p2 && (p3 && (p4 && (p5 && (p6 && sameX a.xs b.xs)))))) = E) := Lib.hid (by rw [← h1, ← h2, ← h3, ← h4, ← h5, ← h6]; exact hE)
  clear hE
  rw [HE.out]
  have HB : Hid (Blk ((w.alloc (.cells (attV a A n c) 53)).alloc (.cells (attV b A' n' c') 53)) w.heap.size 53 (attV a A n c) ∧ Blk ((w.alloc (.cells (attV a A n c) 53)).alloc (.cells (attV b A' n' c') 53)) (w.heap.size + 1) 53 (attV b A' n' c') ∧ Below w.heap.size w ((w.alloc (.cells (attV a A n c) 53)).alloc (.cells (attV b A' n' c') 53))) := Lib.hid ⟨(Blk.new _ _ _).alloc _, by
    have := Blk.new (w.alloc (.cells (attV a A n c) 53)) 53 (attV b A' n' c')
    rwa [show (w.alloc (.cells (attV a A n c) 53)).heap.size = w.heap.size + 1 from by simp] at this, ((Below.refl _ _).alloc (Nat.le_refl _) _).alloc (by simp) _⟩
  go_enter Try.func20, Try.ntmps20
  go_upto_region 1 with fail
  generalize (w.alloc (.cells (attV a A n c) 53)).alloc (.cells (attV b A' n' c') 53) = w2 at HB ⊢
  have c6 : w2.cell? ⟨w.heap.size, 6, none⟩ = some (.slice A n c) := HB.out.1.cell 6
  have d6 : w2.cell? ⟨w.heap.size + 1, 6, none⟩ = some (.slice A' n' c') := HB.out.2.1.cell 6
  have f6 : w2.frozen? ⟨w.heap.size, 6, none⟩ = false := HB.out.1.frozen 6
  have g6 : w2.frozen? ⟨w.heap.size + 1, 6, none⟩ = false := HB.out.2.1.frozen 6
  go_quiet (fail)
  go_upto_region 3 with fail
  have HB2 : Hid (Blk (((w2.drewN nq).setCell ⟨w.heap.size, 6, none⟩ (.slice none 0 0)).setCell ⟨w.heap.size + 1, 6, none⟩ (.slice none 0 0)) w.heap.size 53 (attV a none 0 0) ∧ Blk (((w2.drewN nq).setCell ⟨w.heap.size, 6, none⟩ (.slice none 0 0)).setCell ⟨w.heap.size + 1, 6, none⟩ (.slice none 0 0)) (w.heap.size + 1) 53 (attV b none 0 0) ∧ Below w.heap.size w (((w2.drewN nq).setCell ⟨w.heap.size, 6, none⟩ (.slice none 0 0)).setCell ⟨w.heap.size + 1, 6, none⟩ (.slice none 0 0))) := Lib.hid (by
    have a1 : Blk (w2.drewN nq) w.heap.size 53 (attV a A n c) := HB.out.1.drewN nq
    have b1 : Blk (w2.drewN nq) (w.heap.size + 1) 53 (attV b A' n' c') := HB.out.2.1.drewN nq
    have a2 := a1.set_ 6 (.slice none 0 0)
    have b2 := b1.far (p := ⟨w.heap.size, 6, none⟩) (by simp) (.slice none 0 0)
    refine ⟨a2.far (p := ⟨w.heap.size + 1, 6, none⟩) (by simp) _, b2.set_ 6 _, ?_⟩
    exact ((below_drewN HB.out.2.2 nq).setCell (p := ⟨w.heap.size, 6, none⟩) (Nat.le_refl _) _).setCell (p := ⟨w.heap.size + 1, 6, none⟩) (by simp) _)
  generalize ((w2.drewN nq).setCell ⟨w.heap.size, 6, none⟩ (.slice none 0 0)).setCell ⟨w.heap.size + 1, 6, none⟩ (.slice none 0 0) = w3 at HB2 ⊢
  clear c6 d6 f6 g6 HB
  have hs3 := HB2.out.2.2.size
  have EX := Lib.hid (eqXs_any A A' n c n' c' a.xs b.xs w3 B (HR.out.below (HB2.out.2.2.mono hB)) (HR'.out.below (HB2.out.2.2.mono hB)) hn hn')
  obtain ⟨x0, x1, x2, x3, x4, x5, x6⟩ := att_cells a none 0 0 w3 _ HB2.out.1
  obtain ⟨y0, y1, y2, y3, y4, y5, y6⟩ := att_cells b none 0 0 w3 _ HB2.out.2.1
  clear x6 y6
  cases p1 with
  | false =>
    have F : Hid (E = false) := Lib.hid (by rw [← HE2.out]; rfl)
    clear HE HE2
    go_wp2
    go_ret
    exact ⟨by rw [F.out]; rfl, HB2.out.2.2⟩
  | true =>
  cases p2 with
  | false =>
    have F : Hid (E = false) := Lib.hid (by rw [← HE2.out]; rfl)
    clear HE HE2
    go_wp2
    go_ret
    exact ⟨by rw [F.out]; rfl, HB2.out.2.2⟩
  | true =>
  cases p3 with
  | false =>
    have F : Hid (E = false) := Lib.hid (by rw [← HE2.out]; rfl)
    clear HE HE2
    go_wp2
    go_ret
    exact ⟨by rw [F.out]; rfl, HB2.out.2.2⟩
  | true =>
  cases p4 with
  | false =>
    have F : Hid (E = false) := Lib.hid (by rw [← HE2.out]; rfl)
    clear HE HE2
    go_wp2
    go_ret
    exact ⟨by rw [F.out]; rfl, HB2.out.2.2⟩
  | true =>
  cases p5 with
  | false =>
    have F : Hid (E = false) := Lib.hid (by rw [← HE2.out]; rfl)
    clear HE HE2
    go_wp2
    go_ret
    exact ⟨by rw [F.out]; rfl, HB2.out.2.2⟩
  | true =>
  cases p6 with
  | false =>
    have F : Hid (E = false) := Lib.hid (by rw [← HE2.out]; rfl)
    clear HE HE2
    go_wp2
    go_ret
    exact ⟨by rw [F.out]; rfl, HB2.out.2.2⟩
  | true =>
    have F : Hid (E = sameX a.xs b.xs) := Lib.hid (by rw [← HE2.out]; rfl)
    clear HE HE2
    go_wp2_with fail
    (with_reducible refine EX.out.mono ?_)
    rintro e w4 ⟨rfl, hb4⟩
    have HB4 : Hid (Below w.heap.size w w4) := Lib.hid (HB2.out.2.2.trans (hb4.mono HB2.out.2.2.size))
    clear hb4 EX
    go_wp2
    go_ret
    exact ⟨by rw [F.out]; rfl, HB4.out⟩
end Go.Proofs.Ytpfccicahfncbaa
