/- Several texts of the claim joined into one (part 11): plain facts and walks. No conditions but those that each theorem tells. -/
import Derived.Test.YtpfccicahfncbaaDoorMgAttrsOne6
import Derived.Test.YtpfccicahfncbaaDoorRRdMAttrsOne
import Derived.Test.YtpfccicahfncbaaDoorMgAttrsOne2
import Derived.Test.YtpfccicahfncbaaDoorMgAttrsOne10
import Derived.Test.YtpfccicahfncbaaDoorMgAttrsOne8
namespace Go.Proofs.YtpfccicahfncbaaDoor
open Go.RowKit Wir
set_option linter.unusedVariables false
set_option linter.unusedSimpArgs false
/-- What holds at the head of own's loop. -/
structure RfI (w wr : World) (a : Att) (A : Option Addr) (n c : Nat) (k : Nat) (L : List (ByteArray × ByteArray)) (A' : Option Addr) (c' : Nat) : Prop where
  box : Blk wr w.heap.size 27 (attV a A n c)
  res : Blk wr (w.heap.size + 1) 31 (attV zAtt none 0 0)
  cell : Blk wr (w.heap.size + 2) 31 (attV a A' k c')
  own : wr.ownsRow (w.heap.size + 3) 60 2 (.slice A' k c') k (xtV L)
  below : Below w.heap.size w wr
  low : w.heap.size + 3 ≤ wr.heap.size
theorem RfI.drew {w wr : World} {a : Att} {A A' : Option Addr} {n c k c' : Nat} {L : List (ByteArray × ByteArray)} (h : RfI w wr a A n c k L A' c') : RfI w wr.drew a A n c k L A' c' :=
  ⟨h.box, h.res, h.cell, h.own.drew, h.below.drew, h.low⟩
theorem RfI.alloc {w wr : World} {a : Att} {A A' : Option Addr} {n c k c' : Nat} {L : List (ByteArray × ByteArray)} (h : RfI w wr a A n c k L A' c') (o : Obj) : RfI w (wr.alloc o) a A n c k L A' c' :=
  ⟨h.box.alloc o, h.res.alloc o, h.cell.alloc o, h.own.alloc o, h.below.alloc h.below.size o, by have := h.low; simp; omega⟩
/-- An element is appended; what is there before the list is stored, and behind it, of whatever length it is cut to. -/
theorem RfI.push {w wr w' : World} {a : Att} {A A' : Option Addr} {n c k c' g c2 : Nat} {L : List (ByteArray × ByteArray)} {x : ByteArray × ByteArray} (h : RfI w wr a A n c k L A' c')
    (ho : w'.ownsRow (w.heap.size + 3) 60 2 (.slice (some ⟨g, 0, none⟩) (k + 1) c2) (k + 1) (xtV L ++ [.string x.1, .string x.2])) (hg : wr.grownBy w' (Value.slice A' k c').ownBlock) :
    (Blk w' w.heap.size 27 (attV a A n c) ∧ Blk w' (w.heap.size + 2) 31 (attV a A' k c') ∧ Below w.heap.size w w') ∧
    ∀ m, Blk (w'.setCell ⟨w.heap.size + 2, 6, none⟩ (.slice (some ⟨g, 0, none⟩) m c2)) w.heap.size 27 (attV a A n c) ∧ Blk (w'.setCell ⟨w.heap.size + 2, 6, none⟩ (.slice (some ⟨g, 0, none⟩) m c2)) (w.heap.size + 1) 31 (attV zAtt none 0 0) ∧
      Blk (w'.setCell ⟨w.heap.size + 2, 6, none⟩ (.slice (some ⟨g, 0, none⟩) m c2)) (w.heap.size + 2) 31 (attV a (some ⟨g, 0, none⟩) m c2) ∧
      (w'.setCell ⟨w.heap.size + 2, 6, none⟩ (.slice (some ⟨g, 0, none⟩) m c2)).ownsRow (w.heap.size + 3) 60 2 (.slice (some ⟨g, 0, none⟩) (k + 1) c2) (k + 1) (xtV (L ++ [x])) ∧
      Below w.heap.size w (w'.setCell ⟨w.heap.size + 2, 6, none⟩ (.slice (some ⟨g, 0, none⟩) m c2)) ∧ w.heap.size + 3 ≤ (w'.setCell ⟨w.heap.size + 2, 6, none⟩ (.slice (some ⟨g, 0, none⟩) m c2)).heap.size := by
  have hne : ∀ b, b < w.heap.size + 3 → some b ≠ (Value.slice A' k c').ownBlock := fun b hb e => by
    have := (h.own.lt b e.symm).1; omega
  have hgB : w.heap.size + 3 ≤ g := (ho.lt g rfl).1
  have hb : Below w.heap.size w w' := h.below.grown hg h.below.size (fun j e => by have := (h.own.lt j e).1; omega)
  have hc := h.cell.grown hg (hne _ (by omega))
  have hx := h.box.grown hg (hne _ (by omega))
  have hr := h.res.grown hg (hne _ (by omega))
  have ho2 : w'.ownsRow (w.heap.size + 3) 60 2 (.slice (some ⟨g, 0, none⟩) (k + 1) c2) (k + 1) (xtV (L ++ [x])) := by rw [xtV_app]; exact ho
  refine ⟨⟨hx, hc, hb⟩, fun m => ⟨hx.far (p := ⟨w.heap.size + 2, 6, none⟩) (by simp) _, hr.far (p := ⟨w.heap.size + 2, 6, none⟩) (by simp) _, hc.set_ 6 _, ?_, hb.setCell (p := ⟨w.heap.size + 2, 6, none⟩) (by simp) _, by rw [World.size_setCell]; exact Nat.le_trans h.low hg.size⟩⟩
  exact ho2.kept (only_setCell (grown_refl w' (some (w.heap.size + 2))) (p := ⟨w.heap.size + 2, 6, none⟩) (.inl rfl) _) (.inr (by show some g ≠ some (w.heap.size + 2); intro e; injection e with e; omega))
set_option maxRecDepth 100000 in
set_option maxHeartbeats 3000000 in
theorem attRef_any (a : Att) (A : Option Addr) (n c : Nat) (w : World) (B : Nat) (hr : Reads w B 2 A n (xtV a.xs)) (hB : B ≤ w.heap.size) (hn : n * 32 ≤ 140737488351232) :
    Calls Tryd.prog 21 #[.agg (attV a A n c)] w fun e w' => ∃ A' cap, e = .returned (.agg (attV a A' n cap)) ∧ w'.ownsRow w.heap.size 60 2 (.slice A' n cap) n (xtV a.xs) ∧ Below w.heap.size w w' := by
  have HR := Lib.hid hr
  have HL := Lib.hid hr.xtLen
  clear hr
  have Z0 : Hid (Blk ((w.alloc (.cells (attV a A n c) 27)).alloc (.cells (attV zAtt none 0 0) 31)) w.heap.size 27 (attV a A n c) ∧ Blk ((w.alloc (.cells (attV a A n c) 27)).alloc (.cells (attV zAtt none 0 0) 31)) (w.heap.size + 1) 31 (attV zAtt none 0 0) ∧ Below w.heap.size w ((w.alloc (.cells (attV a A n c) 27)).alloc (.cells (attV zAtt none 0 0) 31)) ∧ ((w.alloc (.cells (attV a A n c) 27)).alloc (.cells (attV zAtt none 0 0) 31)).heap.size = w.heap.size + 2) := Lib.hid (by
    have h2 := Blk.new (w.alloc (.cells (attV a A n c) 27)) 31 (attV zAtt none 0 0)
    rw [show (w.alloc (.cells (attV a A n c) 27)).heap.size = w.heap.size + 1 from by simp] at h2
    exact ⟨(Blk.new _ _ _).alloc _, h2, ((Below.refl _ _).alloc (Nat.le_refl _) _).alloc (by simp) _, by simp⟩)
  go_enter Tryd.func21, Tryd.ntmps21
  go_upto_region 1 with fail
  change Code.wp _ _ _ _ ((w.alloc (.cells (attV a A n c) 27)).alloc (.cells (attV zAtt none 0 0) 31))
  generalize (w.alloc (.cells (attV a A n c) 27)).alloc (.cells (attV zAtt none 0 0) 31) = w1 at Z0 ⊢
  have c0 : w1.cell? ⟨w.heap.size, 0, none⟩ = some (.int .u8 (a.nd.toNat : Int)) := Z0.out.1.cell 0
  have c1 : w1.cell? ⟨w.heap.size, 1, none⟩ = some (.int .u32 (a.md.toNat : Int)) := Z0.out.1.cell 1
  have c2 : w1.cell? ⟨w.heap.size, 2, none⟩ = some (.int .u32 (a.ui.toNat : Int)) := Z0.out.1.cell 2
  have c3 : w1.cell? ⟨w.heap.size, 3, none⟩ = some (.int .u32 (a.gi.toNat : Int)) := Z0.out.1.cell 3
  have c4 : w1.cell? ⟨w.heap.size, 4, none⟩ = some (.int .i64 a.mt) := Z0.out.1.cell 4
  have c5 : w1.cell? ⟨w.heap.size, 5, none⟩ = some (.string a.tg) := Z0.out.1.cell 5
  go_upto_region 2 with fail
  have hs1 : w1.heap.size = w.heap.size + 2 := Z0.out.2.2.2
  rw [hs1]
  have HI : Hid (RfI w (w1.alloc (.cells (attV a none 0 0) 31)) a A n c 0 [] none 0) := Lib.hid (by
    have h3 := Blk.new w1 31 (attV a none 0 0)
    rw [hs1] at h3
    exact ⟨Z0.out.1.alloc _, Z0.out.2.1.alloc _, h3, World.ownsRow_nil _ _ _ _, Z0.out.2.2.1.alloc Z0.out.2.2.1.size _, by simp; omega⟩)
  change Code.wp _ _ _ _ (w1.alloc (.cells (attV a none 0 0) 31))
  generalize w1.alloc (.cells (attV a none 0 0) 31) = w2 at HI ⊢
  clear Z0 c0 c1 c2 c3 c4 c5 hs1
  go_wp2_with fail
  go_loopw [4] (fun i wr => ∃ (k c' : Nat) (A' : Option Addr), k ≤ n ∧ i = .int .i64 k ∧ Hid (RfI w wr a A n c k (a.xs.take k) A' c')) (fun i _ => n - (intOf i).toNat)
  case atStart => exact ⟨0, 0, none, by omega, rfl, by rw [List.take_zero]; exact HI⟩
  case round =>
    obtain ⟨k, c', A', hk, rfl, HI⟩ := hrel
    have b6 : wr.cell? ⟨w.heap.size, 6, none⟩ = some (.slice A n c) := HI.out.box.cell 6
    by_cases hlt : k < n
    · obtain ⟨ad, hkl, rfl, hbl, x0, x1⟩ := xt_cells HR.out k hlt
      have E1 : Hid (a.xs.take (k + 1) = a.xs.take k ++ [a.xs[k]]) := Lib.hid (by rw [List.take_add_one, List.getElem?_eq_getElem hkl]; rfl)
      have KS : Hid (∀ W, Blk W w.heap.size 27 (attV a (some ad) n c) ∧ Below w.heap.size w W → W.cell? ⟨w.heap.size, 6, none⟩ = some (.slice (some ad) n c) ∧ W.cell? (ad.add (k * 2)) = some (.string (a.xs[k]).1) ∧ W.cell? ⟨(ad.add (k * 2)).block, (ad.add (k * 2)).off + 1, none⟩ = some (.string (a.xs[k]).2)) := Lib.hid (fun W hW => by
        refine ⟨hW.1.cell 6, ?_, ?_⟩
        · rw [hW.2.cell (by rw [block_of_add]; omega)]; exact x0
        · show W.cell? ((ad.add (k * 2)).add 1) = _
          rw [hW.2.cell (by rw [block_of_add, block_of_add]; omega)]; exact x1)
      obtain ⟨x, hx⟩ : ∃ x, a.xs[k] = x := ⟨_, rfl⟩
      rw [hx] at KS E1
      clear hx x0 x1 hkl
      have hki : (k : Int) < (n : Int) := by omega
      have hk0 : (0 : Int) ≤ (k : Int) := by omega
      have hk1 : k ≤ 4611686018427387904 := by omega
      have hk2 : (k + 1) * 32 ≤ 140737488355328 := by omega
      go_upto_region 5 with fail
      have HD : Hid (RfI w wr.drew a (some ad) n c k (a.xs.take k) A' c') := Lib.hid HI.out.drew
      have SA := KS.out _ ⟨HD.out.box, HD.out.below⟩
      have d0 : wr.drew.cell? ⟨w.heap.size + 2, 6, none⟩ = some (.slice A' k c') := HD.out.cell.cell 6
      have d1 : (wr.alloc (.cells #[.string x.1, .string x.2] 60)).cell? ⟨w.heap.size + 2, 6, none⟩ = some (.slice A' k c') := (HI.out.alloc _).cell.cell 6
      have SB := KS.out _ ⟨(HD.out.alloc (.cells #[.string x.1, .string x.2] 60)).box, (HD.out.alloc (.cells #[.string x.1, .string x.2] 60)).below⟩
      clear b6
      refine wp_region_held_drew (S := fun w' => w'.cell? ⟨w.heap.size, 6, none⟩ = some (.slice (some ad) n c) ∧ w'.cell? (ad.add (k * 2)) = some (.string x.1) ∧ w'.cell? ⟨(ad.add (k * 2)).block, (ad.add (k * 2)).off + 1, none⟩ = some (.string x.2)) (by kernel_rfl) (by first | exact SA | exact SB | exact SC | exact SD) (fun hHeld => ?_)
      refine wpAnyH_take (i := 0) (oi := { dst := some 25, op := .fieldAddr 31 (.tmp 3) 6, type := 0, pos := "law.go:30", after := #[], guard := none }) (v := _) rfl (by as_aux_lemma => kernel_rfl) (by as_aux_lemma => kernel_rfl) (by as_aux_lemma => kernel_rfl) (fun _ _ _ h => h) (Or.inl ⟨by kernel_rfl, by (intro w hSw; (try dsimp only at hSw); go_simp; first | done | with_reducible rfl)⟩) (by assumption) ?_
      (try simp only [List.getElem_toArray, List.getElem_cons_succ, List.getElem_cons_zero, Act.put, List.setIfInBounds_toArray, List.set_cons_zero, List.set_cons_succ])
      refine wpAnyH_take (i := 2) (oi := { dst := some 27, op := .fieldAddr 27 (.tmp 1) 6, type := 0, pos := "law.go:30", after := #[], guard := none }) (v := _) rfl (by as_aux_lemma => kernel_rfl) (by as_aux_lemma => kernel_rfl) (by as_aux_lemma => kernel_rfl) (fun _ _ _ h => h) (Or.inl ⟨by kernel_rfl, by (intro w hSw; (try dsimp only at hSw); go_simp; first | done | with_reducible rfl)⟩) (by assumption) ?_
      (try simp only [List.getElem_toArray, List.getElem_cons_succ, List.getElem_cons_zero, Act.put, List.setIfInBounds_toArray, List.set_cons_zero, List.set_cons_succ])
      refine wpAnyH_take (i := 3) (oi := { dst := some 28, op := .load 25 (.tmp 27), type := 25, pos := "law.go:30", after := #[{ on := 2, ground := .data }], guard := none }) (v := _) rfl (by as_aux_lemma => kernel_rfl) (by as_aux_lemma => kernel_rfl) (by as_aux_lemma => kernel_rfl) (fun _ _ _ h => h) (Or.inl ⟨by kernel_rfl, by (intro w hSw; (try dsimp only at hSw); go_simp; first | done | with_reducible rfl)⟩) (by assumption) ?_
      (try simp only [List.getElem_toArray, List.getElem_cons_succ, List.getElem_cons_zero, Act.put, List.setIfInBounds_toArray, List.set_cons_zero, List.set_cons_succ])
      refine wpAnyH_take (i := 4) (oi := { dst := some 29, op := .move (.tmp 4), type := 3, pos := "law.go:30", after := #[], guard := none }) (v := _) rfl (by as_aux_lemma => kernel_rfl) (by as_aux_lemma => kernel_rfl) (by as_aux_lemma => kernel_rfl) (fun _ _ _ h => h) (Or.inl ⟨by kernel_rfl, by (intro w hSw; (try dsimp only at hSw); go_simp; first | done | with_reducible rfl)⟩) (by assumption) ?_
      (try simp only [List.getElem_toArray, List.getElem_cons_succ, List.getElem_cons_zero, Act.put, List.setIfInBounds_toArray, List.set_cons_zero, List.set_cons_succ])
      refine wpAnyH_take (i := 5) (oi := { dst := some 30, op := .indexAddr 25 (.tmp 28) (.tmp 29), type := 0, pos := "law.go:30", after := #[{ on := 3, ground := .data }, { on := 4, ground := .data }], guard := none }) (v := _) rfl (by as_aux_lemma => kernel_rfl) (by as_aux_lemma => kernel_rfl) (by as_aux_lemma => kernel_rfl) (fun _ _ _ h => h) (Or.inl ⟨by kernel_rfl, by (intro w hSw; (try dsimp only at hSw); go_simp; first | done | with_reducible rfl)⟩) (by assumption) ?_
      (try simp only [List.getElem_toArray, List.getElem_cons_succ, List.getElem_cons_zero, Act.put, List.setIfInBounds_toArray, List.set_cons_zero, List.set_cons_succ])
      refine wpAnyH_take (i := 6) (oi := { dst := some 31, op := .fieldAddr 43 (.tmp 30) 0, type := 0, pos := "law.go:30", after := #[{ on := 5, ground := .data }], guard := none }) (v := _) rfl (by as_aux_lemma => kernel_rfl) (by as_aux_lemma => kernel_rfl) (by as_aux_lemma => kernel_rfl) (fun _ _ _ h => h) (Or.inl ⟨by kernel_rfl, by (intro w hSw; (try dsimp only at hSw); go_simp; first | done | with_reducible rfl)⟩) (by assumption) ?_
      (try simp only [List.getElem_toArray, List.getElem_cons_succ, List.getElem_cons_zero, Act.put, List.setIfInBounds_toArray, List.set_cons_zero, List.set_cons_succ])
      refine wpAnyH_take (i := 7) (oi := { dst := some 32, op := .load 9 (.tmp 31), type := 9, pos := "law.go:30", after := #[{ on := 6, ground := .data }], guard := none }) (v := _) rfl (by as_aux_lemma => kernel_rfl) (by as_aux_lemma => kernel_rfl) (by as_aux_lemma => kernel_rfl) (fun _ _ _ h => h) (Or.inl ⟨by kernel_rfl, by (intro w hSw; (try dsimp only at hSw); go_simp; first | done | with_reducible rfl)⟩) (by assumption) ?_
      (try simp only [List.getElem_toArray, List.getElem_cons_succ, List.getElem_cons_zero, Act.put, List.setIfInBounds_toArray, List.set_cons_zero, List.set_cons_succ])
      refine wpAnyH_take (i := 8) (oi := { dst := some 33, op := .fieldAddr 27 (.tmp 1) 6, type := 0, pos := "law.go:30", after := #[], guard := none }) (v := _) rfl (by as_aux_lemma => kernel_rfl) (by as_aux_lemma => kernel_rfl) (by as_aux_lemma => kernel_rfl) (fun _ _ _ h => h) (Or.inl ⟨by kernel_rfl, by (intro w hSw; (try dsimp only at hSw); go_simp; first | done | with_reducible rfl)⟩) (by assumption) ?_
      (try simp only [List.getElem_toArray, List.getElem_cons_succ, List.getElem_cons_zero, Act.put, List.setIfInBounds_toArray, List.set_cons_zero, List.set_cons_succ])
      refine wpAnyH_take (i := 9) (oi := { dst := some 34, op := .load 25 (.tmp 33), type := 25, pos := "law.go:30", after := #[{ on := 8, ground := .data }], guard := none }) (v := _) rfl (by as_aux_lemma => kernel_rfl) (by as_aux_lemma => kernel_rfl) (by as_aux_lemma => kernel_rfl) (fun _ _ _ h => h) (Or.inl ⟨by kernel_rfl, by (intro w hSw; (try dsimp only at hSw); go_simp; first | done | with_reducible rfl)⟩) (by assumption) ?_
      (try simp only [List.getElem_toArray, List.getElem_cons_succ, List.getElem_cons_zero, Act.put, List.setIfInBounds_toArray, List.set_cons_zero, List.set_cons_succ])
      refine wpAnyH_take (i := 10) (oi := { dst := some 35, op := .move (.tmp 4), type := 3, pos := "law.go:30", after := #[], guard := none }) (v := _) rfl (by as_aux_lemma => kernel_rfl) (by as_aux_lemma => kernel_rfl) (by as_aux_lemma => kernel_rfl) (fun _ _ _ h => h) (Or.inl ⟨by kernel_rfl, by (intro w hSw; (try dsimp only at hSw); go_simp; first | done | with_reducible rfl)⟩) (by assumption) ?_
      (try simp only [List.getElem_toArray, List.getElem_cons_succ, List.getElem_cons_zero, Act.put, List.setIfInBounds_toArray, List.set_cons_zero, List.set_cons_succ])
      refine wpAnyH_take (i := 11) (oi := { dst := some 36, op := .indexAddr 25 (.tmp 34) (.tmp 35), type := 0, pos := "law.go:30", after := #[{ on := 9, ground := .data }, { on := 10, ground := .data }], guard := none }) (v := _) rfl (by as_aux_lemma => kernel_rfl) (by as_aux_lemma => kernel_rfl) (by as_aux_lemma => kernel_rfl) (fun _ _ _ h => h) (Or.inl ⟨by kernel_rfl, by (intro w hSw; (try dsimp only at hSw); go_simp; first | done | with_reducible rfl)⟩) (by assumption) ?_
      (try simp only [List.getElem_toArray, List.getElem_cons_succ, List.getElem_cons_zero, Act.put, List.setIfInBounds_toArray, List.set_cons_zero, List.set_cons_succ])
      refine wpAnyH_take (i := 12) (oi := { dst := some 37, op := .fieldAddr 43 (.tmp 36) 1, type := 0, pos := "law.go:30", after := #[{ on := 11, ground := .data }], guard := none }) (v := _) rfl (by as_aux_lemma => kernel_rfl) (by as_aux_lemma => kernel_rfl) (by as_aux_lemma => kernel_rfl) (fun _ _ _ h => h) (Or.inl ⟨by kernel_rfl, by (intro w hSw; (try dsimp only at hSw); go_simp; first | done | with_reducible rfl)⟩) (by assumption) ?_
      (try simp only [List.getElem_toArray, List.getElem_cons_succ, List.getElem_cons_zero, Act.put, List.setIfInBounds_toArray, List.set_cons_zero, List.set_cons_succ])
      refine wpAnyH_take (i := 13) (oi := { dst := some 38, op := .load 9 (.tmp 37), type := 9, pos := "law.go:30", after := #[{ on := 12, ground := .data }], guard := none }) (v := _) rfl (by as_aux_lemma => kernel_rfl) (by as_aux_lemma => kernel_rfl) (by as_aux_lemma => kernel_rfl) (fun _ _ _ h => h) (Or.inl ⟨by kernel_rfl, by (intro w hSw; (try dsimp only at hSw); go_simp; first | done | with_reducible rfl)⟩) (by assumption) ?_
      (try simp only [List.getElem_toArray, List.getElem_cons_succ, List.getElem_cons_zero, Act.put, List.setIfInBounds_toArray, List.set_cons_zero, List.set_cons_succ])
      refine wpAnyH_take (i := 14) (oi := { dst := some 39, op := .build 60 #[(0, .tmp 32), (1, .tmp 38)], type := 60, pos := "law.go:30", after := #[{ on := 7, ground := .data }, { on := 13, ground := .data }], guard := none }) (v := _) rfl (by as_aux_lemma => kernel_rfl) (by as_aux_lemma => kernel_rfl) (by as_aux_lemma => kernel_rfl) (fun _ _ _ h => h) (Or.inl ⟨by kernel_rfl, by (intro w hSw; (try dsimp only at hSw); go_simp; first | done | with_reducible rfl)⟩) (by assumption) ?_
      (try simp only [List.getElem_toArray, List.getElem_cons_succ, List.getElem_cons_zero, Act.put, List.setIfInBounds_toArray, List.set_cons_zero, List.set_cons_succ])
      as_aux_lemma =>
        refine wpAnyH_ready (rs := [1, 15]) (by as_aux_lemma => kernel_rfl) (by simp) (AllReadyH.cons rfl (fun K hK => ?_) (AllReadyH.cons rfl (fun K hK => ?_) AllReadyH.nil))
        · as_aux_lemma =>
            try simp only [List.getElem_toArray, List.getElem_cons_succ, List.getElem_cons_zero]
            go_simp
            refine hK.out _ _ (by first | exact SA | exact SB | exact SC | exact SD) (fun hHeld => ?_)
            clear hK K
            (try simp only [List.getElem_toArray, List.getElem_cons_succ, List.getElem_cons_zero, Act.put, List.setIfInBounds_toArray, List.set_cons_zero, List.set_cons_succ])
            refine wpAnyH_ready (rs := [15]) (by as_aux_lemma => kernel_rfl) (by simp) (AllReadyH.cons rfl (fun K hK => ?_) AllReadyH.nil)
            try simp only [List.getElem_toArray, List.getElem_cons_succ, List.getElem_cons_zero]
            go_simp
            refine hK.out _ _ (by first | exact SA | exact SB | exact SC | exact SD) (fun hHeld => ?_)
            clear hK K
            (try simp only [List.getElem_toArray, List.getElem_cons_succ, List.getElem_cons_zero, Act.put, List.setIfInBounds_toArray, List.set_cons_zero, List.set_cons_succ])
            refine wpAnyH_ready (rs := [16]) (by as_aux_lemma => kernel_rfl) (by simp) (AllReadyH.cons rfl (fun K hK => ?_) AllReadyH.nil)
            try simp only [List.getElem_toArray, List.getElem_cons_succ, List.getElem_cons_zero]
            rw [if_pos (by as_aux_lemma => kernel_rfl)]
            change Oper.wp _ _ _ (wr.drew.alloc (.cells #[.string x.1, .string x.2] 60)) _ _
            refine wp_appendN elemRX _ _ rfl (w.heap.size + 3) (.slice A' k c') k _ rfl HD.out.own #[.string x.1, .string x.2] rfl rfl (by intro u hu; simp at hu; rcases hu with rfl | rfl <;> rfl) hk1 hk2 HD.out.low ?_
            intro v' w' ho hg hd
            clear hd
            obtain ⟨gg, cg, rfl, hcg⟩ := own_slX ho (by omega)
            have HPP := Lib.hid (HD.out.push (x := x) ho hg)
            clear ho hg
            have SC := KS.out _ ⟨HPP.out.1.1, HPP.out.1.2.2⟩
            have SD := KS.out _ ⟨(HPP.out.2 (k + 1)).1, (HPP.out.2 (k + 1)).2.2.2.2.1⟩
            have ew : w'.cell? ⟨w.heap.size + 2, 6, none⟩ = some (.slice A' k c') := HPP.out.1.2.1.cell 6
            have fw : w'.frozen? ⟨w.heap.size + 2, 6, none⟩ = false := HPP.out.1.2.1.frozen 6
            refine hK.out _ _ (by first | exact SA | exact SB | exact SC | exact SD) (fun hHeld => ?_)
            clear hK K
            (try simp only [List.getElem_toArray, List.getElem_cons_succ, List.getElem_cons_zero, Act.put, List.setIfInBounds_toArray, List.set_cons_zero, List.set_cons_succ])
            refine wpAnyH_take (i := 17) (oi := { dst := some 42, op := .fieldAddr 31 (.tmp 3) 6, type := 0, pos := "law.go:30", after := #[{ on := 0, ground := .phase }, { on := 1, ground := .phase }, { on := 2, ground := .phase }, { on := 3, ground := .phase }, { on := 4, ground := .phase }, { on := 5, ground := .phase }, { on := 6, ground := .phase }, { on := 7, ground := .phase }, { on := 8, ground := .phase }, { on := 9, ground := .phase }, { on := 10, ground := .phase }, { on := 11, ground := .phase }, { on := 12, ground := .phase }, { on := 13, ground := .phase }, { on := 14, ground := .phase }, { on := 15, ground := .phase }, { on := 16, ground := .phase }], guard := none }) (v := _) rfl (by as_aux_lemma => kernel_rfl) (by as_aux_lemma => kernel_rfl) (by as_aux_lemma => kernel_rfl) (fun _ _ _ h => h) (Or.inl ⟨by kernel_rfl, by (intro w hSw; (try dsimp only at hSw); go_simp; first | done | with_reducible rfl)⟩) (by assumption) ?_
            (try simp only [List.getElem_toArray, List.getElem_cons_succ, List.getElem_cons_zero, Act.put, List.setIfInBounds_toArray, List.set_cons_zero, List.set_cons_succ])
            refine wpAnyH_ready (rs := [18]) (by as_aux_lemma => kernel_rfl) (by simp) (AllReadyH.cons rfl (fun K hK => ?_) AllReadyH.nil)
            try simp only [List.getElem_toArray, List.getElem_cons_succ, List.getElem_cons_zero]
            go_simp
            refine hK.out _ _ (by first | exact SA | exact SB | exact SC | exact SD) (fun hHeld => ?_)
            clear hK K
            (try simp only [List.getElem_toArray, List.getElem_cons_succ, List.getElem_cons_zero, Act.put, List.setIfInBounds_toArray, List.set_cons_zero, List.set_cons_succ])
            refine wpAnyH_done (by as_aux_lemma => kernel_rfl) ?_ _
            have HK' : Hid (RfI w (w'.setCell ⟨w.heap.size + 2, 6, none⟩ (.slice (some ⟨gg, 0, none⟩) (k + 1) cg)) a (some ad) n c (k + 1) (a.xs.take (k + 1)) (some ⟨gg, 0, none⟩) cg) := Lib.hid (by
              obtain ⟨q1, q2, q3, q4, q5, q6⟩ := HPP.out.2 (k + 1)
              rw [E1.out]
              exact ⟨q1, q2, q3, q4, q5, q6⟩)
            clear SA SB SC SD
            go_wp2
            go_roundw
            case rel => exact ⟨k + 1, cg, some ⟨gg, 0, none⟩, by omega, by go_num, HK'⟩
            case measure => simp [intOf]; omega
        · as_aux_lemma =>
            try simp only [List.getElem_toArray, List.getElem_cons_succ, List.getElem_cons_zero]
            go_simp
            refine hK.out _ _ (by first | exact SA | exact SB | exact SC | exact SD) (fun hHeld => ?_)
            clear hK K
            (try simp only [List.getElem_toArray, List.getElem_cons_succ, List.getElem_cons_zero, Act.put, List.setIfInBounds_toArray, List.set_cons_zero, List.set_cons_succ])
            refine wpAnyH_ready (rs := [1]) (by as_aux_lemma => kernel_rfl) (by simp) (AllReadyH.cons rfl (fun K hK => ?_) AllReadyH.nil)
            try simp only [List.getElem_toArray, List.getElem_cons_succ, List.getElem_cons_zero]
            go_simp
            refine hK.out _ _ (by first | exact SA | exact SB | exact SC | exact SD) (fun hHeld => ?_)
            clear hK K
            (try simp only [List.getElem_toArray, List.getElem_cons_succ, List.getElem_cons_zero, Act.put, List.setIfInBounds_toArray, List.set_cons_zero, List.set_cons_succ])
            refine wpAnyH_ready (rs := [16]) (by as_aux_lemma => kernel_rfl) (by simp) (AllReadyH.cons rfl (fun K hK => ?_) AllReadyH.nil)
            try simp only [List.getElem_toArray, List.getElem_cons_succ, List.getElem_cons_zero]
            rw [if_pos (by as_aux_lemma => kernel_rfl)]
            change Oper.wp _ _ _ (wr.drew.alloc (.cells #[.string x.1, .string x.2] 60)) _ _
            refine wp_appendN elemRX _ _ rfl (w.heap.size + 3) (.slice A' k c') k _ rfl HD.out.own #[.string x.1, .string x.2] rfl rfl (by intro u hu; simp at hu; rcases hu with rfl | rfl <;> rfl) hk1 hk2 HD.out.low ?_
            intro v' w' ho hg hd
            clear hd
            obtain ⟨gg, cg, rfl, hcg⟩ := own_slX ho (by omega)
            have HPP := Lib.hid (HD.out.push (x := x) ho hg)
            clear ho hg
            have SC := KS.out _ ⟨HPP.out.1.1, HPP.out.1.2.2⟩
            have SD := KS.out _ ⟨(HPP.out.2 (k + 1)).1, (HPP.out.2 (k + 1)).2.2.2.2.1⟩
            have ew : w'.cell? ⟨w.heap.size + 2, 6, none⟩ = some (.slice A' k c') := HPP.out.1.2.1.cell 6
            have fw : w'.frozen? ⟨w.heap.size + 2, 6, none⟩ = false := HPP.out.1.2.1.frozen 6
            refine hK.out _ _ (by first | exact SA | exact SB | exact SC | exact SD) (fun hHeld => ?_)
            clear hK K
            (try simp only [List.getElem_toArray, List.getElem_cons_succ, List.getElem_cons_zero, Act.put, List.setIfInBounds_toArray, List.set_cons_zero, List.set_cons_succ])
            refine wpAnyH_take (i := 17) (oi := { dst := some 42, op := .fieldAddr 31 (.tmp 3) 6, type := 0, pos := "law.go:30", after := #[{ on := 0, ground := .phase }, { on := 1, ground := .phase }, { on := 2, ground := .phase }, { on := 3, ground := .phase }, { on := 4, ground := .phase }, { on := 5, ground := .phase }, { on := 6, ground := .phase }, { on := 7, ground := .phase }, { on := 8, ground := .phase }, { on := 9, ground := .phase }, { on := 10, ground := .phase }, { on := 11, ground := .phase }, { on := 12, ground := .phase }, { on := 13, ground := .phase }, { on := 14, ground := .phase }, { on := 15, ground := .phase }, { on := 16, ground := .phase }], guard := none }) (v := _) rfl (by as_aux_lemma => kernel_rfl) (by as_aux_lemma => kernel_rfl) (by as_aux_lemma => kernel_rfl) (fun _ _ _ h => h) (Or.inl ⟨by kernel_rfl, by (intro w hSw; (try dsimp only at hSw); go_simp; first | done | with_reducible rfl)⟩) (by assumption) ?_
            (try simp only [List.getElem_toArray, List.getElem_cons_succ, List.getElem_cons_zero, Act.put, List.setIfInBounds_toArray, List.set_cons_zero, List.set_cons_succ])
            refine wpAnyH_ready (rs := [18]) (by as_aux_lemma => kernel_rfl) (by simp) (AllReadyH.cons rfl (fun K hK => ?_) AllReadyH.nil)
            try simp only [List.getElem_toArray, List.getElem_cons_succ, List.getElem_cons_zero]
            go_simp
            refine hK.out _ _ (by first | exact SA | exact SB | exact SC | exact SD) (fun hHeld => ?_)
            clear hK K
            (try simp only [List.getElem_toArray, List.getElem_cons_succ, List.getElem_cons_zero, Act.put, List.setIfInBounds_toArray, List.set_cons_zero, List.set_cons_succ])
            refine wpAnyH_done (by as_aux_lemma => kernel_rfl) ?_ _
            have HK' : Hid (RfI w (w'.setCell ⟨w.heap.size + 2, 6, none⟩ (.slice (some ⟨gg, 0, none⟩) (k + 1) cg)) a (some ad) n c (k + 1) (a.xs.take (k + 1)) (some ⟨gg, 0, none⟩) cg) := Lib.hid (by
              obtain ⟨q1, q2, q3, q4, q5, q6⟩ := HPP.out.2 (k + 1)
              rw [E1.out]
              exact ⟨q1, q2, q3, q4, q5, q6⟩)
            clear SA SB SC SD
            go_wp2
            go_roundw
            case rel => exact ⟨k + 1, cg, some ⟨gg, 0, none⟩, by omega, by go_num, HK'⟩
            case measure => simp [intOf]; omega
    · obtain rfl : k = n := by omega
      have HI2 : Hid (RfI w wr a A k c k a.xs A' c') := Lib.hid (by
        have := HI.out
        rw [List.take_of_length_le (by rw [HL.out]; exact Nat.le_refl _)] at this
        exact this)
      clear HI
      obtain ⟨a0, a1, a2, a3, a4, a5, a6⟩ := ratt_cells a A' k c' wr _ HI2.out.cell
      have z0 : ∀ i, wr.cell? ⟨w.heap.size + 1, i, none⟩ = (attV zAtt none 0 0)[i]? := fun i => HI2.out.res.cell i
      have y0 : wr.cell? ⟨w.heap.size + 1, 0, none⟩ = some (.int .u8 0) := z0 0
      have y1 : wr.cell? ⟨w.heap.size + 1, 1, none⟩ = some (.int .u32 0) := z0 1
      have y2 : wr.cell? ⟨w.heap.size + 1, 2, none⟩ = some (.int .u32 0) := z0 2
      have y3 : wr.cell? ⟨w.heap.size + 1, 3, none⟩ = some (.int .u32 0) := z0 3
      have y4 : wr.cell? ⟨w.heap.size + 1, 4, none⟩ = some (.int .i64 0) := z0 4
      have y5 : wr.cell? ⟨w.heap.size + 1, 5, none⟩ = some (.string ⟨#[]⟩) := z0 5
      have y6 : wr.cell? ⟨w.heap.size + 1, 6, none⟩ = some (.slice none 0 0) := z0 6
      have g0 : ∀ i, wr.frozen? ⟨w.heap.size + 1, i, none⟩ = false := fun i => HI2.out.res.frozen i
      clear z0
      have HG : Hid (Blk (((((((wr.setCell ⟨w.heap.size + 1, 0, none⟩ (.int .u8 (a.nd.toNat : Int))).setCell ⟨w.heap.size + 1, 1, none⟩ (.int .u32 (a.md.toNat : Int))).setCell ⟨w.heap.size + 1, 2, none⟩ (.int .u32 (a.ui.toNat : Int))).setCell ⟨w.heap.size + 1, 3, none⟩ (.int .u32 (a.gi.toNat : Int))).setCell ⟨w.heap.size + 1, 4, none⟩ (.int .i64 a.mt)).setCell ⟨w.heap.size + 1, 5, none⟩ (.string a.tg)).setCell ⟨w.heap.size + 1, 6, none⟩ (.slice A' k c')) (w.heap.size + 1) 31 (attV a A' k c')) := Lib.hid (((((((HI2.out.res.set_ 0 (.int .u8 (a.nd.toNat : Int))).set_ 1 (.int .u32 (a.md.toNat : Int))).set_ 2 (.int .u32 (a.ui.toNat : Int))).set_ 3 (.int .u32 (a.gi.toNat : Int))).set_ 4 (.int .i64 a.mt)).set_ 5 (.string a.tg)).set_ 6 (.slice A' k c'))
      have HBe : Hid (Below w.heap.size w (((((((wr.setCell ⟨w.heap.size + 1, 0, none⟩ (.int .u8 (a.nd.toNat : Int))).setCell ⟨w.heap.size + 1, 1, none⟩ (.int .u32 (a.md.toNat : Int))).setCell ⟨w.heap.size + 1, 2, none⟩ (.int .u32 (a.ui.toNat : Int))).setCell ⟨w.heap.size + 1, 3, none⟩ (.int .u32 (a.gi.toNat : Int))).setCell ⟨w.heap.size + 1, 4, none⟩ (.int .i64 a.mt)).setCell ⟨w.heap.size + 1, 5, none⟩ (.string a.tg)).setCell ⟨w.heap.size + 1, 6, none⟩ (.slice A' k c'))) := Lib.hid (((((((HI2.out.below.setCell (p := ⟨w.heap.size + 1, 0, none⟩) (Nat.le_succ _) (.int .u8 (a.nd.toNat : Int))).setCell (p := ⟨w.heap.size + 1, 1, none⟩) (Nat.le_succ _) (.int .u32 (a.md.toNat : Int))).setCell (p := ⟨w.heap.size + 1, 2, none⟩) (Nat.le_succ _) (.int .u32 (a.ui.toNat : Int))).setCell (p := ⟨w.heap.size + 1, 3, none⟩) (Nat.le_succ _) (.int .u32 (a.gi.toNat : Int))).setCell (p := ⟨w.heap.size + 1, 4, none⟩) (Nat.le_succ _) (.int .i64 a.mt)).setCell (p := ⟨w.heap.size + 1, 5, none⟩) (Nat.le_succ _) (.string a.tg)).setCell (p := ⟨w.heap.size + 1, 6, none⟩) (Nat.le_succ _) (.slice A' k c'))
      have HO : Hid ((((((((wr.setCell ⟨w.heap.size + 1, 0, none⟩ (.int .u8 (a.nd.toNat : Int))).setCell ⟨w.heap.size + 1, 1, none⟩ (.int .u32 (a.md.toNat : Int))).setCell ⟨w.heap.size + 1, 2, none⟩ (.int .u32 (a.ui.toNat : Int))).setCell ⟨w.heap.size + 1, 3, none⟩ (.int .u32 (a.gi.toNat : Int))).setCell ⟨w.heap.size + 1, 4, none⟩ (.int .i64 a.mt)).setCell ⟨w.heap.size + 1, 5, none⟩ (.string a.tg)).setCell ⟨w.heap.size + 1, 6, none⟩ (.slice A' k c')).ownsRow w.heap.size 60 2 (.slice A' k c') k (xtV a.xs)) := Lib.hid (own_lower (HI2.out.own.kept (only_setCell (only_setCell (only_setCell (only_setCell (only_setCell (only_setCell (only_setCell (grown_refl wr (some (w.heap.size + 1))) (p := ⟨w.heap.size + 1, 0, none⟩) (.inl rfl) (.int .u8 (a.nd.toNat : Int))) (p := ⟨w.heap.size + 1, 1, none⟩) (.inl rfl) (.int .u32 (a.md.toNat : Int))) (p := ⟨w.heap.size + 1, 2, none⟩) (.inl rfl) (.int .u32 (a.ui.toNat : Int))) (p := ⟨w.heap.size + 1, 3, none⟩) (.inl rfl) (.int .u32 (a.gi.toNat : Int))) (p := ⟨w.heap.size + 1, 4, none⟩) (.inl rfl) (.int .i64 a.mt)) (p := ⟨w.heap.size + 1, 5, none⟩) (.inl rfl) (.string a.tg)) (p := ⟨w.heap.size + 1, 6, none⟩) (.inl rfl) (.slice A' k c')) (.inr (fun e => by have := (HI2.out.own.lt _ e).1; omega))) (show w.heap.size ≤ w.heap.size + 3 by omega))
      go_wp2
      refine bodyPost_ret (v := .agg (attV a A' k c')) ?_ ?_ ?_
      · exact results_rec1 (p := 2) rfl _ _ (w.heap.size + 1) 31 (attV a A' k c') (0, 0) rfl HG.out Tryd.underlying31 (by kernel_rfl)
      · rfl
      · exact ⟨A', c', rfl, HO.out, HBe.out⟩
end Go.Proofs.YtpfccicahfncbaaDoor
namespace Go.Proofs.YtpfccicahfncbaaDoor
open Go.RowKit Wir
set_option linter.unusedVariables false
set_option linter.unusedSimpArgs false
def sameA (a b : Att) : Bool := ((a.nd.toNat : Int) == b.nd.toNat) && (((a.md.toNat : Int) == b.md.toNat) && (((a.ui.toNat : Int) == b.ui.toNat) && (((a.gi.toNat : Int) == b.gi.toNat) && ((a.mt == b.mt) && ((a.tg.toList == b.tg.toList) && sameX a.xs b.xs)))))
theorem sameA_iff (a b : Att) : sameA a b = true ↔ a = b := by
  unfold sameA sameX
  simp only [Bool.and_eq_true, beq_iff_eq, decide_eq_true_eq]
  constructor
  · rintro ⟨h1, h2, h3, h4, h5, h6, h7⟩
    obtain ⟨a1, a2, a3, a4, a5, a6, a7⟩ := a
    obtain ⟨b1, b2, b3, b4, b5, b6, b7⟩ := b
    dsimp only at *
    have e1 : a1 = b1 := UInt8.toNat_inj.1 (by omega)
    have e2 : a2 = b2 := UInt32.toNat_inj.1 (by omega)
    have e3 : a3 = b3 := UInt32.toNat_inj.1 (by omega)
    have e4 : a4 = b4 := UInt32.toNat_inj.1 (by omega)
    rw [e1, e2, e3, e4, h5, toList_inj h6, h7]
  · rintro rfl
    exact ⟨rfl, rfl, rfl, rfl, rfl, rfl, rfl⟩
set_option maxRecDepth 100000 in
set_option maxHeartbeats 1000000 in
theorem attSame_any (a b : Att) (A A' : Option Addr) (n c n' c' : Nat) (w : World) (B : Nat) (hr : Reads w B 2 A n (xtV a.xs)) (hr' : Reads w B 2 A' n' (xtV b.xs)) (hB : B ≤ w.heap.size) (hn : n ≤ 4611686018427387904) (hn' : n' ≤ 4611686018427387904) :
    Calls Tryd.prog 24 #[.agg (attV a A n c), .agg (attV b A' n' c')] w fun e w' => e = .returned (.bool (sameA a b)) ∧ Below w.heap.size w w' := by
  have HR := Lib.hid hr
  have HR' := Lib.hid hr'
  clear hr hr'
  obtain ⟨E, hE⟩ : ∃ E, sameA a b = E := ⟨_, rfl⟩
  have HE : Hid (sameA a b = E) := Lib.hid hE
  obtain ⟨p1, h1⟩ : ∃ p, ((a.nd.toNat : Int) == b.nd.toNat) = p := ⟨_, rfl⟩
  obtain ⟨p2, h2⟩ : ∃ p, ((a.md.toNat : Int) == b.md.toNat) = p := ⟨_, rfl⟩
  obtain ⟨p3, h3⟩ : ∃ p, ((a.ui.toNat : Int) == b.ui.toNat) = p := ⟨_, rfl⟩
  obtain ⟨p4, h4⟩ : ∃ p, ((a.gi.toNat : Int) == b.gi.toNat) = p := ⟨_, rfl⟩
  obtain ⟨p5, h5⟩ : ∃ p, (a.mt == b.mt) = p := ⟨_, rfl⟩
  obtain ⟨p6, h6⟩ : ∃ p, (a.tg.toList == b.tg.toList) = p := ⟨_, rfl⟩
  have HE2 : Hid ((p1 && (p2 && (p3 && (p4 && (p5 && (p6 && sameX a.xs b.xs)))))) = E) := Lib.hid (by rw [← h1, ← h2, ← h3, ← h4, ← h5, ← h6]; exact hE)
  clear hE
  rw [HE.out]
  have HB : Hid (Blk ((w.alloc (.cells (attV a A n c) 27)).alloc (.cells (attV b A' n' c') 27)) w.heap.size 27 (attV a A n c) ∧ Blk ((w.alloc (.cells (attV a A n c) 27)).alloc (.cells (attV b A' n' c') 27)) (w.heap.size + 1) 27 (attV b A' n' c') ∧ Below w.heap.size w ((w.alloc (.cells (attV a A n c) 27)).alloc (.cells (attV b A' n' c') 27))) := Lib.hid ⟨(Blk.new _ _ _).alloc _, by
    have := Blk.new (w.alloc (.cells (attV a A n c) 27)) 27 (attV b A' n' c')
    rwa [show (w.alloc (.cells (attV a A n c) 27)).heap.size = w.heap.size + 1 from by simp] at this, ((Below.refl _ _).alloc (Nat.le_refl _) _).alloc (by simp) _⟩
  go_enter Tryd.func24, Tryd.ntmps24
  go_upto_region 1 with fail
  generalize (w.alloc (.cells (attV a A n c) 27)).alloc (.cells (attV b A' n' c') 27) = w2 at HB ⊢
  have c6 : w2.cell? ⟨w.heap.size, 6, none⟩ = some (.slice A n c) := HB.out.1.cell 6
  have d6 : w2.cell? ⟨w.heap.size + 1, 6, none⟩ = some (.slice A' n' c') := HB.out.2.1.cell 6
  have f6 : w2.frozen? ⟨w.heap.size, 6, none⟩ = false := HB.out.1.frozen 6
  have g6 : w2.frozen? ⟨w.heap.size + 1, 6, none⟩ = false := HB.out.2.1.frozen 6
  go_quiet (fail)
  go_upto_region 3 with fail
  have HB2 : Hid (Blk (((w2.drewN nq).setCell ⟨w.heap.size, 6, none⟩ (.slice none 0 0)).setCell ⟨w.heap.size + 1, 6, none⟩ (.slice none 0 0)) w.heap.size 27 (attV a none 0 0) ∧ Blk (((w2.drewN nq).setCell ⟨w.heap.size, 6, none⟩ (.slice none 0 0)).setCell ⟨w.heap.size + 1, 6, none⟩ (.slice none 0 0)) (w.heap.size + 1) 27 (attV b none 0 0) ∧ Below w.heap.size w (((w2.drewN nq).setCell ⟨w.heap.size, 6, none⟩ (.slice none 0 0)).setCell ⟨w.heap.size + 1, 6, none⟩ (.slice none 0 0))) := Lib.hid (by
    have a1 : Blk (w2.drewN nq) w.heap.size 27 (attV a A n c) := HB.out.1.drewN nq
    have b1 : Blk (w2.drewN nq) (w.heap.size + 1) 27 (attV b A' n' c') := HB.out.2.1.drewN nq
    have a2 := a1.set_ 6 (.slice none 0 0)
    have b2 := b1.far (p := ⟨w.heap.size, 6, none⟩) (by simp) (.slice none 0 0)
    refine ⟨a2.far (p := ⟨w.heap.size + 1, 6, none⟩) (by simp) _, b2.set_ 6 _, ?_⟩
    exact ((below_drewN HB.out.2.2 nq).setCell (p := ⟨w.heap.size, 6, none⟩) (Nat.le_refl _) _).setCell (p := ⟨w.heap.size + 1, 6, none⟩) (by simp) _)
  generalize ((w2.drewN nq).setCell ⟨w.heap.size, 6, none⟩ (.slice none 0 0)).setCell ⟨w.heap.size + 1, 6, none⟩ (.slice none 0 0) = w3 at HB2 ⊢
  clear c6 d6 f6 g6 HB
  have hs3 := HB2.out.2.2.size
  have EX := Lib.hid (eqXs_any A A' n c n' c' a.xs b.xs w3 B (HR.out.below (HB2.out.2.2.mono hB)) (HR'.out.below (HB2.out.2.2.mono hB)) hn hn')
  obtain ⟨x0, x1, x2, x3, x4, x5, x6⟩ := att_cells a none 0 0 w3 _ HB2.out.1
  obtain ⟨y0, y1, y2, y3, y4, y5, y6⟩ := att_cells b none 0 0 w3 _ HB2.out.2.1
  clear x6 y6
  cases p1 with
  | false =>
    have F : Hid (E = false) := Lib.hid (by rw [← HE2.out]; rfl)
    clear HE HE2
    go_wp2
    go_ret
    exact ⟨by rw [F.out]; rfl, HB2.out.2.2⟩
  | true =>
  cases p2 with
  | false =>
    have F : Hid (E = false) := Lib.hid (by rw [← HE2.out]; rfl)
    clear HE HE2
    go_wp2
    go_ret
    exact ⟨by rw [F.out]; rfl, HB2.out.2.2⟩
  | true =>
  cases p3 with
  | false =>
    have F : Hid (E = false) := Lib.hid (by rw [← HE2.out]; rfl)
    clear HE HE2
    go_wp2
    go_ret
    exact ⟨by rw [F.out]; rfl, HB2.out.2.2⟩
  | true =>
  cases p4 with
  | false =>
    have F : Hid (E = false) := Lib.hid (by rw [← HE2.out]; rfl)
    clear HE HE2
    go_wp2
    go_ret
    exact ⟨by rw [F.out]; rfl, HB2.out.2.2⟩
  | true =>
  cases p5 with
  | false =>
    have F : Hid (E = false) := Lib.hid (by rw [← HE2.out]; rfl)
    clear HE HE2
    go_wp2
    go_ret
    exact ⟨by rw [F.out]; rfl, HB2.out.2.2⟩
  | true =>
  cases p6 with
  | false =>
    have F : Hid (E = false) := Lib.hid (by rw [← HE2.out]; rfl)
    clear HE HE2
    go_wp2
    go_ret
    exact ⟨by rw [F.out]; rfl, HB2.out.2.2⟩
  | true =>
    have F : Hid (E = sameX a.xs b.xs) := Lib.hid (by rw [← HE2.out]; rfl)
    clear HE HE2
    go_wp2_with fail
    (with_reducible refine EX.out.mono ?_)
    rintro e w4 ⟨rfl, hb4⟩
    have HB4 : Hid (Below w.heap.size w w4) := Lib.hid (HB2.out.2.2.trans (hb4.mono HB2.out.2.2.size))
    clear hb4 EX
    go_wp2
    go_ret
    exact ⟨by rw [F.out]; rfl, HB4.out⟩
end Go.Proofs.YtpfccicahfncbaaDoor
namespace Go.Proofs.YtpfccicahfncbaaDoor
open Go.RowKit Wir
set_option linter.unusedVariables false
set_option linter.unusedSimpArgs false
theorem eqRX_fields : (Tryd.prog.fieldsOf 60).toList.map (fun f => (f.name != "_", f.type, f.offset)) = [(true, 9, 0), (true, 9, 1)] := by kernel_rfl
theorem eq_rxts (p q r s : ByteArray) (w : World) : (Op.equalIn 10000 60 (.agg #[.string p, .string q]) (.agg #[.string r, .string s])).run Tryd.prog w = .ok ((p.toList == r.toList) && (q.toList == s.toList)) w := by
  refine (run_equalIn_struct w 9999 _ _ _ (by kernel_rfl) (by kernel_rfl)).trans ?_
  rw [eqT_of, eqRX_fields]
  have a0 := part_cell (P := Tryd.prog) 9 #[.string p, .string q] 0 _ rfl (fun w => by kernel_rfl) w
  have a1 := part_cell (P := Tryd.prog) 9 #[.string p, .string q] 1 _ rfl (fun w => by kernel_rfl) w
  have b0 := part_cell (P := Tryd.prog) 9 #[.string r, .string s] 0 _ rfl (fun w => by kernel_rfl) w
  have b1 := part_cell (P := Tryd.prog) 9 #[.string r, .string s] 1 _ rfl (fun w => by kernel_rfl) w
  rw [eqT_stepB a0 b0 (eq_str 9998 p r w), eqT_stepB a1 b1 (eq_str 9998 q s w), eqT, Sem.run_pure]
  cases (p.toList == r.toList) <;> cases (q.toList == s.toList) <;> rfl
def neqRX (x y : Operand) (a b : Value) : Sem Next := do
  let v ← (do eqGuard .neq 60 x y a b; binOp .neq 60 a b)
  pure (.value v)
theorem execOp_neqRX (ρ : Operand → Value) (dst : Option Tmp) (x y : Operand) (yt ty : TypeId) (pos : String) (after : Array Edge) (guard : Option (Nat × Bool)) :
    execOp ρ { dst, op := .binOp .neq 60 x y yt, type := ty, pos, after, guard } = neqRX x y (ρ x) (ρ y) := rfl
theorem run_neqRX (x y : Operand) (p q r s : ByteArray) (w : World) : (neqRX x y (.agg #[.string p, .string q]) (.agg #[.string r, .string s])).run Tryd.prog w = .ok (.value (.bool (!((p.toList == r.toList) && (q.toList == s.toList))))) w := by
  unfold neqRX
  have h1 := run_eqGuard_agg (P := Tryd.prog) w .neq 60 x y #[.string p, .string q] #[.string r, .string s] (by kernel_rfl)
  have h2 : (binOp .neq 60 (.agg #[.string p, .string q]) (.agg #[.string r, .string s])).run Tryd.prog w = .ok (.bool (!((p.toList == r.toList) && (q.toList == s.toList)))) w := by
    refine (run_neq_struct (P := Tryd.prog) w 60 _ _).trans ?_
    rw [eq_rxts p q r s w, Result.andThen_ok]
  generalize (!((p.toList == r.toList) && (q.toList == s.toList))) = b at *
  generalize #[Value.string p, Value.string q] = N at *
  generalize #[Value.string r, Value.string s] = M at *
  rw [Sem.run_bind, Sem.run_bind, h1, Result.andThen_ok, h2, Result.andThen_ok, Sem.run_pure]
attribute [local go_sem ↓] execOp_neqRX
attribute [local go_sem] run_neqRX
set_option maxRecDepth 100000 in
set_option maxHeartbeats 2000000 in
theorem rattSame_any (a b : Att) (A A' : Option Addr) (n c n' c' : Nat) (w : World) (B : Nat) (hr : Reads w B 2 A n (xtV a.xs)) (hr' : Reads w B 2 A' n' (xtV b.xs)) (hB : B ≤ w.heap.size) (hn : n ≤ 4611686018427387904) (hn' : n' ≤ 4611686018427387904) :
    Calls Tryd.prog 20 #[.agg (attV a A n c), .agg (attV b A' n' c')] w fun e w' => e = .returned (.bool (sameA a b)) ∧ Below w.heap.size w w' := by
  have HR := Lib.hid hr
  have HR' := Lib.hid hr'
  have HL := Lib.hid hr.xtLen
  have HL' := Lib.hid hr'.xtLen
  clear hr hr'
  obtain ⟨E, hE⟩ : ∃ E, sameA a b = E := ⟨_, rfl⟩
  have HE : Hid (sameA a b = E) := Lib.hid hE
  obtain ⟨p1, h1⟩ : ∃ p, ((a.nd.toNat : Int) == b.nd.toNat) = p := ⟨_, rfl⟩
  obtain ⟨p2, h2⟩ : ∃ p, ((a.md.toNat : Int) == b.md.toNat) = p := ⟨_, rfl⟩
  obtain ⟨p3, h3⟩ : ∃ p, ((a.ui.toNat : Int) == b.ui.toNat) = p := ⟨_, rfl⟩
  obtain ⟨p4, h4⟩ : ∃ p, ((a.gi.toNat : Int) == b.gi.toNat) = p := ⟨_, rfl⟩
  obtain ⟨p5, h5⟩ : ∃ p, (a.mt == b.mt) = p := ⟨_, rfl⟩
  obtain ⟨p6, h6⟩ : ∃ p, (a.tg.toList == b.tg.toList) = p := ⟨_, rfl⟩
  have HE2 : Hid ((p1 && (p2 && (p3 && (p4 && (p5 && (p6 && sameX a.xs b.xs)))))) = E) := Lib.hid (by rw [← h1, ← h2, ← h3, ← h4, ← h5, ← h6]; exact hE)
  clear hE
  rw [HE.out]
  have k1 : ((a.nd.toNat : Int) != b.nd.toNat) = !p1 := by rw [← h1]; rfl
  have k2 : ((a.md.toNat : Int) != b.md.toNat) = !p2 := by rw [← h2]; rfl
  have k3 : ((a.ui.toNat : Int) != b.ui.toNat) = !p3 := by rw [← h3]; rfl
  have k4 : ((a.gi.toNat : Int) != b.gi.toNat) = !p4 := by rw [← h4]; rfl
  have k5 : (a.mt != b.mt) = !p5 := by rw [← h5]; rfl
  have k6 : (a.tg.toList != b.tg.toList) = !p6 := by rw [← h6]; rfl
  have HB2 : Hid (Blk ((w.alloc (.cells (attV a A n c) 31)).alloc (.cells (attV b A' n' c') 31)) w.heap.size 31 (attV a A n c) ∧ Blk ((w.alloc (.cells (attV a A n c) 31)).alloc (.cells (attV b A' n' c') 31)) (w.heap.size + 1) 31 (attV b A' n' c') ∧ Below w.heap.size w ((w.alloc (.cells (attV a A n c) 31)).alloc (.cells (attV b A' n' c') 31))) := Lib.hid ⟨(Blk.new _ _ _).alloc _, by
    have := Blk.new (w.alloc (.cells (attV a A n c) 31)) 31 (attV b A' n' c')
    rwa [show (w.alloc (.cells (attV a A n c) 31)).heap.size = w.heap.size + 1 from by simp] at this, ((Below.refl _ _).alloc (Nat.le_refl _) _).alloc (by simp) _⟩
  go_enter Tryd.func20, Tryd.ntmps20
  go_upto_region 1 with fail
  generalize (w.alloc (.cells (attV a A n c) 31)).alloc (.cells (attV b A' n' c') 31) = w3 at HB2 ⊢
  obtain ⟨x0, x1, x2, x3, x4, x5, x6⟩ := ratt_cells a A n c w3 _ HB2.out.1
  obtain ⟨y0, y1, y2, y3, y4, y5, y6⟩ := ratt_cells b A' n' c' w3 _ HB2.out.2.1
  cases p1 with
  | false =>
    have F : Hid (E = false) := Lib.hid (by rw [← HE2.out]; rfl)
    clear HE HE2
    go_wp2
    go_ret
    exact ⟨by rw [F.out]; rfl, HB2.out.2.2⟩
  | true =>
  cases p2 with
  | false =>
    have F : Hid (E = false) := Lib.hid (by rw [← HE2.out]; rfl)
    clear HE HE2
    go_wp2
    go_ret
    exact ⟨by rw [F.out]; rfl, HB2.out.2.2⟩
  | true =>
  cases p3 with
  | false =>
    have F : Hid (E = false) := Lib.hid (by rw [← HE2.out]; rfl)
    clear HE HE2
    go_wp2
    go_ret
    exact ⟨by rw [F.out]; rfl, HB2.out.2.2⟩
  | true =>
  cases p4 with
  | false =>
    have F : Hid (E = false) := Lib.hid (by rw [← HE2.out]; rfl)
    clear HE HE2
    go_wp2
    go_ret
    exact ⟨by rw [F.out]; rfl, HB2.out.2.2⟩
  | true =>
  cases p5 with
  | false =>
    have F : Hid (E = false) := Lib.hid (by rw [← HE2.out]; rfl)
    clear HE HE2
    go_wp2
    go_ret
    exact ⟨by rw [F.out]; rfl, HB2.out.2.2⟩
  | true =>
  cases p6 with
  | false =>
    have F : Hid (E = false) := Lib.hid (by rw [← HE2.out]; rfl)
    clear HE HE2
    go_wp2
    go_ret
    exact ⟨by rw [F.out]; rfl, HB2.out.2.2⟩
  | true =>
    have F : Hid (E = sameX a.xs b.xs) := Lib.hid (by rw [← HE2.out]; rfl)
    clear HE HE2
    by_cases hnn : n = n'
    · subst hnn
      have t0 : ((n : Int) != (n : Int)) = false := by simp
      go_upto_region 3 with fail
      clear x0 x1 x2 x3 x4 x5 y0 y1 y2 y3 y4 y5 h1 h2 h3 h4 h5 h6 k1 k2 k3 k4 k5 k6
      go_wp2_with fail
      go_loopw [5] (fun i wr => ∃ k : Nat, k ≤ n ∧ i = .int .i64 k ∧ Hid (a.xs.take k = b.xs.take k) ∧ Hid (∃ q, wr = w3.drewN q)) (fun i _ => n - (intOf i).toNat)
      case atStart => exact ⟨0, by omega, rfl, Lib.hid rfl, Lib.hid ⟨0, rfl⟩⟩
      case round =>
        obtain ⟨k, hk, rfl, HT, HQ⟩ := hrel
        obtain ⟨q, rfl⟩ := HQ.out
        by_cases hlt : k < n
        · obtain ⟨ad, hkl, rfl, hbl, z0, z1⟩ := xt_cells HR.out k hlt
          obtain ⟨ad', hkl', rfl, hbl', v0, v1⟩ := xt_cells HR'.out k hlt
          have HS : Hid (sameP a.xs[k] b.xs[k] = true → a.xs.take (k + 1) = b.xs.take (k + 1)) := Lib.hid (fun h => by
            rw [List.take_add_one, List.take_add_one, HT.out, List.getElem?_eq_getElem hkl, List.getElem?_eq_getElem hkl', (sameP_iff _ _).1 h])
          have HN : Hid (sameP a.xs[k] b.xs[k] = false → sameX a.xs b.xs = false) := Lib.hid (fun h => by
            rw [sameX, decide_eq_false_iff_not]
            intro hab
            have : a.xs[k] = b.xs[k] := by
              have e1 : a.xs[k]? = b.xs[k]? := by rw [hab]
              rw [List.getElem?_eq_getElem hkl, List.getElem?_eq_getElem hkl'] at e1
              exact Option.some.inj e1
            rw [(sameP_iff _ _).2 this] at h; cases h)
          have hb3 := HB2.out.2.2
          have e0 : w3.cell? (ad.add (k * 2)) = some (.string (a.xs[k]).1) := by rw [hb3.cell (by rw [block_of_add]; omega)]; exact z0
          have e1 : w3.cell? ⟨(ad.add (k * 2)).block, (ad.add (k * 2)).off + 1, none⟩ = some (.string (a.xs[k]).2) := by
            show w3.cell? ((ad.add (k * 2)).add 1) = _
            rw [hb3.cell (by rw [block_of_add, block_of_add]; omega)]; exact z1
          have f0 : w3.cell? (ad'.add (k * 2)) = some (.string (b.xs[k]).1) := by rw [hb3.cell (by rw [block_of_add]; omega)]; exact v0
          have f1 : w3.cell? ⟨(ad'.add (k * 2)).block, (ad'.add (k * 2)).off + 1, none⟩ = some (.string (b.xs[k]).2) := by
            show w3.cell? ((ad'.add (k * 2)).add 1) = _
            rw [hb3.cell (by rw [block_of_add, block_of_add]; omega)]; exact v1
          obtain ⟨x, hx⟩ : ∃ x, a.xs[k] = x := ⟨_, rfl⟩
          obtain ⟨y, hy⟩ : ∃ y, b.xs[k] = y := ⟨_, rfl⟩
          rw [hx] at HS HN e0 e1
          rw [hy] at HS HN f0 f1
          clear hx hy hkl hkl' HQ z0 z1 v0 v1 hb3
          have hki : (k : Int) < (n : Int) := by omega
          have hk0 : (0 : Int) ≤ (k : Int) := by omega
          cases hsm : sameP x y with
          | true =>
            have hs2 : ((x.1.toList == y.1.toList) && (x.2.toList == y.2.toList)) = true := hsm
            have HT2 : Hid (a.xs.take (k + 1) = b.xs.take (k + 1)) := Lib.hid (HS.out hsm)
            rw [Bool.and_eq_true] at hs2
            obtain ⟨hs3, hs4⟩ := hs2
            clear HS HN hsm
            go_wp2
            go_quiet (fail)
            go_wp2
            go_roundw
            case rel => exact ⟨k + 1, by omega, by go_num, HT2, Lib.hid ⟨_, rfl⟩⟩
            case measure => simp [intOf]; omega
          | false =>
            have hs2 : ((x.1.toList == y.1.toList) && (x.2.toList == y.2.toList)) = false := hsm
            have HT2 : Hid (sameX a.xs b.xs = false) := Lib.hid (HN.out hsm)
            clear HS HN hsm
            go_wp2
            go_quiet (fail)
            go_wp2
            go_ret
            exact ⟨by rw [F.out, HT2.out]; rfl, below_drewN (below_drewN HB2.out.2.2 _) _⟩
        · obtain rfl : k = n := by omega
          have HT2 : Hid (sameX a.xs b.xs = true) := Lib.hid (by
            have := HT.out
            rw [List.take_of_length_le (by rw [HL.out]; omega), List.take_of_length_le (by rw [HL'.out]; omega)] at this
            rw [sameX, decide_eq_true_eq]; exact this)
          go_wp2
          go_ret
          exact ⟨by rw [F.out, HT2.out]; rfl, below_drewN HB2.out.2.2 _⟩
    · have t0 : ((n : Int) != (n' : Int)) = true := by rw [bne_iff_ne]; omega
      have HT2 : Hid (sameX a.xs b.xs = false) := Lib.hid (by
        rw [sameX, decide_eq_false_iff_not]
        intro hab
        exact hnn (by rw [← HL.out, ← HL'.out, hab]))
      clear hnn
      go_wp2
      go_ret
      exact ⟨by rw [F.out, HT2.out]; rfl, HB2.out.2.2⟩
end Go.Proofs.YtpfccicahfncbaaDoor
