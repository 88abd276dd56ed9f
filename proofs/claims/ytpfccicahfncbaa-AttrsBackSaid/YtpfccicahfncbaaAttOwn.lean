/- Walk: own, of the laws of chapter 10: the program's set of attributes, its list with a mark behind it. -/
import Derived.Test.YtpfccicahfncbaaAttRd
namespace Go.Proofs.Ytpfccicahfncbaa
open Go.RowKit Wir
set_option linter.unusedVariables false
set_option linter.unusedSimpArgs false
def markX : ByteArray × ByteArray := (⟨#[35]⟩, ⟨#[]⟩)
theorem results_rec1 {fn : Func} {p : Tmp} {ty : TypeId} {fs : Array Field} (h : fn.results = #[.cell p ty]) (tmps : Array Value) {P : Program} (w : World) (g : Nat) (t : TypeId) (cs : Array Value) (fr : Nat × Nat)
    (hp : tmps.getD p undef = .pointer (some ⟨g, 0, none⟩)) (hg : w.heap[g]? = some (.cells cs t fr))
    (hu : P.underlying ty = some (.struct fs)) (hi : (P.info? ty).map (·.size) = some cs.size) :
    (results fn tmps).run P w = .ok (.agg cs) w := by
  have hp' : tmps[p]?.getD undef = .pointer (some ⟨g, 0, none⟩) := by simpa using hp
  simp [results, h, hp', asAddr, run_loadVar_row w g t ty cs fr (.struct fs) hg hu rfl hi]
/-- What holds at the head of own's loop. -/
structure OwI (w wr : World) (a : Att) (A : Option Addr) (n c : Nat) (k : Nat) (L : List (ByteArray × ByteArray)) (A' : Option Addr) (c' : Nat) : Prop where
  box : Blk wr w.heap.size 57 (attV a A n c)
  res : Blk wr (w.heap.size + 1) 53 (attV zAtt none 0 0)
  cell : Blk wr (w.heap.size + 2) 53 (attV a A' k c')
  own : wr.ownsRow (w.heap.size + 3) 97 2 (.slice A' k c') k (xtV L)
  below : Below w.heap.size w wr
  low : w.heap.size + 3 ≤ wr.heap.size
theorem attV_set6' (a : Att) (A A' : Option Addr) (n c n' c' : Nat) : (attV a A n c).setIfInBounds 6 (.slice A' n' c') = attV a A' n' c' := rfl
theorem OwI.drew {w wr : World} {a : Att} {A A' : Option Addr} {n c k c' : Nat} {L : List (ByteArray × ByteArray)} (h : OwI w wr a A n c k L A' c') : OwI w wr.drew a A n c k L A' c' :=
  ⟨h.box, h.res, h.cell, h.own.drew, h.below.drew, h.low⟩
theorem OwI.alloc {w wr : World} {a : Att} {A A' : Option Addr} {n c k c' : Nat} {L : List (ByteArray × ByteArray)} (h : OwI w wr a A n c k L A' c') (o : Obj) : OwI w (wr.alloc o) a A n c k L A' c' :=
  ⟨h.box.alloc o, h.res.alloc o, h.cell.alloc o, h.own.alloc o, h.below.alloc h.below.size o, by have := h.low; simp; omega⟩
/-- An element is appended; what is there before the list is stored, and behind it, of whatever length it is cut to. -/
theorem OwI.push {w wr w' : World} {a : Att} {A A' : Option Addr} {n c k c' g c2 : Nat} {L : List (ByteArray × ByteArray)} {x : ByteArray × ByteArray} (h : OwI w wr a A n c k L A' c')
    (ho : w'.ownsRow (w.heap.size + 3) 97 2 (.slice (some ⟨g, 0, none⟩) (k + 1) c2) (k + 1) (xtV L ++ [.string x.1, .string x.2])) (hg : wr.grownBy w' (Value.slice A' k c').ownBlock) :
    (Blk w' w.heap.size 57 (attV a A n c) ∧ Blk w' (w.heap.size + 2) 53 (attV a A' k c') ∧ Below w.heap.size w w') ∧
    ∀ m, Blk (w'.setCell ⟨w.heap.size + 2, 6, none⟩ (.slice (some ⟨g, 0, none⟩) m c2)) w.heap.size 57 (attV a A n c) ∧ Blk (w'.setCell ⟨w.heap.size + 2, 6, none⟩ (.slice (some ⟨g, 0, none⟩) m c2)) (w.heap.size + 1) 53 (attV zAtt none 0 0) ∧
      Blk (w'.setCell ⟨w.heap.size + 2, 6, none⟩ (.slice (some ⟨g, 0, none⟩) m c2)) (w.heap.size + 2) 53 (attV a (some ⟨g, 0, none⟩) m c2) ∧
      (w'.setCell ⟨w.heap.size + 2, 6, none⟩ (.slice (some ⟨g, 0, none⟩) m c2)).ownsRow (w.heap.size + 3) 97 2 (.slice (some ⟨g, 0, none⟩) (k + 1) c2) (k + 1) (xtV (L ++ [x])) ∧
      Below w.heap.size w (w'.setCell ⟨w.heap.size + 2, 6, none⟩ (.slice (some ⟨g, 0, none⟩) m c2)) ∧ w.heap.size + 3 ≤ (w'.setCell ⟨w.heap.size + 2, 6, none⟩ (.slice (some ⟨g, 0, none⟩) m c2)).heap.size := by
  have hne : ∀ b, b < w.heap.size + 3 → some b ≠ (Value.slice A' k c').ownBlock := fun b hb e => by
    have := (h.own.lt b e.symm).1; omega
  have hgB : w.heap.size + 3 ≤ g := (ho.lt g rfl).1
  have hb : Below w.heap.size w w' := h.below.grown hg h.below.size (fun j e => by have := (h.own.lt j e).1; omega)
  have hc := h.cell.grown hg (hne _ (by omega))
  have hx := h.box.grown hg (hne _ (by omega))
  have hr := h.res.grown hg (hne _ (by omega))
  have ho2 : w'.ownsRow (w.heap.size + 3) 97 2 (.slice (some ⟨g, 0, none⟩) (k + 1) c2) (k + 1) (xtV (L ++ [x])) := by rw [xtV_app]; exact ho
  refine ⟨⟨hx, hc, hb⟩, fun m => ⟨hx.far (p := ⟨w.heap.size + 2, 6, none⟩) (by simp) _, hr.far (p := ⟨w.heap.size + 2, 6, none⟩) (by simp) _, hc.set_ 6 _, ?_, hb.setCell (p := ⟨w.heap.size + 2, 6, none⟩) (by simp) _, by rw [World.size_setCell]; exact Nat.le_trans h.low hg.size⟩⟩
  exact ho2.kept (only_setCell (grown_refl w' (some (w.heap.size + 2))) (p := ⟨w.heap.size + 2, 6, none⟩) (.inl rfl) _) (.inr (by show some g ≠ some (w.heap.size + 2); intro e; injection e with e; omega))
set_option maxRecDepth 100000 in
set_option maxHeartbeats 3000000 in
theorem attOwn_any (a : Att) (A : Option Addr) (n c : Nat) (w : World) (B : Nat) (hr : Reads w B 2 A n (xtV a.xs)) (hB : B ≤ w.heap.size) (hn : n * 32 ≤ 140737488351232) :
    Calls Try.prog 16 #[.agg (attV a A n c)] w fun e w' => ∃ g cap, e = .returned (.agg (attV a (some ⟨g, 0, none⟩) n cap)) ∧ w'.ownsRow w.heap.size 97 2 (.slice (some ⟨g, 0, none⟩) (n + 1) cap) (n + 1) (xtV (a.xs ++ [markX])) ∧ Below w.heap.size w w' := by
  have HR := Lib.hid hr
  have HL := Lib.hid hr.xtLen
  clear hr
  have Z0 : Hid (Blk ((w.alloc (.cells (attV a A n c) 57)).alloc (.cells (attV zAtt none 0 0) 53)) w.heap.size 57 (attV a A n c) ∧ Blk ((w.alloc (.cells (attV a A n c) 57)).alloc (.cells (attV zAtt none 0 0) 53)) (w.heap.size + 1) 53 (attV zAtt none 0 0) ∧ Below w.heap.size w ((w.alloc (.cells (attV a A n c) 57)).alloc (.cells (attV zAtt none 0 0) 53)) ∧ ((w.alloc (.cells (attV a A n c) 57)).alloc (.cells (attV zAtt none 0 0) 53)).heap.size = w.heap.size + 2) := Lib.hid (by
    have h2 := Blk.new (w.alloc (.cells (attV a A n c) 57)) 53 (attV zAtt none 0 0)
    rw [show (w.alloc (.cells (attV a A n c) 57)).heap.size = w.heap.size + 1 from by simp] at h2
    exact ⟨(Blk.new _ _ _).alloc _, h2, ((Below.refl _ _).alloc (Nat.le_refl _) _).alloc (by simp) _, by simp⟩)
  go_enter Try.func16, Try.ntmps16
  go_upto_region 1 with fail
  change Code.wp _ _ _ _ ((w.alloc (.cells (attV a A n c) 57)).alloc (.cells (attV zAtt none 0 0) 53))
  generalize (w.alloc (.cells (attV a A n c) 57)).alloc (.cells (attV zAtt none 0 0) 53) = w1 at Z0 ⊢
  have c0 : w1.cell? ⟨w.heap.size, 0, none⟩ = some (.int .u8 (a.nd.toNat : Int)) := Z0.out.1.cell 0
  have c1 : w1.cell? ⟨w.heap.size, 1, none⟩ = some (.int .u32 (a.md.toNat : Int)) := Z0.out.1.cell 1
  have c2 : w1.cell? ⟨w.heap.size, 2, none⟩ = some (.int .u32 (a.ui.toNat : Int)) := Z0.out.1.cell 2
  have c3 : w1.cell? ⟨w.heap.size, 3, none⟩ = some (.int .u32 (a.gi.toNat : Int)) := Z0.out.1.cell 3
  have c4 : w1.cell? ⟨w.heap.size, 4, none⟩ = some (.int .i64 a.mt) := Z0.out.1.cell 4
  have c5 : w1.cell? ⟨w.heap.size, 5, none⟩ = some (.string a.tg) := Z0.out.1.cell 5
  go_upto_region 2 with fail
  have hs1 : w1.heap.size = w.heap.size + 2 := Z0.out.2.2.2
  rw [hs1]
  have HI : Hid (OwI w (w1.alloc (.cells (attV a none 0 0) 53)) a A n c 0 [] none 0) := Lib.hid (by
    have h3 := Blk.new w1 53 (attV a none 0 0)
    rw [hs1] at h3
    exact ⟨Z0.out.1.alloc _, Z0.out.2.1.alloc _, h3, World.ownsRow_nil _ _ _ _, Z0.out.2.2.1.alloc Z0.out.2.2.1.size _, by simp; omega⟩)
  change Code.wp _ _ _ _ (w1.alloc (.cells (attV a none 0 0) 53))
  generalize w1.alloc (.cells (attV a none 0 0) 53) = w2 at HI ⊢
  clear Z0 c0 c1 c2 c3 c4 c5 hs1
  go_wp2_with fail
  go_loopw [4] (fun i wr => ∃ (k c' : Nat) (A' : Option Addr), k ≤ n ∧ i = .int .i64 k ∧ Hid (OwI w wr a A n c k (a.xs.take k) A' c')) (fun i _ => n - (intOf i).toNat)
  case atStart => exact ⟨0, 0, none, by omega, rfl, by rw [List.take_zero]; exact HI⟩
  case round =>
    obtain ⟨k, c', A', hk, rfl, HI⟩ := hrel
    have b6 : wr.cell? ⟨w.heap.size, 6, none⟩ = some (.slice A n c) := HI.out.box.cell 6
    by_cases hlt : k < n
    · obtain ⟨ad, hkl, rfl, hbl, x0, x1⟩ := xt_cells HR.out k hlt
      have E1 : Hid (a.xs.take (k + 1) = a.xs.take k ++ [a.xs[k]]) := Lib.hid (by rw [List.take_add_one, List.getElem?_eq_getElem hkl]; rfl)
      have KS : Hid (∀ W, Blk W w.heap.size 57 (attV a (some ad) n c) ∧ Below w.heap.size w W → W.cell? ⟨w.heap.size, 6, none⟩ = some (.slice (some ad) n c) ∧ W.cell? (ad.add (k * 2)) = some (.string (a.xs[k]).1) ∧ W.cell? ⟨(ad.add (k * 2)).block, (ad.add (k * 2)).off + 1, none⟩ = some (.string (a.xs[k]).2)) := Lib.hid (fun W hW => by
        refine ⟨hW.1.cell 6, ?_, ?_⟩
        · rw [hW.2.cell (by rw [block_of_add]; omega)]; exact x0
        · show W.cell? ((ad.add (k * 2)).add 1) = _
          rw [hW.2.cell (by rw [block_of_add, block_of_add]; omega)]; exact x1)
      obtain ⟨x, hx⟩ : ∃ x, a.xs[k] = x := ⟨_, rfl⟩
      rw [hx] at KS E1
      clear hx x0 x1 hkl
      have hki : (k : Int) < (n : Int) := by omega
      have hk0 : (0 : Int) ≤ (k : Int) := by omega
      have hk1 : k ≤ 4611686018427387904 := by omega
      have hk2 : (k + 1) * 32 ≤ 140737488355328 := by omega
      go_upto_region 5 with fail
      have HD : Hid (OwI w wr.drew a (some ad) n c k (a.xs.take k) A' c') := Lib.hid HI.out.drew
      have SA := KS.out _ ⟨HD.out.box, HD.out.below⟩
      have d0 : wr.drew.cell? ⟨w.heap.size + 2, 6, none⟩ = some (.slice A' k c') := HD.out.cell.cell 6
      have d1 : (wr.alloc (.cells #[.string x.1, .string x.2] 97)).cell? ⟨w.heap.size + 2, 6, none⟩ = some (.slice A' k c') := (HI.out.alloc _).cell.cell 6
      have SB := KS.out _ ⟨(HD.out.alloc (.cells #[.string x.1, .string x.2] 97)).box, (HD.out.alloc (.cells #[.string x.1, .string x.2] 97)).below⟩
      clear b6
      refine wp_region_held_drew (S := fun w' => w'.cell? ⟨w.heap.size, 6, none⟩ = some (.slice (some ad) n c) ∧ w'.cell? (ad.add (k * 2)) = some (.string x.1) ∧ w'.cell? ⟨(ad.add (k * 2)).block, (ad.add (k * 2)).off + 1, none⟩ = some (.string x.2)) (by kernel_rfl) (by first | exact SA | exact SB | exact SC | exact SD) (fun hHeld => ?_)
      refine wpAnyH_take (i := 0) (oi := { dst := some 25, op := .fieldAddr 53 (.tmp 3) 6, type := 0, pos := "law.go:20", after := #[], guard := none }) (v := _) rfl (by as_aux_lemma => kernel_rfl) (by as_aux_lemma => kernel_rfl) (by as_aux_lemma => kernel_rfl) (fun _ _ _ h => h) (Or.inl ⟨by kernel_rfl, by (intro w hSw; (try dsimp only at hSw); go_simp; first | done | with_reducible rfl)⟩) (by assumption) ?_
      (try simp only [List.getElem_toArray, List.getElem_cons_succ, List.getElem_cons_zero, Act.put, List.setIfInBounds_toArray, List.set_cons_zero, List.set_cons_succ])
      refine wpAnyH_take (i := 2) (oi := { dst := some 27, op := .fieldAddr 57 (.tmp 1) 6, type := 0, pos := "law.go:20", after := #[], guard := none }) (v := _) rfl (by as_aux_lemma => kernel_rfl) (by as_aux_lemma => kernel_rfl) (by as_aux_lemma => kernel_rfl) (fun _ _ _ h => h) (Or.inl ⟨by kernel_rfl, by (intro w hSw; (try dsimp only at hSw); go_simp; first | done | with_reducible rfl)⟩) (by assumption) ?_
      (try simp only [List.getElem_toArray, List.getElem_cons_succ, List.getElem_cons_zero, Act.put, List.setIfInBounds_toArray, List.set_cons_zero, List.set_cons_succ])
      refine wpAnyH_take (i := 3) (oi := { dst := some 28, op := .load 55 (.tmp 27), type := 55, pos := "law.go:20", after := #[{ on := 2, ground := .data }], guard := none }) (v := _) rfl (by as_aux_lemma => kernel_rfl) (by as_aux_lemma => kernel_rfl) (by as_aux_lemma => kernel_rfl) (fun _ _ _ h => h) (Or.inl ⟨by kernel_rfl, by (intro w hSw; (try dsimp only at hSw); go_simp; first | done | with_reducible rfl)⟩) (by assumption) ?_
      (try simp only [List.getElem_toArray, List.getElem_cons_succ, List.getElem_cons_zero, Act.put, List.setIfInBounds_toArray, List.set_cons_zero, List.set_cons_succ])
      refine wpAnyH_take (i := 4) (oi := { dst := some 29, op := .move (.tmp 4), type := 3, pos := "law.go:20", after := #[], guard := none }) (v := _) rfl (by as_aux_lemma => kernel_rfl) (by as_aux_lemma => kernel_rfl) (by as_aux_lemma => kernel_rfl) (fun _ _ _ h => h) (Or.inl ⟨by kernel_rfl, by (intro w hSw; (try dsimp only at hSw); go_simp; first | done | with_reducible rfl)⟩) (by assumption) ?_
      (try simp only [List.getElem_toArray, List.getElem_cons_succ, List.getElem_cons_zero, Act.put, List.setIfInBounds_toArray, List.set_cons_zero, List.set_cons_succ])
      refine wpAnyH_take (i := 5) (oi := { dst := some 30, op := .indexAddr 55 (.tmp 28) (.tmp 29), type := 0, pos := "law.go:20", after := #[{ on := 3, ground := .data }, { on := 4, ground := .data }], guard := none }) (v := _) rfl (by as_aux_lemma => kernel_rfl) (by as_aux_lemma => kernel_rfl) (by as_aux_lemma => kernel_rfl) (fun _ _ _ h => h) (Or.inl ⟨by kernel_rfl, by (intro w hSw; (try dsimp only at hSw); go_simp; first | done | with_reducible rfl)⟩) (by assumption) ?_
      (try simp only [List.getElem_toArray, List.getElem_cons_succ, List.getElem_cons_zero, Act.put, List.setIfInBounds_toArray, List.set_cons_zero, List.set_cons_succ])
      refine wpAnyH_take (i := 6) (oi := { dst := some 31, op := .fieldAddr 96 (.tmp 30) 0, type := 0, pos := "law.go:20", after := #[{ on := 5, ground := .data }], guard := none }) (v := _) rfl (by as_aux_lemma => kernel_rfl) (by as_aux_lemma => kernel_rfl) (by as_aux_lemma => kernel_rfl) (fun _ _ _ h => h) (Or.inl ⟨by kernel_rfl, by (intro w hSw; (try dsimp only at hSw); go_simp; first | done | with_reducible rfl)⟩) (by assumption) ?_
      (try simp only [List.getElem_toArray, List.getElem_cons_succ, List.getElem_cons_zero, Act.put, List.setIfInBounds_toArray, List.set_cons_zero, List.set_cons_succ])
      refine wpAnyH_take (i := 7) (oi := { dst := some 32, op := .load 9 (.tmp 31), type := 9, pos := "law.go:20", after := #[{ on := 6, ground := .data }], guard := none }) (v := _) rfl (by as_aux_lemma => kernel_rfl) (by as_aux_lemma => kernel_rfl) (by as_aux_lemma => kernel_rfl) (fun _ _ _ h => h) (Or.inl ⟨by kernel_rfl, by (intro w hSw; (try dsimp only at hSw); go_simp; first | done | with_reducible rfl)⟩) (by assumption) ?_
      (try simp only [List.getElem_toArray, List.getElem_cons_succ, List.getElem_cons_zero, Act.put, List.setIfInBounds_toArray, List.set_cons_zero, List.set_cons_succ])
      refine wpAnyH_take (i := 8) (oi := { dst := some 33, op := .fieldAddr 57 (.tmp 1) 6, type := 0, pos := "law.go:20", after := #[], guard := none }) (v := _) rfl (by as_aux_lemma => kernel_rfl) (by as_aux_lemma => kernel_rfl) (by as_aux_lemma => kernel_rfl) (fun _ _ _ h => h) (Or.inl ⟨by kernel_rfl, by (intro w hSw; (try dsimp only at hSw); go_simp; first | done | with_reducible rfl)⟩) (by assumption) ?_
      (try simp only [List.getElem_toArray, List.getElem_cons_succ, List.getElem_cons_zero, Act.put, List.setIfInBounds_toArray, List.set_cons_zero, List.set_cons_succ])
      refine wpAnyH_take (i := 9) (oi := { dst := some 34, op := .load 55 (.tmp 33), type := 55, pos := "law.go:20", after := #[{ on := 8, ground := .data }], guard := none }) (v := _) rfl (by as_aux_lemma => kernel_rfl) (by as_aux_lemma => kernel_rfl) (by as_aux_lemma => kernel_rfl) (fun _ _ _ h => h) (Or.inl ⟨by kernel_rfl, by (intro w hSw; (try dsimp only at hSw); go_simp; first | done | with_reducible rfl)⟩) (by assumption) ?_
      (try simp only [List.getElem_toArray, List.getElem_cons_succ, List.getElem_cons_zero, Act.put, List.setIfInBounds_toArray, List.set_cons_zero, List.set_cons_succ])
      refine wpAnyH_take (i := 10) (oi := { dst := some 35, op := .move (.tmp 4), type := 3, pos := "law.go:20", after := #[], guard := none }) (v := _) rfl (by as_aux_lemma => kernel_rfl) (by as_aux_lemma => kernel_rfl) (by as_aux_lemma => kernel_rfl) (fun _ _ _ h => h) (Or.inl ⟨by kernel_rfl, by (intro w hSw; (try dsimp only at hSw); go_simp; first | done | with_reducible rfl)⟩) (by assumption) ?_
      (try simp only [List.getElem_toArray, List.getElem_cons_succ, List.getElem_cons_zero, Act.put, List.setIfInBounds_toArray, List.set_cons_zero, List.set_cons_succ])
      refine wpAnyH_take (i := 11) (oi := { dst := some 36, op := .indexAddr 55 (.tmp 34) (.tmp 35), type := 0, pos := "law.go:20", after := #[{ on := 9, ground := .data }, { on := 10, ground := .data }], guard := none }) (v := _) rfl (by as_aux_lemma => kernel_rfl) (by as_aux_lemma => kernel_rfl) (by as_aux_lemma => kernel_rfl) (fun _ _ _ h => h) (Or.inl ⟨by kernel_rfl, by (intro w hSw; (try dsimp only at hSw); go_simp; first | done | with_reducible rfl)⟩) (by assumption) ?_
      (try simp only [List.getElem_toArray, List.getElem_cons_succ, List.getElem_cons_zero, Act.put, List.setIfInBounds_toArray, List.set_cons_zero, List.set_cons_succ])
      refine wpAnyH_take (i := 12) (oi := { dst := some 37, op := .fieldAddr 96 (.tmp 36) 1, type := 0, pos := "law.go:20", after := #[{ on := 11, ground := .data }], guard := none }) (v := _) rfl (by as_aux_lemma => kernel_rfl) (by as_aux_lemma => kernel_rfl) (by as_aux_lemma => kernel_rfl) (fun _ _ _ h => h) (Or.inl ⟨by kernel_rfl, by (intro w hSw; (try dsimp only at hSw); go_simp; first | done | with_reducible rfl)⟩) (by assumption) ?_
      (try simp only [List.getElem_toArray, List.getElem_cons_succ, List.getElem_cons_zero, Act.put, List.setIfInBounds_toArray, List.set_cons_zero, List.set_cons_succ])
      refine wpAnyH_take (i := 13) (oi := { dst := some 38, op := .load 9 (.tmp 37), type := 9, pos := "law.go:20", after := #[{ on := 12, ground := .data }], guard := none }) (v := _) rfl (by as_aux_lemma => kernel_rfl) (by as_aux_lemma => kernel_rfl) (by as_aux_lemma => kernel_rfl) (fun _ _ _ h => h) (Or.inl ⟨by kernel_rfl, by (intro w hSw; (try dsimp only at hSw); go_simp; first | done | with_reducible rfl)⟩) (by assumption) ?_
      (try simp only [List.getElem_toArray, List.getElem_cons_succ, List.getElem_cons_zero, Act.put, List.setIfInBounds_toArray, List.set_cons_zero, List.set_cons_succ])
      refine wpAnyH_take (i := 14) (oi := { dst := some 39, op := .build 97 #[(0, .tmp 32), (1, .tmp 38)], type := 97, pos := "law.go:20", after := #[{ on := 7, ground := .data }, { on := 13, ground := .data }], guard := none }) (v := _) rfl (by as_aux_lemma => kernel_rfl) (by as_aux_lemma => kernel_rfl) (by as_aux_lemma => kernel_rfl) (fun _ _ _ h => h) (Or.inl ⟨by kernel_rfl, by (intro w hSw; (try dsimp only at hSw); go_simp; first | done | with_reducible rfl)⟩) (by assumption) ?_
      (try simp only [List.getElem_toArray, List.getElem_cons_succ, List.getElem_cons_zero, Act.put, List.setIfInBounds_toArray, List.set_cons_zero, List.set_cons_succ])
      as_aux_lemma =>
        refine wpAnyH_ready (rs := [1, 15]) (by as_aux_lemma => kernel_rfl) (by simp) (AllReadyH.cons rfl (fun K hK => ?_) (AllReadyH.cons rfl (fun K hK => ?_) AllReadyH.nil))
        · as_aux_lemma =>
            try simp only [List.getElem_toArray, List.getElem_cons_succ, List.getElem_cons_zero]
            go_simp
            refine hK.out _ _ (by first | exact SA | exact SB | exact SC | exact SD) (fun hHeld => ?_)
            clear hK K
            (try simp only [List.getElem_toArray, List.getElem_cons_succ, List.getElem_cons_zero, Act.put, List.setIfInBounds_toArray, List.set_cons_zero, List.set_cons_succ])
            refine wpAnyH_ready (rs := [15]) (by as_aux_lemma => kernel_rfl) (by simp) (AllReadyH.cons rfl (fun K hK => ?_) AllReadyH.nil)
            try simp only [List.getElem_toArray, List.getElem_cons_succ, List.getElem_cons_zero]
            go_simp
            refine hK.out _ _ (by first | exact SA | exact SB | exact SC | exact SD) (fun hHeld => ?_)
            clear hK K
            (try simp only [List.getElem_toArray, List.getElem_cons_succ, List.getElem_cons_zero, Act.put, List.setIfInBounds_toArray, List.set_cons_zero, List.set_cons_succ])
            refine wpAnyH_ready (rs := [16]) (by as_aux_lemma => kernel_rfl) (by simp) (AllReadyH.cons rfl (fun K hK => ?_) AllReadyH.nil)
            try simp only [List.getElem_toArray, List.getElem_cons_succ, List.getElem_cons_zero]
            rw [if_pos (by as_aux_lemma => kernel_rfl)]
            change Oper.wp _ _ _ (wr.drew.alloc (.cells #[.string x.1, .string x.2] 97)) _ _
            refine wp_appendN elemX _ _ rfl (w.heap.size + 3) (.slice A' k c') k _ rfl HD.out.own #[.string x.1, .string x.2] rfl rfl (by intro u hu; simp at hu; rcases hu with rfl | rfl <;> rfl) hk1 hk2 HD.out.low ?_
            intro v' w' ho hg hd
            clear hd
            obtain ⟨gg, cg, rfl, hcg⟩ := own_slX ho (by omega)
            have HPP := Lib.hid (HD.out.push (x := x) ho hg)
            clear ho hg
            have SC := KS.out _ ⟨HPP.out.1.1, HPP.out.1.2.2⟩
            have SD := KS.out _ ⟨(HPP.out.2 (k + 1)).1, (HPP.out.2 (k + 1)).2.2.2.2.1⟩
            have ew : w'.cell? ⟨w.heap.size + 2, 6, none⟩ = some (.slice A' k c') := HPP.out.1.2.1.cell 6
            have fw : w'.frozen? ⟨w.heap.size + 2, 6, none⟩ = false := HPP.out.1.2.1.frozen 6
            refine hK.out _ _ (by first | exact SA | exact SB | exact SC | exact SD) (fun hHeld => ?_)
            clear hK K
            (try simp only [List.getElem_toArray, List.getElem_cons_succ, List.getElem_cons_zero, Act.put, List.setIfInBounds_toArray, List.set_cons_zero, List.set_cons_succ])
            refine wpAnyH_take (i := 17) (oi := { dst := some 42, op := .fieldAddr 53 (.tmp 3) 6, type := 0, pos := "law.go:20", after := #[{ on := 0, ground := .phase }, { on := 1, ground := .phase }, { on := 2, ground := .phase }, { on := 3, ground := .phase }, { on := 4, ground := .phase }, { on := 5, ground := .phase }, { on := 6, ground := .phase }, { on := 7, ground := .phase }, { on := 8, ground := .phase }, { on := 9, ground := .phase }, { on := 10, ground := .phase }, { on := 11, ground := .phase }, { on := 12, ground := .phase }, { on := 13, ground := .phase }, { on := 14, ground := .phase }, { on := 15, ground := .phase }, { on := 16, ground := .phase }], guard := none }) (v := _) rfl (by as_aux_lemma => kernel_rfl) (by as_aux_lemma => kernel_rfl) (by as_aux_lemma => kernel_rfl) (fun _ _ _ h => h) (Or.inl ⟨by kernel_rfl, by (intro w hSw; (try dsimp only at hSw); go_simp; first | done | with_reducible rfl)⟩) (by assumption) ?_
            (try simp only [List.getElem_toArray, List.getElem_cons_succ, List.getElem_cons_zero, Act.put, List.setIfInBounds_toArray, List.set_cons_zero, List.set_cons_succ])
            refine wpAnyH_ready (rs := [18]) (by as_aux_lemma => kernel_rfl) (by simp) (AllReadyH.cons rfl (fun K hK => ?_) AllReadyH.nil)
            try simp only [List.getElem_toArray, List.getElem_cons_succ, List.getElem_cons_zero]
            go_simp
            refine hK.out _ _ (by first | exact SA | exact SB | exact SC | exact SD) (fun hHeld => ?_)
            clear hK K
            (try simp only [List.getElem_toArray, List.getElem_cons_succ, List.getElem_cons_zero, Act.put, List.setIfInBounds_toArray, List.set_cons_zero, List.set_cons_succ])
            refine wpAnyH_done (by as_aux_lemma => kernel_rfl) ?_ _
            have HK' : Hid (OwI w (w'.setCell ⟨w.heap.size + 2, 6, none⟩ (.slice (some ⟨gg, 0, none⟩) (k + 1) cg)) a (some ad) n c (k + 1) (a.xs.take (k + 1)) (some ⟨gg, 0, none⟩) cg) := Lib.hid (by
              obtain ⟨q1, q2, q3, q4, q5, q6⟩ := HPP.out.2 (k + 1)
              rw [E1.out]
              exact ⟨q1, q2, q3, q4, q5, q6⟩)
            clear SA SB SC SD
            go_wp2
            go_roundw
            case rel => exact ⟨k + 1, cg, some ⟨gg, 0, none⟩, by omega, by go_num, HK'⟩
            case measure => simp [intOf]; omega
        · as_aux_lemma =>
            try simp only [List.getElem_toArray, List.getElem_cons_succ, List.getElem_cons_zero]
            go_simp
            refine hK.out _ _ (by first | exact SA | exact SB | exact SC | exact SD) (fun hHeld => ?_)
            clear hK K
            (try simp only [List.getElem_toArray, List.getElem_cons_succ, List.getElem_cons_zero, Act.put, List.setIfInBounds_toArray, List.set_cons_zero, List.set_cons_succ])
            refine wpAnyH_ready (rs := [1]) (by as_aux_lemma => kernel_rfl) (by simp) (AllReadyH.cons rfl (fun K hK => ?_) AllReadyH.nil)
            try simp only [List.getElem_toArray, List.getElem_cons_succ, List.getElem_cons_zero]
            go_simp
            refine hK.out _ _ (by first | exact SA | exact SB | exact SC | exact SD) (fun hHeld => ?_)
            clear hK K
            (try simp only [List.getElem_toArray, List.getElem_cons_succ, List.getElem_cons_zero, Act.put, List.setIfInBounds_toArray, List.set_cons_zero, List.set_cons_succ])
            refine wpAnyH_ready (rs := [16]) (by as_aux_lemma => kernel_rfl) (by simp) (AllReadyH.cons rfl (fun K hK => ?_) AllReadyH.nil)
            try simp only [List.getElem_toArray, List.getElem_cons_succ, List.getElem_cons_zero]
            rw [if_pos (by as_aux_lemma => kernel_rfl)]
            change Oper.wp _ _ _ (wr.drew.alloc (.cells #[.string x.1, .string x.2] 97)) _ _
            refine wp_appendN elemX _ _ rfl (w.heap.size + 3) (.slice A' k c') k _ rfl HD.out.own #[.string x.1, .string x.2] rfl rfl (by intro u hu; simp at hu; rcases hu with rfl | rfl <;> rfl) hk1 hk2 HD.out.low ?_
            intro v' w' ho hg hd
            clear hd
            obtain ⟨gg, cg, rfl, hcg⟩ := own_slX ho (by omega)
            have HPP := Lib.hid (HD.out.push (x := x) ho hg)
            clear ho hg
            have SC := KS.out _ ⟨HPP.out.1.1, HPP.out.1.2.2⟩
            have SD := KS.out _ ⟨(HPP.out.2 (k + 1)).1, (HPP.out.2 (k + 1)).2.2.2.2.1⟩
            have ew : w'.cell? ⟨w.heap.size + 2, 6, none⟩ = some (.slice A' k c') := HPP.out.1.2.1.cell 6
            have fw : w'.frozen? ⟨w.heap.size + 2, 6, none⟩ = false := HPP.out.1.2.1.frozen 6
            refine hK.out _ _ (by first | exact SA | exact SB | exact SC | exact SD) (fun hHeld => ?_)
            clear hK K
            (try simp only [List.getElem_toArray, List.getElem_cons_succ, List.getElem_cons_zero, Act.put, List.setIfInBounds_toArray, List.set_cons_zero, List.set_cons_succ])
            refine wpAnyH_take (i := 17) (oi := { dst := some 42, op := .fieldAddr 53 (.tmp 3) 6, type := 0, pos := "law.go:20", after := #[{ on := 0, ground := .phase }, { on := 1, ground := .phase }, { on := 2, ground := .phase }, { on := 3, ground := .phase }, { on := 4, ground := .phase }, { on := 5, ground := .phase }, { on := 6, ground := .phase }, { on := 7, ground := .phase }, { on := 8, ground := .phase }, { on := 9, ground := .phase }, { on := 10, ground := .phase }, { on := 11, ground := .phase }, { on := 12, ground := .phase }, { on := 13, ground := .phase }, { on := 14, ground := .phase }, { on := 15, ground := .phase }, { on := 16, ground := .phase }], guard := none }) (v := _) rfl (by as_aux_lemma => kernel_rfl) (by as_aux_lemma => kernel_rfl) (by as_aux_lemma => kernel_rfl) (fun _ _ _ h => h) (Or.inl ⟨by kernel_rfl, by (intro w hSw; (try dsimp only at hSw); go_simp; first | done | with_reducible rfl)⟩) (by assumption) ?_
            (try simp only [List.getElem_toArray, List.getElem_cons_succ, List.getElem_cons_zero, Act.put, List.setIfInBounds_toArray, List.set_cons_zero, List.set_cons_succ])
            refine wpAnyH_ready (rs := [18]) (by as_aux_lemma => kernel_rfl) (by simp) (AllReadyH.cons rfl (fun K hK => ?_) AllReadyH.nil)
            try simp only [List.getElem_toArray, List.getElem_cons_succ, List.getElem_cons_zero]
            go_simp
            refine hK.out _ _ (by first | exact SA | exact SB | exact SC | exact SD) (fun hHeld => ?_)
            clear hK K
            (try simp only [List.getElem_toArray, List.getElem_cons_succ, List.getElem_cons_zero, Act.put, List.setIfInBounds_toArray, List.set_cons_zero, List.set_cons_succ])
            refine wpAnyH_done (by as_aux_lemma => kernel_rfl) ?_ _
            have HK' : Hid (OwI w (w'.setCell ⟨w.heap.size + 2, 6, none⟩ (.slice (some ⟨gg, 0, none⟩) (k + 1) cg)) a (some ad) n c (k + 1) (a.xs.take (k + 1)) (some ⟨gg, 0, none⟩) cg) := Lib.hid (by
              obtain ⟨q1, q2, q3, q4, q5, q6⟩ := HPP.out.2 (k + 1)
              rw [E1.out]
              exact ⟨q1, q2, q3, q4, q5, q6⟩)
            clear SA SB SC SD
            go_wp2
            go_roundw
            case rel => exact ⟨k + 1, cg, some ⟨gg, 0, none⟩, by omega, by go_num, HK'⟩
            case measure => simp [intOf]; omega
    · obtain rfl : k = n := by omega
      have HI2 : Hid (OwI w wr a A k c k a.xs A' c') := Lib.hid (by
        have := HI.out
        rw [List.take_of_length_le (by rw [HL.out]; exact Nat.le_refl _)] at this
        exact this)
      have hk1 : k ≤ 4611686018427387904 := by omega
      have hk2 : (k + 1) * 32 ≤ 140737488355328 := by omega
      have hk0 : (0 : Int) ≤ (k : Int) := by omega
      clear HI
      go_upto_region 6 with fail
      have HD : Hid (OwI w wr.drew a A k c k a.xs A' c') := Lib.hid HI2.out.drew
      have SA : wr.drew.cell? ⟨w.heap.size, 6, none⟩ = some (.slice A k c) := HD.out.box.cell 6
      have d0 : wr.drew.cell? ⟨w.heap.size + 2, 6, none⟩ = some (.slice A' k c') := HD.out.cell.cell 6
      have d1 : (wr.alloc (.cells #[.string ⟨#[35]⟩, .string ⟨#[]⟩] 97)).cell? ⟨w.heap.size + 2, 6, none⟩ = some (.slice A' k c') := (HI2.out.alloc _).cell.cell 6
      have SB : (wr.drew.alloc (.cells #[.string ⟨#[35]⟩, .string ⟨#[]⟩] 97)).cell? ⟨w.heap.size, 6, none⟩ = some (.slice A k c) := (HD.out.alloc _).box.cell 6
      clear b6
      refine wp_region_held_drew (S := fun w' => w'.cell? ⟨w.heap.size, 6, none⟩ = some (.slice A k c)) (by kernel_rfl) (by first | exact SA | exact SB | exact SC | exact SD) (fun hHeld => ?_)
      refine wpAnyH_take (i := 0) (oi := { dst := some 43, op := .fieldAddr 53 (.tmp 3) 6, type := 0, pos := "law.go:22", after := #[], guard := none }) (v := _) rfl (by as_aux_lemma => kernel_rfl) (by as_aux_lemma => kernel_rfl) (by as_aux_lemma => kernel_rfl) (fun _ _ _ h => h) (Or.inl ⟨by kernel_rfl, by (intro w hSw; (try dsimp only at hSw); go_simp; first | done | with_reducible rfl)⟩) (by assumption) ?_
      (try simp only [List.getElem_toArray, List.getElem_cons_succ, List.getElem_cons_zero, Act.put, List.setIfInBounds_toArray, List.set_cons_zero, List.set_cons_succ])
      refine wpAnyH_take (i := 2) (oi := { dst := some 45, op := .build 97 #[(0, .const (Value.string { data := #[35] }))], type := 97, pos := "law.go:22", after := #[], guard := none }) (v := _) rfl (by as_aux_lemma => kernel_rfl) (by as_aux_lemma => kernel_rfl) (by as_aux_lemma => kernel_rfl) (fun _ _ _ h => h) (Or.inl ⟨by kernel_rfl, by (intro w hSw; (try dsimp only at hSw); go_simp; first | done | with_reducible rfl)⟩) (by assumption) ?_
      (try simp only [List.getElem_toArray, List.getElem_cons_succ, List.getElem_cons_zero, Act.put, List.setIfInBounds_toArray, List.set_cons_zero, List.set_cons_succ])
      refine wpAnyH_take (i := 5) (oi := { dst := some 48, op := .fieldAddr 57 (.tmp 1) 6, type := 0, pos := "law.go:22", after := #[], guard := none }) (v := _) rfl (by as_aux_lemma => kernel_rfl) (by as_aux_lemma => kernel_rfl) (by as_aux_lemma => kernel_rfl) (fun _ _ _ h => h) (Or.inl ⟨by kernel_rfl, by (intro w hSw; (try dsimp only at hSw); go_simp; first | done | with_reducible rfl)⟩) (by assumption) ?_
      (try simp only [List.getElem_toArray, List.getElem_cons_succ, List.getElem_cons_zero, Act.put, List.setIfInBounds_toArray, List.set_cons_zero, List.set_cons_succ])
      refine wpAnyH_take (i := 6) (oi := { dst := some 49, op := .load 55 (.tmp 48), type := 55, pos := "law.go:22", after := #[{ on := 5, ground := .data }], guard := none }) (v := _) rfl (by as_aux_lemma => kernel_rfl) (by as_aux_lemma => kernel_rfl) (by as_aux_lemma => kernel_rfl) (fun _ _ _ h => h) (Or.inl ⟨by kernel_rfl, by (intro w hSw; (try dsimp only at hSw); go_simp; first | done | with_reducible rfl)⟩) (by assumption) ?_
      (try simp only [List.getElem_toArray, List.getElem_cons_succ, List.getElem_cons_zero, Act.put, List.setIfInBounds_toArray, List.set_cons_zero, List.set_cons_succ])
      refine wpAnyH_take (i := 7) (oi := { dst := some 50, op := .call { callee := Callee.builtin Builtin.len, args := #[.tmp 49], argTypes := #[55] }, type := 3, pos := "law.go:22", after := #[{ on := 6, ground := .data }], guard := none }) (v := _) rfl (by as_aux_lemma => kernel_rfl) (by as_aux_lemma => kernel_rfl) (by as_aux_lemma => kernel_rfl) (fun _ _ _ h => h) (Or.inl ⟨by kernel_rfl, by (intro w hSw; (try dsimp only at hSw); go_simp; first | done | with_reducible rfl)⟩) (by assumption) ?_
      (try simp only [List.getElem_toArray, List.getElem_cons_succ, List.getElem_cons_zero, Act.put, List.setIfInBounds_toArray, List.set_cons_zero, List.set_cons_succ])
      refine wpAnyH_ready (rs := [1, 3]) (by as_aux_lemma => kernel_rfl) (by simp) (AllReadyH.cons rfl (fun K hK => ?_) (AllReadyH.cons rfl (fun K hK => ?_) AllReadyH.nil))
      · skip
        try simp only [List.getElem_toArray, List.getElem_cons_succ, List.getElem_cons_zero]
        go_simp
        refine hK.out _ _ (by first | exact SA | exact SB | exact SC | exact SD) (fun hHeld => ?_)
        clear hK K
        (try simp only [List.getElem_toArray, List.getElem_cons_succ, List.getElem_cons_zero, Act.put, List.setIfInBounds_toArray, List.set_cons_zero, List.set_cons_succ])
        refine wpAnyH_ready (rs := [3]) (by as_aux_lemma => kernel_rfl) (by simp) (AllReadyH.cons rfl (fun K hK => ?_) AllReadyH.nil)
        try simp only [List.getElem_toArray, List.getElem_cons_succ, List.getElem_cons_zero]
        go_simp
        refine hK.out _ _ (by first | exact SA | exact SB | exact SC | exact SD) (fun hHeld => ?_)
        clear hK K
        (try simp only [List.getElem_toArray, List.getElem_cons_succ, List.getElem_cons_zero, Act.put, List.setIfInBounds_toArray, List.set_cons_zero, List.set_cons_succ])
        refine wpAnyH_ready (rs := [4]) (by as_aux_lemma => kernel_rfl) (by simp) (AllReadyH.cons rfl (fun K hK => ?_) AllReadyH.nil)
        try simp only [List.getElem_toArray, List.getElem_cons_succ, List.getElem_cons_zero]
        rw [if_pos (by as_aux_lemma => kernel_rfl)]
        change Oper.wp _ _ _ (wr.drew.alloc (.cells #[.string ⟨#[35]⟩, .string ⟨#[]⟩] 97)) _ _
        refine wp_appendN elemX _ _ rfl (w.heap.size + 3) (.slice A' k c') k _ rfl HD.out.own #[.string ⟨#[35]⟩, .string ⟨#[]⟩] rfl rfl (by intro u hu; simp at hu; rcases hu with rfl | rfl <;> rfl) hk1 hk2 HD.out.low ?_
        intro v' w' ho hg hd
        clear hd
        obtain ⟨gg, cg, rfl, hcg⟩ := own_slX ho (by omega)
        have HPP := Lib.hid (HD.out.push (x := markX) ho hg)
        clear ho hg
        have hci : (k : Int) ≤ (cg : Int) := by omega
        have SC : w'.cell? ⟨w.heap.size, 6, none⟩ = some (.slice A k c) := HPP.out.1.1.cell 6
        have SD : (w'.setCell ⟨w.heap.size + 2, 6, none⟩ (.slice (some ⟨gg, 0, none⟩) k cg)).cell? ⟨w.heap.size, 6, none⟩ = some (.slice A k c) := (HPP.out.2 k).1.cell 6
        have ew : w'.cell? ⟨w.heap.size + 2, 6, none⟩ = some (.slice A' k c') := HPP.out.1.2.1.cell 6
        have fw : w'.frozen? ⟨w.heap.size + 2, 6, none⟩ = false := HPP.out.1.2.1.frozen 6
        refine hK.out _ _ (by first | exact SA | exact SB | exact SC | exact SD) (fun hHeld => ?_)
        clear hK K
        (try simp only [List.getElem_toArray, List.getElem_cons_succ, List.getElem_cons_zero, Act.put, List.setIfInBounds_toArray, List.set_cons_zero, List.set_cons_succ])
        refine wpAnyH_take (i := 8) (oi := { dst := some 51, op := .slice 51 (.tmp 47) none (some (.tmp 50)) none, type := 51, pos := "law.go:22", after := #[{ on := 4, ground := .data }, { on := 7, ground := .data }], guard := none }) (v := _) rfl (by as_aux_lemma => kernel_rfl) (by as_aux_lemma => kernel_rfl) (by as_aux_lemma => kernel_rfl) (fun _ _ _ h => h) (Or.inl ⟨by kernel_rfl, by (intro w hSw; (try dsimp only at hSw); go_simp; first | done | with_reducible rfl)⟩) (by assumption) ?_
        (try simp only [List.getElem_toArray, List.getElem_cons_succ, List.getElem_cons_zero, Act.put, List.setIfInBounds_toArray, List.set_cons_zero, List.set_cons_succ])
        refine wpAnyH_take (i := 9) (oi := { dst := some 52, op := .fieldAddr 53 (.tmp 3) 6, type := 0, pos := "law.go:22", after := #[{ on := 0, ground := .phase }, { on := 1, ground := .phase }, { on := 2, ground := .phase }, { on := 3, ground := .phase }, { on := 4, ground := .phase }, { on := 5, ground := .phase }, { on := 6, ground := .phase }, { on := 7, ground := .phase }, { on := 8, ground := .phase }], guard := none }) (v := _) rfl (by as_aux_lemma => kernel_rfl) (by as_aux_lemma => kernel_rfl) (by as_aux_lemma => kernel_rfl) (fun _ _ _ h => h) (Or.inl ⟨by kernel_rfl, by (intro w hSw; (try dsimp only at hSw); go_simp; first | done | with_reducible rfl)⟩) (by assumption) ?_
        (try simp only [List.getElem_toArray, List.getElem_cons_succ, List.getElem_cons_zero, Act.put, List.setIfInBounds_toArray, List.set_cons_zero, List.set_cons_succ])
        refine wpAnyH_ready (rs := [10]) (by as_aux_lemma => kernel_rfl) (by simp) (AllReadyH.cons rfl (fun K hK => ?_) AllReadyH.nil)
        try simp only [List.getElem_toArray, List.getElem_cons_succ, List.getElem_cons_zero]
        go_simp
        refine hK.out _ _ (by first | exact SA | exact SB | exact SC | exact SD) (fun hHeld => ?_)
        clear hK K
        (try simp only [List.getElem_toArray, List.getElem_cons_succ, List.getElem_cons_zero, Act.put, List.setIfInBounds_toArray, List.set_cons_zero, List.set_cons_succ])
        refine wpAnyH_done (by as_aux_lemma => kernel_rfl) ?_ _
        obtain ⟨q1, q2, q3, q4, q5, q6⟩ := HPP.out.2 k
        have Q2 := Lib.hid q2
        have Q3 := Lib.hid q3
        have Q4 := Lib.hid q4
        have Q5 := Lib.hid q5
        clear q1 q2 q3 q4 q5 q6 SA SB SC SD d0 d1 ew fw HPP HD
        generalize w'.setCell ⟨w.heap.size + 2, 6, none⟩ (.slice (some ⟨gg, 0, none⟩) k cg) = wf at Q2 Q3 Q4 Q5 ⊢
        obtain ⟨a0, a1, a2, a3, a4, a5, a6⟩ := att_cells a (some ⟨gg, 0, none⟩) k cg wf _ Q3.out
        have z0 : ∀ i, wf.cell? ⟨w.heap.size + 1, i, none⟩ = (attV zAtt none 0 0)[i]? := fun i => Q2.out.cell i
        have y0 : wf.cell? ⟨w.heap.size + 1, 0, none⟩ = some (.int .u8 0) := z0 0
        have y1 : wf.cell? ⟨w.heap.size + 1, 1, none⟩ = some (.int .u32 0) := z0 1
        have y2 : wf.cell? ⟨w.heap.size + 1, 2, none⟩ = some (.int .u32 0) := z0 2
        have y3 : wf.cell? ⟨w.heap.size + 1, 3, none⟩ = some (.int .u32 0) := z0 3
        have y4 : wf.cell? ⟨w.heap.size + 1, 4, none⟩ = some (.int .i64 0) := z0 4
        have y5 : wf.cell? ⟨w.heap.size + 1, 5, none⟩ = some (.string ⟨#[]⟩) := z0 5
        have y6 : wf.cell? ⟨w.heap.size + 1, 6, none⟩ = some (.slice none 0 0) := z0 6
        have g0 : ∀ i, wf.frozen? ⟨w.heap.size + 1, i, none⟩ = false := fun i => Q2.out.frozen i
        clear z0
        have HG : Hid (Blk (((((((wf.setCell ⟨w.heap.size + 1, 0, none⟩ (.int .u8 (a.nd.toNat : Int))).setCell ⟨w.heap.size + 1, 1, none⟩ (.int .u32 (a.md.toNat : Int))).setCell ⟨w.heap.size + 1, 2, none⟩ (.int .u32 (a.ui.toNat : Int))).setCell ⟨w.heap.size + 1, 3, none⟩ (.int .u32 (a.gi.toNat : Int))).setCell ⟨w.heap.size + 1, 4, none⟩ (.int .i64 a.mt)).setCell ⟨w.heap.size + 1, 5, none⟩ (.string a.tg)).setCell ⟨w.heap.size + 1, 6, none⟩ (.slice (some ⟨gg, 0, none⟩) k cg)) (w.heap.size + 1) 53 (attV a (some ⟨gg, 0, none⟩) k cg)) := Lib.hid (((((((Q2.out.set_ 0 (.int .u8 (a.nd.toNat : Int))).set_ 1 (.int .u32 (a.md.toNat : Int))).set_ 2 (.int .u32 (a.ui.toNat : Int))).set_ 3 (.int .u32 (a.gi.toNat : Int))).set_ 4 (.int .i64 a.mt)).set_ 5 (.string a.tg)).set_ 6 (.slice (some ⟨gg, 0, none⟩) k cg))
        have HBe : Hid (Below w.heap.size w (((((((wf.setCell ⟨w.heap.size + 1, 0, none⟩ (.int .u8 (a.nd.toNat : Int))).setCell ⟨w.heap.size + 1, 1, none⟩ (.int .u32 (a.md.toNat : Int))).setCell ⟨w.heap.size + 1, 2, none⟩ (.int .u32 (a.ui.toNat : Int))).setCell ⟨w.heap.size + 1, 3, none⟩ (.int .u32 (a.gi.toNat : Int))).setCell ⟨w.heap.size + 1, 4, none⟩ (.int .i64 a.mt)).setCell ⟨w.heap.size + 1, 5, none⟩ (.string a.tg)).setCell ⟨w.heap.size + 1, 6, none⟩ (.slice (some ⟨gg, 0, none⟩) k cg))) := Lib.hid (((((((Q5.out.setCell (p := ⟨w.heap.size + 1, 0, none⟩) (Nat.le_succ _) (.int .u8 (a.nd.toNat : Int))).setCell (p := ⟨w.heap.size + 1, 1, none⟩) (Nat.le_succ _) (.int .u32 (a.md.toNat : Int))).setCell (p := ⟨w.heap.size + 1, 2, none⟩) (Nat.le_succ _) (.int .u32 (a.ui.toNat : Int))).setCell (p := ⟨w.heap.size + 1, 3, none⟩) (Nat.le_succ _) (.int .u32 (a.gi.toNat : Int))).setCell (p := ⟨w.heap.size + 1, 4, none⟩) (Nat.le_succ _) (.int .i64 a.mt)).setCell (p := ⟨w.heap.size + 1, 5, none⟩) (Nat.le_succ _) (.string a.tg)).setCell (p := ⟨w.heap.size + 1, 6, none⟩) (Nat.le_succ _) (.slice (some ⟨gg, 0, none⟩) k cg))
        have HO : Hid ((((((((wf.setCell ⟨w.heap.size + 1, 0, none⟩ (.int .u8 (a.nd.toNat : Int))).setCell ⟨w.heap.size + 1, 1, none⟩ (.int .u32 (a.md.toNat : Int))).setCell ⟨w.heap.size + 1, 2, none⟩ (.int .u32 (a.ui.toNat : Int))).setCell ⟨w.heap.size + 1, 3, none⟩ (.int .u32 (a.gi.toNat : Int))).setCell ⟨w.heap.size + 1, 4, none⟩ (.int .i64 a.mt)).setCell ⟨w.heap.size + 1, 5, none⟩ (.string a.tg)).setCell ⟨w.heap.size + 1, 6, none⟩ (.slice (some ⟨gg, 0, none⟩) k cg)).ownsRow w.heap.size 97 2 (.slice (some ⟨gg, 0, none⟩) (k + 1) cg) (k + 1) (xtV (a.xs ++ [markX]))) := Lib.hid (own_lower (Q4.out.kept (only_setCell (only_setCell (only_setCell (only_setCell (only_setCell (only_setCell (only_setCell (grown_refl wf (some (w.heap.size + 1))) (p := ⟨w.heap.size + 1, 0, none⟩) (.inl rfl) (.int .u8 (a.nd.toNat : Int))) (p := ⟨w.heap.size + 1, 1, none⟩) (.inl rfl) (.int .u32 (a.md.toNat : Int))) (p := ⟨w.heap.size + 1, 2, none⟩) (.inl rfl) (.int .u32 (a.ui.toNat : Int))) (p := ⟨w.heap.size + 1, 3, none⟩) (.inl rfl) (.int .u32 (a.gi.toNat : Int))) (p := ⟨w.heap.size + 1, 4, none⟩) (.inl rfl) (.int .i64 a.mt)) (p := ⟨w.heap.size + 1, 5, none⟩) (.inl rfl) (.string a.tg)) (p := ⟨w.heap.size + 1, 6, none⟩) (.inl rfl) (.slice (some ⟨gg, 0, none⟩) k cg)) (.inr (fun e => by have := (Q4.out.lt _ e).1; omega))) (show w.heap.size ≤ w.heap.size + 3 by omega))
        go_wp2
        refine bodyPost_ret (v := .agg (attV a (some ⟨gg, 0, none⟩) k cg)) ?_ ?_ ?_
        · exact results_rec1 (p := 2) rfl _ _ (w.heap.size + 1) 53 (attV a (some ⟨gg, 0, none⟩) k cg) (0, 0) rfl HG.out Try.underlying53 (by kernel_rfl)
        · rfl
        · exact ⟨gg, cg, rfl, HO.out, HBe.out⟩
      · skip
        try simp only [List.getElem_toArray, List.getElem_cons_succ, List.getElem_cons_zero]
        go_simp
        refine hK.out _ _ (by first | exact SA | exact SB | exact SC | exact SD) (fun hHeld => ?_)
        clear hK K
        (try simp only [List.getElem_toArray, List.getElem_cons_succ, List.getElem_cons_zero, Act.put, List.setIfInBounds_toArray, List.set_cons_zero, List.set_cons_succ])
        refine wpAnyH_ready (rs := [1]) (by as_aux_lemma => kernel_rfl) (by simp) (AllReadyH.cons rfl (fun K hK => ?_) AllReadyH.nil)
        try simp only [List.getElem_toArray, List.getElem_cons_succ, List.getElem_cons_zero]
        go_simp
        refine hK.out _ _ (by first | exact SA | exact SB | exact SC | exact SD) (fun hHeld => ?_)
        clear hK K
        (try simp only [List.getElem_toArray, List.getElem_cons_succ, List.getElem_cons_zero, Act.put, List.setIfInBounds_toArray, List.set_cons_zero, List.set_cons_succ])
        refine wpAnyH_ready (rs := [4]) (by as_aux_lemma => kernel_rfl) (by simp) (AllReadyH.cons rfl (fun K hK => ?_) AllReadyH.nil)
        try simp only [List.getElem_toArray, List.getElem_cons_succ, List.getElem_cons_zero]
        rw [if_pos (by as_aux_lemma => kernel_rfl)]
        change Oper.wp _ _ _ (wr.drew.alloc (.cells #[.string ⟨#[35]⟩, .string ⟨#[]⟩] 97)) _ _
        refine wp_appendN elemX _ _ rfl (w.heap.size + 3) (.slice A' k c') k _ rfl HD.out.own #[.string ⟨#[35]⟩, .string ⟨#[]⟩] rfl rfl (by intro u hu; simp at hu; rcases hu with rfl | rfl <;> rfl) hk1 hk2 HD.out.low ?_
        intro v' w' ho hg hd
        clear hd
        obtain ⟨gg, cg, rfl, hcg⟩ := own_slX ho (by omega)
        have HPP := Lib.hid (HD.out.push (x := markX) ho hg)
        clear ho hg
        have hci : (k : Int) ≤ (cg : Int) := by omega
        have SC : w'.cell? ⟨w.heap.size, 6, none⟩ = some (.slice A k c) := HPP.out.1.1.cell 6
        have SD : (w'.setCell ⟨w.heap.size + 2, 6, none⟩ (.slice (some ⟨gg, 0, none⟩) k cg)).cell? ⟨w.heap.size, 6, none⟩ = some (.slice A k c) := (HPP.out.2 k).1.cell 6
        have ew : w'.cell? ⟨w.heap.size + 2, 6, none⟩ = some (.slice A' k c') := HPP.out.1.2.1.cell 6
        have fw : w'.frozen? ⟨w.heap.size + 2, 6, none⟩ = false := HPP.out.1.2.1.frozen 6
        refine hK.out _ _ (by first | exact SA | exact SB | exact SC | exact SD) (fun hHeld => ?_)
        clear hK K
        (try simp only [List.getElem_toArray, List.getElem_cons_succ, List.getElem_cons_zero, Act.put, List.setIfInBounds_toArray, List.set_cons_zero, List.set_cons_succ])
        refine wpAnyH_take (i := 8) (oi := { dst := some 51, op := .slice 51 (.tmp 47) none (some (.tmp 50)) none, type := 51, pos := "law.go:22", after := #[{ on := 4, ground := .data }, { on := 7, ground := .data }], guard := none }) (v := _) rfl (by as_aux_lemma => kernel_rfl) (by as_aux_lemma => kernel_rfl) (by as_aux_lemma => kernel_rfl) (fun _ _ _ h => h) (Or.inl ⟨by kernel_rfl, by (intro w hSw; (try dsimp only at hSw); go_simp; first | done | with_reducible rfl)⟩) (by assumption) ?_
        (try simp only [List.getElem_toArray, List.getElem_cons_succ, List.getElem_cons_zero, Act.put, List.setIfInBounds_toArray, List.set_cons_zero, List.set_cons_succ])
        refine wpAnyH_take (i := 9) (oi := { dst := some 52, op := .fieldAddr 53 (.tmp 3) 6, type := 0, pos := "law.go:22", after := #[{ on := 0, ground := .phase }, { on := 1, ground := .phase }, { on := 2, ground := .phase }, { on := 3, ground := .phase }, { on := 4, ground := .phase }, { on := 5, ground := .phase }, { on := 6, ground := .phase }, { on := 7, ground := .phase }, { on := 8, ground := .phase }], guard := none }) (v := _) rfl (by as_aux_lemma => kernel_rfl) (by as_aux_lemma => kernel_rfl) (by as_aux_lemma => kernel_rfl) (fun _ _ _ h => h) (Or.inl ⟨by kernel_rfl, by (intro w hSw; (try dsimp only at hSw); go_simp; first | done | with_reducible rfl)⟩) (by assumption) ?_
        (try simp only [List.getElem_toArray, List.getElem_cons_succ, List.getElem_cons_zero, Act.put, List.setIfInBounds_toArray, List.set_cons_zero, List.set_cons_succ])
        refine wpAnyH_ready (rs := [10]) (by as_aux_lemma => kernel_rfl) (by simp) (AllReadyH.cons rfl (fun K hK => ?_) AllReadyH.nil)
        try simp only [List.getElem_toArray, List.getElem_cons_succ, List.getElem_cons_zero]
        go_simp
        refine hK.out _ _ (by first | exact SA | exact SB | exact SC | exact SD) (fun hHeld => ?_)
        clear hK K
        (try simp only [List.getElem_toArray, List.getElem_cons_succ, List.getElem_cons_zero, Act.put, List.setIfInBounds_toArray, List.set_cons_zero, List.set_cons_succ])
        refine wpAnyH_done (by as_aux_lemma => kernel_rfl) ?_ _
        obtain ⟨q1, q2, q3, q4, q5, q6⟩ := HPP.out.2 k
        have Q2 := Lib.hid q2
        have Q3 := Lib.hid q3
        have Q4 := Lib.hid q4
        have Q5 := Lib.hid q5
        clear q1 q2 q3 q4 q5 q6 SA SB SC SD d0 d1 ew fw HPP HD
        generalize w'.setCell ⟨w.heap.size + 2, 6, none⟩ (.slice (some ⟨gg, 0, none⟩) k cg) = wf at Q2 Q3 Q4 Q5 ⊢
        obtain ⟨a0, a1, a2, a3, a4, a5, a6⟩ := att_cells a (some ⟨gg, 0, none⟩) k cg wf _ Q3.out
        have z0 : ∀ i, wf.cell? ⟨w.heap.size + 1, i, none⟩ = (attV zAtt none 0 0)[i]? := fun i => Q2.out.cell i
        have y0 : wf.cell? ⟨w.heap.size + 1, 0, none⟩ = some (.int .u8 0) := z0 0
        have y1 : wf.cell? ⟨w.heap.size + 1, 1, none⟩ = some (.int .u32 0) := z0 1
        have y2 : wf.cell? ⟨w.heap.size + 1, 2, none⟩ = some (.int .u32 0) := z0 2
        have y3 : wf.cell? ⟨w.heap.size + 1, 3, none⟩ = some (.int .u32 0) := z0 3
        have y4 : wf.cell? ⟨w.heap.size + 1, 4, none⟩ = some (.int .i64 0) := z0 4
        have y5 : wf.cell? ⟨w.heap.size + 1, 5, none⟩ = some (.string ⟨#[]⟩) := z0 5
        have y6 : wf.cell? ⟨w.heap.size + 1, 6, none⟩ = some (.slice none 0 0) := z0 6
        have g0 : ∀ i, wf.frozen? ⟨w.heap.size + 1, i, none⟩ = false := fun i => Q2.out.frozen i
        clear z0
        have HG : Hid (Blk (((((((wf.setCell ⟨w.heap.size + 1, 0, none⟩ (.int .u8 (a.nd.toNat : Int))).setCell ⟨w.heap.size + 1, 1, none⟩ (.int .u32 (a.md.toNat : Int))).setCell ⟨w.heap.size + 1, 2, none⟩ (.int .u32 (a.ui.toNat : Int))).setCell ⟨w.heap.size + 1, 3, none⟩ (.int .u32 (a.gi.toNat : Int))).setCell ⟨w.heap.size + 1, 4, none⟩ (.int .i64 a.mt)).setCell ⟨w.heap.size + 1, 5, none⟩ (.string a.tg)).setCell ⟨w.heap.size + 1, 6, none⟩ (.slice (some ⟨gg, 0, none⟩) k cg)) (w.heap.size + 1) 53 (attV a (some ⟨gg, 0, none⟩) k cg)) := Lib.hid (((((((Q2.out.set_ 0 (.int .u8 (a.nd.toNat : Int))).set_ 1 (.int .u32 (a.md.toNat : Int))).set_ 2 (.int .u32 (a.ui.toNat : Int))).set_ 3 (.int .u32 (a.gi.toNat : Int))).set_ 4 (.int .i64 a.mt)).set_ 5 (.string a.tg)).set_ 6 (.slice (some ⟨gg, 0, none⟩) k cg))
        have HBe : Hid (Below w.heap.size w (((((((wf.setCell ⟨w.heap.size + 1, 0, none⟩ (.int .u8 (a.nd.toNat : Int))).setCell ⟨w.heap.size + 1, 1, none⟩ (.int .u32 (a.md.toNat : Int))).setCell ⟨w.heap.size + 1, 2, none⟩ (.int .u32 (a.ui.toNat : Int))).setCell ⟨w.heap.size + 1, 3, none⟩ (.int .u32 (a.gi.toNat : Int))).setCell ⟨w.heap.size + 1, 4, none⟩ (.int .i64 a.mt)).setCell ⟨w.heap.size + 1, 5, none⟩ (.string a.tg)).setCell ⟨w.heap.size + 1, 6, none⟩ (.slice (some ⟨gg, 0, none⟩) k cg))) := Lib.hid (((((((Q5.out.setCell (p := ⟨w.heap.size + 1, 0, none⟩) (Nat.le_succ _) (.int .u8 (a.nd.toNat : Int))).setCell (p := ⟨w.heap.size + 1, 1, none⟩) (Nat.le_succ _) (.int .u32 (a.md.toNat : Int))).setCell (p := ⟨w.heap.size + 1, 2, none⟩) (Nat.le_succ _) (.int .u32 (a.ui.toNat : Int))).setCell (p := ⟨w.heap.size + 1, 3, none⟩) (Nat.le_succ _) (.int .u32 (a.gi.toNat : Int))).setCell (p := ⟨w.heap.size + 1, 4, none⟩) (Nat.le_succ _) (.int .i64 a.mt)).setCell (p := ⟨w.heap.size + 1, 5, none⟩) (Nat.le_succ _) (.string a.tg)).setCell (p := ⟨w.heap.size + 1, 6, none⟩) (Nat.le_succ _) (.slice (some ⟨gg, 0, none⟩) k cg))
        have HO : Hid ((((((((wf.setCell ⟨w.heap.size + 1, 0, none⟩ (.int .u8 (a.nd.toNat : Int))).setCell ⟨w.heap.size + 1, 1, none⟩ (.int .u32 (a.md.toNat : Int))).setCell ⟨w.heap.size + 1, 2, none⟩ (.int .u32 (a.ui.toNat : Int))).setCell ⟨w.heap.size + 1, 3, none⟩ (.int .u32 (a.gi.toNat : Int))).setCell ⟨w.heap.size + 1, 4, none⟩ (.int .i64 a.mt)).setCell ⟨w.heap.size + 1, 5, none⟩ (.string a.tg)).setCell ⟨w.heap.size + 1, 6, none⟩ (.slice (some ⟨gg, 0, none⟩) k cg)).ownsRow w.heap.size 97 2 (.slice (some ⟨gg, 0, none⟩) (k + 1) cg) (k + 1) (xtV (a.xs ++ [markX]))) := Lib.hid (own_lower (Q4.out.kept (only_setCell (only_setCell (only_setCell (only_setCell (only_setCell (only_setCell (only_setCell (grown_refl wf (some (w.heap.size + 1))) (p := ⟨w.heap.size + 1, 0, none⟩) (.inl rfl) (.int .u8 (a.nd.toNat : Int))) (p := ⟨w.heap.size + 1, 1, none⟩) (.inl rfl) (.int .u32 (a.md.toNat : Int))) (p := ⟨w.heap.size + 1, 2, none⟩) (.inl rfl) (.int .u32 (a.ui.toNat : Int))) (p := ⟨w.heap.size + 1, 3, none⟩) (.inl rfl) (.int .u32 (a.gi.toNat : Int))) (p := ⟨w.heap.size + 1, 4, none⟩) (.inl rfl) (.int .i64 a.mt)) (p := ⟨w.heap.size + 1, 5, none⟩) (.inl rfl) (.string a.tg)) (p := ⟨w.heap.size + 1, 6, none⟩) (.inl rfl) (.slice (some ⟨gg, 0, none⟩) k cg)) (.inr (fun e => by have := (Q4.out.lt _ e).1; omega))) (show w.heap.size ≤ w.heap.size + 3 by omega))
        go_wp2
        refine bodyPost_ret (v := .agg (attV a (some ⟨gg, 0, none⟩) k cg)) ?_ ?_ ?_
        · exact results_rec1 (p := 2) rfl _ _ (w.heap.size + 1) 53 (attV a (some ⟨gg, 0, none⟩) k cg) (0, 0) rfl HG.out Try.underlying53 (by kernel_rfl)
        · rfl
        · exact ⟨gg, cg, rfl, HO.out, HBe.out⟩
end Go.Proofs.Ytpfccicahfncbaa
