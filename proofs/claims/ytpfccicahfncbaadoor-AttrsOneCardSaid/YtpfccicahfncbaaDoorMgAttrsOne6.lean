/- Several texts of the claim joined into one (part 6): plain facts and walks. No conditions but those that each theorem tells. -/
import Derived.Test.YtpfccicahfncbaaDoorMgAttrsOne5
import Derived.Test.YtpfccicahfncbaaDoorGen
import Derived.Test.YtpfccicahfncbaaDoorMgAttrsOne3
import Derived.BigQuiet
import Derived.Deep.DeepCutAuto
import Derived.Test.YtpfccicahfncbaaDoorMgAttrsOne2
import Derived.Lib.MapLaws
import Derived.Shelf.Unicode.DecodeAny
namespace Go.Proofs.YtpfccicahfncbaaDoor
open Go.RowKit Wir
set_option linter.unusedVariables false
set_option linter.unusedSimpArgs false
def markX : ByteArray × ByteArray := (⟨#[35]⟩, ⟨#[]⟩)
theorem results_rec1 {fn : Func} {p : Tmp} {ty : TypeId} {fs : Array Field} (h : fn.results = #[.cell p ty]) (tmps : Array Value) {P : Program} (w : World) (g : Nat) (t : TypeId) (cs : Array Value) (fr : Nat × Nat)
    (hp : tmps.getD p undef = .pointer (some ⟨g, 0, none⟩)) (hg : w.heap[g]? = some (.cells cs t fr))
    (hu : P.underlying ty = some (.struct fs)) (hi : (P.info? ty).map (·.size) = some cs.size) :
    (results fn tmps).run P w = .ok (.agg cs) w := by
  have hp' : tmps[p]?.getD undef = .pointer (some ⟨g, 0, none⟩) := by simpa using hp
  simp [results, h, hp', asAddr, run_loadVar_row w g t ty cs fr (.struct fs) hg hu rfl hi]
/-- What holds at the head of own's loop. -/
structure OwI (w wr : World) (a : Att) (A : Option Addr) (n c : Nat) (k : Nat) (L : List (ByteArray × ByteArray)) (A' : Option Addr) (c' : Nat) : Prop where
  box : Blk wr w.heap.size 31 (attV a A n c)
  res : Blk wr (w.heap.size + 1) 27 (attV zAtt none 0 0)
  cell : Blk wr (w.heap.size + 2) 27 (attV a A' k c')
  own : wr.ownsRow (w.heap.size + 3) 43 2 (.slice A' k c') k (xtV L)
  below : Below w.heap.size w wr
  low : w.heap.size + 3 ≤ wr.heap.size
theorem attV_set6' (a : Att) (A A' : Option Addr) (n c n' c' : Nat) : (attV a A n c).setIfInBounds 6 (.slice A' n' c') = attV a A' n' c' := rfl
theorem OwI.drew {w wr : World} {a : Att} {A A' : Option Addr} {n c k c' : Nat} {L : List (ByteArray × ByteArray)} (h : OwI w wr a A n c k L A' c') : OwI w wr.drew a A n c k L A' c' :=
  ⟨h.box, h.res, h.cell, h.own.drew, h.below.drew, h.low⟩
theorem OwI.alloc {w wr : World} {a : Att} {A A' : Option Addr} {n c k c' : Nat} {L : List (ByteArray × ByteArray)} (h : OwI w wr a A n c k L A' c') (o : Obj) : OwI w (wr.alloc o) a A n c k L A' c' :=
  ⟨h.box.alloc o, h.res.alloc o, h.cell.alloc o, h.own.alloc o, h.below.alloc h.below.size o, by have := h.low; simp; omega⟩
/-- An element is appended; what is there before the list is stored, and behind it, of whatever length it is cut to. -/
theorem OwI.push {w wr w' : World} {a : Att} {A A' : Option Addr} {n c k c' g c2 : Nat} {L : List (ByteArray × ByteArray)} {x : ByteArray × ByteArray} (h : OwI w wr a A n c k L A' c')
    (ho : w'.ownsRow (w.heap.size + 3) 43 2 (.slice (some ⟨g, 0, none⟩) (k + 1) c2) (k + 1) (xtV L ++ [.string x.1, .string x.2])) (hg : wr.grownBy w' (Value.slice A' k c').ownBlock) :
    (Blk w' w.heap.size 31 (attV a A n c) ∧ Blk w' (w.heap.size + 2) 27 (attV a A' k c') ∧ Below w.heap.size w w') ∧
    ∀ m, Blk (w'.setCell ⟨w.heap.size + 2, 6, none⟩ (.slice (some ⟨g, 0, none⟩) m c2)) w.heap.size 31 (attV a A n c) ∧ Blk (w'.setCell ⟨w.heap.size + 2, 6, none⟩ (.slice (some ⟨g, 0, none⟩) m c2)) (w.heap.size + 1) 27 (attV zAtt none 0 0) ∧
      Blk (w'.setCell ⟨w.heap.size + 2, 6, none⟩ (.slice (some ⟨g, 0, none⟩) m c2)) (w.heap.size + 2) 27 (attV a (some ⟨g, 0, none⟩) m c2) ∧
      (w'.setCell ⟨w.heap.size + 2, 6, none⟩ (.slice (some ⟨g, 0, none⟩) m c2)).ownsRow (w.heap.size + 3) 43 2 (.slice (some ⟨g, 0, none⟩) (k + 1) c2) (k + 1) (xtV (L ++ [x])) ∧
      Below w.heap.size w (w'.setCell ⟨w.heap.size + 2, 6, none⟩ (.slice (some ⟨g, 0, none⟩) m c2)) ∧ w.heap.size + 3 ≤ (w'.setCell ⟨w.heap.size + 2, 6, none⟩ (.slice (some ⟨g, 0, none⟩) m c2)).heap.size := by
  have hne : ∀ b, b < w.heap.size + 3 → some b ≠ (Value.slice A' k c').ownBlock := fun b hb e => by
    have := (h.own.lt b e.symm).1; omega
  have hgB : w.heap.size + 3 ≤ g := (ho.lt g rfl).1
  have hb : Below w.heap.size w w' := h.below.grown hg h.below.size (fun j e => by have := (h.own.lt j e).1; omega)
  have hc := h.cell.grown hg (hne _ (by omega))
  have hx := h.box.grown hg (hne _ (by omega))
  have hr := h.res.grown hg (hne _ (by omega))
  have ho2 : w'.ownsRow (w.heap.size + 3) 43 2 (.slice (some ⟨g, 0, none⟩) (k + 1) c2) (k + 1) (xtV (L ++ [x])) := by rw [xtV_app]; exact ho
  refine ⟨⟨hx, hc, hb⟩, fun m => ⟨hx.far (p := ⟨w.heap.size + 2, 6, none⟩) (by simp) _, hr.far (p := ⟨w.heap.size + 2, 6, none⟩) (by simp) _, hc.set_ 6 _, ?_, hb.setCell (p := ⟨w.heap.size + 2, 6, none⟩) (by simp) _, by rw [World.size_setCell]; exact Nat.le_trans h.low hg.size⟩⟩
  exact ho2.kept (only_setCell (grown_refl w' (some (w.heap.size + 2))) (p := ⟨w.heap.size + 2, 6, none⟩) (.inl rfl) _) (.inr (by show some g ≠ some (w.heap.size + 2); intro e; injection e with e; omega))
set_option maxRecDepth 100000 in
set_option maxHeartbeats 3000000 in
theorem attOwn_any (a : Att) (A : Option Addr) (n c : Nat) (w : World) (B : Nat) (hr : Reads w B 2 A n (xtV a.xs)) (hB : B ≤ w.heap.size) (hn : n * 32 ≤ 140737488351232) :
    Calls Tryd.prog 6 #[.agg (attV a A n c)] w fun e w' => ∃ g cap, e = .returned (.agg (attV a (some ⟨g, 0, none⟩) n cap)) ∧ w'.ownsRow w.heap.size 43 2 (.slice (some ⟨g, 0, none⟩) (n + 1) cap) (n + 1) (xtV (a.xs ++ [markX])) ∧ Below w.heap.size w w' := by
  have HR := Lib.hid hr
  have HL := Lib.hid hr.xtLen
  clear hr
  have Z0 : Hid (Blk ((w.alloc (.cells (attV a A n c) 31)).alloc (.cells (attV zAtt none 0 0) 27)) w.heap.size 31 (attV a A n c) ∧ Blk ((w.alloc (.cells (attV a A n c) 31)).alloc (.cells (attV zAtt none 0 0) 27)) (w.heap.size + 1) 27 (attV zAtt none 0 0) ∧ Below w.heap.size w ((w.alloc (.cells (attV a A n c) 31)).alloc (.cells (attV zAtt none 0 0) 27)) ∧ ((w.alloc (.cells (attV a A n c) 31)).alloc (.cells (attV zAtt none 0 0) 27)).heap.size = w.heap.size + 2) := Lib.hid (by
    have h2 := Blk.new (w.alloc (.cells (attV a A n c) 31)) 27 (attV zAtt none 0 0)
    rw [show (w.alloc (.cells (attV a A n c) 31)).heap.size = w.heap.size + 1 from by simp] at h2
    exact ⟨(Blk.new _ _ _).alloc _, h2, ((Below.refl _ _).alloc (Nat.le_refl _) _).alloc (by simp) _, by simp⟩)
  go_enter Tryd.func6, Tryd.ntmps6
  go_upto_region 1 with fail
  change Code.wp _ _ _ _ ((w.alloc (.cells (attV a A n c) 31)).alloc (.cells (attV zAtt none 0 0) 27))
  generalize (w.alloc (.cells (attV a A n c) 31)).alloc (.cells (attV zAtt none 0 0) 27) = w1 at Z0 ⊢
  have c0 : w1.cell? ⟨w.heap.size, 0, none⟩ = some (.int .u8 (a.nd.toNat : Int)) := Z0.out.1.cell 0
  have c1 : w1.cell? ⟨w.heap.size, 1, none⟩ = some (.int .u32 (a.md.toNat : Int)) := Z0.out.1.cell 1
  have c2 : w1.cell? ⟨w.heap.size, 2, none⟩ = some (.int .u32 (a.ui.toNat : Int)) := Z0.out.1.cell 2
  have c3 : w1.cell? ⟨w.heap.size, 3, none⟩ = some (.int .u32 (a.gi.toNat : Int)) := Z0.out.1.cell 3
  have c4 : w1.cell? ⟨w.heap.size, 4, none⟩ = some (.int .i64 a.mt) := Z0.out.1.cell 4
  have c5 : w1.cell? ⟨w.heap.size, 5, none⟩ = some (.string a.tg) := Z0.out.1.cell 5
  go_upto_region 2 with fail
  have hs1 : w1.heap.size = w.heap.size + 2 := Z0.out.2.2.2
  rw [hs1]
  have HI : Hid (OwI w (w1.alloc (.cells (attV a none 0 0) 27)) a A n c 0 [] none 0) := Lib.hid (by
    have h3 := Blk.new w1 27 (attV a none 0 0)
    rw [hs1] at h3
    exact ⟨Z0.out.1.alloc _, Z0.out.2.1.alloc _, h3, World.ownsRow_nil _ _ _ _, Z0.out.2.2.1.alloc Z0.out.2.2.1.size _, by simp; omega⟩)
  change Code.wp _ _ _ _ (w1.alloc (.cells (attV a none 0 0) 27))
  generalize w1.alloc (.cells (attV a none 0 0) 27) = w2 at HI ⊢
  clear Z0 c0 c1 c2 c3 c4 c5 hs1
  go_wp2_with fail
  go_loopw [4] (fun i wr => ∃ (k c' : Nat) (A' : Option Addr), k ≤ n ∧ i = .int .i64 k ∧ Hid (OwI w wr a A n c k (a.xs.take k) A' c')) (fun i _ => n - (intOf i).toNat)
  case atStart => exact ⟨0, 0, none, by omega, rfl, by rw [List.take_zero]; exact HI⟩
  case round =>
    obtain ⟨k, c', A', hk, rfl, HI⟩ := hrel
    have b6 : wr.cell? ⟨w.heap.size, 6, none⟩ = some (.slice A n c) := HI.out.box.cell 6
    by_cases hlt : k < n
    · obtain ⟨ad, hkl, rfl, hbl, x0, x1⟩ := xt_cells HR.out k hlt
      have E1 : Hid (a.xs.take (k + 1) = a.xs.take k ++ [a.xs[k]]) := Lib.hid (by rw [List.take_add_one, List.getElem?_eq_getElem hkl]; rfl)
      have KS : Hid (∀ W, Blk W w.heap.size 31 (attV a (some ad) n c) ∧ Below w.heap.size w W → W.cell? ⟨w.heap.size, 6, none⟩ = some (.slice (some ad) n c) ∧ W.cell? (ad.add (k * 2)) = some (.string (a.xs[k]).1) ∧ W.cell? ⟨(ad.add (k * 2)).block, (ad.add (k * 2)).off + 1, none⟩ = some (.string (a.xs[k]).2)) := Lib.hid (fun W hW => by
        refine ⟨hW.1.cell 6, ?_, ?_⟩
        · rw [hW.2.cell (by rw [block_of_add]; omega)]; exact x0
        · show W.cell? ((ad.add (k * 2)).add 1) = _
          rw [hW.2.cell (by rw [block_of_add, block_of_add]; omega)]; exact x1)
      obtain ⟨x, hx⟩ : ∃ x, a.xs[k] = x := ⟨_, rfl⟩
      rw [hx] at KS E1
      clear hx x0 x1 hkl
      have hki : (k : Int) < (n : Int) := by omega
      have hk0 : (0 : Int) ≤ (k : Int) := by omega
      have hk1 : k ≤ 4611686018427387904 := by omega
      have hk2 : (k + 1) * 32 ≤ 140737488355328 := by omega
      go_upto_region 5 with fail
      have HD : Hid (OwI w wr.drew a (some ad) n c k (a.xs.take k) A' c') := Lib.hid HI.out.drew
      have SA := KS.out _ ⟨HD.out.box, HD.out.below⟩
      have d0 : wr.drew.cell? ⟨w.heap.size + 2, 6, none⟩ = some (.slice A' k c') := HD.out.cell.cell 6
      have d1 : (wr.alloc (.cells #[.string x.1, .string x.2] 43)).cell? ⟨w.heap.size + 2, 6, none⟩ = some (.slice A' k c') := (HI.out.alloc _).cell.cell 6
      have SB := KS.out _ ⟨(HD.out.alloc (.cells #[.string x.1, .string x.2] 43)).box, (HD.out.alloc (.cells #[.string x.1, .string x.2] 43)).below⟩
      clear b6
      refine wp_region_held_drew (S := fun w' => w'.cell? ⟨w.heap.size, 6, none⟩ = some (.slice (some ad) n c) ∧ w'.cell? (ad.add (k * 2)) = some (.string x.1) ∧ w'.cell? ⟨(ad.add (k * 2)).block, (ad.add (k * 2)).off + 1, none⟩ = some (.string x.2)) (by kernel_rfl) (by first | exact SA | exact SB | exact SC | exact SD) (fun hHeld => ?_)
      refine wpAnyH_take (i := 0) (oi := { dst := some 25, op := .fieldAddr 27 (.tmp 3) 6, type := 0, pos := "law.go:20", after := #[], guard := none }) (v := _) rfl (by as_aux_lemma => kernel_rfl) (by as_aux_lemma => kernel_rfl) (by as_aux_lemma => kernel_rfl) (fun _ _ _ h => h) (Or.inl ⟨by kernel_rfl, by (intro w hSw; (try dsimp only at hSw); go_simp; first | done | with_reducible rfl)⟩) (by assumption) ?_
      (try simp only [List.getElem_toArray, List.getElem_cons_succ, List.getElem_cons_zero, Act.put, List.setIfInBounds_toArray, List.set_cons_zero, List.set_cons_succ])
      refine wpAnyH_take (i := 2) (oi := { dst := some 27, op := .fieldAddr 31 (.tmp 1) 6, type := 0, pos := "law.go:20", after := #[], guard := none }) (v := _) rfl (by as_aux_lemma => kernel_rfl) (by as_aux_lemma => kernel_rfl) (by as_aux_lemma => kernel_rfl) (fun _ _ _ h => h) (Or.inl ⟨by kernel_rfl, by (intro w hSw; (try dsimp only at hSw); go_simp; first | done | with_reducible rfl)⟩) (by assumption) ?_
      (try simp only [List.getElem_toArray, List.getElem_cons_succ, List.getElem_cons_zero, Act.put, List.setIfInBounds_toArray, List.set_cons_zero, List.set_cons_succ])
      refine wpAnyH_take (i := 3) (oi := { dst := some 28, op := .load 29 (.tmp 27), type := 29, pos := "law.go:20", after := #[{ on := 2, ground := .data }], guard := none }) (v := _) rfl (by as_aux_lemma => kernel_rfl) (by as_aux_lemma => kernel_rfl) (by as_aux_lemma => kernel_rfl) (fun _ _ _ h => h) (Or.inl ⟨by kernel_rfl, by (intro w hSw; (try dsimp only at hSw); go_simp; first | done | with_reducible rfl)⟩) (by assumption) ?_
      (try simp only [List.getElem_toArray, List.getElem_cons_succ, List.getElem_cons_zero, Act.put, List.setIfInBounds_toArray, List.set_cons_zero, List.set_cons_succ])
      refine wpAnyH_take (i := 4) (oi := { dst := some 29, op := .move (.tmp 4), type := 3, pos := "law.go:20", after := #[], guard := none }) (v := _) rfl (by as_aux_lemma => kernel_rfl) (by as_aux_lemma => kernel_rfl) (by as_aux_lemma => kernel_rfl) (fun _ _ _ h => h) (Or.inl ⟨by kernel_rfl, by (intro w hSw; (try dsimp only at hSw); go_simp; first | done | with_reducible rfl)⟩) (by assumption) ?_
      (try simp only [List.getElem_toArray, List.getElem_cons_succ, List.getElem_cons_zero, Act.put, List.setIfInBounds_toArray, List.set_cons_zero, List.set_cons_succ])
      refine wpAnyH_take (i := 5) (oi := { dst := some 30, op := .indexAddr 29 (.tmp 28) (.tmp 29), type := 0, pos := "law.go:20", after := #[{ on := 3, ground := .data }, { on := 4, ground := .data }], guard := none }) (v := _) rfl (by as_aux_lemma => kernel_rfl) (by as_aux_lemma => kernel_rfl) (by as_aux_lemma => kernel_rfl) (fun _ _ _ h => h) (Or.inl ⟨by kernel_rfl, by (intro w hSw; (try dsimp only at hSw); go_simp; first | done | with_reducible rfl)⟩) (by assumption) ?_
      (try simp only [List.getElem_toArray, List.getElem_cons_succ, List.getElem_cons_zero, Act.put, List.setIfInBounds_toArray, List.set_cons_zero, List.set_cons_succ])
      refine wpAnyH_take (i := 6) (oi := { dst := some 31, op := .fieldAddr 60 (.tmp 30) 0, type := 0, pos := "law.go:20", after := #[{ on := 5, ground := .data }], guard := none }) (v := _) rfl (by as_aux_lemma => kernel_rfl) (by as_aux_lemma => kernel_rfl) (by as_aux_lemma => kernel_rfl) (fun _ _ _ h => h) (Or.inl ⟨by kernel_rfl, by (intro w hSw; (try dsimp only at hSw); go_simp; first | done | with_reducible rfl)⟩) (by assumption) ?_
      (try simp only [List.getElem_toArray, List.getElem_cons_succ, List.getElem_cons_zero, Act.put, List.setIfInBounds_toArray, List.set_cons_zero, List.set_cons_succ])
      refine wpAnyH_take (i := 7) (oi := { dst := some 32, op := .load 9 (.tmp 31), type := 9, pos := "law.go:20", after := #[{ on := 6, ground := .data }], guard := none }) (v := _) rfl (by as_aux_lemma => kernel_rfl) (by as_aux_lemma => kernel_rfl) (by as_aux_lemma => kernel_rfl) (fun _ _ _ h => h) (Or.inl ⟨by kernel_rfl, by (intro w hSw; (try dsimp only at hSw); go_simp; first | done | with_reducible rfl)⟩) (by assumption) ?_
      (try simp only [List.getElem_toArray, List.getElem_cons_succ, List.getElem_cons_zero, Act.put, List.setIfInBounds_toArray, List.set_cons_zero, List.set_cons_succ])
      refine wpAnyH_take (i := 8) (oi := { dst := some 33, op := .fieldAddr 31 (.tmp 1) 6, type := 0, pos := "law.go:20", after := #[], guard := none }) (v := _) rfl (by as_aux_lemma => kernel_rfl) (by as_aux_lemma => kernel_rfl) (by as_aux_lemma => kernel_rfl) (fun _ _ _ h => h) (Or.inl ⟨by kernel_rfl, by (intro w hSw; (try dsimp only at hSw); go_simp; first | done | with_reducible rfl)⟩) (by assumption) ?_
      (try simp only [List.getElem_toArray, List.getElem_cons_succ, List.getElem_cons_zero, Act.put, List.setIfInBounds_toArray, List.set_cons_zero, List.set_cons_succ])
      refine wpAnyH_take (i := 9) (oi := { dst := some 34, op := .load 29 (.tmp 33), type := 29, pos := "law.go:20", after := #[{ on := 8, ground := .data }], guard := none }) (v := _) rfl (by as_aux_lemma => kernel_rfl) (by as_aux_lemma => kernel_rfl) (by as_aux_lemma => kernel_rfl) (fun _ _ _ h => h) (Or.inl ⟨by kernel_rfl, by (intro w hSw; (try dsimp only at hSw); go_simp; first | done | with_reducible rfl)⟩) (by assumption) ?_
      (try simp only [List.getElem_toArray, List.getElem_cons_succ, List.getElem_cons_zero, Act.put, List.setIfInBounds_toArray, List.set_cons_zero, List.set_cons_succ])
      refine wpAnyH_take (i := 10) (oi := { dst := some 35, op := .move (.tmp 4), type := 3, pos := "law.go:20", after := #[], guard := none }) (v := _) rfl (by as_aux_lemma => kernel_rfl) (by as_aux_lemma => kernel_rfl) (by as_aux_lemma => kernel_rfl) (fun _ _ _ h => h) (Or.inl ⟨by kernel_rfl, by (intro w hSw; (try dsimp only at hSw); go_simp; first | done | with_reducible rfl)⟩) (by assumption) ?_
      (try simp only [List.getElem_toArray, List.getElem_cons_succ, List.getElem_cons_zero, Act.put, List.setIfInBounds_toArray, List.set_cons_zero, List.set_cons_succ])
      refine wpAnyH_take (i := 11) (oi := { dst := some 36, op := .indexAddr 29 (.tmp 34) (.tmp 35), type := 0, pos := "law.go:20", after := #[{ on := 9, ground := .data }, { on := 10, ground := .data }], guard := none }) (v := _) rfl (by as_aux_lemma => kernel_rfl) (by as_aux_lemma => kernel_rfl) (by as_aux_lemma => kernel_rfl) (fun _ _ _ h => h) (Or.inl ⟨by kernel_rfl, by (intro w hSw; (try dsimp only at hSw); go_simp; first | done | with_reducible rfl)⟩) (by assumption) ?_
      (try simp only [List.getElem_toArray, List.getElem_cons_succ, List.getElem_cons_zero, Act.put, List.setIfInBounds_toArray, List.set_cons_zero, List.set_cons_succ])
      refine wpAnyH_take (i := 12) (oi := { dst := some 37, op := .fieldAddr 60 (.tmp 36) 1, type := 0, pos := "law.go:20", after := #[{ on := 11, ground := .data }], guard := none }) (v := _) rfl (by as_aux_lemma => kernel_rfl) (by as_aux_lemma => kernel_rfl) (by as_aux_lemma => kernel_rfl) (fun _ _ _ h => h) (Or.inl ⟨by kernel_rfl, by (intro w hSw; (try dsimp only at hSw); go_simp; first | done | with_reducible rfl)⟩) (by assumption) ?_
      (try simp only [List.getElem_toArray, List.getElem_cons_succ, List.getElem_cons_zero, Act.put, List.setIfInBounds_toArray, List.set_cons_zero, List.set_cons_succ])
      refine wpAnyH_take (i := 13) (oi := { dst := some 38, op := .load 9 (.tmp 37), type := 9, pos := "law.go:20", after := #[{ on := 12, ground := .data }], guard := none }) (v := _) rfl (by as_aux_lemma => kernel_rfl) (by as_aux_lemma => kernel_rfl) (by as_aux_lemma => kernel_rfl) (fun _ _ _ h => h) (Or.inl ⟨by kernel_rfl, by (intro w hSw; (try dsimp only at hSw); go_simp; first | done | with_reducible rfl)⟩) (by assumption) ?_
      (try simp only [List.getElem_toArray, List.getElem_cons_succ, List.getElem_cons_zero, Act.put, List.setIfInBounds_toArray, List.set_cons_zero, List.set_cons_succ])
      refine wpAnyH_take (i := 14) (oi := { dst := some 39, op := .build 43 #[(0, .tmp 32), (1, .tmp 38)], type := 43, pos := "law.go:20", after := #[{ on := 7, ground := .data }, { on := 13, ground := .data }], guard := none }) (v := _) rfl (by as_aux_lemma => kernel_rfl) (by as_aux_lemma => kernel_rfl) (by as_aux_lemma => kernel_rfl) (fun _ _ _ h => h) (Or.inl ⟨by kernel_rfl, by (intro w hSw; (try dsimp only at hSw); go_simp; first | done | with_reducible rfl)⟩) (by assumption) ?_
      (try simp only [List.getElem_toArray, List.getElem_cons_succ, List.getElem_cons_zero, Act.put, List.setIfInBounds_toArray, List.set_cons_zero, List.set_cons_succ])
      as_aux_lemma =>
        refine wpAnyH_ready (rs := [1, 15]) (by as_aux_lemma => kernel_rfl) (by simp) (AllReadyH.cons rfl (fun K hK => ?_) (AllReadyH.cons rfl (fun K hK => ?_) AllReadyH.nil))
        · as_aux_lemma =>
            try simp only [List.getElem_toArray, List.getElem_cons_succ, List.getElem_cons_zero]
            go_simp
            refine hK.out _ _ (by first | exact SA | exact SB | exact SC | exact SD) (fun hHeld => ?_)
            clear hK K
            (try simp only [List.getElem_toArray, List.getElem_cons_succ, List.getElem_cons_zero, Act.put, List.setIfInBounds_toArray, List.set_cons_zero, List.set_cons_succ])
            refine wpAnyH_ready (rs := [15]) (by as_aux_lemma => kernel_rfl) (by simp) (AllReadyH.cons rfl (fun K hK => ?_) AllReadyH.nil)
            try simp only [List.getElem_toArray, List.getElem_cons_succ, List.getElem_cons_zero]
            go_simp
            refine hK.out _ _ (by first | exact SA | exact SB | exact SC | exact SD) (fun hHeld => ?_)
            clear hK K
            (try simp only [List.getElem_toArray, List.getElem_cons_succ, List.getElem_cons_zero, Act.put, List.setIfInBounds_toArray, List.set_cons_zero, List.set_cons_succ])
            refine wpAnyH_ready (rs := [16]) (by as_aux_lemma => kernel_rfl) (by simp) (AllReadyH.cons rfl (fun K hK => ?_) AllReadyH.nil)
            try simp only [List.getElem_toArray, List.getElem_cons_succ, List.getElem_cons_zero]
            rw [if_pos (by as_aux_lemma => kernel_rfl)]
            change Oper.wp _ _ _ (wr.drew.alloc (.cells #[.string x.1, .string x.2] 43)) _ _
            refine wp_appendN elemX _ _ rfl (w.heap.size + 3) (.slice A' k c') k _ rfl HD.out.own #[.string x.1, .string x.2] rfl rfl (by intro u hu; simp at hu; rcases hu with rfl | rfl <;> rfl) hk1 hk2 HD.out.low ?_
            intro v' w' ho hg hd
            clear hd
            obtain ⟨gg, cg, rfl, hcg⟩ := own_slX ho (by omega)
            have HPP := Lib.hid (HD.out.push (x := x) ho hg)
            clear ho hg
            have SC := KS.out _ ⟨HPP.out.1.1, HPP.out.1.2.2⟩
            have SD := KS.out _ ⟨(HPP.out.2 (k + 1)).1, (HPP.out.2 (k + 1)).2.2.2.2.1⟩
            have ew : w'.cell? ⟨w.heap.size + 2, 6, none⟩ = some (.slice A' k c') := HPP.out.1.2.1.cell 6
            have fw : w'.frozen? ⟨w.heap.size + 2, 6, none⟩ = false := HPP.out.1.2.1.frozen 6
            refine hK.out _ _ (by first | exact SA | exact SB | exact SC | exact SD) (fun hHeld => ?_)
            clear hK K
            (try simp only [List.getElem_toArray, List.getElem_cons_succ, List.getElem_cons_zero, Act.put, List.setIfInBounds_toArray, List.set_cons_zero, List.set_cons_succ])
            refine wpAnyH_take (i := 17) (oi := { dst := some 42, op := .fieldAddr 27 (.tmp 3) 6, type := 0, pos := "law.go:20", after := #[{ on := 0, ground := .phase }, { on := 1, ground := .phase }, { on := 2, ground := .phase }, { on := 3, ground := .phase }, { on := 4, ground := .phase }, { on := 5, ground := .phase }, { on := 6, ground := .phase }, { on := 7, ground := .phase }, { on := 8, ground := .phase }, { on := 9, ground := .phase }, { on := 10, ground := .phase }, { on := 11, ground := .phase }, { on := 12, ground := .phase }, { on := 13, ground := .phase }, { on := 14, ground := .phase }, { on := 15, ground := .phase }, { on := 16, ground := .phase }], guard := none }) (v := _) rfl (by as_aux_lemma => kernel_rfl) (by as_aux_lemma => kernel_rfl) (by as_aux_lemma => kernel_rfl) (fun _ _ _ h => h) (Or.inl ⟨by kernel_rfl, by (intro w hSw; (try dsimp only at hSw); go_simp; first | done | with_reducible rfl)⟩) (by assumption) ?_
            (try simp only [List.getElem_toArray, List.getElem_cons_succ, List.getElem_cons_zero, Act.put, List.setIfInBounds_toArray, List.set_cons_zero, List.set_cons_succ])
            refine wpAnyH_ready (rs := [18]) (by as_aux_lemma => kernel_rfl) (by simp) (AllReadyH.cons rfl (fun K hK => ?_) AllReadyH.nil)
            try simp only [List.getElem_toArray, List.getElem_cons_succ, List.getElem_cons_zero]
            go_simp
            refine hK.out _ _ (by first | exact SA | exact SB | exact SC | exact SD) (fun hHeld => ?_)
            clear hK K
            (try simp only [List.getElem_toArray, List.getElem_cons_succ, List.getElem_cons_zero, Act.put, List.setIfInBounds_toArray, List.set_cons_zero, List.set_cons_succ])
            refine wpAnyH_done (by as_aux_lemma => kernel_rfl) ?_ _
            have HK' : Hid (OwI w (w'.setCell ⟨w.heap.size + 2, 6, none⟩ (.slice (some ⟨gg, 0, none⟩) (k + 1) cg)) a (some ad) n c (k + 1) (a.xs.take (k + 1)) (some ⟨gg, 0, none⟩) cg) := Lib.hid (by
              obtain ⟨q1, q2, q3, q4, q5, q6⟩ := HPP.out.2 (k + 1)
              rw [E1.out]
              exact ⟨q1, q2, q3, q4, q5, q6⟩)
            clear SA SB SC SD
            go_wp2
            go_roundw
            case rel => exact ⟨k + 1, cg, some ⟨gg, 0, none⟩, by omega, by go_num, HK'⟩
            case measure => simp [intOf]; omega
        · as_aux_lemma =>
            try simp only [List.getElem_toArray, List.getElem_cons_succ, List.getElem_cons_zero]
            go_simp
            refine hK.out _ _ (by first | exact SA | exact SB | exact SC | exact SD) (fun hHeld => ?_)
            clear hK K
            (try simp only [List.getElem_toArray, List.getElem_cons_succ, List.getElem_cons_zero, Act.put, List.setIfInBounds_toArray, List.set_cons_zero, List.set_cons_succ])
            refine wpAnyH_ready (rs := [1]) (by as_aux_lemma => kernel_rfl) (by simp) (AllReadyH.cons rfl (fun K hK => ?_) AllReadyH.nil)
            try simp only [List.getElem_toArray, List.getElem_cons_succ, List.getElem_cons_zero]
            go_simp
            refine hK.out _ _ (by first | exact SA | exact SB | exact SC | exact SD) (fun hHeld => ?_)
            clear hK K
            (try simp only [List.getElem_toArray, List.getElem_cons_succ, List.getElem_cons_zero, Act.put, List.setIfInBounds_toArray, List.set_cons_zero, List.set_cons_succ])
            refine wpAnyH_ready (rs := [16]) (by as_aux_lemma => kernel_rfl) (by simp) (AllReadyH.cons rfl (fun K hK => ?_) AllReadyH.nil)
            try simp only [List.getElem_toArray, List.getElem_cons_succ, List.getElem_cons_zero]
            rw [if_pos (by as_aux_lemma => kernel_rfl)]
            change Oper.wp _ _ _ (wr.drew.alloc (.cells #[.string x.1, .string x.2] 43)) _ _
            refine wp_appendN elemX _ _ rfl (w.heap.size + 3) (.slice A' k c') k _ rfl HD.out.own #[.string x.1, .string x.2] rfl rfl (by intro u hu; simp at hu; rcases hu with rfl | rfl <;> rfl) hk1 hk2 HD.out.low ?_
            intro v' w' ho hg hd
            clear hd
            obtain ⟨gg, cg, rfl, hcg⟩ := own_slX ho (by omega)
            have HPP := Lib.hid (HD.out.push (x := x) ho hg)
            clear ho hg
            have SC := KS.out _ ⟨HPP.out.1.1, HPP.out.1.2.2⟩
            have SD := KS.out _ ⟨(HPP.out.2 (k + 1)).1, (HPP.out.2 (k + 1)).2.2.2.2.1⟩
            have ew : w'.cell? ⟨w.heap.size + 2, 6, none⟩ = some (.slice A' k c') := HPP.out.1.2.1.cell 6
            have fw : w'.frozen? ⟨w.heap.size + 2, 6, none⟩ = false := HPP.out.1.2.1.frozen 6
            refine hK.out _ _ (by first | exact SA | exact SB | exact SC | exact SD) (fun hHeld => ?_)
            clear hK K
            (try simp only [List.getElem_toArray, List.getElem_cons_succ, List.getElem_cons_zero, Act.put, List.setIfInBounds_toArray, List.set_cons_zero, List.set_cons_succ])
            refine wpAnyH_take (i := 17) (oi := { dst := some 42, op := .fieldAddr 27 (.tmp 3) 6, type := 0, pos := "law.go:20", after := #[{ on := 0, ground := .phase }, { on := 1, ground := .phase }, { on := 2, ground := .phase }, { on := 3, ground := .phase }, { on := 4, ground := .phase }, { on := 5, ground := .phase }, { on := 6, ground := .phase }, { on := 7, ground := .phase }, { on := 8, ground := .phase }, { on := 9, ground := .phase }, { on := 10, ground := .phase }, { on := 11, ground := .phase }, { on := 12, ground := .phase }, { on := 13, ground := .phase }, { on := 14, ground := .phase }, { on := 15, ground := .phase }, { on := 16, ground := .phase }], guard := none }) (v := _) rfl (by as_aux_lemma => kernel_rfl) (by as_aux_lemma => kernel_rfl) (by as_aux_lemma => kernel_rfl) (fun _ _ _ h => h) (Or.inl ⟨by kernel_rfl, by (intro w hSw; (try dsimp only at hSw); go_simp; first | done | with_reducible rfl)⟩) (by assumption) ?_
            (try simp only [List.getElem_toArray, List.getElem_cons_succ, List.getElem_cons_zero, Act.put, List.setIfInBounds_toArray, List.set_cons_zero, List.set_cons_succ])
            refine wpAnyH_ready (rs := [18]) (by as_aux_lemma => kernel_rfl) (by simp) (AllReadyH.cons rfl (fun K hK => ?_) AllReadyH.nil)
            try simp only [List.getElem_toArray, List.getElem_cons_succ, List.getElem_cons_zero]
            go_simp
            refine hK.out _ _ (by first | exact SA | exact SB | exact SC | exact SD) (fun hHeld => ?_)
            clear hK K
            (try simp only [List.getElem_toArray, List.getElem_cons_succ, List.getElem_cons_zero, Act.put, List.setIfInBounds_toArray, List.set_cons_zero, List.set_cons_succ])
            refine wpAnyH_done (by as_aux_lemma => kernel_rfl) ?_ _
            have HK' : Hid (OwI w (w'.setCell ⟨w.heap.size + 2, 6, none⟩ (.slice (some ⟨gg, 0, none⟩) (k + 1) cg)) a (some ad) n c (k + 1) (a.xs.take (k + 1)) (some ⟨gg, 0, none⟩) cg) := Lib.hid (by
              obtain ⟨q1, q2, q3, q4, q5, q6⟩ := HPP.out.2 (k + 1)
              rw [E1.out]
              exact ⟨q1, q2, q3, q4, q5, q6⟩)
            clear SA SB SC SD
            go_wp2
            go_roundw
            case rel => exact ⟨k + 1, cg, some ⟨gg, 0, none⟩, by omega, by go_num, HK'⟩
            case measure => simp [intOf]; omega
    · obtain rfl : k = n := by omega
      have HI2 : Hid (OwI w wr a A k c k a.xs A' c') := Lib.hid (by
        have := HI.out
        rw [List.take_of_length_le (by rw [HL.out]; exact Nat.le_refl _)] at this
        exact this)
      have hk1 : k ≤ 4611686018427387904 := by omega
      have hk2 : (k + 1) * 32 ≤ 140737488355328 := by omega
      have hk0 : (0 : Int) ≤ (k : Int) := by omega
      clear HI
      go_upto_region 6 with fail
      have HD : Hid (OwI w wr.drew a A k c k a.xs A' c') := Lib.hid HI2.out.drew
      have SA : wr.drew.cell? ⟨w.heap.size, 6, none⟩ = some (.slice A k c) := HD.out.box.cell 6
      have d0 : wr.drew.cell? ⟨w.heap.size + 2, 6, none⟩ = some (.slice A' k c') := HD.out.cell.cell 6
      have d1 : (wr.alloc (.cells #[.string ⟨#[35]⟩, .string ⟨#[]⟩] 43)).cell? ⟨w.heap.size + 2, 6, none⟩ = some (.slice A' k c') := (HI2.out.alloc _).cell.cell 6
      have SB : (wr.drew.alloc (.cells #[.string ⟨#[35]⟩, .string ⟨#[]⟩] 43)).cell? ⟨w.heap.size, 6, none⟩ = some (.slice A k c) := (HD.out.alloc _).box.cell 6
      clear b6
      refine wp_region_held_drew (S := fun w' => w'.cell? ⟨w.heap.size, 6, none⟩ = some (.slice A k c)) (by kernel_rfl) (by first | exact SA | exact SB | exact SC | exact SD) (fun hHeld => ?_)
      refine wpAnyH_take (i := 0) (oi := { dst := some 43, op := .fieldAddr 27 (.tmp 3) 6, type := 0, pos := "law.go:22", after := #[], guard := none }) (v := _) rfl (by as_aux_lemma => kernel_rfl) (by as_aux_lemma => kernel_rfl) (by as_aux_lemma => kernel_rfl) (fun _ _ _ h => h) (Or.inl ⟨by kernel_rfl, by (intro w hSw; (try dsimp only at hSw); go_simp; first | done | with_reducible rfl)⟩) (by assumption) ?_
      (try simp only [List.getElem_toArray, List.getElem_cons_succ, List.getElem_cons_zero, Act.put, List.setIfInBounds_toArray, List.set_cons_zero, List.set_cons_succ])
      refine wpAnyH_take (i := 2) (oi := { dst := some 45, op := .build 43 #[(0, .const (Value.string { data := #[35] }))], type := 43, pos := "law.go:22", after := #[], guard := none }) (v := _) rfl (by as_aux_lemma => kernel_rfl) (by as_aux_lemma => kernel_rfl) (by as_aux_lemma => kernel_rfl) (fun _ _ _ h => h) (Or.inl ⟨by kernel_rfl, by (intro w hSw; (try dsimp only at hSw); go_simp; first | done | with_reducible rfl)⟩) (by assumption) ?_
      (try simp only [List.getElem_toArray, List.getElem_cons_succ, List.getElem_cons_zero, Act.put, List.setIfInBounds_toArray, List.set_cons_zero, List.set_cons_succ])
      refine wpAnyH_take (i := 5) (oi := { dst := some 48, op := .fieldAddr 31 (.tmp 1) 6, type := 0, pos := "law.go:22", after := #[], guard := none }) (v := _) rfl (by as_aux_lemma => kernel_rfl) (by as_aux_lemma => kernel_rfl) (by as_aux_lemma => kernel_rfl) (fun _ _ _ h => h) (Or.inl ⟨by kernel_rfl, by (intro w hSw; (try dsimp only at hSw); go_simp; first | done | with_reducible rfl)⟩) (by assumption) ?_
      (try simp only [List.getElem_toArray, List.getElem_cons_succ, List.getElem_cons_zero, Act.put, List.setIfInBounds_toArray, List.set_cons_zero, List.set_cons_succ])
      refine wpAnyH_take (i := 6) (oi := { dst := some 49, op := .load 29 (.tmp 48), type := 29, pos := "law.go:22", after := #[{ on := 5, ground := .data }], guard := none }) (v := _) rfl (by as_aux_lemma => kernel_rfl) (by as_aux_lemma => kernel_rfl) (by as_aux_lemma => kernel_rfl) (fun _ _ _ h => h) (Or.inl ⟨by kernel_rfl, by (intro w hSw; (try dsimp only at hSw); go_simp; first | done | with_reducible rfl)⟩) (by assumption) ?_
      (try simp only [List.getElem_toArray, List.getElem_cons_succ, List.getElem_cons_zero, Act.put, List.setIfInBounds_toArray, List.set_cons_zero, List.set_cons_succ])
      refine wpAnyH_take (i := 7) (oi := { dst := some 50, op := .call { callee := Callee.builtin Builtin.len, args := #[.tmp 49], argTypes := #[29] }, type := 3, pos := "law.go:22", after := #[{ on := 6, ground := .data }], guard := none }) (v := _) rfl (by as_aux_lemma => kernel_rfl) (by as_aux_lemma => kernel_rfl) (by as_aux_lemma => kernel_rfl) (fun _ _ _ h => h) (Or.inl ⟨by kernel_rfl, by (intro w hSw; (try dsimp only at hSw); go_simp; first | done | with_reducible rfl)⟩) (by assumption) ?_
      (try simp only [List.getElem_toArray, List.getElem_cons_succ, List.getElem_cons_zero, Act.put, List.setIfInBounds_toArray, List.set_cons_zero, List.set_cons_succ])
      refine wpAnyH_ready (rs := [1, 3]) (by as_aux_lemma => kernel_rfl) (by simp) (AllReadyH.cons rfl (fun K hK => ?_) (AllReadyH.cons rfl (fun K hK => ?_) AllReadyH.nil))
      · skip
        try simp only [List.getElem_toArray, List.getElem_cons_succ, List.getElem_cons_zero]
        go_simp
        refine hK.out _ _ (by first | exact SA | exact SB | exact SC | exact SD) (fun hHeld => ?_)
        clear hK K
        (try simp only [List.getElem_toArray, List.getElem_cons_succ, List.getElem_cons_zero, Act.put, List.setIfInBounds_toArray, List.set_cons_zero, List.set_cons_succ])
        refine wpAnyH_ready (rs := [3]) (by as_aux_lemma => kernel_rfl) (by simp) (AllReadyH.cons rfl (fun K hK => ?_) AllReadyH.nil)
        try simp only [List.getElem_toArray, List.getElem_cons_succ, List.getElem_cons_zero]
        go_simp
        refine hK.out _ _ (by first | exact SA | exact SB | exact SC | exact SD) (fun hHeld => ?_)
        clear hK K
        (try simp only [List.getElem_toArray, List.getElem_cons_succ, List.getElem_cons_zero, Act.put, List.setIfInBounds_toArray, List.set_cons_zero, List.set_cons_succ])
        refine wpAnyH_ready (rs := [4]) (by as_aux_lemma => kernel_rfl) (by simp) (AllReadyH.cons rfl (fun K hK => ?_) AllReadyH.nil)
        try simp only [List.getElem_toArray, List.getElem_cons_succ, List.getElem_cons_zero]
        rw [if_pos (by as_aux_lemma => kernel_rfl)]
        change Oper.wp _ _ _ (wr.drew.alloc (.cells #[.string ⟨#[35]⟩, .string ⟨#[]⟩] 43)) _ _
        refine wp_appendN elemX _ _ rfl (w.heap.size + 3) (.slice A' k c') k _ rfl HD.out.own #[.string ⟨#[35]⟩, .string ⟨#[]⟩] rfl rfl (by intro u hu; simp at hu; rcases hu with rfl | rfl <;> rfl) hk1 hk2 HD.out.low ?_
        intro v' w' ho hg hd
        clear hd
        obtain ⟨gg, cg, rfl, hcg⟩ := own_slX ho (by omega)
        have HPP := Lib.hid (HD.out.push (x := markX) ho hg)
        clear ho hg
        have hci : (k : Int) ≤ (cg : Int) := by omega
        have SC : w'.cell? ⟨w.heap.size, 6, none⟩ = some (.slice A k c) := HPP.out.1.1.cell 6
        have SD : (w'.setCell ⟨w.heap.size + 2, 6, none⟩ (.slice (some ⟨gg, 0, none⟩) k cg)).cell? ⟨w.heap.size, 6, none⟩ = some (.slice A k c) := (HPP.out.2 k).1.cell 6
        have ew : w'.cell? ⟨w.heap.size + 2, 6, none⟩ = some (.slice A' k c') := HPP.out.1.2.1.cell 6
        have fw : w'.frozen? ⟨w.heap.size + 2, 6, none⟩ = false := HPP.out.1.2.1.frozen 6
        refine hK.out _ _ (by first | exact SA | exact SB | exact SC | exact SD) (fun hHeld => ?_)
        clear hK K
        (try simp only [List.getElem_toArray, List.getElem_cons_succ, List.getElem_cons_zero, Act.put, List.setIfInBounds_toArray, List.set_cons_zero, List.set_cons_succ])
        refine wpAnyH_take (i := 8) (oi := { dst := some 51, op := .slice 25 (.tmp 47) none (some (.tmp 50)) none, type := 25, pos := "law.go:22", after := #[{ on := 4, ground := .data }, { on := 7, ground := .data }], guard := none }) (v := _) rfl (by as_aux_lemma => kernel_rfl) (by as_aux_lemma => kernel_rfl) (by as_aux_lemma => kernel_rfl) (fun _ _ _ h => h) (Or.inl ⟨by kernel_rfl, by (intro w hSw; (try dsimp only at hSw); go_simp; first | done | with_reducible rfl)⟩) (by assumption) ?_
        (try simp only [List.getElem_toArray, List.getElem_cons_succ, List.getElem_cons_zero, Act.put, List.setIfInBounds_toArray, List.set_cons_zero, List.set_cons_succ])
        refine wpAnyH_take (i := 9) (oi := { dst := some 52, op := .fieldAddr 27 (.tmp 3) 6, type := 0, pos := "law.go:22", after := #[{ on := 0, ground := .phase }, { on := 1, ground := .phase }, { on := 2, ground := .phase }, { on := 3, ground := .phase }, { on := 4, ground := .phase }, { on := 5, ground := .phase }, { on := 6, ground := .phase }, { on := 7, ground := .phase }, { on := 8, ground := .phase }], guard := none }) (v := _) rfl (by as_aux_lemma => kernel_rfl) (by as_aux_lemma => kernel_rfl) (by as_aux_lemma => kernel_rfl) (fun _ _ _ h => h) (Or.inl ⟨by kernel_rfl, by (intro w hSw; (try dsimp only at hSw); go_simp; first | done | with_reducible rfl)⟩) (by assumption) ?_
        (try simp only [List.getElem_toArray, List.getElem_cons_succ, List.getElem_cons_zero, Act.put, List.setIfInBounds_toArray, List.set_cons_zero, List.set_cons_succ])
        refine wpAnyH_ready (rs := [10]) (by as_aux_lemma => kernel_rfl) (by simp) (AllReadyH.cons rfl (fun K hK => ?_) AllReadyH.nil)
        try simp only [List.getElem_toArray, List.getElem_cons_succ, List.getElem_cons_zero]
        go_simp
        refine hK.out _ _ (by first | exact SA | exact SB | exact SC | exact SD) (fun hHeld => ?_)
        clear hK K
        (try simp only [List.getElem_toArray, List.getElem_cons_succ, List.getElem_cons_zero, Act.put, List.setIfInBounds_toArray, List.set_cons_zero, List.set_cons_succ])
        refine wpAnyH_done (by as_aux_lemma => kernel_rfl) ?_ _
        obtain ⟨q1, q2, q3, q4, q5, q6⟩ := HPP.out.2 k
        have Q2 := Lib.hid q2
        have Q3 := Lib.hid q3
        have Q4 := Lib.hid q4
        have Q5 := Lib.hid q5
        clear q1 q2 q3 q4 q5 q6 SA SB SC SD d0 d1 ew fw HPP HD
        generalize w'.setCell ⟨w.heap.size + 2, 6, none⟩ (.slice (some ⟨gg, 0, none⟩) k cg) = wf at Q2 Q3 Q4 Q5 ⊢
        obtain ⟨a0, a1, a2, a3, a4, a5, a6⟩ := att_cells a (some ⟨gg, 0, none⟩) k cg wf _ Q3.out
        have z0 : ∀ i, wf.cell? ⟨w.heap.size + 1, i, none⟩ = (attV zAtt none 0 0)[i]? := fun i => Q2.out.cell i
        have y0 : wf.cell? ⟨w.heap.size + 1, 0, none⟩ = some (.int .u8 0) := z0 0
        have y1 : wf.cell? ⟨w.heap.size + 1, 1, none⟩ = some (.int .u32 0) := z0 1
        have y2 : wf.cell? ⟨w.heap.size + 1, 2, none⟩ = some (.int .u32 0) := z0 2
        have y3 : wf.cell? ⟨w.heap.size + 1, 3, none⟩ = some (.int .u32 0) := z0 3
        have y4 : wf.cell? ⟨w.heap.size + 1, 4, none⟩ = some (.int .i64 0) := z0 4
        have y5 : wf.cell? ⟨w.heap.size + 1, 5, none⟩ = some (.string ⟨#[]⟩) := z0 5
        have y6 : wf.cell? ⟨w.heap.size + 1, 6, none⟩ = some (.slice none 0 0) := z0 6
        have g0 : ∀ i, wf.frozen? ⟨w.heap.size + 1, i, none⟩ = false := fun i => Q2.out.frozen i
        clear z0
        have HG : Hid (Blk (((((((wf.setCell ⟨w.heap.size + 1, 0, none⟩ (.int .u8 (a.nd.toNat : Int))).setCell ⟨w.heap.size + 1, 1, none⟩ (.int .u32 (a.md.toNat : Int))).setCell ⟨w.heap.size + 1, 2, none⟩ (.int .u32 (a.ui.toNat : Int))).setCell ⟨w.heap.size + 1, 3, none⟩ (.int .u32 (a.gi.toNat : Int))).setCell ⟨w.heap.size + 1, 4, none⟩ (.int .i64 a.mt)).setCell ⟨w.heap.size + 1, 5, none⟩ (.string a.tg)).setCell ⟨w.heap.size + 1, 6, none⟩ (.slice (some ⟨gg, 0, none⟩) k cg)) (w.heap.size + 1) 27 (attV a (some ⟨gg, 0, none⟩) k cg)) := Lib.hid (((((((Q2.out.set_ 0 (.int .u8 (a.nd.toNat : Int))).set_ 1 (.int .u32 (a.md.toNat : Int))).set_ 2 (.int .u32 (a.ui.toNat : Int))).set_ 3 (.int .u32 (a.gi.toNat : Int))).set_ 4 (.int .i64 a.mt)).set_ 5 (.string a.tg)).set_ 6 (.slice (some ⟨gg, 0, none⟩) k cg))
        have HBe : Hid (Below w.heap.size w (((((((wf.setCell ⟨w.heap.size + 1, 0, none⟩ (.int .u8 (a.nd.toNat : Int))).setCell ⟨w.heap.size + 1, 1, none⟩ (.int .u32 (a.md.toNat : Int))).setCell ⟨w.heap.size + 1, 2, none⟩ (.int .u32 (a.ui.toNat : Int))).setCell ⟨w.heap.size + 1, 3, none⟩ (.int .u32 (a.gi.toNat : Int))).setCell ⟨w.heap.size + 1, 4, none⟩ (.int .i64 a.mt)).setCell ⟨w.heap.size + 1, 5, none⟩ (.string a.tg)).setCell ⟨w.heap.size + 1, 6, none⟩ (.slice (some ⟨gg, 0, none⟩) k cg))) := Lib.hid (((((((Q5.out.setCell (p := ⟨w.heap.size + 1, 0, none⟩) (Nat.le_succ _) (.int .u8 (a.nd.toNat : Int))).setCell (p := ⟨w.heap.size + 1, 1, none⟩) (Nat.le_succ _) (.int .u32 (a.md.toNat : Int))).setCell (p := ⟨w.heap.size + 1, 2, none⟩) (Nat.le_succ _) (.int .u32 (a.ui.toNat : Int))).setCell (p := ⟨w.heap.size + 1, 3, none⟩) (Nat.le_succ _) (.int .u32 (a.gi.toNat : Int))).setCell (p := ⟨w.heap.size + 1, 4, none⟩) (Nat.le_succ _) (.int .i64 a.mt)).setCell (p := ⟨w.heap.size + 1, 5, none⟩) (Nat.le_succ _) (.string a.tg)).setCell (p := ⟨w.heap.size + 1, 6, none⟩) (Nat.le_succ _) (.slice (some ⟨gg, 0, none⟩) k cg))
        have HO : Hid ((((((((wf.setCell ⟨w.heap.size + 1, 0, none⟩ (.int .u8 (a.nd.toNat : Int))).setCell ⟨w.heap.size + 1, 1, none⟩ (.int .u32 (a.md.toNat : Int))).setCell ⟨w.heap.size + 1, 2, none⟩ (.int .u32 (a.ui.toNat : Int))).setCell ⟨w.heap.size + 1, 3, none⟩ (.int .u32 (a.gi.toNat : Int))).setCell ⟨w.heap.size + 1, 4, none⟩ (.int .i64 a.mt)).setCell ⟨w.heap.size + 1, 5, none⟩ (.string a.tg)).setCell ⟨w.heap.size + 1, 6, none⟩ (.slice (some ⟨gg, 0, none⟩) k cg)).ownsRow w.heap.size 43 2 (.slice (some ⟨gg, 0, none⟩) (k + 1) cg) (k + 1) (xtV (a.xs ++ [markX]))) := Lib.hid (own_lower (Q4.out.kept (only_setCell (only_setCell (only_setCell (only_setCell (only_setCell (only_setCell (only_setCell (grown_refl wf (some (w.heap.size + 1))) (p := ⟨w.heap.size + 1, 0, none⟩) (.inl rfl) (.int .u8 (a.nd.toNat : Int))) (p := ⟨w.heap.size + 1, 1, none⟩) (.inl rfl) (.int .u32 (a.md.toNat : Int))) (p := ⟨w.heap.size + 1, 2, none⟩) (.inl rfl) (.int .u32 (a.ui.toNat : Int))) (p := ⟨w.heap.size + 1, 3, none⟩) (.inl rfl) (.int .u32 (a.gi.toNat : Int))) (p := ⟨w.heap.size + 1, 4, none⟩) (.inl rfl) (.int .i64 a.mt)) (p := ⟨w.heap.size + 1, 5, none⟩) (.inl rfl) (.string a.tg)) (p := ⟨w.heap.size + 1, 6, none⟩) (.inl rfl) (.slice (some ⟨gg, 0, none⟩) k cg)) (.inr (fun e => by have := (Q4.out.lt _ e).1; omega))) (show w.heap.size ≤ w.heap.size + 3 by omega))
        go_wp2
        refine bodyPost_ret (v := .agg (attV a (some ⟨gg, 0, none⟩) k cg)) ?_ ?_ ?_
        · exact results_rec1 (p := 2) rfl _ _ (w.heap.size + 1) 27 (attV a (some ⟨gg, 0, none⟩) k cg) (0, 0) rfl HG.out Tryd.underlying27 (by kernel_rfl)
        · rfl
        · exact ⟨gg, cg, rfl, HO.out, HBe.out⟩
      · skip
        try simp only [List.getElem_toArray, List.getElem_cons_succ, List.getElem_cons_zero]
        go_simp
        refine hK.out _ _ (by first | exact SA | exact SB | exact SC | exact SD) (fun hHeld => ?_)
        clear hK K
        (try simp only [List.getElem_toArray, List.getElem_cons_succ, List.getElem_cons_zero, Act.put, List.setIfInBounds_toArray, List.set_cons_zero, List.set_cons_succ])
        refine wpAnyH_ready (rs := [1]) (by as_aux_lemma => kernel_rfl) (by simp) (AllReadyH.cons rfl (fun K hK => ?_) AllReadyH.nil)
        try simp only [List.getElem_toArray, List.getElem_cons_succ, List.getElem_cons_zero]
        go_simp
        refine hK.out _ _ (by first | exact SA | exact SB | exact SC | exact SD) (fun hHeld => ?_)
        clear hK K
        (try simp only [List.getElem_toArray, List.getElem_cons_succ, List.getElem_cons_zero, Act.put, List.setIfInBounds_toArray, List.set_cons_zero, List.set_cons_succ])
        refine wpAnyH_ready (rs := [4]) (by as_aux_lemma => kernel_rfl) (by simp) (AllReadyH.cons rfl (fun K hK => ?_) AllReadyH.nil)
        try simp only [List.getElem_toArray, List.getElem_cons_succ, List.getElem_cons_zero]
        rw [if_pos (by as_aux_lemma => kernel_rfl)]
        change Oper.wp _ _ _ (wr.drew.alloc (.cells #[.string ⟨#[35]⟩, .string ⟨#[]⟩] 43)) _ _
        refine wp_appendN elemX _ _ rfl (w.heap.size + 3) (.slice A' k c') k _ rfl HD.out.own #[.string ⟨#[35]⟩, .string ⟨#[]⟩] rfl rfl (by intro u hu; simp at hu; rcases hu with rfl | rfl <;> rfl) hk1 hk2 HD.out.low ?_
        intro v' w' ho hg hd
        clear hd
        obtain ⟨gg, cg, rfl, hcg⟩ := own_slX ho (by omega)
        have HPP := Lib.hid (HD.out.push (x := markX) ho hg)
        clear ho hg
        have hci : (k : Int) ≤ (cg : Int) := by omega
        have SC : w'.cell? ⟨w.heap.size, 6, none⟩ = some (.slice A k c) := HPP.out.1.1.cell 6
        have SD : (w'.setCell ⟨w.heap.size + 2, 6, none⟩ (.slice (some ⟨gg, 0, none⟩) k cg)).cell? ⟨w.heap.size, 6, none⟩ = some (.slice A k c) := (HPP.out.2 k).1.cell 6
        have ew : w'.cell? ⟨w.heap.size + 2, 6, none⟩ = some (.slice A' k c') := HPP.out.1.2.1.cell 6
        have fw : w'.frozen? ⟨w.heap.size + 2, 6, none⟩ = false := HPP.out.1.2.1.frozen 6
        refine hK.out _ _ (by first | exact SA | exact SB | exact SC | exact SD) (fun hHeld => ?_)
        clear hK K
        (try simp only [List.getElem_toArray, List.getElem_cons_succ, List.getElem_cons_zero, Act.put, List.setIfInBounds_toArray, List.set_cons_zero, List.set_cons_succ])
        refine wpAnyH_take (i := 8) (oi := { dst := some 51, op := .slice 25 (.tmp 47) none (some (.tmp 50)) none, type := 25, pos := "law.go:22", after := #[{ on := 4, ground := .data }, { on := 7, ground := .data }], guard := none }) (v := _) rfl (by as_aux_lemma => kernel_rfl) (by as_aux_lemma => kernel_rfl) (by as_aux_lemma => kernel_rfl) (fun _ _ _ h => h) (Or.inl ⟨by kernel_rfl, by (intro w hSw; (try dsimp only at hSw); go_simp; first | done | with_reducible rfl)⟩) (by assumption) ?_
        (try simp only [List.getElem_toArray, List.getElem_cons_succ, List.getElem_cons_zero, Act.put, List.setIfInBounds_toArray, List.set_cons_zero, List.set_cons_succ])
        refine wpAnyH_take (i := 9) (oi := { dst := some 52, op := .fieldAddr 27 (.tmp 3) 6, type := 0, pos := "law.go:22", after := #[{ on := 0, ground := .phase }, { on := 1, ground := .phase }, { on := 2, ground := .phase }, { on := 3, ground := .phase }, { on := 4, ground := .phase }, { on := 5, ground := .phase }, { on := 6, ground := .phase }, { on := 7, ground := .phase }, { on := 8, ground := .phase }], guard := none }) (v := _) rfl (by as_aux_lemma => kernel_rfl) (by as_aux_lemma => kernel_rfl) (by as_aux_lemma => kernel_rfl) (fun _ _ _ h => h) (Or.inl ⟨by kernel_rfl, by (intro w hSw; (try dsimp only at hSw); go_simp; first | done | with_reducible rfl)⟩) (by assumption) ?_
        (try simp only [List.getElem_toArray, List.getElem_cons_succ, List.getElem_cons_zero, Act.put, List.setIfInBounds_toArray, List.set_cons_zero, List.set_cons_succ])
        refine wpAnyH_ready (rs := [10]) (by as_aux_lemma => kernel_rfl) (by simp) (AllReadyH.cons rfl (fun K hK => ?_) AllReadyH.nil)
        try simp only [List.getElem_toArray, List.getElem_cons_succ, List.getElem_cons_zero]
        go_simp
        refine hK.out _ _ (by first | exact SA | exact SB | exact SC | exact SD) (fun hHeld => ?_)
        clear hK K
        (try simp only [List.getElem_toArray, List.getElem_cons_succ, List.getElem_cons_zero, Act.put, List.setIfInBounds_toArray, List.set_cons_zero, List.set_cons_succ])
        refine wpAnyH_done (by as_aux_lemma => kernel_rfl) ?_ _
        obtain ⟨q1, q2, q3, q4, q5, q6⟩ := HPP.out.2 k
        have Q2 := Lib.hid q2
        have Q3 := Lib.hid q3
        have Q4 := Lib.hid q4
        have Q5 := Lib.hid q5
        clear q1 q2 q3 q4 q5 q6 SA SB SC SD d0 d1 ew fw HPP HD
        generalize w'.setCell ⟨w.heap.size + 2, 6, none⟩ (.slice (some ⟨gg, 0, none⟩) k cg) = wf at Q2 Q3 Q4 Q5 ⊢
        obtain ⟨a0, a1, a2, a3, a4, a5, a6⟩ := att_cells a (some ⟨gg, 0, none⟩) k cg wf _ Q3.out
        have z0 : ∀ i, wf.cell? ⟨w.heap.size + 1, i, none⟩ = (attV zAtt none 0 0)[i]? := fun i => Q2.out.cell i
        have y0 : wf.cell? ⟨w.heap.size + 1, 0, none⟩ = some (.int .u8 0) := z0 0
        have y1 : wf.cell? ⟨w.heap.size + 1, 1, none⟩ = some (.int .u32 0) := z0 1
        have y2 : wf.cell? ⟨w.heap.size + 1, 2, none⟩ = some (.int .u32 0) := z0 2
        have y3 : wf.cell? ⟨w.heap.size + 1, 3, none⟩ = some (.int .u32 0) := z0 3
        have y4 : wf.cell? ⟨w.heap.size + 1, 4, none⟩ = some (.int .i64 0) := z0 4
        have y5 : wf.cell? ⟨w.heap.size + 1, 5, none⟩ = some (.string ⟨#[]⟩) := z0 5
        have y6 : wf.cell? ⟨w.heap.size + 1, 6, none⟩ = some (.slice none 0 0) := z0 6
        have g0 : ∀ i, wf.frozen? ⟨w.heap.size + 1, i, none⟩ = false := fun i => Q2.out.frozen i
        clear z0
        have HG : Hid (Blk (((((((wf.setCell ⟨w.heap.size + 1, 0, none⟩ (.int .u8 (a.nd.toNat : Int))).setCell ⟨w.heap.size + 1, 1, none⟩ (.int .u32 (a.md.toNat : Int))).setCell ⟨w.heap.size + 1, 2, none⟩ (.int .u32 (a.ui.toNat : Int))).setCell ⟨w.heap.size + 1, 3, none⟩ (.int .u32 (a.gi.toNat : Int))).setCell ⟨w.heap.size + 1, 4, none⟩ (.int .i64 a.mt)).setCell ⟨w.heap.size + 1, 5, none⟩ (.string a.tg)).setCell ⟨w.heap.size + 1, 6, none⟩ (.slice (some ⟨gg, 0, none⟩) k cg)) (w.heap.size + 1) 27 (attV a (some ⟨gg, 0, none⟩) k cg)) := Lib.hid (((((((Q2.out.set_ 0 (.int .u8 (a.nd.toNat : Int))).set_ 1 (.int .u32 (a.md.toNat : Int))).set_ 2 (.int .u32 (a.ui.toNat : Int))).set_ 3 (.int .u32 (a.gi.toNat : Int))).set_ 4 (.int .i64 a.mt)).set_ 5 (.string a.tg)).set_ 6 (.slice (some ⟨gg, 0, none⟩) k cg))
        have HBe : Hid (Below w.heap.size w (((((((wf.setCell ⟨w.heap.size + 1, 0, none⟩ (.int .u8 (a.nd.toNat : Int))).setCell ⟨w.heap.size + 1, 1, none⟩ (.int .u32 (a.md.toNat : Int))).setCell ⟨w.heap.size + 1, 2, none⟩ (.int .u32 (a.ui.toNat : Int))).setCell ⟨w.heap.size + 1, 3, none⟩ (.int .u32 (a.gi.toNat : Int))).setCell ⟨w.heap.size + 1, 4, none⟩ (.int .i64 a.mt)).setCell ⟨w.heap.size + 1, 5, none⟩ (.string a.tg)).setCell ⟨w.heap.size + 1, 6, none⟩ (.slice (some ⟨gg, 0, none⟩) k cg))) := Lib.hid (((((((Q5.out.setCell (p := ⟨w.heap.size + 1, 0, none⟩) (Nat.le_succ _) (.int .u8 (a.nd.toNat : Int))).setCell (p := ⟨w.heap.size + 1, 1, none⟩) (Nat.le_succ _) (.int .u32 (a.md.toNat : Int))).setCell (p := ⟨w.heap.size + 1, 2, none⟩) (Nat.le_succ _) (.int .u32 (a.ui.toNat : Int))).setCell (p := ⟨w.heap.size + 1, 3, none⟩) (Nat.le_succ _) (.int .u32 (a.gi.toNat : Int))).setCell (p := ⟨w.heap.size + 1, 4, none⟩) (Nat.le_succ _) (.int .i64 a.mt)).setCell (p := ⟨w.heap.size + 1, 5, none⟩) (Nat.le_succ _) (.string a.tg)).setCell (p := ⟨w.heap.size + 1, 6, none⟩) (Nat.le_succ _) (.slice (some ⟨gg, 0, none⟩) k cg))
        have HO : Hid ((((((((wf.setCell ⟨w.heap.size + 1, 0, none⟩ (.int .u8 (a.nd.toNat : Int))).setCell ⟨w.heap.size + 1, 1, none⟩ (.int .u32 (a.md.toNat : Int))).setCell ⟨w.heap.size + 1, 2, none⟩ (.int .u32 (a.ui.toNat : Int))).setCell ⟨w.heap.size + 1, 3, none⟩ (.int .u32 (a.gi.toNat : Int))).setCell ⟨w.heap.size + 1, 4, none⟩ (.int .i64 a.mt)).setCell ⟨w.heap.size + 1, 5, none⟩ (.string a.tg)).setCell ⟨w.heap.size + 1, 6, none⟩ (.slice (some ⟨gg, 0, none⟩) k cg)).ownsRow w.heap.size 43 2 (.slice (some ⟨gg, 0, none⟩) (k + 1) cg) (k + 1) (xtV (a.xs ++ [markX]))) := Lib.hid (own_lower (Q4.out.kept (only_setCell (only_setCell (only_setCell (only_setCell (only_setCell (only_setCell (only_setCell (grown_refl wf (some (w.heap.size + 1))) (p := ⟨w.heap.size + 1, 0, none⟩) (.inl rfl) (.int .u8 (a.nd.toNat : Int))) (p := ⟨w.heap.size + 1, 1, none⟩) (.inl rfl) (.int .u32 (a.md.toNat : Int))) (p := ⟨w.heap.size + 1, 2, none⟩) (.inl rfl) (.int .u32 (a.ui.toNat : Int))) (p := ⟨w.heap.size + 1, 3, none⟩) (.inl rfl) (.int .u32 (a.gi.toNat : Int))) (p := ⟨w.heap.size + 1, 4, none⟩) (.inl rfl) (.int .i64 a.mt)) (p := ⟨w.heap.size + 1, 5, none⟩) (.inl rfl) (.string a.tg)) (p := ⟨w.heap.size + 1, 6, none⟩) (.inl rfl) (.slice (some ⟨gg, 0, none⟩) k cg)) (.inr (fun e => by have := (Q4.out.lt _ e).1; omega))) (show w.heap.size ≤ w.heap.size + 3 by omega))
        go_wp2
        refine bodyPost_ret (v := .agg (attV a (some ⟨gg, 0, none⟩) k cg)) ?_ ?_ ?_
        · exact results_rec1 (p := 2) rfl _ _ (w.heap.size + 1) 27 (attV a (some ⟨gg, 0, none⟩) k cg) (0, 0) rfl HG.out Tryd.underlying27 (by kernel_rfl)
        · rfl
        · exact ⟨gg, cg, rfl, HO.out, HBe.out⟩
end Go.Proofs.YtpfccicahfncbaaDoor
namespace Go.Proofs.YtpfccicahfncbaaDoor
set_option linter.unusedVariables false
theorem size_toList (s : ByteArray) : s.data.toList.length = s.size := by rw [Array.length_toList]; rfl
theorem byteAt_last (s : ByteArray) (k : Nat) (h : s.size ≤ k) : byteAt s k = 0 := by
  unfold byteAt
  rw [List.getD_eq_getElem?_getD, List.getElem?_eq_none (by rw [size_toList]; exact h)]; rfl
theorem byteAt_app (a b : ByteArray) (i : Nat) : byteAt (a ++ b) i = if i < a.size then byteAt a i else byteAt b (i - a.size) := by
  unfold byteAt
  rw [ByteArray.data_append, Array.toList_append, List.getD_eq_getElem?_getD, List.getD_eq_getElem?_getD, List.getD_eq_getElem?_getD]
  by_cases h : i < a.size
  · rw [if_pos h, List.getElem?_append_left (by rw [size_toList]; exact h)]
  · rw [if_neg h, List.getElem?_append_right (by rw [size_toList]; omega), size_toList]
theorem byteAt_cut (s : ByteArray) (a b i : Nat) (hb : b ≤ s.size) (hi : i < b - a) : byteAt (s.extract a b) i = byteAt s (a + i) := by
  unfold byteAt
  rw [ByteArray.data_extract, Array.toList_extract, List.getD_eq_getElem?_getD, List.getD_eq_getElem?_getD]
  simp [List.extract, hi]
theorem ext_byteAt {a b : ByteArray} (hs : a.size = b.size) (h : ∀ i, i < a.size → byteAt a i = byteAt b i) : a = b := by
  apply ByteArray.ext
  apply Array.ext'
  apply List.ext_getElem
  · rw [size_toList, size_toList, hs]
  · intro i h1 h2
    have := h i (by rw [size_toList] at h1; exact h1)
    unfold byteAt at this
    rw [List.getD_eq_getElem?_getD, List.getD_eq_getElem?_getD, List.getElem?_eq_getElem h1, List.getElem?_eq_getElem h2] at this
    exact this
theorem cut_cut (s : ByteArray) (a b c d : Nat) (hb : b ≤ s.size) (hd : a + d ≤ b) : (s.extract a b).extract c d = s.extract (a + c) (a + d) := by
  have e1 : (s.extract a b).size = b - a := by rw [ByteArray.size_extract]; omega
  apply ext_byteAt
  · simp only [ByteArray.size_extract]; omega
  · intro i hi
    rw [ByteArray.size_extract, e1] at hi
    rw [byteAt_cut _ _ _ _ (by rw [e1]; omega) (by omega), byteAt_cut _ _ _ _ hb (by omega), byteAt_cut _ _ _ _ (by omega) (by omega), Nat.add_assoc]
theorem cut_app (s d : ByteArray) (a : Nat) (ha : a ≤ s.size) : s.extract a s.size ++ d = (s ++ d).extract a (s.size + d.size) := by
  have e0 : (s ++ d).size = s.size + d.size := ByteArray.size_append
  have e1 : (s.extract a s.size).size = s.size - a := by rw [ByteArray.size_extract]; omega
  apply ext_byteAt
  · simp only [ByteArray.size_append, ByteArray.size_extract]; omega
  · intro i hi
    rw [ByteArray.size_append, e1] at hi
    rw [byteAt_app, byteAt_cut (s ++ d) _ _ _ (by rw [e0]; exact Nat.le_refl _) (by omega), byteAt_app, e1]
    by_cases h : i < s.size - a
    · rw [if_pos h, if_pos (by omega), byteAt_cut _ _ _ _ (by omega) (by omega)]
    · rw [if_neg h, if_neg (by omega)]
      congr 1; omega
theorem bytes_bs (l : List UInt8) (j : Nat) : byteAt (bs l) j = l.getD j 0 := by unfold byteAt; rw [bs_data]
end Go.Proofs.YtpfccicahfncbaaDoor
namespace Go.Proofs.YtpfccicahfncbaaDoor
open Go.RowKit Wir
set_option linter.unusedVariables false
theorem takeS_on {s : ByteArray} {k : Nat} (h : k ≤ s.size) : takeS s k = s.extract k s.size := by rw [takeS, if_neg (by omega)]
theorem takeE_on {s : ByteArray} {k : Nat} (h : k ≤ s.size) : takeE s k = 0 := by rw [takeE, if_neg (by omega)]
theorem takeE_off {s : ByteArray} {k : Nat} (h : s.size < k) : takeE s k = 4 := by rw [takeE, if_pos h]
theorem byteAt_part (s : ByteArray) (f t i : Nat) (hi : i < t - f) (ht : t ≤ s.size) : byteAt (s.extract f t) i = byteAt s (f + i) := by
  have h1 : i < (s.extract f t).size := by rw [ByteArray.size_extract]; omega
  rw [← byteAt_get _ _ h1, ← byteAt_get _ _ (show f + i < s.size by omega), ByteArray.getElem_extract]
theorem extract_extract4 (s : ByteArray) (h : 8 ≤ s.size) : (s.extract 4 s.size).extract 4 (s.extract 4 s.size).size = s.extract 8 s.size := by
  have e : (s.extract 4 s.size).size = s.size - 4 := by rw [ByteArray.size_extract]; omega
  refine ext_byteAt (by simp only [ByteArray.size_extract]; omega) fun i hi => ?_
  have hi' : i < s.size - 8 := by simp only [ByteArray.size_extract] at hi; omega
  rw [byteAt_part _ _ _ _ (by rw [e]; omega) (Nat.le_refl _), byteAt_part _ _ _ _ (by omega) (Nat.le_refl _), byteAt_part _ _ _ _ (by omega) (Nat.le_refl _)]
  congr 1; omega
theorem takeS_le (s : ByteArray) (k : Nat) : (takeS s k).size ≤ s.size := by
  unfold takeS
  split
  · exact Nat.le_refl _
  · rw [ByteArray.size_extract]; omega
theorem fixed4_any (s : ByteArray) (R : Nat) (w : World) (h : Rdr w R s) (hs : s.size ≤ 9223372036854775807) :
    Calls Tryd.prog 41 #[.pointer (some ⟨R, 0, none⟩), .int .i64 4] w
      fun e w' => e = .returned (.tuple #[.int .u64 (fixV s 4 : Int), .int .i64 (takeE s 4)]) ∧ Rdr w' R (takeS s 4) ∧ ∀ B, B ≤ R → Below B w w' := fixed_any s R 4 w h hs (by omega) (by omega)
theorem fix4_lt (s : ByteArray) : fixV s 4 < 4294967296 := by
  unfold fixV
  split
  · omega
  · exact beN_lt _ 4
end Go.Proofs.YtpfccicahfncbaaDoor
namespace Go.Proofs.YtpfccicahfncbaaDoor
open Go.RowKit Wir
set_option linter.unusedVariables false
theorem get_part (s : ByteArray) (p k : Nat) (h : p + k < s.size) : (s.extract p s.size).get! k = s.get! (p + k) := by
  have h1 : k < (s.extract p s.size).size := by rw [ByteArray.size_extract]; omega
  rw [Utf8W.get!_of_lt _ _ h1, Utf8W.get!_of_lt _ _ h, ByteArray.getElem_extract]
theorem get_off (s : ByteArray) (k : Nat) (h : s.size ≤ k) : s.get! k = 0 := by
  cases s with
  | mk d => exact getElem!_neg d k (by show ¬ k < d.size; exact Nat.not_lt.2 h)
/-- A text's rune at a place is the first one of what follows. -/
theorem decode_part (s : ByteArray) (p : Nat) (h : p < s.size) : Lib.decodeGo (s.extract p s.size) = Utf8.decode s p := by
  have hz : (s.extract p s.size).size = s.size - p := by rw [ByteArray.size_extract]; omega
  have e (k : Nat) : (s.extract p s.size).get! (0 + k) = s.get! (p + k) := by
    rw [Nat.zero_add]
    rcases Nat.lt_or_ge (p + k) s.size with h1 | h1
    · exact get_part s p k h1
    · rw [get_off _ _ (by rw [hz]; omega), get_off _ _ h1]
  have e0 : (s.extract p s.size).get! 0 = s.get! p := e 0
  unfold Lib.decodeGo
  rw [if_neg (by rw [hz]; omega), Lib.decode_at, Lib.decode_at, e0, e 1, e 2, e 3, hz, Nat.sub_zero]
theorem fffd_iff (s : ByteArray) (p : Nat) (h : p < s.size) : fffd s p = true ↔ 2 < s.size - p ∧ (s.get! p).toNat = 239 ∧ (s.get! (p + 1)).toNat = 191 ∧ (s.get! (p + 2)).toNat = 189 := by
  have hz : (s.extract p s.size).size = s.size - p := by rw [ByteArray.size_extract]; omega
  have hl : (s.extract p s.size).data.toList.length = s.size - p := by rw [← hz]; rfl
  have g (k : Nat) (hk : k < s.size - p) : (s.extract p s.size).data.toList[k]? = some (s.get! (p + k)) := by
    have e := get_part s p k (by omega)
    have h1 : k < (s.extract p s.size).size := by omega
    rw [← e, Utf8W.get!_of_lt _ _ h1]
    rw [Array.getElem?_toList, Array.getElem?_eq_getElem (by exact h1)]
    rfl
  have u (x : UInt8) (n : Nat) (hn : n < 256) : x = UInt8.ofNat n ↔ x.toNat = n := by
    constructor
    · rintro rfl; simp; omega
    · intro h; rw [← h]; simp
  unfold fffd Lib.hasPrefix
  generalize (s.extract p s.size).data.toList = l at hl g
  constructor
  · intro hp
    match l, hp, hl, g with
    | a :: b :: c :: r, hp, hl, g =>
      simp only [List.isPrefixOf, Bool.and_eq_true, beq_iff_eq, and_true] at hp
      have hl' : 2 < s.size - p := by rw [← hl]; simp
      have g0 := g 0 (by omega); have g1 := g 1 (by omega); have g2 := g 2 (by omega)
      simp only [List.getElem?_cons_zero, List.getElem?_cons_succ, Option.some.injEq, Nat.add_zero] at g0 g1 g2
      rw [← g0, ← g1, ← g2, ← hp.1, ← hp.2.1, ← hp.2.2]
      exact ⟨hl', rfl, rfl, rfl⟩
    | [], hp, _, _ => cases hp
    | [a], hp, _, _ => simp [List.isPrefixOf] at hp
    | [a, b], hp, _, _ => simp [List.isPrefixOf] at hp
  · rintro ⟨h2, a0, a1, a2⟩
    match l, hl, g with
    | a :: b :: c :: r, hl, g =>
      have g0 := g 0 (by omega); have g1 := g 1 (by omega); have g2 := g 2 (by omega)
      simp only [List.getElem?_cons_zero, List.getElem?_cons_succ, Option.some.injEq, Nat.add_zero] at g0 g1 g2
      have e0 : a = 239 := (u a 239 (by omega)).2 (by rw [g0]; exact a0)
      have e1 : b = 191 := (u b 191 (by omega)).2 (by rw [g1]; exact a1)
      have e2 : c = 189 := (u c 189 (by omega)).2 (by rw [g2]; exact a2)
      subst e0 e1 e2
      rfl
    | [], hl, _ => simp at hl; omega
    | [a], hl, _ => simp at hl; omega
    | [a, b], hl, _ => simp at hl; omega
/-- No whole rune stands there: the decoder's own sign is one byte wide. -/
theorem noRune_iff (s : ByteArray) (p : Nat) (h : p < s.size) : noRune s p = true ↔ (Utf8.decode s p).1 = 65533 ∧ (Utf8.decode s p).2 ≤ 1 := by
  have hf := fffd_iff s p h
  have b0 := (s.get! p).toNat_lt; have b1 := (s.get! (p + 1)).toNat_lt; have b2 := (s.get! (p + 2)).toNat_lt; have b3 := (s.get! (p + 3)).toNat_lt
  unfold noRune
  rw [Bool.and_eq_true, decide_eq_true_eq, Bool.not_eq_true', ← Bool.not_eq_true, hf, Lib.decode_at]
  generalize (s.get! p).toNat = x0 at *
  generalize (s.get! (p + 1)).toNat = x1 at *
  generalize (s.get! (p + 2)).toNat = x2 at *
  generalize (s.get! (p + 3)).toNat = x3 at *
  generalize s.size - p = n at *
  have hD : n > 2 → x0 = 239 → x1 = 191 → x2 = 189 → Lib.decodeN n x0 x1 x2 x3 = (65533, 3) := by
    rintro hn rfl rfl rfl
    unfold Lib.decodeN
    rw [if_neg (by omega), if_neg (by omega), if_pos (by omega), if_pos (by omega)]
  rcases Lib.decodeN_shape n x0 x1 x2 x3 with ⟨c, e⟩ | ⟨c1, c2, c3, cv, e⟩ | ⟨c1, c2, c3, c4, cv, cs, e⟩ | ⟨c1, c2, c3, c4, c5, cv, cs, e⟩ | e
  all_goals rw [e]
  · constructor <;> rintro ⟨h1, h2⟩ <;> (dsimp only at h1 h2; omega)
  · constructor <;> rintro ⟨h1, h2⟩ <;> (dsimp only at h1 h2; omega)
  · constructor <;> rintro ⟨h1, h2⟩ <;> (dsimp only at h1 h2; omega)
  · constructor <;> rintro ⟨h1, h2⟩ <;> (dsimp only at h1 h2; omega)
  · refine ⟨fun _ => ⟨rfl, Nat.le_refl _⟩, fun _ => ⟨rfl, fun ⟨h1, h2, h3, h4⟩ => ?_⟩⟩
    rw [hD h1 h2 h3 h4] at e
    exact absurd (congrArg Prod.snd e) (by decide)
/-- The runes from a place on, as far as they are whole. -/
def rnF (s : ByteArray) : Nat → Nat → List Nat
  | 0, _ => []
  | b + 1, p => if p < s.size then (if noRune s p = true then [] else (Utf8.decode s p).1 :: rnF s b (p + (Utf8.decode s p).2)) else []
def badRune (r : Nat) : Bool := decide (r < 32 ∨ r = 127 ∨ r = 47)
theorem whF_runes (s : ByteArray) (b : Nat) : ∀ p c, (whF s b p c).2 = true → (whF s b p c).1 = c + (rnF s b p).length ∧ ctF s b p = (rnF s b p).any badRune := by
  induction b with
  | zero => intro p c _; exact ⟨rfl, rfl⟩
  | succ b ih =>
    intro p c h
    unfold whF at h ⊢
    unfold ctF rnF
    by_cases hp : p < s.size
    · rw [if_pos hp] at h ⊢
      rw [if_pos hp, if_pos hp]
      by_cases hn : noRune s p = true
      · rw [if_pos hn] at h; cases h
      · rw [if_neg hn] at h ⊢
        rw [if_neg hn]
        obtain ⟨i1, i2⟩ := ih _ _ h
        refine ⟨by rw [i1, List.length_cons]; omega, ?_⟩
        rw [List.any_cons, ← i2]
        unfold badRune
        split <;> rename_i hq
        · rw [decide_eq_true hq, Bool.true_or]
        · rw [decide_eq_false hq, Bool.false_or]
    · rw [if_neg hp, if_neg hp, if_neg hp]
      exact ⟨rfl, rfl⟩
end Go.Proofs.YtpfccicahfncbaaDoor
