/- Several texts of the claim joined into one (part 12): plain facts and walks. No conditions but those that each theorem tells. -/
import Derived.Test.YtpfccicahfncbaaDoorMgAttrsOne11
import Derived.Test.YtpfccicahfncbaaDoorMgAttrsOne9
import Derived.Test.YtpfccicahfncbaaDoorRRdMAttrsOne
import Derived.Test.YtpfccicahfncbaaDoorMgAttrsOne10
import Derived.Test.YtpfccicahfncbaaDoorMgAttrsOne3
namespace Go.Proofs.YtpfccicahfncbaaDoor
open Go.RowKit Wir
set_option linter.unusedVariables false
set_option linter.unusedSimpArgs false
set_option maxRecDepth 100000 in
set_option maxHeartbeats 4000000 in
theorem attKept_any (a : Att) (A : Option Addr) (n c g cg : Nat) (w : World) (B : Nat) (hr : Reads w B 2 A n (xtV a.xs)) (hr' : Reads w B 2 (some ⟨g, 0, none⟩) (n + 1) (xtV (a.xs ++ [markX]))) (hB : B ≤ w.heap.size) (hn : n * 32 ≤ 140737488351232) (hc : n + 1 ≤ cg) :
    Calls Tryd.prog 12 #[.agg (attV a (some ⟨g, 0, none⟩) n cg), .agg (attV a A n c)] w fun e w' => e = .returned (.bool true) ∧ Below w.heap.size w w' := by
  have HR := Lib.hid hr
  have HL := Lib.hid hr.xtLen
  have HR' := Lib.hid hr'
  clear hr hr'
  have HC : Hid (Reads w B 2 (some ⟨g, 0, none⟩) n (xtV a.xs)) := Lib.hid (by
    obtain ⟨ad, e, hb, hx⟩ := HR'.out.2 (by omega)
    refine ⟨by rw [xtV_length, HL.out], fun h => ⟨ad, e, hb, fun j u hj => hx j u ?_⟩⟩
    rw [xtV_app, List.getElem?_append_left]
    · exact hj
    · rcases Nat.lt_or_ge j (xtV a.xs).length with h | h
      · exact h
      · rw [List.getElem?_eq_none h] at hj; cases hj)
  have HM : Hid (w.cell? ⟨g, n * 2, none⟩ = some (.string ⟨#[35]⟩) ∧ g < B) := Lib.hid (by
    obtain ⟨ad, e, hb, hx⟩ := HR'.out.2 (by omega)
    injection e with e
    subst e
    refine ⟨?_, hb⟩
    have := hx (n * 2) (.string ⟨#[35]⟩) (by
      rw [xtV_app, List.getElem?_append_right (by rw [xtV_length, HL.out]; exact Nat.le_refl _), xtV_length, HL.out, Nat.sub_self]; rfl)
    rw [add0] at this
    exact this)
  clear HR'
  have HB0 : Hid (Blk ((w.alloc (.cells (attV a (some ⟨g, 0, none⟩) n cg) 27)).alloc (.cells (attV a A n c) 31)).drew w.heap.size 27 (attV a (some ⟨g, 0, none⟩) n cg) ∧ Blk ((w.alloc (.cells (attV a (some ⟨g, 0, none⟩) n cg) 27)).alloc (.cells (attV a A n c) 31)).drew (w.heap.size + 1) 31 (attV a A n c) ∧ Below w.heap.size w ((w.alloc (.cells (attV a (some ⟨g, 0, none⟩) n cg) 27)).alloc (.cells (attV a A n c) 31)).drew) := Lib.hid ⟨((Blk.new _ _ _).alloc _).drew, by
    have := Blk.new (w.alloc (.cells (attV a (some ⟨g, 0, none⟩) n cg) 27)) 31 (attV a A n c)
    rw [show (w.alloc (.cells (attV a (some ⟨g, 0, none⟩) n cg) 27)).heap.size = w.heap.size + 1 from by simp] at this
    exact this.drew, (((Below.refl _ _).alloc (Nat.le_refl _) _).alloc (by simp) _).drew⟩
  go_enter Tryd.func12, Tryd.ntmps12
  go_upto_region 1 with fail
  change Code.wp _ _ _ _ ((w.alloc (.cells (attV a (some ⟨g, 0, none⟩) n cg) 27)).alloc (.cells (attV a A n c) 31))
  generalize (w.alloc (.cells (attV a (some ⟨g, 0, none⟩) n cg) 27)).alloc (.cells (attV a A n c) 31) = w1 at HB0 ⊢
  have KS : Hid (∀ W, (Blk W w.heap.size 27 (attV a (some ⟨g, 0, none⟩) n cg) ∧ Blk W (w.heap.size + 1) 31 (attV a A n c) ∧ Below w.heap.size w W) → W.cell? ⟨w.heap.size, 0, none⟩ = some (.int .u8 (a.nd.toNat : Int)) ∧ W.cell? ⟨w.heap.size, 1, none⟩ = some (.int .u32 (a.md.toNat : Int)) ∧ W.cell? ⟨w.heap.size, 2, none⟩ = some (.int .u32 (a.ui.toNat : Int)) ∧ W.cell? ⟨w.heap.size, 3, none⟩ = some (.int .u32 (a.gi.toNat : Int)) ∧ W.cell? ⟨w.heap.size, 4, none⟩ = some (.int .i64 a.mt) ∧ W.cell? ⟨w.heap.size, 5, none⟩ = some (.string a.tg) ∧ W.cell? ⟨w.heap.size, 6, none⟩ = some (.slice (some ⟨g, 0, none⟩) n cg) ∧ W.cell? ⟨w.heap.size + 1, 0, none⟩ = some (.int .u8 (a.nd.toNat : Int)) ∧ W.cell? ⟨w.heap.size + 1, 1, none⟩ = some (.int .u32 (a.md.toNat : Int)) ∧ W.cell? ⟨w.heap.size + 1, 2, none⟩ = some (.int .u32 (a.ui.toNat : Int)) ∧ W.cell? ⟨w.heap.size + 1, 3, none⟩ = some (.int .u32 (a.gi.toNat : Int)) ∧ W.cell? ⟨w.heap.size + 1, 4, none⟩ = some (.int .i64 a.mt) ∧ W.cell? ⟨w.heap.size + 1, 5, none⟩ = some (.string a.tg) ∧ W.cell? ⟨w.heap.size + 1, 6, none⟩ = some (.slice A n c) ∧ W.cell? ⟨g, n * 2, none⟩ = some (.string ⟨#[35]⟩)) := Lib.hid (fun W hW => by
    obtain ⟨a0, a1, a2, a3, a4, a5, a6⟩ := att_cells a (some ⟨g, 0, none⟩) n cg W _ hW.1
    obtain ⟨b0, b1, b2, b3, b4, b5, b6⟩ := ratt_cells a A n c W _ hW.2.1
    refine ⟨a0, a1, a2, a3, a4, a5, a6, b0, b1, b2, b3, b4, b5, b6, ?_⟩
    rw [hW.2.2.cell (by show g < w.heap.size; have := HM.out.2; omega)]; exact HM.out.1)
  have NX : Hid (∀ x y : World, (Blk x w.heap.size 27 (attV a (some ⟨g, 0, none⟩) n cg) ∧ Blk x (w.heap.size + 1) 31 (attV a A n c) ∧ Below w.heap.size w x) → Below x.heap.size x y → (Blk y w.heap.size 27 (attV a (some ⟨g, 0, none⟩) n cg) ∧ Blk y (w.heap.size + 1) 31 (attV a A n c) ∧ Below w.heap.size w y)) := Lib.hid (fun x y h hb => ⟨h.1.below hb h.1.lt, h.2.1.below hb h.2.1.lt, h.2.2.trans (hb.mono h.2.2.size)⟩)
  have SA := KS.out _ HB0.out
  have C1 := Lib.hid (attRef_any a (some ⟨g, 0, none⟩) n cg w1.drew B (HC.out.below (HB0.out.2.2.mono hB)) (Nat.le_trans hB HB0.out.2.2.size) hn)
  have hsa : sameA a a = true := (sameA_iff a a).2 rfl
  have C2 := Lib.hid (fun (W : World) A' c' (hb : Below w.heap.size w W) (hrd : Reads W W.heap.size 2 A' n (xtV a.xs)) => rattSame_any a a A' A n c' n c W W.heap.size hrd ((HR.out.below (hb.mono hB)).more (Nat.le_trans hB hb.size)) (Nat.le_refl _) (by omega) (by omega))
  rw [hsa] at C2
  have hn1 : IntKind.i64.wrap ((n : Int) + 1) = (n : Int) + 1 := IntWalk.i64_in _ (by omega)
  have hn2 : (0 : Int) ≤ (n : Int) + 1 := by omega
  have hn3 : (n : Int) + 1 ≤ (cg : Int) := by omega
  have hn4 : ((n : Int) + 1).toNat = n + 1 := by omega
  have hn5 : (n : Int) < (n : Int) + 1 := by omega
  have hn6 : (0 : Int) ≤ (n : Int) := by omega
  clear hsa
  refine wp_region_held_drew (S := fun w' => w'.cell? ⟨w.heap.size, 0, none⟩ = some (.int .u8 (a.nd.toNat : Int)) ∧ w'.cell? ⟨w.heap.size, 1, none⟩ = some (.int .u32 (a.md.toNat : Int)) ∧ w'.cell? ⟨w.heap.size, 2, none⟩ = some (.int .u32 (a.ui.toNat : Int)) ∧ w'.cell? ⟨w.heap.size, 3, none⟩ = some (.int .u32 (a.gi.toNat : Int)) ∧ w'.cell? ⟨w.heap.size, 4, none⟩ = some (.int .i64 a.mt) ∧ w'.cell? ⟨w.heap.size, 5, none⟩ = some (.string a.tg) ∧ w'.cell? ⟨w.heap.size, 6, none⟩ = some (.slice (some ⟨g, 0, none⟩) n cg) ∧ w'.cell? ⟨w.heap.size + 1, 0, none⟩ = some (.int .u8 (a.nd.toNat : Int)) ∧ w'.cell? ⟨w.heap.size + 1, 1, none⟩ = some (.int .u32 (a.md.toNat : Int)) ∧ w'.cell? ⟨w.heap.size + 1, 2, none⟩ = some (.int .u32 (a.ui.toNat : Int)) ∧ w'.cell? ⟨w.heap.size + 1, 3, none⟩ = some (.int .u32 (a.gi.toNat : Int)) ∧ w'.cell? ⟨w.heap.size + 1, 4, none⟩ = some (.int .i64 a.mt) ∧ w'.cell? ⟨w.heap.size + 1, 5, none⟩ = some (.string a.tg) ∧ w'.cell? ⟨w.heap.size + 1, 6, none⟩ = some (.slice A n c) ∧ w'.cell? ⟨g, n * 2, none⟩ = some (.string ⟨#[35]⟩)) (by kernel_rfl) (by first | exact SA | exact SB | exact SC) (fun hHeld => ?_)
  refine wpAnyH_take (i := 0) (oi := { dst := some 5, op := .load 27 (.tmp 2), type := 27, pos := "law.go:37", after := #[], guard := none }) (v := _) rfl (by as_aux_lemma => kernel_rfl) (by as_aux_lemma => kernel_rfl) (by as_aux_lemma => kernel_rfl) (fun _ _ _ h => h) (Or.inl ⟨by kernel_rfl, by (intro w hSw; (try dsimp only at hSw); go_simp; first | done | with_reducible rfl)⟩) (by assumption) ?_
  (try simp only [List.getElem_toArray, List.getElem_cons_succ, List.getElem_cons_zero, Act.put, List.setIfInBounds_toArray, List.set_cons_zero, List.set_cons_succ])
  refine wpAnyH_take (i := 2) (oi := { dst := some 7, op := .load 31 (.tmp 3), type := 31, pos := "law.go:37", after := #[], guard := none }) (v := _) rfl (by as_aux_lemma => kernel_rfl) (by as_aux_lemma => kernel_rfl) (by as_aux_lemma => kernel_rfl) (fun _ _ _ h => h) (Or.inl ⟨by kernel_rfl, by (intro w hSw; (try dsimp only at hSw); go_simp; first | done | with_reducible rfl)⟩) (by assumption) ?_
  (try simp only [List.getElem_toArray, List.getElem_cons_succ, List.getElem_cons_zero, Act.put, List.setIfInBounds_toArray, List.set_cons_zero, List.set_cons_succ])
  refine wpAnyH_ready (rs := [1]) (by as_aux_lemma => kernel_rfl) (by simp) (AllReadyH.cons rfl (fun K hK => ?_) AllReadyH.nil)
  try simp only [List.getElem_toArray, List.getElem_cons_succ, List.getElem_cons_zero]
  go_simp
  go_at_call 21
  change Calls _ _ #[.agg (attV a (some ⟨g, 0, none⟩) n cg)] _ _
  refine C1.out.mono ?_
  rintro e w2 ⟨A', c', rfl, ho, hb⟩
  have HB2 := Lib.hid (NX.out _ _ HB0.out hb)
  have SB := KS.out _ HB2.out
  have C3 := Lib.hid (C2.out w2 A' c' HB2.out.2.2 (Reads.of_own ho))
  clear ho hb C2
  unfold attV
  go_simp
  refine hK.out _ _ (by first | exact SA | exact SB | exact SC) (fun hHeld => ?_)
  clear hK K
  (try simp only [List.getElem_toArray, List.getElem_cons_succ, List.getElem_cons_zero, Act.put, List.setIfInBounds_toArray, List.set_cons_zero, List.set_cons_succ])
  refine wpAnyH_ready (rs := [3]) (by as_aux_lemma => kernel_rfl) (by simp) (AllReadyH.cons rfl (fun K hK => ?_) AllReadyH.nil)
  try simp only [List.getElem_toArray, List.getElem_cons_succ, List.getElem_cons_zero]
  go_simp
  go_at_call 20
  change Calls _ _ #[.agg (attV a A' n c'), .agg (attV a A n c)] _ _
  refine C3.out.mono ?_
  rintro e w3 ⟨rfl, hb⟩
  have HB3 := Lib.hid (NX.out _ _ HB2.out hb)
  have SC := KS.out _ HB3.out
  clear hb C3
  go_simp
  refine hK.out _ _ (by first | exact SA | exact SB | exact SC) (fun hHeld => ?_)
  clear hK K
  (try simp only [List.getElem_toArray, List.getElem_cons_succ, List.getElem_cons_zero, Act.put, List.setIfInBounds_toArray, List.set_cons_zero, List.set_cons_succ])
  refine wpAnyH_take (i := 4) (oi := { dst := some 9, op := .move (.tmp 8), type := 4, pos := "law.go:37", after := #[{ on := 3, ground := .data }, { on := 3, ground := .chain }], guard := none }) (v := _) rfl (by as_aux_lemma => kernel_rfl) (by as_aux_lemma => kernel_rfl) (by as_aux_lemma => kernel_rfl) (fun _ _ _ h => h) (Or.inl ⟨by kernel_rfl, by (intro w hSw; (try dsimp only at hSw); go_simp; first | done | with_reducible rfl)⟩) (by assumption) ?_
  (try simp only [List.getElem_toArray, List.getElem_cons_succ, List.getElem_cons_zero, Act.put, List.setIfInBounds_toArray, List.set_cons_zero, List.set_cons_succ])
  refine wpAnyH_take (i := 5) (oi := { dst := some 10, op := .fieldAddr 27 (.tmp 2) 6, type := 0, pos := "law.go:37", after := #[{ on := 4, ground := .guard }], guard := some (4, true) }) (v := _) rfl (by as_aux_lemma => kernel_rfl) (by as_aux_lemma => kernel_rfl) (by as_aux_lemma => kernel_rfl) (fun _ _ _ h => h) (Or.inl ⟨by kernel_rfl, by (intro w hSw; (try dsimp only at hSw); go_simp; first | done | with_reducible rfl)⟩) (by assumption) ?_
  (try simp only [List.getElem_toArray, List.getElem_cons_succ, List.getElem_cons_zero, Act.put, List.setIfInBounds_toArray, List.set_cons_zero, List.set_cons_succ])
  refine wpAnyH_take (i := 6) (oi := { dst := some 11, op := .load 25 (.tmp 10), type := 25, pos := "law.go:37", after := #[{ on := 5, ground := .data }, { on := 4, ground := .guard }], guard := some (4, true) }) (v := _) rfl (by as_aux_lemma => kernel_rfl) (by as_aux_lemma => kernel_rfl) (by as_aux_lemma => kernel_rfl) (fun _ _ _ h => h) (Or.inl ⟨by kernel_rfl, by (intro w hSw; (try dsimp only at hSw); go_simp; first | done | with_reducible rfl)⟩) (by assumption) ?_
  (try simp only [List.getElem_toArray, List.getElem_cons_succ, List.getElem_cons_zero, Act.put, List.setIfInBounds_toArray, List.set_cons_zero, List.set_cons_succ])
  refine wpAnyH_take (i := 7) (oi := { dst := some 12, op := .fieldAddr 31 (.tmp 3) 6, type := 0, pos := "law.go:37", after := #[{ on := 4, ground := .guard }], guard := some (4, true) }) (v := _) rfl (by as_aux_lemma => kernel_rfl) (by as_aux_lemma => kernel_rfl) (by as_aux_lemma => kernel_rfl) (fun _ _ _ h => h) (Or.inl ⟨by kernel_rfl, by (intro w hSw; (try dsimp only at hSw); go_simp; first | done | with_reducible rfl)⟩) (by assumption) ?_
  (try simp only [List.getElem_toArray, List.getElem_cons_succ, List.getElem_cons_zero, Act.put, List.setIfInBounds_toArray, List.set_cons_zero, List.set_cons_succ])
  refine wpAnyH_take (i := 8) (oi := { dst := some 13, op := .load 29 (.tmp 12), type := 29, pos := "law.go:37", after := #[{ on := 7, ground := .data }, { on := 4, ground := .guard }], guard := some (4, true) }) (v := _) rfl (by as_aux_lemma => kernel_rfl) (by as_aux_lemma => kernel_rfl) (by as_aux_lemma => kernel_rfl) (fun _ _ _ h => h) (Or.inl ⟨by kernel_rfl, by (intro w hSw; (try dsimp only at hSw); go_simp; first | done | with_reducible rfl)⟩) (by assumption) ?_
  (try simp only [List.getElem_toArray, List.getElem_cons_succ, List.getElem_cons_zero, Act.put, List.setIfInBounds_toArray, List.set_cons_zero, List.set_cons_succ])
  refine wpAnyH_take (i := 9) (oi := { dst := some 14, op := .call { callee := Callee.builtin Builtin.len, args := #[.tmp 13], argTypes := #[29] }, type := 3, pos := "law.go:37", after := #[{ on := 8, ground := .data }, { on := 4, ground := .guard }], guard := some (4, true) }) (v := _) rfl (by as_aux_lemma => kernel_rfl) (by as_aux_lemma => kernel_rfl) (by as_aux_lemma => kernel_rfl) (fun _ _ _ h => h) (Or.inl ⟨by kernel_rfl, by (intro w hSw; (try dsimp only at hSw); go_simp; first | done | with_reducible rfl)⟩) (by assumption) ?_
  (try simp only [List.getElem_toArray, List.getElem_cons_succ, List.getElem_cons_zero, Act.put, List.setIfInBounds_toArray, List.set_cons_zero, List.set_cons_succ])
  refine wpAnyH_take (i := 10) (oi := { dst := some 15, op := .binOp BinOp.add 3 (.tmp 14) (.const (Value.int IntKind.i64 1)) 3, type := 3, pos := "law.go:37", after := #[{ on := 9, ground := .data }, { on := 4, ground := .guard }], guard := some (4, true) }) (v := _) rfl (by as_aux_lemma => kernel_rfl) (by as_aux_lemma => kernel_rfl) (by as_aux_lemma => kernel_rfl) (fun _ _ _ h => h) (Or.inl ⟨by kernel_rfl, by (intro w hSw; (try dsimp only at hSw); go_simp; first | done | with_reducible rfl)⟩) (by assumption) ?_
  (try simp only [List.getElem_toArray, List.getElem_cons_succ, List.getElem_cons_zero, Act.put, List.setIfInBounds_toArray, List.set_cons_zero, List.set_cons_succ])
  refine wpAnyH_take (i := 11) (oi := { dst := some 16, op := .slice 25 (.tmp 11) none (some (.tmp 15)) none, type := 25, pos := "law.go:37", after := #[{ on := 6, ground := .data }, { on := 10, ground := .data }, { on := 4, ground := .guard }], guard := some (4, true) }) (v := _) rfl (by as_aux_lemma => kernel_rfl) (by as_aux_lemma => kernel_rfl) (by as_aux_lemma => kernel_rfl) (fun _ _ _ h => h) (Or.inl ⟨by kernel_rfl, by (intro w hSw; (try dsimp only at hSw); go_simp; first | done | with_reducible rfl)⟩) (by assumption) ?_
  (try simp only [List.getElem_toArray, List.getElem_cons_succ, List.getElem_cons_zero, Act.put, List.setIfInBounds_toArray, List.set_cons_zero, List.set_cons_succ])
  refine wpAnyH_take (i := 12) (oi := { dst := some 17, op := .fieldAddr 31 (.tmp 3) 6, type := 0, pos := "law.go:37", after := #[{ on := 4, ground := .guard }], guard := some (4, true) }) (v := _) rfl (by as_aux_lemma => kernel_rfl) (by as_aux_lemma => kernel_rfl) (by as_aux_lemma => kernel_rfl) (fun _ _ _ h => h) (Or.inl ⟨by kernel_rfl, by (intro w hSw; (try dsimp only at hSw); go_simp; first | done | with_reducible rfl)⟩) (by assumption) ?_
  (try simp only [List.getElem_toArray, List.getElem_cons_succ, List.getElem_cons_zero, Act.put, List.setIfInBounds_toArray, List.set_cons_zero, List.set_cons_succ])
  refine wpAnyH_take (i := 13) (oi := { dst := some 18, op := .load 29 (.tmp 17), type := 29, pos := "law.go:37", after := #[{ on := 12, ground := .data }, { on := 4, ground := .guard }], guard := some (4, true) }) (v := _) rfl (by as_aux_lemma => kernel_rfl) (by as_aux_lemma => kernel_rfl) (by as_aux_lemma => kernel_rfl) (fun _ _ _ h => h) (Or.inl ⟨by kernel_rfl, by (intro w hSw; (try dsimp only at hSw); go_simp; first | done | with_reducible rfl)⟩) (by assumption) ?_
  (try simp only [List.getElem_toArray, List.getElem_cons_succ, List.getElem_cons_zero, Act.put, List.setIfInBounds_toArray, List.set_cons_zero, List.set_cons_succ])
  as_aux_lemma =>
    refine wpAnyH_take (i := 14) (oi := { dst := some 19, op := .call { callee := Callee.builtin Builtin.len, args := #[.tmp 18], argTypes := #[29] }, type := 3, pos := "law.go:37", after := #[{ on := 13, ground := .data }, { on := 4, ground := .guard }], guard := some (4, true) }) (v := _) rfl (by as_aux_lemma => kernel_rfl) (by as_aux_lemma => kernel_rfl) (by as_aux_lemma => kernel_rfl) (fun _ _ _ h => h) (Or.inl ⟨by kernel_rfl, by (intro w hSw; (try dsimp only at hSw); go_simp; first | done | with_reducible rfl)⟩) (by assumption) ?_
    (try simp only [List.getElem_toArray, List.getElem_cons_succ, List.getElem_cons_zero, Act.put, List.setIfInBounds_toArray, List.set_cons_zero, List.set_cons_succ])
    refine wpAnyH_take (i := 15) (oi := { dst := some 20, op := .indexAddr 25 (.tmp 16) (.tmp 19), type := 0, pos := "law.go:37", after := #[{ on := 11, ground := .data }, { on := 14, ground := .data }, { on := 4, ground := .guard }], guard := some (4, true) }) (v := _) rfl (by as_aux_lemma => kernel_rfl) (by as_aux_lemma => kernel_rfl) (by as_aux_lemma => kernel_rfl) (fun _ _ _ h => h) (Or.inl ⟨by kernel_rfl, by (intro w hSw; (try dsimp only at hSw); go_simp; first | done | with_reducible rfl)⟩) (by assumption) ?_
    (try simp only [List.getElem_toArray, List.getElem_cons_succ, List.getElem_cons_zero, Act.put, List.setIfInBounds_toArray, List.set_cons_zero, List.set_cons_succ])
    refine wpAnyH_take (i := 16) (oi := { dst := some 21, op := .fieldAddr 43 (.tmp 20) 0, type := 0, pos := "law.go:37", after := #[{ on := 15, ground := .data }, { on := 4, ground := .guard }], guard := some (4, true) }) (v := _) rfl (by as_aux_lemma => kernel_rfl) (by as_aux_lemma => kernel_rfl) (by as_aux_lemma => kernel_rfl) (fun _ _ _ h => h) (Or.inl ⟨by kernel_rfl, by (intro w hSw; (try dsimp only at hSw); go_simp; first | done | with_reducible rfl)⟩) (by assumption) ?_
    (try simp only [List.getElem_toArray, List.getElem_cons_succ, List.getElem_cons_zero, Act.put, List.setIfInBounds_toArray, List.set_cons_zero, List.set_cons_succ])
    refine wpAnyH_take (i := 17) (oi := { dst := some 22, op := .load 9 (.tmp 21), type := 9, pos := "law.go:37", after := #[{ on := 16, ground := .data }, { on := 4, ground := .guard }], guard := some (4, true) }) (v := _) rfl (by as_aux_lemma => kernel_rfl) (by as_aux_lemma => kernel_rfl) (by as_aux_lemma => kernel_rfl) (fun _ _ _ h => h) (Or.inl ⟨by kernel_rfl, by (intro w hSw; (try dsimp only at hSw); go_simp; first | done | with_reducible rfl)⟩) (by assumption) ?_
    (try simp only [List.getElem_toArray, List.getElem_cons_succ, List.getElem_cons_zero, Act.put, List.setIfInBounds_toArray, List.set_cons_zero, List.set_cons_succ])
    refine wpAnyH_take (i := 18) (oi := { dst := some 23, op := .binOp BinOp.eql 9 (.tmp 22) (.const (Value.string { data := #[35] })) 9, type := 4, pos := "law.go:37", after := #[{ on := 17, ground := .data }, { on := 4, ground := .guard }], guard := some (4, true) }) (v := _) rfl (by as_aux_lemma => kernel_rfl) (by as_aux_lemma => kernel_rfl) (by as_aux_lemma => kernel_rfl) (fun _ _ _ h => h) (Or.inl ⟨by kernel_rfl, by (intro w hSw; (try dsimp only at hSw); go_simp; first | done | with_reducible rfl)⟩) (by assumption) ?_
    (try simp only [List.getElem_toArray, List.getElem_cons_succ, List.getElem_cons_zero, Act.put, List.setIfInBounds_toArray, List.set_cons_zero, List.set_cons_succ])
    refine wpAnyH_take (i := 19) (oi := { dst := some 24, op := .pick (.tmp 9) (.tmp 23) (.const (Value.bool false)), type := 4, pos := "law.go:37", after := #[{ on := 4, ground := .data }, { on := 18, ground := .data }], guard := none }) (v := _) rfl (by as_aux_lemma => kernel_rfl) (by as_aux_lemma => kernel_rfl) (by as_aux_lemma => kernel_rfl) (fun _ _ _ h => h) (Or.inl ⟨by kernel_rfl, by (intro w hSw; (try dsimp only at hSw); go_simp; first | done | with_reducible rfl)⟩) (by assumption) ?_
    (try simp only [List.getElem_toArray, List.getElem_cons_succ, List.getElem_cons_zero, Act.put, List.setIfInBounds_toArray, List.set_cons_zero, List.set_cons_succ])
    refine wpAnyH_take (i := 20) (oi := { dst := some 4, op := .assign (.tmp 24), type := 4, pos := "law.go:37", after := #[{ on := 19, ground := .data }, { on := 4, ground := .chain }, { on := 0, ground := .phase }, { on := 1, ground := .phase }, { on := 2, ground := .phase }, { on := 3, ground := .phase }, { on := 4, ground := .phase }, { on := 5, ground := .phase }, { on := 6, ground := .phase }, { on := 7, ground := .phase }, { on := 8, ground := .phase }, { on := 9, ground := .phase }, { on := 10, ground := .phase }, { on := 11, ground := .phase }, { on := 12, ground := .phase }, { on := 13, ground := .phase }, { on := 14, ground := .phase }, { on := 15, ground := .phase }, { on := 16, ground := .phase }, { on := 17, ground := .phase }, { on := 18, ground := .phase }, { on := 19, ground := .phase }], guard := none }) (v := _) rfl (by as_aux_lemma => kernel_rfl) (by as_aux_lemma => kernel_rfl) (by as_aux_lemma => kernel_rfl) (fun _ _ _ h => h) (Or.inl ⟨by kernel_rfl, by (intro w hSw; (try dsimp only at hSw); go_simp; first | done | with_reducible rfl)⟩) (by assumption) ?_
    (try simp only [List.getElem_toArray, List.getElem_cons_succ, List.getElem_cons_zero, Act.put, List.setIfInBounds_toArray, List.set_cons_zero, List.set_cons_succ])
    refine wpAnyH_done (by as_aux_lemma => kernel_rfl) ?_ _
    clear SA SB SC hn1 hn2 hn3 hn4 hn5 hn6
    go_wp2
    go_ret
    exact ⟨rfl, HB3.out.2.2⟩
end Go.Proofs.YtpfccicahfncbaaDoor
namespace Go.Proofs.YtpfccicahfncbaaDoor
open Go.RowKit Wir
set_option linter.unusedVariables false
set_option linter.unusedSimpArgs false
set_option maxRecDepth 100000 in
set_option maxHeartbeats 4000000 in
theorem attAll_any (A A2 : Option Addr) (n c c2 : Nat) (M M2 : List AttM) (w : World) (B : Nat) (hr : Reads w B 7 A n (attsV M)) (hr2 : Reads w B 7 A2 n (attsV M2)) (hM : AllRd w B M) (hM2 : AllRd w B M2) (he : M.map (·.a) = M2.map (·.a)) (hB : B ≤ w.heap.size) (hn : n ≤ 4611686018427387904) (hz : ∀ q ∈ M, q.n * 32 ≤ 140737488351232) (hz2 : ∀ q ∈ M2, q.n * 32 ≤ 140737488351232) :
    Calls Tryd.prog 11 #[.slice A n c, .slice A2 n c2] w fun e w' => e = .returned (.bool true) ∧ Below w.heap.size w w' := by
  have HR := Lib.hid hr
  have HR2 := Lib.hid hr2
  have HM := Lib.hid hM
  have HM2 := Lib.hid hM2
  have HE := Lib.hid he
  have HZ := Lib.hid hz
  have HZ2 := Lib.hid hz2
  clear hr hr2 hM hM2 he hz hz2
  go_enter Tryd.func11, Tryd.ntmps11
  have t0 : ((n : Int) != (n : Int)) = false := by simp
  go_wp2_with fail
  go_loopw [5] (fun i wr => ∃ k : Nat, k ≤ n ∧ i = .int .i64 k ∧ Hid (Below w.heap.size w wr)) (fun i _ => n - (intOf i).toNat)
  case atStart => exact ⟨0, by omega, rfl, Lib.hid (Below.refl _ _)⟩
  case round =>
    obtain ⟨k, hk, rfl, HK⟩ := hrel
    by_cases hlt : k < n
    · obtain ⟨ad, hkl, rfl, hbl, hcl⟩ := atts_cells HR.out k hlt
      obtain ⟨ad2, hkl2, rfl, hbl2, hcl2⟩ := atts_cells HR2.out k hlt
      have hea : (M[k]).a = (M2[k]).a := by
        have e1 : (M.map (·.a))[k]? = (M2.map (·.a))[k]? := by rw [HE.out]
        rw [List.getElem?_map, List.getElem?_map, List.getElem?_eq_getElem hkl, List.getElem?_eq_getElem hkl2] at e1
        exact Option.some.inj e1
      have hrd := HM.out _ (List.getElem_mem hkl)
      have hrd2 := HM2.out _ (List.getElem_mem hkl2)
      have hzq := HZ.out _ (List.getElem_mem hkl)
      have hzr := HZ2.out _ (List.getElem_mem hkl2)
      have KS : Hid (∀ W, Below w.heap.size w W → W.cell? (ad.add (k * 7)) = some (.int .u8 ((M[k]).a.nd.toNat : Int)) ∧ W.cell? ⟨(ad.add (k * 7)).block, (ad.add (k * 7)).off + 1, none⟩ = some (.int .u32 ((M[k]).a.md.toNat : Int)) ∧ W.cell? ⟨(ad.add (k * 7)).block, (ad.add (k * 7)).off + 2, none⟩ = some (.int .u32 ((M[k]).a.ui.toNat : Int)) ∧ W.cell? ⟨(ad.add (k * 7)).block, (ad.add (k * 7)).off + 3, none⟩ = some (.int .u32 ((M[k]).a.gi.toNat : Int)) ∧ W.cell? ⟨(ad.add (k * 7)).block, (ad.add (k * 7)).off + 4, none⟩ = some (.int .i64 (M[k]).a.mt) ∧ W.cell? ⟨(ad.add (k * 7)).block, (ad.add (k * 7)).off + 5, none⟩ = some (.string (M[k]).a.tg) ∧ W.cell? ⟨(ad.add (k * 7)).block, (ad.add (k * 7)).off + 6, none⟩ = some (.slice (M[k]).A (M[k]).n (M[k]).c) ∧ W.cell? (ad2.add (k * 7)) = some (.int .u8 ((M2[k]).a.nd.toNat : Int)) ∧ W.cell? ⟨(ad2.add (k * 7)).block, (ad2.add (k * 7)).off + 1, none⟩ = some (.int .u32 ((M2[k]).a.md.toNat : Int)) ∧ W.cell? ⟨(ad2.add (k * 7)).block, (ad2.add (k * 7)).off + 2, none⟩ = some (.int .u32 ((M2[k]).a.ui.toNat : Int)) ∧ W.cell? ⟨(ad2.add (k * 7)).block, (ad2.add (k * 7)).off + 3, none⟩ = some (.int .u32 ((M2[k]).a.gi.toNat : Int)) ∧ W.cell? ⟨(ad2.add (k * 7)).block, (ad2.add (k * 7)).off + 4, none⟩ = some (.int .i64 (M2[k]).a.mt) ∧ W.cell? ⟨(ad2.add (k * 7)).block, (ad2.add (k * 7)).off + 5, none⟩ = some (.string (M2[k]).a.tg) ∧ W.cell? ⟨(ad2.add (k * 7)).block, (ad2.add (k * 7)).off + 6, none⟩ = some (.slice (M2[k]).A (M2[k]).n (M2[k]).c)) := Lib.hid (fun W hW => by
        obtain ⟨a0, a1, a2, a3, a4, a5, a6⟩ := seven_cells (w := W) (ad := ad) (q := M[k]) (i := k) (fun j hj => by rw [hW.cell (by rw [block_of_add, block_of_add]; omega)]; exact hcl j hj)
        obtain ⟨b0, b1, b2, b3, b4, b5, b6⟩ := seven_cells (w := W) (ad := ad2) (q := M2[k]) (i := k) (fun j hj => by rw [hW.cell (by rw [block_of_add, block_of_add]; omega)]; exact hcl2 j hj)
        exact ⟨a0, a1, a2, a3, a4, a5, a6, b0, b1, b2, b3, b4, b5, b6⟩)
      have HRD := Lib.hid hrd
      have HRD2 := Lib.hid hrd2
      clear hrd hrd2 hcl hcl2
      generalize M[k] = q at *
      generalize M2[k] = r at *
      clear hkl hkl2
      obtain ⟨qa, qA, qn, qc⟩ := q
      obtain ⟨ra, rA, rn, rc⟩ := r
      dsimp only at hea KS HRD HRD2 hzq hzr
      subst hea
      have hki : (k : Int) < (n : Int) := by omega
      have hk0 : (0 : Int) ≤ (k : Int) := by omega
      go_upto_region 6 with fail
      have HK1 : Hid (Below w.heap.size w wr.drew) := Lib.hid HK.out.drew
      have SA := KS.out _ HK1.out
      have C1 := Lib.hid (attRef_any qa qA qn qc wr.drew B (HRD.out.below (HK1.out.mono hB)) (Nat.le_trans hB HK1.out.size) hzq)
      have hsa : sameA qa qa = true := (sameA_iff qa qa).2 rfl
      have C2 := Lib.hid (fun (W : World) A' c' (hb : Below w.heap.size w W) (hrd : Reads W W.heap.size 2 A' qn (xtV qa.xs)) => rattSame_any qa qa A' rA qn c' rn rc W W.heap.size hrd ((HRD2.out.below (hb.mono hB)).more (Nat.le_trans hB hb.size)) (Nat.le_refl _) (by omega) (by omega))
      rw [hsa] at C2
      clear hsa
      refine wp_region_held_drew (S := fun w' => w'.cell? (ad.add (k * 7)) = some (.int .u8 (qa.nd.toNat : Int)) ∧ w'.cell? ⟨(ad.add (k * 7)).block, (ad.add (k * 7)).off + 1, none⟩ = some (.int .u32 (qa.md.toNat : Int)) ∧ w'.cell? ⟨(ad.add (k * 7)).block, (ad.add (k * 7)).off + 2, none⟩ = some (.int .u32 (qa.ui.toNat : Int)) ∧ w'.cell? ⟨(ad.add (k * 7)).block, (ad.add (k * 7)).off + 3, none⟩ = some (.int .u32 (qa.gi.toNat : Int)) ∧ w'.cell? ⟨(ad.add (k * 7)).block, (ad.add (k * 7)).off + 4, none⟩ = some (.int .i64 qa.mt) ∧ w'.cell? ⟨(ad.add (k * 7)).block, (ad.add (k * 7)).off + 5, none⟩ = some (.string qa.tg) ∧ w'.cell? ⟨(ad.add (k * 7)).block, (ad.add (k * 7)).off + 6, none⟩ = some (.slice qA qn qc) ∧ w'.cell? (ad2.add (k * 7)) = some (.int .u8 (qa.nd.toNat : Int)) ∧ w'.cell? ⟨(ad2.add (k * 7)).block, (ad2.add (k * 7)).off + 1, none⟩ = some (.int .u32 (qa.md.toNat : Int)) ∧ w'.cell? ⟨(ad2.add (k * 7)).block, (ad2.add (k * 7)).off + 2, none⟩ = some (.int .u32 (qa.ui.toNat : Int)) ∧ w'.cell? ⟨(ad2.add (k * 7)).block, (ad2.add (k * 7)).off + 3, none⟩ = some (.int .u32 (qa.gi.toNat : Int)) ∧ w'.cell? ⟨(ad2.add (k * 7)).block, (ad2.add (k * 7)).off + 4, none⟩ = some (.int .i64 qa.mt) ∧ w'.cell? ⟨(ad2.add (k * 7)).block, (ad2.add (k * 7)).off + 5, none⟩ = some (.string qa.tg) ∧ w'.cell? ⟨(ad2.add (k * 7)).block, (ad2.add (k * 7)).off + 6, none⟩ = some (.slice rA rn rc)) (by kernel_rfl) (by first | exact SA | exact SB | exact SC) (fun hHeld => ?_)
      refine wpAnyH_take (i := 0) (oi := { dst := some 17, op := .move (.tmp 0), type := 23, pos := "law.go:88", after := #[], guard := none }) (v := _) rfl (by as_aux_lemma => kernel_rfl) (by as_aux_lemma => kernel_rfl) (by as_aux_lemma => kernel_rfl) (fun _ _ _ h => h) (Or.inl ⟨by kernel_rfl, by (intro w hSw; (try dsimp only at hSw); go_simp; first | done | with_reducible rfl)⟩) (by assumption) ?_
      (try simp only [List.getElem_toArray, List.getElem_cons_succ, List.getElem_cons_zero, Act.put, List.setIfInBounds_toArray, List.set_cons_zero, List.set_cons_succ])
      refine wpAnyH_take (i := 1) (oi := { dst := some 18, op := .move (.tmp 5), type := 3, pos := "law.go:88", after := #[], guard := none }) (v := _) rfl (by as_aux_lemma => kernel_rfl) (by as_aux_lemma => kernel_rfl) (by as_aux_lemma => kernel_rfl) (fun _ _ _ h => h) (Or.inl ⟨by kernel_rfl, by (intro w hSw; (try dsimp only at hSw); go_simp; first | done | with_reducible rfl)⟩) (by assumption) ?_
      (try simp only [List.getElem_toArray, List.getElem_cons_succ, List.getElem_cons_zero, Act.put, List.setIfInBounds_toArray, List.set_cons_zero, List.set_cons_succ])
      refine wpAnyH_take (i := 2) (oi := { dst := some 19, op := .indexAddr 23 (.tmp 17) (.tmp 18), type := 0, pos := "law.go:88", after := #[{ on := 0, ground := .data }, { on := 1, ground := .data }], guard := none }) (v := _) rfl (by as_aux_lemma => kernel_rfl) (by as_aux_lemma => kernel_rfl) (by as_aux_lemma => kernel_rfl) (fun _ _ _ h => h) (Or.inl ⟨by kernel_rfl, by (intro w hSw; (try dsimp only at hSw); go_simp; first | done | with_reducible rfl)⟩) (by assumption) ?_
      (try simp only [List.getElem_toArray, List.getElem_cons_succ, List.getElem_cons_zero, Act.put, List.setIfInBounds_toArray, List.set_cons_zero, List.set_cons_succ])
      refine wpAnyH_take (i := 3) (oi := { dst := some 20, op := .load 27 (.tmp 19), type := 27, pos := "law.go:88", after := #[{ on := 2, ground := .data }], guard := none }) (v := _) rfl (by as_aux_lemma => kernel_rfl) (by as_aux_lemma => kernel_rfl) (by as_aux_lemma => kernel_rfl) (fun _ _ _ h => h) (Or.inl ⟨by kernel_rfl, by (intro w hSw; (try dsimp only at hSw); go_simp; first | done | with_reducible rfl)⟩) (by assumption) ?_
      (try simp only [List.getElem_toArray, List.getElem_cons_succ, List.getElem_cons_zero, Act.put, List.setIfInBounds_toArray, List.set_cons_zero, List.set_cons_succ])
      refine wpAnyH_take (i := 5) (oi := { dst := some 22, op := .move (.tmp 1), type := 22, pos := "law.go:88", after := #[], guard := none }) (v := _) rfl (by as_aux_lemma => kernel_rfl) (by as_aux_lemma => kernel_rfl) (by as_aux_lemma => kernel_rfl) (fun _ _ _ h => h) (Or.inl ⟨by kernel_rfl, by (intro w hSw; (try dsimp only at hSw); go_simp; first | done | with_reducible rfl)⟩) (by assumption) ?_
      (try simp only [List.getElem_toArray, List.getElem_cons_succ, List.getElem_cons_zero, Act.put, List.setIfInBounds_toArray, List.set_cons_zero, List.set_cons_succ])
      refine wpAnyH_take (i := 6) (oi := { dst := some 23, op := .move (.tmp 5), type := 3, pos := "law.go:88", after := #[], guard := none }) (v := _) rfl (by as_aux_lemma => kernel_rfl) (by as_aux_lemma => kernel_rfl) (by as_aux_lemma => kernel_rfl) (fun _ _ _ h => h) (Or.inl ⟨by kernel_rfl, by (intro w hSw; (try dsimp only at hSw); go_simp; first | done | with_reducible rfl)⟩) (by assumption) ?_
      (try simp only [List.getElem_toArray, List.getElem_cons_succ, List.getElem_cons_zero, Act.put, List.setIfInBounds_toArray, List.set_cons_zero, List.set_cons_succ])
      refine wpAnyH_take (i := 7) (oi := { dst := some 24, op := .indexAddr 22 (.tmp 22) (.tmp 23), type := 0, pos := "law.go:88", after := #[{ on := 5, ground := .data }, { on := 6, ground := .data }], guard := none }) (v := _) rfl (by as_aux_lemma => kernel_rfl) (by as_aux_lemma => kernel_rfl) (by as_aux_lemma => kernel_rfl) (fun _ _ _ h => h) (Or.inl ⟨by kernel_rfl, by (intro w hSw; (try dsimp only at hSw); go_simp; first | done | with_reducible rfl)⟩) (by assumption) ?_
      (try simp only [List.getElem_toArray, List.getElem_cons_succ, List.getElem_cons_zero, Act.put, List.setIfInBounds_toArray, List.set_cons_zero, List.set_cons_succ])
      refine wpAnyH_take (i := 8) (oi := { dst := some 25, op := .load 31 (.tmp 24), type := 31, pos := "law.go:88", after := #[{ on := 7, ground := .data }], guard := none }) (v := _) rfl (by as_aux_lemma => kernel_rfl) (by as_aux_lemma => kernel_rfl) (by as_aux_lemma => kernel_rfl) (fun _ _ _ h => h) (Or.inl ⟨by kernel_rfl, by (intro w hSw; (try dsimp only at hSw); go_simp; first | done | with_reducible rfl)⟩) (by assumption) ?_
      (try simp only [List.getElem_toArray, List.getElem_cons_succ, List.getElem_cons_zero, Act.put, List.setIfInBounds_toArray, List.set_cons_zero, List.set_cons_succ])
      refine wpAnyH_ready (rs := [4]) (by as_aux_lemma => kernel_rfl) (by simp) (AllReadyH.cons rfl (fun K hK => ?_) AllReadyH.nil)
      try simp only [List.getElem_toArray, List.getElem_cons_succ, List.getElem_cons_zero]
      go_simp
      go_at_call 21
      change Calls _ _ #[.agg (attV qa qA qn qc)] _ _
      refine C1.out.mono ?_
      rintro e w2 ⟨A', c', rfl, ho, hb⟩
      have HB2 : Hid (Below w.heap.size w w2) := Lib.hid (HK1.out.trans (hb.mono HK1.out.size))
      have SB := KS.out _ HB2.out
      have C3 := Lib.hid (C2.out w2 A' c' HB2.out (Reads.of_own ho))
      clear ho hb C2
      unfold attV
      go_simp
      refine hK.out _ _ (by first | exact SA | exact SB | exact SC) (fun hHeld => ?_)
      clear hK K
      (try simp only [List.getElem_toArray, List.getElem_cons_succ, List.getElem_cons_zero, Act.put, List.setIfInBounds_toArray, List.set_cons_zero, List.set_cons_succ])
      refine wpAnyH_ready (rs := [9]) (by as_aux_lemma => kernel_rfl) (by simp) (AllReadyH.cons rfl (fun K hK => ?_) AllReadyH.nil)
      try simp only [List.getElem_toArray, List.getElem_cons_succ, List.getElem_cons_zero]
      go_simp
      go_at_call 20
      change Calls _ _ #[.agg (attV qa A' qn c'), .agg (attV qa rA rn rc)] _ _
      refine C3.out.mono ?_
      rintro e w3 ⟨rfl, hb⟩
      have HB3 : Hid (Below w.heap.size w w3) := Lib.hid (HB2.out.trans (hb.mono HB2.out.size))
      have SC := KS.out _ HB3.out
      clear hb C3
      go_simp
      refine hK.out _ _ (by first | exact SA | exact SB | exact SC) (fun hHeld => ?_)
      clear hK K
      (try simp only [List.getElem_toArray, List.getElem_cons_succ, List.getElem_cons_zero, Act.put, List.setIfInBounds_toArray, List.set_cons_zero, List.set_cons_succ])
      refine wpAnyH_take (i := 10) (oi := { dst := some 27, op := .unOp UnOp.not 4 (.tmp 26), type := 4, pos := "law.go:88", after := #[{ on := 9, ground := .data }], guard := none }) (v := _) rfl (by as_aux_lemma => kernel_rfl) (by as_aux_lemma => kernel_rfl) (by as_aux_lemma => kernel_rfl) (fun _ _ _ h => h) (Or.inl ⟨by kernel_rfl, by (intro w hSw; (try dsimp only at hSw); go_simp; first | done | with_reducible rfl)⟩) (by assumption) ?_
      (try simp only [List.getElem_toArray, List.getElem_cons_succ, List.getElem_cons_zero, Act.put, List.setIfInBounds_toArray, List.set_cons_zero, List.set_cons_succ])
      refine wpAnyH_done (by as_aux_lemma => kernel_rfl) ?_ _
      clear SA SB SC
      go_wp2
      go_roundw
      case rel => exact ⟨k + 1, by omega, by go_num, HB3⟩
      case measure => simp [intOf]; omega
    · obtain rfl : k = n := by omega
      go_wp2
      go_ret
      exact ⟨rfl, HK.out⟩
end Go.Proofs.YtpfccicahfncbaaDoor
namespace Go.Proofs.YtpfccicahfncbaaDoor
open Go.RowKit Wir
set_option linter.unusedVariables false
set_option linter.unusedSimpArgs false
set_option maxRecDepth 100000 in
set_option maxHeartbeats 2000000 in
theorem rattStrm_any (A : Option Addr) (n c : Nat) (M : List AttM) (w : World) (B : Nat) (hr : Reads w B 7 A n (attsV M)) (hM : AllRd w B M) (hT : Tabs w) (hz : ∀ q ∈ M, q.a.sized ∧ q.n ≤ 4611686018427387904) (hB : B ≤ w.heap.size) (hn : n ≤ 4611686018427387904) :
    Calls Tryd.prog 8 #[.slice A n c] w fun e w' => e = .returned (.tuple #[.string (strR (M.map (·.a))).1, .int .i64 (strR (M.map (·.a))).2]) ∧ Below w.heap.size w w' := by
  have HR := Lib.hid hr
  have HM := Lib.hid hM
  have HZ := Lib.hid hz
  have HT := Lib.hid hT
  have HL := Lib.hid hr.attLen
  have HLm : Hid ((M.map (·.a)).length = n) := Lib.hid (by rw [List.length_map]; exact hr.attLen)
  clear hr hM hz hT
  by_cases hbad : n < 1 ∨ 257 < n
  · have E : Hid (strR (M.map (·.a)) = (ByteArray.empty, 1)) := Lib.hid (by rw [strR, HLm.out, if_pos hbad])
    have hb' : n < 1 ∨ (1 ≤ n ∧ 257 < n) := by omega
    clear hbad
    go_enter Tryd.func8, Tryd.ntmps8
    rcases hb' with h | ⟨h, h'⟩
    all_goals
      go_wp2
      go_ret2
      exact ⟨by rw [E.out]; rfl, Below.refl _ _⟩
  · have h1 : 1 ≤ n := by omega
    have h2 : n ≤ 257 := by omega
    have E : Hid (strR (M.map (·.a)) = strF (bs (putL n)) (M.map (·.a))) := Lib.hid (by rw [strR, HLm.out, if_neg hbad])
    clear hbad
    have PU := Lib.hid (rput_any ⟨#[]⟩ n w (by omega) (by decide))
    have ep : (⟨#[]⟩ : ByteArray) ++ bs (putL n) = bs (putL n) := ByteArray.empty_append
    rw [ep] at PU
    have hz0 : (bs (putL n)).size ≤ 10 := put_small n
    obtain ⟨s0, hs0⟩ : ∃ s0, bs (putL n) = s0 := ⟨_, rfl⟩
    rw [hs0] at PU E hz0
    clear ep hs0
    have g1 : decide ((n : Int) < 1) = false := by rw [decide_eq_false_iff_not]; omega
    have g2 : decide (257 < (n : Int)) = false := by rw [decide_eq_false_iff_not]; omega
    go_enter Tryd.func8, Tryd.ntmps8
    go_wp2_with fail
    (with_reducible refine PU.out.mono ?_)
    rintro e w1 ⟨rfl, hb1⟩
    have HB1 := Lib.hid hb1
    clear hb1 PU
    go_wp2_with fail
    go_loopw [4, 5] (fun v i wr => ∃ (k : Nat) (t : ByteArray), k ≤ n ∧ i = .int .i64 k ∧ v = .string t ∧ t.size ≤ 10 + 80010 * k ∧ Hid (strR (M.map (·.a)) = strF t ((M.map (·.a)).drop k)) ∧ Hid (Below w.heap.size w wr)) (fun _ i _ => n - (intOf i).toNat)
    case atStart => exact ⟨0, s0, by omega, rfl, rfl, by omega, Lib.hid (by rw [List.drop_zero]; exact E.out), HB1⟩
    case round =>
      obtain ⟨k, t, hk, rfl, rfl, ht, HX, HK⟩ := hrel
      by_cases hlt : k < n
      · obtain ⟨ad, hkl, rfl, hbl, hcl⟩ := atts_cells HR.out k hlt
        have hkm : k < (M.map (·.a)).length := by rw [HLm.out]; exact hlt
        have HS := Lib.hid (HX.out.trans (strF_step t (M.map (·.a)) k hkm))
        rw [List.getElem_map] at HS
        obtain ⟨⟨sz1, sz2, sz3⟩, sz4⟩ := HZ.out _ (List.getElem_mem hkl)
        have hrd := HM.out _ (List.getElem_mem hkl)
        have HRD := Lib.hid hrd
        have HCL : Hid (∀ W, Below w.heap.size w W → ∀ j, j < 7 → W.cell? ((ad.add (k * 7)).add j) = (M[k]).v[j]?) := Lib.hid (fun W hW j hj => by
          rw [hW.cell (by rw [block_of_add, block_of_add]; omega)]; exact hcl j hj)
        obtain ⟨q, hq⟩ : ∃ q, M[k] = q := ⟨_, rfl⟩
        rw [hq] at HCL HS sz1 sz2 sz3 sz4 HRD
        obtain ⟨c0, c1, c2, c3, c4, c5, c6⟩ := seven_cells (HCL.out _ HK.out)
        have SZ3 := Lib.hid sz3
        have SZ1 := Lib.hid sz1
        clear hq hcl hkm hrd sz3 sz1 HX
        have hki : (k : Int) < (n : Int) := by omega
        have P2 := Lib.hid (rattChk_any q.a q.A q.n q.c wr B (HRD.out.below (HK.out.mono hB)) (Utf8Tabs_below HT.out HK.out) (Nat.le_trans hB HK.out.size) SZ1.out sz4 (by omega) (fun p hp => ⟨Nat.le_trans (SZ3.out p hp).1 (by omega), Nat.le_trans (SZ3.out p hp).2 (by omega)⟩))
        go_wp2_with fail
        change Calls _ _ #[.agg (attV q.a q.A q.n q.c)] _ _
        (with_reducible refine P2.out.mono ?_)
        rintro e w3 ⟨rfl, hb3⟩
        have HB3 : Hid (Below w.heap.size w w3) := Lib.hid (HK.out.trans (hb3.mono HK.out.size))
        clear hb3 P2 c0 c1 c2 c3 c4 c5 c6
        by_cases hch : chkA q.a = 0
        · have HY : Hid (strR (M.map (·.a)) = strF (t ++ txL (layA q.a)) ((M.map (·.a)).drop (k + 1))) := Lib.hid (by rw [HS.out, if_pos hch])
          have hl := layA_size hch
          have P3 := Lib.hid (rattLaid_any q.a q.A q.n q.c w3 B (HRD.out.below (HB3.out.mono hB)) (Nat.le_trans hB HB3.out.size) hch)
          rw [hch]
          clear hch HS
          generalize layA q.a = u at *
          obtain ⟨c0, c1, c2, c3, c4, c5, c6⟩ := seven_cells (HCL.out _ HB3.out)
          go_wp2_with fail
          change Calls _ _ #[.agg (attV q.a q.A q.n q.c)] _ _
          (with_reducible refine P3.out.mono ?_)
          rintro e w5 ⟨rfl, hb5⟩
          have HB5 : Hid (Below w.heap.size w w5) := Lib.hid (HB3.out.trans (hb5.mono HB3.out.size))
          have T := Lib.hid (rputText_any t u w5 (by omega) (by omega))
          have hx := txL_size u
          have hz2 : (t ++ txL u).size ≤ 10 + 80010 * (k + 1) := by rw [ByteArray.size_append]; omega
          clear hx hb5 P3 c0 c1 c2 c3 c4 c5 c6
          go_wp2_with fail
          (with_reducible refine T.out.mono ?_)
          rintro e w4 ⟨rfl, hb4⟩
          have HB4 := Lib.hid (HB5.out.trans (hb4.mono HB5.out.size))
          clear hb4 T
          go_wp2
          go_roundw
          case rel => exact ⟨k + 1, t ++ txL u, by omega, by go_num, rfl, hz2, HY, HB4⟩
          case measure => simp [intOf]; omega
        · have HY : Hid (strR (M.map (·.a)) = (ByteArray.empty, 1)) := Lib.hid (by rw [HS.out, if_neg hch])
          have hc1 : chkA q.a = 1 := by rcases chkA_or q.a with h | h; exact absurd h hch; exact h
          rw [hc1]
          clear hch hc1 HS
          go_wp2
          go_ret2
          exact ⟨by rw [HY.out]; rfl, HB3.out⟩
      · obtain rfl : k = n := by omega
        have HY : Hid (strR (M.map (·.a)) = (t, 0)) := Lib.hid (by rw [HX.out, List.drop_of_length_le (by rw [HLm.out]; exact Nat.le_refl _)]; rfl)
        go_wp2
        go_ret2
        exact ⟨by rw [HY.out]; rfl, HK.out⟩
end Go.Proofs.YtpfccicahfncbaaDoor
namespace Go.Proofs.YtpfccicahfncbaaDoor
open Go.RowKit Wir
set_option linter.unusedVariables false
set_option linter.unusedSimpArgs false
/-- A text of more than 2^20 bytes is no set of attributes. -/
theorem rs_text (r : ByteArray) : (txB r 1048576 = true ∧ (rdR (txT r 1048576)).2 = 0) ↔ (txB r r.size = true ∧ (rdR (txT r r.size)).2 = 0) := by
  have e1 : txB r 1048576 = decide (0 ≤ (short (byteAt r) r.size).2 ∧ (short (byteAt r) r.size).1 ≤ 1048576 ∧ (short (byteAt r) r.size).1 + (short (byteAt r) r.size).2.toNat ≤ r.size) := rfl
  have e2 : txB r r.size = decide (0 ≤ (short (byteAt r) r.size).2 ∧ (short (byteAt r) r.size).1 ≤ r.size ∧ (short (byteAt r) r.size).1 + (short (byteAt r) r.size).2.toNat ≤ r.size) := rfl
  constructor
  · rintro ⟨h1, h2⟩
    have h3 : txB r r.size = true := by rw [e1, decide_eq_true_eq] at h1; rw [e2, decide_eq_true_eq]; omega
    refine ⟨h3, ?_⟩
    have : txT r r.size = txT r 1048576 := by unfold txT; rw [if_pos h1, if_pos h3]
    rw [this]; exact h2
  · rintro ⟨h1, h2⟩
    have hb := (rdR_back h2).2
    have hc := layA_size (rdR_back h2).1
    rw [hb] at hc
    have h1' := h1
    rw [e2, decide_eq_true_eq] at h1'
    have ht : (txT r r.size).size = (short (byteAt r) r.size).1 := by
      unfold txT
      rw [if_pos h1, ByteArray.size_extract]; omega
    have h3 : txB r 1048576 = true := by rw [e1, decide_eq_true_eq]; omega
    refine ⟨h3, ?_⟩
    have : txT r r.size = txT r 1048576 := by unfold txT; rw [if_pos h1, if_pos h3]
    rw [← this]; exact h2
theorem rs_texts (r : ByteArray) (h : txB r 1048576 = true ∧ (rdR (txT r 1048576)).2 = 0) : txS r 1048576 = txS r r.size ∧ txT r 1048576 = txT r r.size := by
  have h2 := ((rs_text r).1 h).1
  exact ⟨by unfold txS; rw [if_pos h.1, if_pos h2], by unfold txT; rw [if_pos h.1, if_pos h2]⟩
/-- The lists of all of them are rows of the call's own. -/
def RAllOwn (w : World) (base : Nat) (M : List AttM) : Prop := ∀ q ∈ M, w.ownsRow base 60 2 (.slice q.A q.n q.c) q.n (xtV q.a.xs)
theorem RAllOwn.rd {w : World} {base : Nat} {M : List AttM} (h : RAllOwn w base M) : AllRd w w.heap.size M := fun q hq => Reads.of_own (h q hq)
theorem RAllOwn.below {w w' : World} {base : Nat} {M : List AttM} (h : RAllOwn w base M) (hb : Below w.heap.size w w') : RAllOwn w' base M := fun q hq => own_below (h q hq) hb
theorem RAllOwn.push {w : World} {base : Nat} {M : List AttM} {q : AttM} (h : RAllOwn w base M) (hq : w.ownsRow base 60 2 (.slice q.A q.n q.c) q.n (xtV q.a.xs)) : RAllOwn w base (M ++ [q]) := fun x hx => by
  rcases List.mem_append.1 hx with h' | h'
  · exact h x h'
  · rw [List.mem_singleton] at h'; subst h'; exact hq
theorem elemRAt : ElemN Tryd.prog 22 31 (.agg (attV zAtt none 0 0)) 7 64 := ElemN.of (by kernel_rfl) (by kernel_rfl) rfl (by omega)
/-- What holds at the head of the loop. -/
structure RRsI (w wr : World) (R : Nat) (r : ByteArray) (v : Value) (M : List AttM) : Prop where
  rd : RRdr wr R r
  row : wr.ownsRow w.heap.size 31 7 v M.length (attsV M)
  all : RAllOwn wr w.heap.size M
  below : Below w.heap.size w wr
  lo : w.heap.size ≤ R
theorem RRsI.text {w wr w' : World} {R : Nat} {r r' : ByteArray} {v : Value} {M : List AttM} (h : RRsI w wr R r v M) (hr : RRdr w' R r') (hg : wr.grownBy w' (some R)) : RRsI w w' R r' v M :=
  ⟨hr, h.row.kept hg (.inr (own_blk_ne h.row h.rd (by decide))), fun q hq => (h.all q hq).kept hg (.inr (own_blk_ne (h.all q hq) h.rd (by decide))), h.below.grown hg h.below.size (fun k e => by injection e with e; rw [← e]; exact h.lo), h.lo⟩
theorem RRsI.mono {w wr w' : World} {R : Nat} {r : ByteArray} {v : Value} {M : List AttM} (h : RRsI w wr R r v M) (hb : Below wr.heap.size wr w') : RRsI w w' R r v M :=
  ⟨Blk.below h.rd hb h.rd.lt, own_below h.row hb, h.all.below hb, h.below.trans (hb.mono h.below.size), h.lo⟩
theorem RRsI.push {w wr w' : World} {R : Nat} {r : ByteArray} {v v' : Value} {M : List AttM} {q : AttM} (h : RRsI w wr R r v M) (hq : wr.ownsRow w.heap.size 60 2 (.slice q.A q.n q.c) q.n (xtV q.a.xs))
    (ho : w'.ownsRow w.heap.size 31 7 v' (M.length + 1) (attsV M ++ q.v)) (hg : wr.grownBy w' v.ownBlock) : RRsI w w' R r v' (M ++ [q]) := by
  have hne : ∀ b, v.ownBlock = some b → w.heap.size ≤ b := fun b e => (h.row.lt b e).1
  refine ⟨Blk.grown h.rd hg (fun e => own_blk_ne h.row h.rd (by decide) e.symm), ?_, fun x hx => ?_, h.below.grown hg h.below.size hne, h.lo⟩
  · rw [List.length_append, attsV_app]
    show w'.ownsRow _ _ _ _ _ (attsV M ++ (q.v ++ []))
    rw [List.append_nil]; exact ho
  · exact own_keep (RAllOwn.push h.all hq x hx) h.row (by decide) hg
set_option maxRecDepth 100000 in
set_option maxHeartbeats 1000000 in
theorem rattRStr_any (s : ByteArray) (w : World) (hT : Tabs w) (hs : s.size ≤ 140737488355328) :
    Calls Tryd.prog 10 #[.string s] w fun e w' => ∃ v M, e = .returned (.tuple #[v, .int .i64 (rsR s).2]) ∧ M.map (·.a) = (rsR s).1 ∧ w'.ownsRow w.heap.size 31 7 v M.length (attsV M) ∧ RAllOwn w' w.heap.size M ∧ (∀ q ∈ M, chkA q.a = 0 ∧ q.n ≤ 16) ∧ Below w.heap.size w w' := by
  obtain ⟨nn, hnn⟩ : ∃ nn, (short (byteAt s) s.size).1 = nn := ⟨_, rfl⟩
  have h64 := short_64 s
  rw [hnn] at h64
  have HN := Lib.hid hnn
  have HU := Lib.hid (uintS_size s)
  have HT := Lib.hid hT
  clear hT
  go_enter Tryd.func10, Tryd.ntmps10
  clear hnn
  go_upto_region 2 with fail
  have H1 : Hid (RRdr (w.alloc (.cells #[.string s] 74)) w.heap.size s ∧ Below w.heap.size w (w.alloc (.cells #[.string s] 74))) := Lib.hid ⟨Blk.new _ _ _, (Below.refl _ _).alloc (Nat.le_refl _) _⟩
  generalize w.alloc (.cells #[.string s] 74) = w1 at H1 ⊢
  have U := Lib.hid (ruint_g s w.heap.size w1 H1.out.1 (by omega))
  rw [HN.out] at U
  go_wp2_with fail
  (with_reducible refine U.out.mono ?_)
  rintro e w2 ⟨rfl, hr2, hg2⟩
  have HB2 : Hid (Below w.heap.size w w2) := Lib.hid (H1.out.2.grown hg2 H1.out.2.size (fun k e => by injection e with e; omega))
  have HI2 : Hid (RRsI w w2 w.heap.size (uintS s) (.slice none 0 0) []) := Lib.hid ⟨hr2, World.ownsRow_nil _ _ _ _, (fun q hq => by cases hq), HB2.out, Nat.le_refl _⟩
  clear hr2 hg2 U H1
  obtain ⟨ue, hue⟩ : ∃ ue, uintE s = ue := ⟨_, rfl⟩
  have HR0 : Hid (rsR s = if ue = 0 ∧ 1 ≤ nn ∧ nn ≤ 257 then rsE (rsF nn (uintS s) []) else ([], 4)) := Lib.hid (by rw [rsR, hue, HN.out])
  rw [hue]
  clear hue
  by_cases hok : ue = 0 ∧ 1 ≤ nn ∧ nn ≤ 257
  · obtain ⟨rfl, h1, h2⟩ := hok
    have HR1 : Hid (rsR s = rsE (rsF nn (uintS s) [])) := Lib.hid (by rw [HR0.out, if_pos ⟨rfl, h1, h2⟩])
    have g1 : decide ((nn : Int) < 1) = false := by rw [decide_eq_false_iff_not]; omega
    have g2 : decide (257 < (nn : Int)) = false := by rw [decide_eq_false_iff_not]; omega
    clear HR0
    go_wp2_with fail
    go_loopw [7, 8] (fun v i wr => ∃ (k : Nat) (r : ByteArray) (M : List AttM), k ≤ nn ∧ i = .int .u64 k ∧ M.length = k ∧ Hid (rsR s = rsE (rsF (nn - k) r (M.map (·.a)))) ∧ r.size ≤ s.size ∧ Hid (∀ q ∈ M, chkA q.a = 0 ∧ q.n ≤ 16) ∧ Hid (RRsI w wr w.heap.size r v M)) (fun _ i _ => nn - (intOf i).toNat)
    case atStart => exact ⟨0, uintS s, [], by omega, rfl, rfl, HR1, HU.out, Lib.hid (fun q hq => by cases hq), HI2⟩
    case round =>
      obtain ⟨k, r, M, hk, rfl, hML, HX, hrs, HQ, HI⟩ := hrel
      have HML := Lib.hid hML
      clear hML
      by_cases hlt : k < nn
      · have TX := Lib.hid (rtext_g r w.heap.size 1048576 wr HI.out.rd (by omega) (by omega))
        rw [show ((1048576 : Nat) : Int) = 1048576 from rfl] at TX
        have HXn : Hid (¬ (txB r 1048576 = true ∧ (rdR (txT r 1048576)).2 = 0) → rsR s = ([], 4)) := Lib.hid (fun h => by rw [HX.out, show nn - k = (nn - (k + 1)) + 1 from by omega, rsF, if_neg (fun hh => h ((rs_text r).2 hh))]; rfl)
        have HXy : Hid (txB r 1048576 = true ∧ (rdR (txT r 1048576)).2 = 0 → rsR s = rsE (rsF (nn - (k + 1)) (txS r 1048576) (M.map (·.a) ++ [(rdR (txT r 1048576)).1]))) := Lib.hid (fun h => by rw [HX.out, show nn - k = (nn - (k + 1)) + 1 from by omega, rsF, if_pos ((rs_text r).1 h), ← (rs_texts r h).1, ← (rs_texts r h).2])
        have hts := txT_size r 1048576
        have hss := txS_size r 1048576
        have ET : Hid (txE r 1048576 = if txB r 1048576 = true then 0 else 4) := Lib.hid rfl
        obtain ⟨t, htt⟩ : ∃ t, txT r 1048576 = t := ⟨_, rfl⟩
        obtain ⟨r', hrr⟩ : ∃ r', txS r 1048576 = r' := ⟨_, rfl⟩
        obtain ⟨tb, htb⟩ : ∃ tb, txB r 1048576 = tb := ⟨_, rfl⟩
        obtain ⟨te, hte⟩ : ∃ te, txE r 1048576 = te := ⟨_, rfl⟩
        rw [htt, hte, hrr] at TX
        rw [htt, htb] at HXn HXy
        rw [hrr] at HXy
        rw [htb, hte] at ET
        rw [htt] at hts
        rw [hrr] at hss
        clear htt hrr htb hte HX
        have hki : (k : Int) < (nn : Int) := by omega
        go_wp2_with fail
        (with_reducible refine TX.out.mono ?_)
        rintro e w4 ⟨rfl, hr4, hg4⟩
        have HI4 := Lib.hid (HI.out.text hr4 hg4)
        clear hr4 hg4 TX HI
        have RD := Lib.hid (rattRead_any t w4 (Utf8Tabs_below HT.out HI4.out.below) (by omega))
        have HQA : Hid ((rdR t).2 = 0 → chkA (rdR t).1 = 0) := Lib.hid (fun h => by
          rcases rdR_or t with ⟨h1, e⟩ | ⟨h1, e⟩
          · rw [e]; exact rdOK_chk h1
          · rw [e] at h; cases h)
        generalize rdR t = p at RD HQA HXn HXy
        obtain ⟨qa, f⟩ := p
        dsimp only at RD HQA HXn HXy
        go_wp2_with fail
        (with_reducible refine RD.out.mono ?_)
        rintro e w5 ⟨A5, n5, c5, rfl, ho5, hb5⟩
        have HO5 : Hid (w5.ownsRow w.heap.size 60 2 (.slice A5 n5 c5) n5 (xtV qa.xs)) := Lib.hid (own_base ho5 HI4.out.below.size)
        have HI5 : Hid (RRsI w w5 w.heap.size r' u7 M) := Lib.hid (HI4.out.mono hb5)
        have BN : Hid (Blk (w5.alloc (.cells (attV qa A5 n5 c5) 31)) w5.heap.size 31 (attV qa A5 n5 c5) ∧ RRsI w (w5.alloc (.cells (attV qa A5 n5 c5) 31)) w.heap.size r' u7 M ∧ (w5.alloc (.cells (attV qa A5 n5 c5) 31)).ownsRow w.heap.size 60 2 (.slice A5 n5 c5) n5 (xtV qa.xs)) := Lib.hid ⟨Blk.new _ _ _, HI5.out.mono ((Below.refl _ _).alloc (Nat.le_refl _) _), HO5.out.alloc _⟩
        clear ho5 hb5 RD HI4 HO5 HI5
        unfold attV
        go_upto_region 11 with fail
        change Code.wp _ _ _ _ (w5.alloc (.cells (attV qa A5 n5 c5) 31))
        generalize w5.alloc (.cells (attV qa A5 n5 c5) 31) = w6 at BN ⊢
        generalize w5.heap.size = ab at BN ⊢
        by_cases hgood : tb = true ∧ f = 0
        · obtain ⟨rfl, rfl⟩ := hgood
          have HXs := Lib.hid (HXy.out ⟨rfl, rfl⟩)
          have HQs := Lib.hid (HQA.out rfl)
          have hte0 : te = 0 := ET.out
          subst hte0
          clear HXn HXy HQA ET
          obtain ⟨c0, c1, c2, c3, c4, c5', c6⟩ := ratt_cells qa A5 n5 c5 w6 _ BN.out.1
          have hle := BN.out.2.1.below.size
          go_wp2_with (at_builtin; refine appendN_new elemRAt rfl _ _ rfl w.heap.size u7 M.length _ (by rfl) BN.out.2.1.row (attV qa A5 n5 c5) rfl (by rfl) (by intro u hu; exact attsV_one [⟨qa, A5, n5, c5⟩] u (by simpa [attsV, AttM.v] using hu)) (by rw [HML.out]; omega) (by rw [HML.out]; omega) hle ?_; intro v' w' ho hg hd; clear hd; have HK' := Lib.hid (BN.out.2.1.push (q := ⟨qa, A5, n5, c5⟩) BN.out.2.2 ho hg); clear ho hg)
          go_roundw
          case rel => exact ⟨k + 1, r', M ++ [⟨qa, A5, n5, c5⟩], by omega, by go_num, by rw [List.length_append, HML.out]; rfl, Lib.hid (by rw [HXs.out, List.map_append]; rfl), by omega, Lib.hid (fun q hq => by
            rcases List.mem_append.1 hq with h | h
            · exact HQ.out q h
            · rw [List.mem_singleton] at h
              subst h
              have h1 := chk_len HQs.out
              have h2 := (Reads.of_own BN.out.2.2).xtLen
              exact ⟨HQs.out, by show n5 ≤ 16; omega⟩), HK'⟩
          case measure => simp [intOf]; omega
        · have HXs := Lib.hid (HXn.out hgood)
          have hbad : te = 4 ∨ (te = 0 ∧ f ≠ 0) := by
            have := ET.out
            cases tb with
            | false => exact .inl this
            | true => exact .inr ⟨this, fun h => hgood ⟨rfl, h⟩⟩
          clear hgood HXn HXy HQA ET
          rcases hbad with rfl | ⟨rfl, hf⟩
          · go_wp2
            go_ret2
            exact ⟨.slice none 0 0, [], by rw [HXs.out]; rfl, by rw [HXs.out]; rfl, World.ownsRow_nil _ _ _ _, (fun q hq => by cases hq), (fun q hq => by cases hq), BN.out.2.1.below⟩
          · have hfb : (f != 0) = true := by rw [bne_iff_ne]; exact hf
            clear hf
            go_wp2
            go_ret2
            exact ⟨.slice none 0 0, [], by rw [HXs.out]; rfl, by rw [HXs.out]; rfl, World.ownsRow_nil _ _ _ _, (fun q hq => by cases hq), (fun q hq => by cases hq), BN.out.2.1.below⟩
      · obtain rfl : k = nn := by omega
        have HXe : Hid (rsR s = rsE (some (M.map (·.a), r))) := Lib.hid (by rw [HX.out, Nat.sub_self]; rfl)
        have EN := Lib.hid (rrend_any r w.heap.size wr HI.out.rd)
        clear HX
        by_cases hr0 : r.size = 0
        · have hen : endE r = 0 := if_pos hr0
          have HXs : Hid (rsR s = (M.map (·.a), 0)) := Lib.hid (by rw [HXe.out, rsE, if_pos hr0])
          rw [hen] at EN
          clear hen hr0 HXe
          go_wp2_with fail
          (with_reducible refine EN.out.mono ?_)
          rintro e w3 ⟨rfl, rfl⟩
          go_wp2
          go_ret2
          exact ⟨u7, M, by rw [HXs.out]; rfl, by rw [HXs.out], HI.out.row, HI.out.all, HQ.out, HI.out.below⟩
        · have hen : endE r = 4 := if_neg hr0
          have HXs : Hid (rsR s = ([], 4)) := Lib.hid (by rw [HXe.out, rsE, if_neg hr0])
          rw [hen] at EN
          clear hen hr0 HXe
          go_wp2_with fail
          (with_reducible refine EN.out.mono ?_)
          rintro e w3 ⟨rfl, rfl⟩
          go_wp2
          go_ret2
          exact ⟨.slice none 0 0, [], by rw [HXs.out]; rfl, by rw [HXs.out]; rfl, World.ownsRow_nil _ _ _ _, (fun q hq => by cases hq), (fun q hq => by cases hq), HI.out.below⟩
  · have HR1 : Hid (rsR s = ([], 4)) := Lib.hid (by rw [HR0.out, if_neg hok])
    clear HR0
    have hue : ue = 0 ∨ ue ≠ 0 := by omega
    rcases hue with rfl | hue
    · have hb : nn < 1 ∨ (1 ≤ nn ∧ 257 < nn) := by omega
      clear hok
      rcases hb with h | ⟨h, h'⟩
      · have g1 : decide ((nn : Int) < 1) = true := by rw [decide_eq_true_eq]; omega
        go_wp2
        go_ret2
        exact ⟨.slice none 0 0, [], by rw [HR1.out]; rfl, by rw [HR1.out]; rfl, World.ownsRow_nil _ _ _ _, (fun q hq => by cases hq), (fun q hq => by cases hq), HB2.out⟩
      · have g1 : decide ((nn : Int) < 1) = false := by rw [decide_eq_false_iff_not]; omega
        have g2 : decide (257 < (nn : Int)) = true := by rw [decide_eq_true_eq]; omega
        go_wp2
        go_ret2
        exact ⟨.slice none 0 0, [], by rw [HR1.out]; rfl, by rw [HR1.out]; rfl, World.ownsRow_nil _ _ _ _, (fun q hq => by cases hq), (fun q hq => by cases hq), HB2.out⟩
    · have hub : (ue != 0) = true := by rw [bne_iff_ne]; exact hue
      clear hue hok
      go_wp2
      go_ret2
      exact ⟨.slice none 0 0, [], by rw [HR1.out]; rfl, by rw [HR1.out]; rfl, World.ownsRow_nil _ _ _ _, (fun q hq => by cases hq), (fun q hq => by cases hq), HB2.out⟩
end Go.Proofs.YtpfccicahfncbaaDoor
namespace Go.Proofs.YtpfccicahfncbaaDoor
open Go.RowKit Wir
set_option linter.unusedVariables false
set_option linter.unusedSimpArgs false
def awkA : Att := ⟨1, 420, 1000, 100, 5, ⟨#[]⟩, []⟩
def awkB : ByteArray := ⟨#[1, 164, 3, 232, 7, 100, 5, 0]⟩
theorem awk_chk : chkA awkA = 0 := by
  refine chkA_ok ?_ ?_ rfl
  · decide +kernel
  · decide +kernel
theorem awk_put : putR awkA = awkB := by
  rw [putR, if_pos awk_chk]
  have h : (layA awkA).data.toList = awkB.data.toList := by decide +kernel
  exact ByteArray.ext (Array.ext' h)
theorem attAwake_any (w : World) : Calls Tryd.prog 13 #[] w fun e w' => e = .returned (.bool true) ∧ Below w.heap.size w w' := by
  have P := Lib.hid (fun W => attPut_any awkA none 0 0 W W.heap.size Reads.none_ (Nat.le_refl _) ⟨by decide, by decide⟩ (by omega) (by decide) (fun p hp => by cases hp))
  rw [awk_put, awk_chk] at P
  go_enter Tryd.func13, Tryd.ntmps13
  go_wp2_with fail
  change Calls _ _ #[.agg (attV awkA none 0 0)] _ _
  (with_reducible refine (P.out _).mono ?_)
  rintro e w1 ⟨rfl, hb1⟩
  have HB := Lib.hid hb1
  clear hb1 P
  unfold awkB
  go_wp2
  go_ret
  exact ⟨rfl, HB.out⟩
end Go.Proofs.YtpfccicahfncbaaDoor
