/- Several texts of the claim joined into one (part 5): plain facts and walks. No conditions but those that each theorem tells. -/
import Derived.Test.YtfoandpcoakcjaaSaidMParityTablesUpto
import Derived.Test.YtfoandpcoakcjaaPaylMParityTablesUpto
import Derived.Test.YtfoandpcoakcjaaMgParityTablesUpto3
import Derived.Test.YtfoandpcoakcjaaMgParityTablesUpto2
import Derived.Test.YtfoandpcoakcjaaTxt
import Derived.Lib.IndexLaws
import Derived.Lib.Strings
namespace Go.Proofs.Ytfoandpcoakcjaa
open Go.RowKit Wir
set_option linter.unusedVariables false
set_option linter.unusedSimpArgs false
theorem unF_small (s p r : ByteArray) (h : unF s = some (p, r)) : p.size ≤ s.size ∧ r.size ≤ s.size := by
  unfold unF at h
  split at h
  · cases h
  · split at h
    · cases h
    · split at h
      · cases h
      · injection h with h
        injection h with h1 h2
        subst h1 h2
        simp only [ByteArray.size_extract]
        omega
set_option maxRecDepth 100000 in
set_option maxHeartbeats 2000000 in
theorem rdecode17_any (s : ByteArray) (w : World) (hs : s.size ≤ 140737488355328) :
    Calls Try.prog 11 #[.string s] w fun e w' => ∃ v, e = .returned (.tuple #[.agg (tblA (decR s).1 v), .int .i64 (decR s).2]) ∧ w'.ownsRow w.heap.size 27 32 v (decR s).1.ids.length (idsV (decR s).1.ids) ∧ Below w.heap.size w w' := by
  have H0 : Hid (Blk (w.alloc (.cells (tblA zTbl (.slice none 0 0)) 25)) w.heap.size 25 (tblA zTbl (.slice none 0 0)) ∧ Below w.heap.size w (w.alloc (.cells (tblA zTbl (.slice none 0 0)) 25)) ∧ w.heap.size < (w.alloc (.cells (tblA zTbl (.slice none 0 0)) 25)).heap.size) := Lib.hid ⟨Blk.new _ _ _, (Below.refl _ _).alloc (Nat.le_refl _) _, by simp⟩
  have U := Lib.hid (fun W => runframe_any s W hs)
  have UF := unF_small s
  go_enter Try.func11, Try.ntmps11
  go_upto_region 1 with fail
  change Code.wp _ _ _ _ (w.alloc (.cells (tblA zTbl (.slice none 0 0)) 25))
  generalize w.alloc (.cells (tblA zTbl (.slice none 0 0)) 25) = w0 at H0 ⊢
  cases hu : unF s with
  | none =>
    rw [unV_none hu] at U
    have HS := Lib.hid (decR_none hu)
    clear hu UF
    go_wp2_with fail
    (with_reducible refine (U.out _).mono ?_)
    rintro e w1 ⟨rfl, hb1⟩
    have HB : Hid (Blk w1 w.heap.size 25 (tblA zTbl (.slice none 0 0)) ∧ Below w.heap.size w w1) := Lib.hid ⟨H0.out.1.below hb1 H0.out.2.2, H0.out.2.1.trans (hb1.mono H0.out.2.1.size)⟩
    clear hb1 U H0
    obtain ⟨z0, z1, z2, z3⟩ := tbl_cells HB.out.1
    have g0 : ∀ i, w1.frozen? ⟨w.heap.size, i, none⟩ = false := fun i => HB.out.1.frozen i
    have HZ : Hid (Blk (set4 w1 w.heap.size (.int .i64 0) (.int .i64 0) (.int .i64 0) (.slice none 0 0)) w.heap.size 25 (tblA zTbl (.slice none 0 0)) ∧ Below w.heap.size w (set4 w1 w.heap.size (.int .i64 0) (.int .i64 0) (.int .i64 0) (.slice none 0 0))) := Lib.hid ⟨set4_blk HB.out.1 _ _ _ _, set4_below HB.out.2 (Nat.le_refl _) _ _ _ _⟩
    go_wp2
    exact bodyPost_ret (results_tbl (p := 2) (u := 3) rfl _ _ w.heap.size 25 (tblA zTbl (.slice none 0 0)) (0, 0) rfl HZ.out.1 Try.underlying25 (by kernel_rfl)) rfl ⟨.slice none 0 0, by rw [HS.out]; rfl, by rw [HS.out]; exact World.ownsRow_nil _ _ _ _, HZ.out.2⟩
  | some x =>
    obtain ⟨p, r⟩ := x
    obtain ⟨hp, hr⟩ := UF p r hu
    rw [unV_some hu] at U
    have HS := Lib.hid (decR_some hu)
    have S := Lib.hid (fun W => rpayload_any p W (by omega))
    clear hu UF
    go_wp2_with fail
    (with_reducible refine (U.out _).mono ?_)
    rintro e w1 ⟨rfl, hb1⟩
    have HB : Hid (Blk w1 w.heap.size 25 (tblA zTbl (.slice none 0 0)) ∧ Below w.heap.size w w1 ∧ w.heap.size < w1.heap.size) := Lib.hid ⟨H0.out.1.below hb1 H0.out.2.2, H0.out.2.1.trans (hb1.mono H0.out.2.1.size), Nat.lt_of_lt_of_le H0.out.2.2 hb1.size⟩
    clear hb1 U H0
    by_cases h0 : r.size = 0
    · have hrn : r = ⟨#[]⟩ := by
        have : r.data.size = 0 := h0
        exact ByteArray.ext (Array.eq_empty_of_size_eq_zero this)
      subst hrn
      rw [if_pos (show (⟨#[]⟩ : ByteArray).size = 0 from rfl)] at HS
      clear h0
      go_wp2_with fail
      (with_reducible refine (S.out _).mono ?_)
      rintro e w2 ⟨v, rfl, ho2, hb2⟩
      obtain ⟨Av, cv, rfl, hRv⟩ := own_reads ho2
      clear hRv
      generalize hsr : sayR p = q at *
      obtain ⟨t, ok⟩ := q
      dsimp only at *
      have HC : Hid (Blk (w2.alloc (.cells (tblA t (.slice Av t.ids.length cv)) 25)) w.heap.size 25 (tblA zTbl (.slice none 0 0)) ∧ Blk (w2.alloc (.cells (tblA t (.slice Av t.ids.length cv)) 25)) w2.heap.size 25 (tblA t (.slice Av t.ids.length cv)) ∧ (w2.alloc (.cells (tblA t (.slice Av t.ids.length cv)) 25)).ownsRow w.heap.size 27 32 (.slice Av t.ids.length cv) t.ids.length (idsV t.ids) ∧ Below w.heap.size w (w2.alloc (.cells (tblA t (.slice Av t.ids.length cv)) 25))) := Lib.hid (by
        have b := HB.out.2.1.trans (hb2.mono HB.out.2.1.size)
        exact ⟨(HB.out.1.below hb2 HB.out.2.2).alloc _, Blk.new _ _ _, (own_base ho2 HB.out.2.1.size).alloc _, b.alloc b.size _⟩)
      clear ho2 hb2 S HB hsr
      unfold tblA
      go_upto_region 5 with fail
      change Code.wp _ _ _ _ (w2.alloc (.cells (tblA t (.slice Av t.ids.length cv)) 25))
      generalize w2.alloc (.cells (tblA t (.slice Av t.ids.length cv)) 25) = w3 at HC ⊢
      generalize w2.heap.size = tb at HC ⊢
      obtain ⟨z0, z1, z2, z3⟩ := tbl_cells HC.out.1
      have g0 : ∀ i, w3.frozen? ⟨w.heap.size, i, none⟩ = false := fun i => HC.out.1.frozen i
      cases ok with
      | true =>
        rw [if_pos rfl] at HS
        obtain ⟨t0, t1, t2, t3⟩ := tbl_cells HC.out.2.1
        have HZ : Hid (Blk (set4 w3 w.heap.size (.int .i64 t.da) (.int .i64 t.pa) (.int .i64 t.sz) (.slice Av t.ids.length cv)) w.heap.size 25 (tblA t (.slice Av t.ids.length cv)) ∧ Below w.heap.size w (set4 w3 w.heap.size (.int .i64 t.da) (.int .i64 t.pa) (.int .i64 t.sz) (.slice Av t.ids.length cv)) ∧ (set4 w3 w.heap.size (.int .i64 t.da) (.int .i64 t.pa) (.int .i64 t.sz) (.slice Av t.ids.length cv)).ownsRow w.heap.size 27 32 (.slice Av t.ids.length cv) t.ids.length (idsV t.ids)) := Lib.hid ⟨set4_blk HC.out.1 _ _ _ _, set4_below HC.out.2.2.2 (Nat.le_refl _) _ _ _ _, HC.out.2.2.1.kept (set4_grown _ _ _ _ _ _) (.inr (own_blk_ne HC.out.2.2.1 HC.out.1 (by decide)))⟩
        go_wp2
        exact bodyPost_ret (results_tbl (p := 2) (u := 3) rfl _ _ w.heap.size 25 (tblA t (.slice Av t.ids.length cv)) (0, 0) rfl HZ.out.1 Try.underlying25 (by kernel_rfl)) rfl ⟨.slice Av t.ids.length cv, by rw [HS.out]; rfl, by rw [HS.out]; exact HZ.out.2.2, HZ.out.2.1⟩
      | false =>
        rw [if_neg (by decide)] at HS
        have HZ : Hid (Blk (set4 w3 w.heap.size (.int .i64 0) (.int .i64 0) (.int .i64 0) (.slice none 0 0)) w.heap.size 25 (tblA zTbl (.slice none 0 0)) ∧ Below w.heap.size w (set4 w3 w.heap.size (.int .i64 0) (.int .i64 0) (.int .i64 0) (.slice none 0 0))) := Lib.hid ⟨set4_blk HC.out.1 _ _ _ _, set4_below HC.out.2.2.2 (Nat.le_refl _) _ _ _ _⟩
        go_wp2
        exact bodyPost_ret (results_tbl (p := 2) (u := 3) rfl _ _ w.heap.size 25 (tblA zTbl (.slice none 0 0)) (0, 0) rfl HZ.out.1 Try.underlying25 (by kernel_rfl)) rfl ⟨.slice none 0 0, by rw [HS.out]; rfl, by rw [HS.out]; exact World.ownsRow_nil _ _ _ _, HZ.out.2⟩
    · rw [if_neg h0] at HS
      have hrb : (r.toList == (⟨#[]⟩ : ByteArray).toList) = false := by
        rw [beq_eq_false_iff_ne]
        intro h
        rw [ByteArray.toList_eq, ByteArray.toList_eq] at h
        have : r = ⟨#[]⟩ := ByteArray.ext (Array.ext' h)
        exact h0 (by rw [this]; rfl)
      have hrn : ¬ r = ⟨#[]⟩ := fun h => h0 (by rw [h]; rfl)
      have hre : r.toList.isEmpty = false := by
        cases hx : r.toList.isEmpty with
        | false => rfl
        | true =>
          rw [List.isEmpty_iff, ByteArray.toList_eq] at hx
          exact absurd (ByteArray.ext (Array.ext' hx)) hrn
      clear h0
      obtain ⟨z0, z1, z2, z3⟩ := tbl_cells HB.out.1
      have g0 : ∀ i, w1.frozen? ⟨w.heap.size, i, none⟩ = false := fun i => HB.out.1.frozen i
      have HZ : Hid (Blk (set4 w1 w.heap.size (.int .i64 0) (.int .i64 0) (.int .i64 0) (.slice none 0 0)) w.heap.size 25 (tblA zTbl (.slice none 0 0)) ∧ Below w.heap.size w (set4 w1 w.heap.size (.int .i64 0) (.int .i64 0) (.int .i64 0) (.slice none 0 0))) := Lib.hid ⟨set4_blk HB.out.1 _ _ _ _, set4_below HB.out.2.1 (Nat.le_refl _) _ _ _ _⟩
      go_wp2
      exact bodyPost_ret (results_tbl (p := 2) (u := 3) rfl _ _ w.heap.size 25 (tblA zTbl (.slice none 0 0)) (0, 0) rfl HZ.out.1 Try.underlying25 (by kernel_rfl)) rfl ⟨.slice none 0 0, by rw [HS.out]; rfl, by rw [HS.out]; exact World.ownsRow_nil _ _ _ _, HZ.out.2⟩
set_option maxRecDepth 100000 in
set_option maxHeartbeats 2000000 in
theorem decode17_any (s : ByteArray) (w : World) (hs : s.size ≤ 140737488355328) :
    Calls Try.prog 12 #[.string s] w fun e w' => ∃ v, e = .returned (.tuple #[.agg (tblA (decR s).1 v), .int .i64 (decR s).2]) ∧ w'.ownsRow w.heap.size 27 32 v (decR s).1.ids.length (idsV (decR s).1.ids) ∧ Below w.heap.size w w' := by
  have H0 : Hid (Blk (w.alloc (.cells (tblA zTbl (.slice none 0 0)) 29)) w.heap.size 29 (tblA zTbl (.slice none 0 0)) ∧ Below w.heap.size w (w.alloc (.cells (tblA zTbl (.slice none 0 0)) 29)) ∧ w.heap.size < (w.alloc (.cells (tblA zTbl (.slice none 0 0)) 29)).heap.size) := Lib.hid ⟨Blk.new _ _ _, (Below.refl _ _).alloc (Nat.le_refl _) _, by simp⟩
  have U := Lib.hid (fun W => unframe_any s W hs)
  have UF := unF_small s
  go_enter Try.func12, Try.ntmps12
  go_upto_region 1 with fail
  change Code.wp _ _ _ _ (w.alloc (.cells (tblA zTbl (.slice none 0 0)) 29))
  generalize w.alloc (.cells (tblA zTbl (.slice none 0 0)) 29) = w0 at H0 ⊢
  cases hu : unF s with
  | none =>
    rw [unV_none hu] at U
    have HS := Lib.hid (decR_none hu)
    clear hu UF
    go_wp2_with fail
    (with_reducible refine (U.out _).mono ?_)
    rintro e w1 ⟨rfl, hb1⟩
    have HB : Hid (Blk w1 w.heap.size 29 (tblA zTbl (.slice none 0 0)) ∧ Below w.heap.size w w1) := Lib.hid ⟨H0.out.1.below hb1 H0.out.2.2, H0.out.2.1.trans (hb1.mono H0.out.2.1.size)⟩
    clear hb1 U H0
    obtain ⟨z0, z1, z2, z3⟩ := tbl_cells HB.out.1
    have g0 : ∀ i, w1.frozen? ⟨w.heap.size, i, none⟩ = false := fun i => HB.out.1.frozen i
    have HZ : Hid (Blk (set4 w1 w.heap.size (.int .i64 0) (.int .i64 0) (.int .i64 0) (.slice none 0 0)) w.heap.size 29 (tblA zTbl (.slice none 0 0)) ∧ Below w.heap.size w (set4 w1 w.heap.size (.int .i64 0) (.int .i64 0) (.int .i64 0) (.slice none 0 0))) := Lib.hid ⟨set4_blk HB.out.1 _ _ _ _, set4_below HB.out.2 (Nat.le_refl _) _ _ _ _⟩
    go_wp2
    exact bodyPost_ret (results_tbl (p := 2) (u := 3) rfl _ _ w.heap.size 29 (tblA zTbl (.slice none 0 0)) (0, 0) rfl HZ.out.1 Try.underlying29 (by kernel_rfl)) rfl ⟨.slice none 0 0, by rw [HS.out]; rfl, by rw [HS.out]; exact World.ownsRow_nil _ _ _ _, HZ.out.2⟩
  | some x =>
    obtain ⟨p, r⟩ := x
    obtain ⟨hp, hr⟩ := UF p r hu
    rw [unV_some hu] at U
    have HS := Lib.hid (decR_some hu)
    have S := Lib.hid (fun W => said_any p W (by omega))
    clear hu UF
    go_wp2_with fail
    (with_reducible refine (U.out _).mono ?_)
    rintro e w1 ⟨rfl, hb1⟩
    have HB : Hid (Blk w1 w.heap.size 29 (tblA zTbl (.slice none 0 0)) ∧ Below w.heap.size w w1 ∧ w.heap.size < w1.heap.size) := Lib.hid ⟨H0.out.1.below hb1 H0.out.2.2, H0.out.2.1.trans (hb1.mono H0.out.2.1.size), Nat.lt_of_lt_of_le H0.out.2.2 hb1.size⟩
    clear hb1 U H0
    by_cases h0 : r.size = 0
    · have hrn : r = ⟨#[]⟩ := by
        have : r.data.size = 0 := h0
        exact ByteArray.ext (Array.eq_empty_of_size_eq_zero this)
      subst hrn
      rw [if_pos (show (⟨#[]⟩ : ByteArray).size = 0 from rfl)] at HS
      clear h0
      go_wp2_with fail
      (with_reducible refine (S.out _).mono ?_)
      rintro e w2 ⟨v, rfl, ho2, hb2⟩
      obtain ⟨Av, cv, rfl, hRv⟩ := own_reads ho2
      clear hRv
      generalize hsr : sayR p = q at *
      obtain ⟨t, ok⟩ := q
      dsimp only at *
      have HC : Hid (Blk (w2.alloc (.cells (tblA t (.slice Av t.ids.length cv)) 29)) w.heap.size 29 (tblA zTbl (.slice none 0 0)) ∧ Blk (w2.alloc (.cells (tblA t (.slice Av t.ids.length cv)) 29)) w2.heap.size 29 (tblA t (.slice Av t.ids.length cv)) ∧ (w2.alloc (.cells (tblA t (.slice Av t.ids.length cv)) 29)).ownsRow w.heap.size 27 32 (.slice Av t.ids.length cv) t.ids.length (idsV t.ids) ∧ Below w.heap.size w (w2.alloc (.cells (tblA t (.slice Av t.ids.length cv)) 29))) := Lib.hid (by
        have b := HB.out.2.1.trans (hb2.mono HB.out.2.1.size)
        exact ⟨(HB.out.1.below hb2 HB.out.2.2).alloc _, Blk.new _ _ _, (own_base ho2 HB.out.2.1.size).alloc _, b.alloc b.size _⟩)
      clear ho2 hb2 S HB hsr
      unfold tblA
      go_upto_region 5 with fail
      change Code.wp _ _ _ _ (w2.alloc (.cells (tblA t (.slice Av t.ids.length cv)) 29))
      generalize w2.alloc (.cells (tblA t (.slice Av t.ids.length cv)) 29) = w3 at HC ⊢
      generalize w2.heap.size = tb at HC ⊢
      obtain ⟨z0, z1, z2, z3⟩ := tbl_cells HC.out.1
      have g0 : ∀ i, w3.frozen? ⟨w.heap.size, i, none⟩ = false := fun i => HC.out.1.frozen i
      cases ok with
      | true =>
        rw [if_pos rfl] at HS
        obtain ⟨t0, t1, t2, t3⟩ := tbl_cells HC.out.2.1
        have HZ : Hid (Blk (set4 w3 w.heap.size (.int .i64 t.da) (.int .i64 t.pa) (.int .i64 t.sz) (.slice Av t.ids.length cv)) w.heap.size 29 (tblA t (.slice Av t.ids.length cv)) ∧ Below w.heap.size w (set4 w3 w.heap.size (.int .i64 t.da) (.int .i64 t.pa) (.int .i64 t.sz) (.slice Av t.ids.length cv)) ∧ (set4 w3 w.heap.size (.int .i64 t.da) (.int .i64 t.pa) (.int .i64 t.sz) (.slice Av t.ids.length cv)).ownsRow w.heap.size 27 32 (.slice Av t.ids.length cv) t.ids.length (idsV t.ids)) := Lib.hid ⟨set4_blk HC.out.1 _ _ _ _, set4_below HC.out.2.2.2 (Nat.le_refl _) _ _ _ _, HC.out.2.2.1.kept (set4_grown _ _ _ _ _ _) (.inr (own_blk_ne HC.out.2.2.1 HC.out.1 (by decide)))⟩
        go_wp2
        exact bodyPost_ret (results_tbl (p := 2) (u := 3) rfl _ _ w.heap.size 29 (tblA t (.slice Av t.ids.length cv)) (0, 0) rfl HZ.out.1 Try.underlying29 (by kernel_rfl)) rfl ⟨.slice Av t.ids.length cv, by rw [HS.out]; rfl, by rw [HS.out]; exact HZ.out.2.2, HZ.out.2.1⟩
      | false =>
        rw [if_neg (by decide)] at HS
        have HZ : Hid (Blk (set4 w3 w.heap.size (.int .i64 0) (.int .i64 0) (.int .i64 0) (.slice none 0 0)) w.heap.size 29 (tblA zTbl (.slice none 0 0)) ∧ Below w.heap.size w (set4 w3 w.heap.size (.int .i64 0) (.int .i64 0) (.int .i64 0) (.slice none 0 0))) := Lib.hid ⟨set4_blk HC.out.1 _ _ _ _, set4_below HC.out.2.2.2 (Nat.le_refl _) _ _ _ _⟩
        go_wp2
        exact bodyPost_ret (results_tbl (p := 2) (u := 3) rfl _ _ w.heap.size 29 (tblA zTbl (.slice none 0 0)) (0, 0) rfl HZ.out.1 Try.underlying29 (by kernel_rfl)) rfl ⟨.slice none 0 0, by rw [HS.out]; rfl, by rw [HS.out]; exact World.ownsRow_nil _ _ _ _, HZ.out.2⟩
    · rw [if_neg h0] at HS
      have hrb : (r.toList == (⟨#[]⟩ : ByteArray).toList) = false := by
        rw [beq_eq_false_iff_ne]
        intro h
        rw [ByteArray.toList_eq, ByteArray.toList_eq] at h
        have : r = ⟨#[]⟩ := ByteArray.ext (Array.ext' h)
        exact h0 (by rw [this]; rfl)
      have hrn : ¬ r = ⟨#[]⟩ := fun h => h0 (by rw [h]; rfl)
      have hre : r.toList.isEmpty = false := by
        cases hx : r.toList.isEmpty with
        | false => rfl
        | true =>
          rw [List.isEmpty_iff, ByteArray.toList_eq] at hx
          exact absurd (ByteArray.ext (Array.ext' hx)) hrn
      clear h0
      obtain ⟨z0, z1, z2, z3⟩ := tbl_cells HB.out.1
      have g0 : ∀ i, w1.frozen? ⟨w.heap.size, i, none⟩ = false := fun i => HB.out.1.frozen i
      have HZ : Hid (Blk (set4 w1 w.heap.size (.int .i64 0) (.int .i64 0) (.int .i64 0) (.slice none 0 0)) w.heap.size 29 (tblA zTbl (.slice none 0 0)) ∧ Below w.heap.size w (set4 w1 w.heap.size (.int .i64 0) (.int .i64 0) (.int .i64 0) (.slice none 0 0))) := Lib.hid ⟨set4_blk HB.out.1 _ _ _ _, set4_below HB.out.2.1 (Nat.le_refl _) _ _ _ _⟩
      go_wp2
      exact bodyPost_ret (results_tbl (p := 2) (u := 3) rfl _ _ w.heap.size 29 (tblA zTbl (.slice none 0 0)) (0, 0) rfl HZ.out.1 Try.underlying29 (by kernel_rfl)) rfl ⟨.slice none 0 0, by rw [HS.out]; rfl, by rw [HS.out]; exact World.ownsRow_nil _ _ _ _, HZ.out.2⟩
end Go.Proofs.Ytfoandpcoakcjaa
namespace Go.Proofs.Ytfoandpcoakcjaa
open Go.RowKit
set_option linter.unusedVariables false
attribute [local go_sem ↓] execOp_ld32 execOp_st32 execOp_ld16 execOp_st16
attribute [local go_sem] run_ld32 run_st32 run_ld16 run_st16
/-- All digits good, and an even number of them. -/
def uhG (s : ByteArray) : Prop := s.size % 2 = 0 ∧ ∀ j, j < s.size → 0 ≤ dvB (byteAt s j)
/-- What Unhex tells. -/
def UhR (s u : ByteArray) (e : Int) : Prop := (uhG s ∧ u = bs (unL s (s.size / 2)) ∧ e = 0) ∨ (¬ uhG s ∧ u = { data := #[] } ∧ e = 4)
theorem and1 (n : Nat) (h : n < 9223372036854775808) : bits .and .i64 (n : Int) 1 = ((n % 2 : Nat) : Int) := by
  have hx : n &&& 1 < 2 ^ 63 := Nat.and_lt_two_pow _ (by omega)
  show IntKind.i64.wrap ((BitVec.ofInt 64 (n : Int) &&& BitVec.ofInt 64 1).toNat : Int) = _
  rw [BitVec.toNat_and, show (BitVec.ofInt 64 (n : Int)).toNat = n from by rw [BitVec.ofInt_natCast, BitVec.toNat_ofNat]; exact Nat.mod_eq_of_lt (by omega), show (BitVec.ofInt 64 1).toNat = 1 from rfl, Nat.and_one_is_mod]
  exact IntWalk.i64_in _ (by omega)
set_option maxRecDepth 100000 in
set_option maxHeartbeats 0 in
theorem unhex_any (s : ByteArray) (w : World) (hs : s.size ≤ 140737488351232) :
    Calls Try.prog 65 #[.string s] w fun e w' => (∃ u k, e = .returned (.tuple #[.string u, .int .i64 k]) ∧ UhR s u k) ∧ Below w.heap.size w w' := by
  have ht : Try.prog.underlying 141 = some (.array 16 5) := by kernel_rfl
  have hall : ∀ N W, (Instr.sliceAt 141 (.pointer (some ⟨N, 0, none⟩)) none none none).run Try.prog W = .ok (.slice (some ⟨N, 0, none⟩) 16 16) W := fun N W => by
    obtain ⟨i, hi⟩ := Option.isSome_iff_exists.1 (show (Try.prog.info? 5).isSome = true by kernel_rfl)
    exact run_all_array (P := Try.prog) W (t := 141) (n := 16) ht hi _
  clear ht
  go_enter Try.func65, Try.ntmps65
  go_wp2_with fail
  refine (digits_any _).mono ?_; rintro e w1 ⟨rfl, hb⟩
  obtain ⟨h1, h2, h3, h4⟩ := dig_new w1
  have f1 := dgA_full digF
  have H1 := Lib.hid (And.intro h2 (And.intro h3 hb))
  clear h2 h3 h4 hb
  unfold z16 at h1
  go_upto_region 2 with fail
  change Code.wp _ _ _ _ (put16 (w1.alloc z16) w1.heap.size 0 (dgA digF))
  have R1 : Hid (Below w.heap.size w (put16 (w1.alloc z16) w1.heap.size 0 (dgA digF))) := Lib.hid (H1.out.2.2.trans (H1.out.2.1.mono H1.out.2.2.size))
  generalize put16 (w1.alloc z16) w1.heap.size 0 (dgA digF) = w2 at H1 R1 ⊢
  obtain ⟨D, hD⟩ : ∃ D, w1.heap.size = D := ⟨_, rfl⟩
  rw [hD] at H1 ⊢
  clear hD h1 f1
  have RC : Hid (∀ j, j < 16 → w2.cell? (({ block := D, off := 0 } : Addr).add j) = some (.int .u8 ((((List.range 16).map digF).getD j 0).toNat : Int))) := Lib.hid (fun j hj => by
    rw [add0, H1.out.1.cell hj]; simp [u8V, List.getD, hj])
  have L16 : Hid (((List.range 16).map digF).length = 16) := Lib.hid (by simp)
  obtain ⟨dl, hdl⟩ : ∃ dl, (List.range 16).map digF = dl := ⟨_, rfl⟩
  have DS : bs dl = digS := by rw [← hdl]; rfl
  rw [hdl] at RC L16
  clear hdl
  obtain ⟨n, hn⟩ : ∃ n, s.size = n := ⟨_, rfl⟩
  have hand := and1 n (by omega)
  by_cases hodd : n % 2 = 1
  · have hG : Hid (¬ uhG s) := Lib.hid (fun h => by have := h.1; omega)
    rw [hodd] at hand
    have hand1 : bits .and .i64 (n : Int) 1 = 1 := hand
    rw [← hn] at hand1
    clear hand hn
    go_wp2_with (with_reducible refine conv_str_wp (e := 5) (by kernel_rfl) (by kernel_rfl) (by kernel_rfl) rfl _ rfl ⟨D, 0, none⟩ 16 16 rfl dl L16.out RC.out ?_)
    go_ret2
    exact ⟨⟨_, _, rfl, .inr ⟨hG.out, rfl, rfl⟩⟩, R1.out⟩
  rw [show n % 2 = 0 by omega] at hand
  have hand1 : bits .and .i64 (n : Int) 1 = 0 := hand
  obtain ⟨m, hm⟩ : ∃ m, n = 2 * m := ⟨n / 2, by omega⟩
  have hmi : (n : Int) / 2 = (m : Int) := by omega
  have hn0 : (n : Int) = (s.size : Int) := by omega
  rw [hn0] at hand1 hmi
  have hm2 : m ≤ 70368744175616 := by omega
  have HN : Hid (s.size = 2 * m) := Lib.hid (by omega)
  clear hand hn0 hn
  go_wp2_with (first
    | (with_reducible refine conv_str_wp (e := 5) (by kernel_rfl) (by kernel_rfl) (by kernel_rfl) rfl _ rfl ⟨D, 0, none⟩ 16 16 rfl dl L16.out RC.out ?_)
    | (with_reducible refine make0_wp elemByte rfl _ _ rfl w2.heap.size _ .i64 (m : Int) m rfl rfl rfl (by omega) (by omega) (Nat.le_refl _) ?_; intro v0 w3 ho3 hg3))
  have I3 : Hid (w3.ownsRow w2.heap.size 5 1 v0 0 (u8s (unL s 0)) ∧ Below w.heap.size w w3 ∧ w.heap.size ≤ w2.heap.size ∧ w2.heap.size ≤ w3.heap.size) := Lib.hid ⟨ho3, below_grown R1.out hg3 (fun g hg => by cases hg), R1.out.size, hg3.size⟩
  clear ho3 hg3 RC L16 H1
  obtain ⟨base, hbase⟩ : ∃ base, w2.heap.size = base := ⟨_, rfl⟩
  rw [hbase] at I3
  clear hbase R1 hmi hand1
  try rw [DS]
  clear DS
  generalize hdg : digS = dg at *
  have HGD := Lib.hid hdg
  clear hdg hodd
  subst hm
  go_loopw [7, 6] (fun i v wr => ∃ k : Nat, k ≤ m ∧ i = .int .i64 ((2 * k : Nat) : Int) ∧ Hid (wr.ownsRow base 5 1 v k (u8s (unL s k)) ∧ Below w.heap.size w wr ∧ w.heap.size ≤ base ∧ base ≤ wr.heap.size) ∧ Hid (∀ j, j < 2 * k → 0 ≤ dvB (byteAt s j))) (fun i _ _ => 2 * m - (intOf i).toNat)
  case atStart => exact ⟨0, by omega, rfl, I3, Lib.hid (fun j hj => absurd hj (by omega))⟩
  case round =>
    obtain ⟨k, hk, rfl, HR, HJ⟩ := hrel
    obtain ⟨q, hq⟩ : ∃ q, 2 * k = q := ⟨_, rfl⟩
    rw [hq]
    by_cases hlt : k < m
    · have hsz2 := HN.out
      have hqs : q < s.size := by omega
      have hqs1 : q + 1 < s.size := by omega
      obtain ⟨x, hx⟩ : ∃ x, byteAt s q = x := ⟨_, rfl⟩
      obtain ⟨y, hy⟩ : ∃ y, byteAt s (q + 1) = y := ⟨_, rfl⟩
      obtain ⟨d1, hd1⟩ : ∃ d, dvB x = d := ⟨_, rfl⟩
      obtain ⟨d2, hd2⟩ : ∃ d, dvB y = d := ⟨_, rfl⟩
      have C1 : ∀ W, Calls Try.prog 97 #[.string dg, .int .u8 (x.toNat : Int)] W fun e w' => e = .returned (.int .i64 d1) ∧ W = w' := fun W => by
        rw [← hd1, ← HGD.out]; exact strIdx_any digS _ W
      have C2 : ∀ W, Calls Try.prog 97 #[.string dg, .int .u8 (y.toNat : Int)] W fun e w' => e = .returned (.int .i64 d2) ∧ W = w' := fun W => by
        rw [← hd2, ← HGD.out]; exact strIdx_any digS _ W
      have g1 : s[q] = x := (byteAt_get s q hqs).trans hx
      have g2 : s[q + 1] = y := (byteAt_get s (q + 1) hqs1).trans hy
      have hqi : (q : Int) < (s.size : Int) := by omega
      have hqi1 : (q : Int) + 1 < (s.size : Int) := by omega
      have hq2 : (q : Int) + 2 = ((2 * (k + 1) : Nat) : Int) := by omega
      have z1 := dvB_lt x
      have z2 := dvB_lt y
      rw [hd1] at z1
      rw [hd2] at z2
      clear hsz2
      have HX := Lib.hid (And.intro (hx ▸ hd1 : dvB (byteAt s q) = d1) (hy ▸ hd2 : dvB (byteAt s (q + 1)) = d2))
      clear hx hy hd1 hd2
      go_wp2_with fail
      go_quiet (first | exact quiet_left (C1 _) | exact quiet_left (C2 _) | exact quiet_add_left (C1 _) | exact quiet_add_left (C2 _))
      clear C1 C2
      by_cases hb1 : d1 < 0
      · have hG : Hid (¬ uhG s) := Lib.hid (fun h => by have := h.2 q hqs; rw [HX.out.1] at this; omega)
        have BL := Lib.hid HR.out.2.1
        go_wp2
        go_ret2
        exact ⟨⟨_, _, rfl, .inr ⟨hG.out, rfl, rfl⟩⟩, below_drewN BL.out nq⟩
      by_cases hb2 : d2 < 0
      · have hG : Hid (¬ uhG s) := Lib.hid (fun h => by have := h.2 (q + 1) hqs1; rw [HX.out.2] at this; omega)
        have BL := Lib.hid HR.out.2.1
        go_wp2
        go_ret2
        exact ⟨⟨_, _, rfl, .inr ⟨hG.out, rfl, rfl⟩⟩, below_drewN BL.out nq⟩
      obtain ⟨dd, rfl⟩ : ∃ dd : Nat, d1 = (dd : Int) := ⟨d1.toNat, by omega⟩
      obtain ⟨l, rfl⟩ : ∃ l : Nat, d2 = (l : Int) := ⟨d2.toNat, by omega⟩
      have h16 : dd < 16 := by omega
      have l16 : l < 16 := by omega
      have HV : Hid (unL s (k + 1) = unL s k ++ [UInt8.ofNat (16 * dd + l)]) := Lib.hid (by
        rw [unL_succ, hq]; unfold hv; rw [HX.out.1, HX.out.2]; rfl)
      have HJ' : Hid (∀ j, j < 2 * (k + 1) → 0 ≤ dvB (byteAt s j)) := Lib.hid (fun j hj => by
        rcases Nat.lt_or_ge j (2 * k) with h | h
        · exact HJ.out j h
        · have : j = q ∨ j = q + 1 := by omega
          rcases this with rfl | rfl
          · rw [HX.out.1]; omega
          · rw [HX.out.2]; omega)
      have OR := or4 dd h16 l l16
      have OWN := Lib.hid (own_drewN HR.out.1 nq)
      have hle := HR.out.2.2.2
      have hle' : base ≤ (wr.drewN nq).heap.size := hle
      have hNN : wr.heap.size = (wr.drewN nq).heap.size := rfl
      have hk1 : k ≤ 4611686018427387904 := by omega
      have hk2 : (k + 1) * 1 ≤ 140737488355328 := by omega
      go_wp2_with (with_reducible refine append1_at elemByte rfl _ _ rfl base u6 k (u8s (unL s k)) rfl OWN.out _ wr.heap.size rfl hNN rfl hk1 hk2 hle' ?_; intro v' w' ho' hg')
      have HR' : Hid (w'.ownsRow base 5 1 v' (k + 1) (u8s (unL s (k + 1))) ∧ Below w.heap.size w w' ∧ w.heap.size ≤ base ∧ base ≤ w'.heap.size) := Lib.hid (by
        refine ⟨?_, below_grown (below_drewN HR.out.2.1 nq) hg' (fun g hg => by have := own_ge HR.out.1 _ hg; have := HR.out.2.2.1; omega), HR.out.2.2.1, Nat.le_trans HR.out.2.2.2 hg'.size⟩
        rw [HV.out]
        have e : u8s (unL s k ++ [UInt8.ofNat (16 * dd + l)]) = u8s (unL s k) ++ [.int .u8 (16 * (dd : Int) + (l : Int))] := by
          simp only [u8s, List.map_append, List.map_cons, List.map_nil]
          congr 3
          rw [UInt8.toNat_ofNat']; omega
        rw [e]
        exact ho')
      clear ho' hg'
      go_wp2
      go_roundw
      case rel => exact ⟨k + 1, by omega, by have := hq2; first | (congr 1; omega) | congr 1, HR', HJ'⟩
      case measure => simp [intOf]; omega
    · obtain rfl : k = m := by omega
      have hG : Hid (uhG s) := Lib.hid ⟨by have := HN.out; omega, fun j hj => HJ.out j (by have := HN.out; omega)⟩
      have EU : Hid (bs (unL s (s.size / 2)) = bs (unL s k)) := Lib.hid (by rw [HN.out, Nat.mul_div_cancel_left _ (by omega)])
      obtain ⟨A, c, rfl, hrd⟩ := own_reads HR.out.1
      have BL := Lib.hid HR.out.2.1
      have ULN := Lib.hid (unL_len s k)
      have hqe : (q : Int) = (s.size : Int) := by have := HN.out; omega
      rw [hqe]
      by_cases h0 : k = 0
      · subst h0
        have HE : Hid (unL s 0 = []) := Lib.hid rfl
        rcases A with _ | ad
        · have hcn : ∀ W, (convert 58 9 (.slice none 0 c)).run Try.prog W = .ok (.string { data := #[] }) W := fun W => by
            simp [convert, Conv.bytesToString, go_sem]; rfl
          go_wp2
          go_ret2
          exact ⟨⟨_, _, rfl, .inl ⟨hG.out, by rw [EU.out, HE.out]; rfl, rfl⟩⟩, BL.out⟩
        · go_wp2_with (with_reducible refine conv_str_wp (e := 5) (by kernel_rfl) (by kernel_rfl) (by kernel_rfl) rfl _ rfl ad 0 c rfl [] rfl (fun j hj => absurd hj (by omega)) ?_)
          go_ret2
          exact ⟨⟨_, _, rfl, .inl ⟨hG.out, by rw [EU.out, HE.out], rfl⟩⟩, BL.out⟩
      · obtain ⟨ad, rfl, _, hcell⟩ := reads_u8 hrd (by omega)
        have HC := Lib.hid hcell
        clear hcell
        go_wp2_with (with_reducible refine conv_str_wp (e := 5) (by kernel_rfl) (by kernel_rfl) (by kernel_rfl) rfl _ rfl ad k c rfl (unL s k) ULN.out HC.out ?_)
        go_ret2
        exact ⟨⟨_, _, rfl, .inl ⟨hG.out, by rw [EU.out], rfl⟩⟩, BL.out⟩
end Go.Proofs.Ytfoandpcoakcjaa
namespace Go.Proofs.Ytfoandpcoakcjaa
open Go.RowKit
set_option linter.unusedVariables false
/-- What a digit says; 16: it is none. -/
def dgB (c : UInt8) : Nat := if 48 ≤ c.toNat ∧ c.toNat ≤ 57 then c.toNat - 48 else if 97 ≤ c.toNat ∧ c.toNat ≤ 102 then c.toNat - 87 else 16
theorem dg_dv : ∀ c : UInt8, dvB c = if dgB c = 16 then -1 else (dgB c : Int) := by
  have h : ∀ n : Nat, n < 256 → dvB (UInt8.ofNat n) = if dgB (UInt8.ofNat n) = 16 then -1 else (dgB (UInt8.ofNat n) : Int) := by decide +kernel
  intro c
  have := h c.toNat c.toNat_lt
  rwa [UInt8.ofNat_toNat] at this
theorem dgB_le (c : UInt8) : dgB c ≤ 16 := by
  have := c.toNat_lt
  unfold dgB
  split
  · omega
  · split <;> omega
theorem rdigit_any (c : UInt8) (w : World) :
    Calls Try.prog 92 #[.int .u8 (c.toNat : Int)] w fun e w' => e = .returned (.int .u8 ((dgB c : Nat) : Int)) ∧ w = w' := by
  have hc := c.toNat_lt
  obtain ⟨n, hn⟩ : ∃ n, c.toNat = n := ⟨_, rfl⟩
  obtain ⟨d, hd⟩ : ∃ d, dgB c = d := ⟨_, rfl⟩
  have hd' : d = if 48 ≤ n ∧ n ≤ 57 then n - 48 else if 97 ≤ n ∧ n ≤ 102 then n - 87 else 16 := by rw [← hd, ← hn]; rfl
  rw [hn, hd]
  rw [hn] at hc
  clear hn hd
  by_cases h1 : 48 ≤ n
  · by_cases h2 : n ≤ 57
    · have e1 : (48 : Int) ≤ (n : Int) := by omega
      have e2 : (n : Int) ≤ 57 := by omega
      have ED : Hid (d = n - 48) := Lib.hid (by rw [hd', if_pos ⟨h1, h2⟩])
      clear hd'
      go_enter Try.func92, Try.ntmps92
      go_wp2
      go_ret
      refine ⟨?_, rfl⟩
      rw [ED.out]
      show Ending.returned (.int .u8 _) = _
      congr 2
      omega
    · have e1 : (48 : Int) ≤ (n : Int) := by omega
      have e2 : ¬ (n : Int) ≤ 57 := by omega
      by_cases h3 : 97 ≤ n
      · by_cases h4 : n ≤ 102
        · have e3 : (97 : Int) ≤ (n : Int) := by omega
          have e4 : (n : Int) ≤ 102 := by omega
          have ED : Hid (d = n - 87) := Lib.hid (by rw [hd', if_neg (by omega), if_pos ⟨h3, h4⟩])
          clear hd'
          go_enter Try.func92, Try.ntmps92
          go_wp2
          go_ret
          refine ⟨?_, rfl⟩
          rw [ED.out]
          show Ending.returned (.int .u8 _) = _
          congr 2
          omega
        · have e3 : (97 : Int) ≤ (n : Int) := by omega
          have e4 : ¬ (n : Int) ≤ 102 := by omega
          have ED : Hid (d = 16) := Lib.hid (by rw [hd', if_neg (by omega), if_neg (by omega)])
          clear hd'
          go_enter Try.func92, Try.ntmps92
          go_wp2
          go_ret
          exact ⟨by rw [ED.out]; rfl, rfl⟩
      · have e3 : ¬ (97 : Int) ≤ (n : Int) := by omega
        have ED : Hid (d = 16) := Lib.hid (by rw [hd', if_neg (by omega), if_neg (by omega)])
        clear hd'
        go_enter Try.func92, Try.ntmps92
        go_wp2
        go_ret
        exact ⟨by rw [ED.out]; rfl, rfl⟩
  · have e1 : ¬ (48 : Int) ≤ (n : Int) := by omega
    have e3 : ¬ (97 : Int) ≤ (n : Int) := by omega
    have ED : Hid (d = 16) := Lib.hid (by rw [hd', if_neg (by omega), if_neg (by omega)])
    clear hd'
    go_enter Try.func92, Try.ntmps92
    go_wp2
    go_ret
    exact ⟨by rw [ED.out]; rfl, rfl⟩
set_option maxRecDepth 100000 in
set_option maxHeartbeats 0 in
theorem runhex_any (s : ByteArray) (w : World) (hs : s.size ≤ 140737488351232) :
    Calls Try.prog 61 #[.string s] w fun e w' => (∃ u k, e = .returned (.tuple #[.string u, .int .i64 k]) ∧ UhR s u k) ∧ Below w.heap.size w w' := by
  by_cases hodd : s.size % 2 = 1
  · have hG : Hid (¬ uhG s) := Lib.hid (fun h => by have := h.1; omega)
    have ho1 : (s.size : Int) % 2 = 1 := by omega
    have ho2 : Int.tmod (s.size : Int) 2 = 1 := by rw [Int.tmod_eq_emod_of_nonneg (by omega)]; exact ho1
    go_enter Try.func61, Try.ntmps61
    go_wp2
    go_ret2
    exact ⟨⟨_, _, rfl, .inr ⟨hG.out, rfl, rfl⟩⟩, Below.refl _ _⟩
  obtain ⟨m, hm⟩ : ∃ m, s.size = 2 * m := ⟨s.size / 2, by omega⟩
  have HN := Lib.hid hm
  have ho1 : (s.size : Int) % 2 = 0 := by omega
  have ho2 : Int.tmod (s.size : Int) 2 = 0 := by rw [Int.tmod_eq_emod_of_nonneg (by omega)]; exact ho1
  have hm2 : m ≤ 70368744175616 := by omega
  clear hodd hm
  go_enter Try.func61, Try.ntmps61
  go_wp2
  clear ho1 ho2
  go_loopw [4, 5, 6, 7] (fun v i _ _ wr => ∃ k : Nat, k ≤ m ∧ i = .int .i64 ((2 * k : Nat) : Int) ∧ Hid (wr.ownsRow w.heap.size 5 1 v k (u8s (unL s k)) ∧ Below w.heap.size w wr) ∧ Hid (∀ j, j < 2 * k → 0 ≤ dvB (byteAt s j))) (fun _ i _ _ _ => 2 * m - (intOf i).toNat)
  case atStart => exact ⟨0, by omega, rfl, Lib.hid ⟨World.ownsRow_nil _ _ _ _, Below.refl _ _⟩, Lib.hid (fun j hj => absurd hj (by omega))⟩
  case round =>
    obtain ⟨k, hk, rfl, HR, HJ⟩ := hrel
    obtain ⟨q, hq⟩ : ∃ q, 2 * k = q := ⟨_, rfl⟩
    rw [hq]
    by_cases hlt : k < m
    · have hsz2 := HN.out
      have hqs : q < s.size := by omega
      have hqs1 : q + 1 < s.size := by omega
      have hqi : (q : Int) < (s.size : Int) := by omega
      have hqi1 : (q : Int) + 1 < (s.size : Int) := by omega
      have hq2 : (q : Int) + 2 = ((2 * (k + 1) : Nat) : Int) := by omega
      obtain ⟨x, hx⟩ : ∃ x, byteAt s q = x := ⟨_, rfl⟩
      obtain ⟨y, hy⟩ : ∃ y, byteAt s (q + 1) = y := ⟨_, rfl⟩
      have g1 : s[q] = x := (byteAt_get s q hqs).trans hx
      have g2 : s[q + 1] = y := (byteAt_get s (q + 1) hqs1).trans hy
      have z1 := dgB_le x
      have z2 := dgB_le y
      have p1 := dg_dv x
      have p2 := dg_dv y
      rw [← hx] at p1
      rw [← hy] at p2
      rw [hx] at p1
      rw [hy] at p2
      have HX : Hid ((dvB (byteAt s q) = if dgB x = 16 then -1 else (dgB x : Int)) ∧ dvB (byteAt s (q + 1)) = if dgB y = 16 then -1 else (dgB y : Int)) := Lib.hid ⟨by rw [hx]; exact p1, by rw [hy]; exact p2⟩
      clear hsz2 p1 p2 hx hy
      go_wp2_with fail
      refine (rdigit_any x _).mono ?_; rintro e w' ⟨rfl, rfl⟩
      go_wp2_with fail
      refine (rdigit_any y _).mono ?_; rintro e w' ⟨rfl, rfl⟩
      generalize dgB x = d1 at z1 HX ⊢
      generalize dgB y = d2 at z2 HX ⊢
      by_cases hb1 : d1 = 16
      · have hG : Hid (¬ uhG s) := Lib.hid (fun h => by have := h.2 q hqs; rw [HX.out.1, if_pos hb1] at this; omega)
        have BL := Lib.hid HR.out.2
        subst hb1
        rw [show ((16 : Nat) : Int) = 16 from rfl]
        go_wp2
        go_ret2
        exact ⟨⟨_, _, rfl, .inr ⟨hG.out, rfl, rfl⟩⟩, BL.out⟩
      have hd1 : ¬ (15 : Int) < (d1 : Int) := by omega
      by_cases hb2 : d2 = 16
      · have hG : Hid (¬ uhG s) := Lib.hid (fun h => by have := h.2 (q + 1) hqs1; rw [HX.out.2, if_pos hb2] at this; omega)
        have BL := Lib.hid HR.out.2
        subst hb2
        rw [show ((16 : Nat) : Int) = 16 from rfl]
        go_wp2
        go_ret2
        exact ⟨⟨_, _, rfl, .inr ⟨hG.out, rfl, rfl⟩⟩, BL.out⟩
      have hd2 : ¬ (15 : Int) < (d2 : Int) := by omega
      have h16 : d1 < 16 := by omega
      have l16 : d2 < 16 := by omega
      have HV : Hid (unL s (k + 1) = unL s k ++ [UInt8.ofNat (16 * d1 + d2)]) := Lib.hid (by
        rw [unL_succ, hq]; unfold hv; rw [HX.out.1, HX.out.2, if_neg hb1, if_neg hb2]; rfl)
      have HJ' : Hid (∀ j, j < 2 * (k + 1) → 0 ≤ dvB (byteAt s j)) := Lib.hid (fun j hj => by
        rcases Nat.lt_or_ge j (2 * k) with h | h
        · exact HJ.out j h
        · have : j = q ∨ j = q + 1 := by omega
          rcases this with rfl | rfl
          · rw [HX.out.1, if_neg hb1]; omega
          · rw [HX.out.2, if_neg hb2]; omega)
      have hle := HR.out.2.size
      have hk1 : k ≤ 4611686018427387904 := by omega
      have hk2 : (k + 1) * 1 ≤ 140737488355328 := by omega
      have W1 : IntKind.u8.wrap (16 * (d1 : Int)) = 16 * (d1 : Int) := by rw [IntKind.wrap_u8]; omega
      have W2 : IntKind.u8.wrap (16 * (d1 : Int) + (d2 : Int)) = 16 * (d1 : Int) + (d2 : Int) := by rw [IntKind.wrap_u8]; omega
      have W3 : (16 * (d1 : Int)) % 256 = 16 * (d1 : Int) := by omega
      have W4 : (16 * (d1 : Int) + (d2 : Int)) % 256 = 16 * (d1 : Int) + (d2 : Int) := by omega
      clear z1 z2 hb1 hb2
      go_wp2_with (with_reducible refine append1_at elemByte rfl _ _ rfl w.heap.size u4 k (u8s (unL s k)) rfl HR.out.1 _ wr.heap.size rfl rfl rfl hk1 hk2 hle ?_; intro v' w' ho' hg')
      have HR' : Hid (w'.ownsRow w.heap.size 5 1 v' (k + 1) (u8s (unL s (k + 1))) ∧ Below w.heap.size w w') := Lib.hid (by
        refine ⟨?_, below_grown HR.out.2 hg' (fun g hg => own_ge HR.out.1 _ hg)⟩
        rw [HV.out]
        have e : u8s (unL s k ++ [UInt8.ofNat (16 * d1 + d2)]) = u8s (unL s k) ++ [.int .u8 (16 * (d1 : Int) + (d2 : Int))] := by
          simp only [u8s, List.map_append, List.map_cons, List.map_nil]
          congr 3 <;> (rw [UInt8.toNat_ofNat']; omega)
        rw [e]
        exact ho')
      clear ho' hg'
      go_wp2
      go_roundw
      case rel => exact ⟨k + 1, by omega, by have := hq2; first | (congr 1; omega) | congr 1, HR', HJ'⟩
      case measure => simp [intOf]; omega
    · obtain rfl : k = m := by omega
      have hG : Hid (uhG s) := Lib.hid ⟨by have := HN.out; omega, fun j hj => HJ.out j (by have := HN.out; omega)⟩
      have EU : Hid (bs (unL s (s.size / 2)) = bs (unL s k)) := Lib.hid (by rw [HN.out, Nat.mul_div_cancel_left _ (by omega)])
      obtain ⟨A, c, rfl, hrd⟩ := own_reads HR.out.1
      have BL := Lib.hid HR.out.2
      have ULN := Lib.hid (unL_len s k)
      have hqe : (q : Int) = (s.size : Int) := by have := HN.out; omega
      rw [hqe]
      by_cases h0 : k = 0
      · subst h0
        have HE : Hid (unL s 0 = []) := Lib.hid rfl
        rcases A with _ | ad
        · have hcn : ∀ W, (convert 58 9 (.slice none 0 c)).run Try.prog W = .ok (.string { data := #[] }) W := fun W => by
            simp [convert, Conv.bytesToString, go_sem]; rfl
          go_wp2
          go_ret2
          exact ⟨⟨_, _, rfl, .inl ⟨hG.out, by rw [EU.out, HE.out]; rfl, rfl⟩⟩, BL.out⟩
        · go_wp2_with (with_reducible refine conv_str_wp (e := 5) (by kernel_rfl) (by kernel_rfl) (by kernel_rfl) rfl _ rfl ad 0 c rfl [] rfl (fun j hj => absurd hj (by omega)) ?_)
          go_ret2
          exact ⟨⟨_, _, rfl, .inl ⟨hG.out, by rw [EU.out, HE.out], rfl⟩⟩, BL.out⟩
      · obtain ⟨ad, rfl, _, hcell⟩ := reads_u8 hrd (by omega)
        have HC := Lib.hid hcell
        clear hcell
        go_wp2_with (with_reducible refine conv_str_wp (e := 5) (by kernel_rfl) (by kernel_rfl) (by kernel_rfl) rfl _ rfl ad k c rfl (unL s k) ULN.out HC.out ?_)
        go_ret2
        exact ⟨⟨_, _, rfl, .inl ⟨hG.out, by rw [EU.out], rfl⟩⟩, BL.out⟩
end Go.Proofs.Ytfoandpcoakcjaa
namespace Go.Proofs.Ytfoandpcoakcjaa
open Go.RowKit
set_option linter.unusedVariables false
attribute [local go_sem ↓] execOp_ld32 execOp_st32 execOp_ld16 execOp_st16
attribute [local go_sem] run_ld32 run_st32 run_ld16 run_st16
/-- A name in digits. -/
def pG (s : ByteArray) : Prop := s.size = 64 ∧ ∀ j, j < 64 → 0 ≤ dvB (byteAt s j)
open Classical in
noncomputable def pI (s : ByteArray) : Nat → UInt8 := if pG s then idOf s else zI
open Classical in
noncomputable def pE (s : ByteArray) : Int := if pG s then 0 else 4
theorem pG_not {s u : ByteArray} {k : Int} (h : ¬ pG s) (hu : UhR s u k) : k = 4 ∨ (k = 0 ∧ u.size ≠ 32) := by
  rcases hu with ⟨⟨h1, h2⟩, rfl, rfl⟩ | ⟨_, _, rfl⟩
  · refine .inr ⟨rfl, fun e => h ?_⟩
    rw [bs_size, unL_len] at e
    have h64 : s.size = 64 := by omega
    exact ⟨h64, fun j hj => h2 j (by omega)⟩
  · exact .inl rfl
theorem pG_yes {s u : ByteArray} {k : Int} (h : pG s) (hu : UhR s u k) : k = 0 ∧ u = bs (unL s 32) := by
  rcases hu with ⟨⟨h1, h2⟩, rfl, rfl⟩ | ⟨h3, _, rfl⟩
  · exact ⟨rfl, by rw [h.1]⟩
  · exact absurd ⟨by rw [h.1], fun j hj => h.2 j (by have := h.1; omega)⟩ h3
set_option maxRecDepth 100000 in
set_option maxHeartbeats 0 in
theorem parse_any (s : ByteArray) (w : World) (hs : s.size ≤ 140737488351232) :
    Calls Try.prog 36 #[.string s] w fun e w' => e = .returned (.tuple #[.agg (idA (pI s)), .int .i64 (pE s)]) ∧ Below w.heap.size w w' := by
  by_cases hp : pG s
  · unfold pI pE
    rw [if_pos hp, if_pos hp]
    exact parse64_any s w hp.1 hp.2
  have hI : pI s = zI := if_neg hp
  have hE : pE s = 4 := if_neg hp
  rw [hI, hE]
  clear hI hE
  have HP := Lib.hid hp
  clear hp
  have Z := zero_one w
  have hz : (w.alloc zeroId).heap.size = w.heap.size + 1 := by simp
  have f1 := idA_full zI
  have HZ := Lib.hid (And.intro Z hz)
  clear Z hz
  rw [← zero_lit] at f1
  go_enter Try.func36, Try.ntmps36
  go_wp2_with fail
  refine (unhex_any s (w.alloc zeroId) hs).mono ?_; rintro e w1 ⟨⟨u, k, rfl, hu⟩, hb⟩
  have hk := pG_not HP.out hu
  have R1 : w1.rowIs w.heap.size 27 32 (fun _ => .int .u8 0) := HZ.out.1.1.of_block (hb.block _ (by have := HZ.out.2; omega))
  have BB : Below w.heap.size w w1 := HZ.out.1.2.trans (hb.mono (by have := HZ.out.2; omega))
  obtain ⟨o1, HQ⟩ := zero_put BB R1
  have H := Lib.hid HQ
  clear R1 BB HQ hb hu
  rcases hk with rfl | ⟨rfl, h32⟩
  · go_wp2
    refine bodyPost_ret (results_row_tmp (p := 2) (u := 3) rfl _ _ w.heap.size 27 (idA zI) (0, 0) rfl H.out.1 Try.underlying27 (by rw [idA_size]; kernel_rfl)) rfl ⟨?_, H.out.2⟩
    rfl
  · have h32i : ¬ (u.size : Int) = 32 := by omega
    go_wp2
    refine bodyPost_ret (results_row_tmp (p := 2) (u := 3) rfl _ _ w.heap.size 27 (idA zI) (0, 0) rfl H.out.1 Try.underlying27 (by rw [idA_size]; kernel_rfl)) rfl ⟨?_, H.out.2⟩
    rfl
end Go.Proofs.Ytfoandpcoakcjaa
namespace Go.Proofs.Ytfoandpcoakcjaa
open Go.RowKit Wir
set_option linter.unusedVariables false
theorem ex_right (a b : ByteArray) (n : Nat) (h : n = a.size) : (a ++ b).extract n (a ++ b).size = b := by
  subst h
  have e : ((a ++ b).extract a.size (a ++ b).size).size = b.size := by rw [ByteArray.size_extract, ByteArray.size_append]; omega
  refine ext_byteAt e fun i hi => ?_
  rw [e] at hi
  rw [byteAt_part _ _ _ _ (by rw [ByteArray.size_append]; omega) (Nat.le_refl _), byteAt_app, if_neg (by omega)]
  congr 1; omega
theorem ex_left (a b : ByteArray) (n : Nat) (h : n = a.size) : (a ++ b).extract 0 n = a := by
  subst h
  have e : ((a ++ b).extract 0 a.size).size = a.size := by rw [ByteArray.size_extract, ByteArray.size_append]; omega
  refine ext_byteAt e fun i hi => ?_
  rw [e] at hi
  rw [byteAt_part _ _ _ _ (by omega) (by rw [ByteArray.size_append]; omega), Nat.zero_add, byteAt_app, if_pos hi]
theorem byteAt_list (l : List UInt8) (j : Nat) : byteAt (bs l) j = l.getD j 0 := by unfold byteAt; rw [bs_data]
end Go.Proofs.Ytfoandpcoakcjaa
namespace Go.Proofs.Ytfoandpcoakcjaa
open Go.RowKit
set_option linter.unusedVariables false
theorem digF_dv (c : UInt8) (hc : 0 ≤ dvB c) : digF (dvB c).toNat = c := by
  have h : ∀ n : Nat, n < 256 → 0 ≤ dvB (UInt8.ofNat n) → digF (dvB (UInt8.ofNat n)).toNat = UInt8.ofNat n := by decide +kernel
  have := h c.toNat c.toNat_lt
  rw [UInt8.ofNat_toNat] at this
  exact this hc
theorem dv_dash : dvB 45 < 0 := by decide +kernel
theorem hexL_get : ∀ (l : List UInt8) (k : Nat), k < l.length → (hexL l).getD (2 * k) 0 = digF ((l.getD k 0).toNat / 16) ∧ (hexL l).getD (2 * k + 1) 0 = digF ((l.getD k 0).toNat % 16)
  | [], k, hk => by simp at hk
  | a :: l, 0, _ => ⟨rfl, rfl⟩
  | a :: l, k + 1, hk => hexL_get l k (by simpa using hk)
theorem text_parse {s : ByteArray} (h : pG s) : bs (textL (idOf s)) = s := by
  obtain ⟨h64, hd⟩ := h
  have hz : (bs (textL (idOf s))).size = 64 := (text_back _).1
  refine ext_byteAt (by rw [hz, h64]) fun i hi => ?_
  rw [hz] at hi
  have hk : ∀ k, k < 32 → ((idOf s k).toNat / 16 = (dvB (byteAt s (2 * k))).toNat ∧ (idOf s k).toNat % 16 = (dvB (byteAt s (2 * k + 1))).toNat) := fun k hk => by
    have e : idOf s k = hv (byteAt s (2 * k)) (byteAt s (2 * k + 1)) := by
      show (unL s 32).getD k 0 = _
      simp [unL, List.getD, hk]
    have a1 := dvB_lt (byteAt s (2 * k))
    have a2 := dvB_lt (byteAt s (2 * k + 1))
    rw [e, hv, UInt8.toNat_ofNat']
    omega
  rw [bytes_bs]
  obtain ⟨k, hk'⟩ : ∃ k, i = 2 * k ∨ i = 2 * k + 1 := ⟨i / 2, by omega⟩
  have hk32 : k < 32 := by omega
  obtain ⟨g1, g2⟩ := hexL_get ((List.range 32).map (idOf s)) k (by simpa using hk32)
  have e : ((List.range 32).map (idOf s)).getD k 0 = idOf s k := by simp [List.getD, hk32]
  rw [e] at g1 g2
  obtain ⟨b1, b2⟩ := hk k hk32
  rcases hk' with rfl | rfl
  · show (hexL _).getD _ 0 = _
    rw [g1, b1]; exact digF_dv _ (hd _ (by omega))
  · show (hexL _).getD _ 0 = _
    rw [g2, b2]; exact digF_dv _ (hd _ (by omega))
theorem bs_app (a b : List UInt8) : bs (a ++ b) = bs a ++ bs b := by
  apply ByteArray.ext
  show (a ++ b).toArray = (bs a ++ bs b).data
  rw [ByteArray.data_append]
  simp [bs]
def par4 : ByteArray := ⟨#[112, 97, 114, 45]⟩
def dsh : ByteArray := ⟨#[45]⟩
def px3 : ByteArray := ⟨#[46, 112, 120]⟩
/-- A side-car's file's name. -/
def nameT (I J : Nat → UInt8) : ByteArray := par4 ++ bs (textL I) ++ dsh ++ bs (textL J) ++ px3
def nX (s : ByteArray) : ByteArray := s.extract 4 68
def nY (s : ByteArray) : ByteArray := s.extract 69 133
def nmdB (s : ByteArray) : Prop := s.size = 136 ∧ pG (nX s) ∧ pG (nY s) ∧ nameT (pI (nX s)) (pI (nY s)) = s
theorem pI_good {s : ByteArray} (h : pG s) : pI s = idOf s := if_pos h
theorem ex_mid (a x r : ByteArray) (i j : Nat) (hi : i = a.size) (hj : j = a.size + x.size) : (a ++ x ++ r).extract i j = x := by
  subst hi hj
  have hs := ByteArray.size_append (a := a ++ x) (b := r)
  have hs2 := ByteArray.size_append (a := a) (b := x)
  have e : ((a ++ x ++ r).extract a.size (a.size + x.size)).size = x.size := by rw [ByteArray.size_extract]; omega
  refine ext_byteAt e fun k hk => ?_
  rw [e] at hk
  rw [byteAt_part _ _ _ _ (by omega) (by omega), byteAt_app, if_pos (by omega), byteAt_app, if_neg (by omega)]
  congr 1; omega
theorem five_parts {x y : ByteArray} (hx : x.size = 64) (hy : y.size = 64) : (par4 ++ x ++ dsh ++ y ++ px3).size = 136 ∧ nX (par4 ++ x ++ dsh ++ y ++ px3) = x ∧ nY (par4 ++ x ++ dsh ++ y ++ px3) = y := by
  have p : par4.size = 4 := rfl
  have d : dsh.size = 1 := rfl
  have q : px3.size = 3 := rfl
  have s1 := ByteArray.size_append (a := par4) (b := x)
  have s2 := ByteArray.size_append (a := par4 ++ x) (b := dsh)
  have s3 := ByteArray.size_append (a := par4 ++ x ++ dsh) (b := y)
  have s4 := ByteArray.size_append (a := par4 ++ x ++ dsh ++ y) (b := px3)
  refine ⟨by omega, ?_, ?_⟩
  · have e : par4 ++ x ++ dsh ++ y ++ px3 = par4 ++ x ++ (dsh ++ y ++ px3) := by simp only [ByteArray.append_assoc]
    rw [e]
    exact ex_mid _ _ _ _ _ (by omega) (by omega)
  · exact ex_mid (par4 ++ x ++ dsh) y px3 _ _ (by omega) (by omega)
theorem nmd_parts {x y : ByteArray} (hx : pG x) (hy : pG y) : nmdB (par4 ++ x ++ dsh ++ y ++ px3) ∧ nX (par4 ++ x ++ dsh ++ y ++ px3) = x ∧ nY (par4 ++ x ++ dsh ++ y ++ px3) = y := by
  obtain ⟨h1, h2, h3⟩ := five_parts hx.1 hy.1
  refine ⟨⟨h1, by rw [h2]; exact hx, by rw [h3]; exact hy, ?_⟩, h2, h3⟩
  rw [h2, h3, pI_good hx, pI_good hy, nameT, text_parse hx, text_parse hy]
/-- What the program takes apart. -/
def cA (s : ByteArray) : ByteArray := bs (Lib.trimPrefix s.data.toList par4.data.toList)
def cOk (s : ByteArray) : Bool := Lib.hasPrefix s.data.toList par4.data.toList
def cB (s : ByteArray) : ByteArray := bs (Lib.trimSuffix s.data.toList px3.data.toList)
def cIs (s : ByteArray) : Bool := Lib.hasSuffix s.data.toList px3.data.toList
def cI (s : ByteArray) : Int := Lib.indexByte s.data.toList 45
def cX (s : ByteArray) : ByteArray := if 0 ≤ cI s then s.extract 0 (cI s).toNat else s
def cY (s : ByteArray) : ByteArray := if 0 ≤ cI s then s.extract ((cI s).toNat + 1) s.size else ByteArray.empty
def cTwo (s : ByteArray) : Bool := decide (0 ≤ cI s)
theorem bs_toList (s : ByteArray) : bs s.data.toList = s := by unfold bs; rfl
theorem c_pre {s : ByteArray} (h : cOk s = true) : s = par4 ++ cA s := by
  unfold cOk Lib.hasPrefix at h
  rw [List.isPrefixOf_iff_prefix] at h
  obtain ⟨r, hr⟩ := h
  have e : cA s = bs r := by
    unfold cA Lib.trimPrefix Lib.hasPrefix
    rw [if_pos (by rw [List.isPrefixOf_iff_prefix]; exact ⟨r, hr⟩), ← hr, List.drop_left]
  rw [e, ← bs_toList s, ← hr, bs_app]; rfl
theorem c_suf {s : ByteArray} (h : cIs s = true) : s = cB s ++ px3 := by
  unfold cIs Lib.hasSuffix at h
  rw [List.isSuffixOf_iff_suffix] at h
  obtain ⟨r, hr⟩ := h
  have e : cB s = bs r := by
    unfold cB Lib.trimSuffix Lib.hasSuffix
    rw [if_pos (by rw [List.isSuffixOf_iff_suffix]; exact ⟨r, hr⟩), ← hr, List.length_append, Nat.add_sub_cancel, List.take_left]
  rw [e]
  conv => lhs; rw [← bs_toList s, ← hr, bs_app]
  rfl
theorem list_get (s : ByteArray) (i : Nat) (c : UInt8) (h : s.data.toList[i]? = some c) : i < s.size ∧ byteAt s i = c := by
  have h1 := (List.getElem?_eq_some_iff.1 h).1
  rw [Array.length_toList] at h1
  refine ⟨h1, ?_⟩
  unfold byteAt
  rw [List.getD_eq_getElem?_getD, h]; rfl
theorem c_cut {s : ByteArray} (h : cTwo s = true) : s = cX s ++ dsh ++ cY s := by
  have h0 : 0 ≤ cI s := of_decide_eq_true h
  obtain ⟨o, ho⟩ : ∃ o : Nat, cI s = o := ⟨(cI s).toNat, by omega⟩
  obtain ⟨g1, _⟩ := Lib.indexByte_some ho
  obtain ⟨hl, hb⟩ := list_get s o 45 g1
  rw [cX, cY, if_pos h0, if_pos h0, ho, Int.toNat_natCast]
  have s0 : (s.extract 0 o).size = o := by rw [ByteArray.size_extract]; omega
  have s1 : (s.extract (o + 1) s.size).size = s.size - (o + 1) := by rw [ByteArray.size_extract]; omega
  have s2 : dsh.size = 1 := rfl
  have s3 := ByteArray.size_append (a := s.extract 0 o) (b := dsh)
  have s4 := ByteArray.size_append (a := s.extract 0 o ++ dsh) (b := s.extract (o + 1) s.size)
  refine ext_byteAt (by omega) fun i hi => ?_
  rw [byteAt_app, s3, s0, s2]
  by_cases h1 : i < o + 1
  · rw [if_pos h1, byteAt_app, s0]
    by_cases h2 : i < o
    · rw [if_pos h2, byteAt_part _ _ _ _ (by omega) (by omega), Nat.zero_add]
    · rw [if_neg h2]
      obtain rfl : i = o := by omega
      rw [hb, Nat.sub_self]; rfl
  · rw [if_neg h1, byteAt_part _ _ _ _ (by omega) (Nat.le_refl _)]
    congr 1; omega
/-- The program takes apart what the document does. -/
theorem nmd_of {s : ByteArray} (h1 : cOk s = true) (h2 : cIs (cA s) = true) (h3 : cTwo (cB (cA s)) = true) (h4 : pG (cX (cB (cA s)))) (h5 : pG (cY (cB (cA s)))) :
    nmdB s ∧ nX s = cX (cB (cA s)) ∧ nY s = cY (cB (cA s)) := by
  have e : s = par4 ++ cX (cB (cA s)) ++ dsh ++ cY (cB (cA s)) ++ px3 := by
    have e1 := c_pre h1
    have e2 := c_suf h2
    have e3 := c_cut h3
    conv => lhs; rw [e1, e2, e3]
    simp only [ByteArray.append_assoc]
  have := nmd_parts h4 h5
  rw [← e] at this
  exact this
theorem parts_of {x y : ByteArray} (hx : pG x) (hy : pG y) : cOk (par4 ++ x ++ dsh ++ y ++ px3) = true ∧ cIs (cA (par4 ++ x ++ dsh ++ y ++ px3)) = true ∧ cTwo (cB (cA (par4 ++ x ++ dsh ++ y ++ px3))) = true ∧
    cX (cB (cA (par4 ++ x ++ dsh ++ y ++ px3))) = x ∧ cY (cB (cA (par4 ++ x ++ dsh ++ y ++ px3))) = y := by
  have hl : (par4 ++ x ++ dsh ++ y ++ px3).data.toList = par4.data.toList ++ ((x ++ dsh ++ y).data.toList ++ px3.data.toList) := by
    simp only [ByteArray.data_append, Array.toList_append, List.append_assoc]
  have ok : cOk (par4 ++ x ++ dsh ++ y ++ px3) = true := by
    unfold cOk Lib.hasPrefix
    rw [List.isPrefixOf_iff_prefix, hl]
    exact ⟨_, rfl⟩
  have eA : cA (par4 ++ x ++ dsh ++ y ++ px3) = x ++ dsh ++ y ++ px3 := by
    unfold cA Lib.trimPrefix
    rw [if_pos (show Lib.hasPrefix _ _ = true from ok), hl, List.drop_left, bs_app, bs_toList, bs_toList]
  have hl2 : (x ++ dsh ++ y ++ px3).data.toList = (x ++ dsh ++ y).data.toList ++ px3.data.toList := by
    simp only [ByteArray.data_append, Array.toList_append, List.append_assoc]
  have is : cIs (x ++ dsh ++ y ++ px3) = true := by
    unfold cIs Lib.hasSuffix
    rw [List.isSuffixOf_iff_suffix, hl2]
    exact ⟨_, rfl⟩
  have eB : cB (x ++ dsh ++ y ++ px3) = x ++ dsh ++ y := by
    unfold cB Lib.trimSuffix
    rw [if_pos (show Lib.hasSuffix _ _ = true from is), hl2, List.length_append, Nat.add_sub_cancel, List.take_left, bs_toList]
  have s1 := ByteArray.size_append (a := x) (b := dsh)
  have s2 := ByteArray.size_append (a := x ++ dsh) (b := y)
  have sd : dsh.size = 1 := rfl
  have hx64 := hx.1
  have at64 : byteAt (x ++ dsh ++ y) 64 = 45 := by
    rw [byteAt_app, if_pos (by omega), byteAt_app, if_neg (by omega), hx64]; rfl
  have low : ∀ k, k < 64 → byteAt (x ++ dsh ++ y) k ≠ 45 := fun k hk h => by
    rw [byteAt_app, if_pos (by omega), byteAt_app, if_pos (by omega)] at h
    have := hx.2 k hk
    rw [h] at this
    have := dv_dash
    omega
  have eI : cI (x ++ dsh ++ y) = 64 := by
    have hge := Lib.indexByte_ge (x ++ dsh ++ y).data.toList 45
    have hget : (x ++ dsh ++ y).data.toList[64]? = some 45 := by
      have hlt : 64 < (x ++ dsh ++ y).data.toList.length := by rw [Array.length_toList]; show 64 < (x ++ dsh ++ y).size; omega
      rw [List.getElem?_eq_getElem hlt]
      have := at64
      unfold byteAt at this
      rw [List.getD_eq_getElem?_getD, List.getElem?_eq_getElem hlt] at this
      exact congrArg some this
    by_cases h : Lib.indexByte (x ++ dsh ++ y).data.toList 45 = -1
    · exact absurd hget (Lib.indexByte_none h 64)
    · obtain ⟨o, ho⟩ : ∃ o : Nat, Lib.indexByte (x ++ dsh ++ y).data.toList 45 = o := ⟨(Lib.indexByte (x ++ dsh ++ y).data.toList 45).toNat, by omega⟩
      obtain ⟨g1, g2⟩ := Lib.indexByte_some ho
      have h1 : ¬ 64 < o := fun hlt => g2 64 hlt hget
      have h2 : ¬ o < 64 := fun hlt => low o hlt (list_get _ _ _ g1).2
      show Lib.indexByte _ 45 = 64
      omega
  rw [eA, eB]
  refine ⟨ok, is, ?_, ?_, ?_⟩
  · unfold cTwo; rw [eI]; rfl
  · rw [cX, eI, if_pos (by omega)]
    have := ex_mid ByteArray.empty x (dsh ++ y) 0 64 rfl (by rw [hx64]; rfl)
    rw [ByteArray.empty_append, ← ByteArray.append_assoc] at this
    exact this
  · rw [cY, eI, if_pos (by omega)]
    exact ex_right (x ++ dsh) y _ (by show 65 = _; omega)
theorem nmd_back {s : ByteArray} (h : nmdB s) : cOk s = true ∧ cIs (cA s) = true ∧ cTwo (cB (cA s)) = true ∧ cX (cB (cA s)) = nX s ∧ cY (cB (cA s)) = nY s := by
  obtain ⟨h1, h2, h3, h4⟩ := h
  rw [pI_good h2, pI_good h3, nameT, text_parse h2, text_parse h3] at h4
  have := parts_of h2 h3
  rw [h4] at this
  exact this
end Go.Proofs.Ytfoandpcoakcjaa
