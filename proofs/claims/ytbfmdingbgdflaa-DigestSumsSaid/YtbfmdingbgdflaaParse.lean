/- Walk: digest's Parse of 64 good digits; names there and back. No conditions. -/
import Derived.Test.YtbfmdingbgdflaaIndexB
namespace Go.Proofs.Ytbfmdingbgdflaa
open Go.RowKit
set_option linter.unusedVariables false
attribute [local go_sem ↓] execOp_ld32 execOp_st32
attribute [local go_sem] run_ld32 run_st32
theorem run_ld32_cells (w : World) (g : Nat) (I : Nat → UInt8) (h : ∀ j, j < 32 → w.cell? ⟨g, j, none⟩ = some (.int .u8 ((I j).toNat : Int))) :
    (ld32 (.pointer (some ⟨g, 0, none⟩))).run Try.prog w = .ok (.value (.agg (idA I))) w := by
  have hl : (idA I).toList.length = 32 := by rw [Array.length_toList, idA_size]
  have := run_loadCells_list (P := Try.prog) w ⟨g, 0, none⟩ (idA I).toList (fun j v hv => by
    have hj : j < 32 := by
      rcases Nat.lt_or_ge j 32 with h | h
      · exact h
      · rw [List.getElem?_eq_none (by rw [hl]; exact h)] at hv; cases hv
    rw [add0, h j hj]
    rw [Array.getElem?_toList, idA_get I j hj] at hv
    exact hv)
  rw [hl] at this
  unfold ld32
  simp only [Instr.loadAt, Instr.sureAddr, loadVar, Sem.run_bind, Sem.run_pure, Result.andThen, run_isAgg32, run_size32, if_true, this]
theorem run_arrayAt32 (g cap : Nat) (W : World) : (Instr.arrayAt 28 (.slice (some ⟨g, 0, none⟩) 32 cap)).run Try.prog W = .ok (.pointer (some ⟨g, 0, none⟩)) W := by
  have ht : Try.prog.underlying 28 = some (.array 32 5) := by kernel_rfl
  simp [Instr.arrayAt, run_underlying ht, go_sem]
def idOf (s : ByteArray) : Nat → UInt8 := fun k => (unL s 32).getD k 0
set_option maxRecDepth 100000 in
set_option maxHeartbeats 0 in
theorem parse64_any (s : ByteArray) (w : World) (hs : s.size = 64) (hok : ∀ j, j < 64 → 0 ≤ dvB (byteAt s j)) :
    Calls Try.prog 37 #[.string s] w fun e w' => e = .returned (.tuple #[.agg (idA (idOf s)), .int .i64 0]) ∧ Below w.heap.size w w' := by
  have Z := zero_one w
  have hz : (w.alloc zeroId).heap.size = w.heap.size + 1 := by simp
  have f1 := idA_full (idOf s)
  have HZ := Lib.hid (And.intro Z hz)
  have HOK := Lib.hid hok
  clear Z hz hok
  go_enter Try.func37, Try.ntmps37
  go_wp2_with fail
  refine (unhex64_any s (w.alloc zeroId) hs HOK.out).mono ?_; rintro e w1 ⟨rfl, hb⟩
  have R1 : Hid (w1.rowIs w.heap.size 28 32 (fun _ => .int .u8 0) ∧ Below w.heap.size w w1) := Lib.hid ⟨HZ.out.1.1.of_block (hb.block _ (by have := HZ.out.2; omega)), HZ.out.1.2.trans (hb.mono (by have := HZ.out.2; omega))⟩
  clear hb
  obtain ⟨r, hr⟩ : ∃ r, bs (unL s 32) = r := ⟨_, rfl⟩
  have hrs : r.size = 32 := by rw [← hr, bs_size, unL_len]
  have HR := Lib.hid hr
  rw [hr]
  clear hr
  have AR := fun g cap W => run_arrayAt32 g cap W
  have KX : Hid (∀ cap w2, bufIs w2 5 w1.heap.size r.size cap (fun j => .int .u8 ((r.data.toList.getD j 0).toNat : Int)) → w1.grownBy w2 none → (ld32 (.pointer (some ⟨w1.heap.size, 0, none⟩))).run Try.prog w2 = .ok (.value (.agg (idA (idOf s)))) w2 ∧ ok32 w2 w.heap.size 0 = true ∧ Hid ((put32 w2 w.heap.size 0 (idA (idOf s))).heap[w.heap.size]? = some (.cells (idA (idOf s)) 28 (0, 0)) ∧ Below w.heap.size w (put32 w2 w.heap.size 0 (idA (idOf s))))) := Lib.hid (fun cap w2 hc2 hg2 => by
    have LD := run_ld32_cells w2 w1.heap.size (idOf s) (fun j hj => by
      rw [hc2.cell (by omega)]
      show some (Value.int .u8 ((byteAt r j).toNat : Int)) = _
      rw [← HR.out, bytes_bs]; rfl)
    have RW : w2.rowIs w.heap.size 28 32 (fun _ => .int .u8 0) := R1.out.1.of_block (hg2.block _ R1.out.1.lt (by simp))
    have BB : Below w.heap.size w w2 := below_grown R1.out.2 hg2 (fun g hg => by cases hg)
    exact ⟨LD, ok32_of RW (by omega), Lib.hid (id_put (idOf s) RW BB (Nat.le_refl _))⟩)
  go_wp2_with (with_reducible refine conv_bytes_wp (e := 5) (by kernel_rfl) (by kernel_rfl) (by kernel_rfl) rfl _ rfl r rfl ?_; intro cap w2 hc2 hg2; have LD := (KX.out cap w2 hc2 hg2).1; have o2 := (KX.out cap w2 hc2 hg2).2.1; have HP := (KX.out cap w2 hc2 hg2).2.2; clear hc2 hg2)
  refine bodyPost_ret (results_row_tmp (p := 2) (u := 3) rfl _ _ w.heap.size 28 (idA (idOf s)) (0, 0) rfl HP.out.1 Try.underlying28 (by rw [idA_size]; kernel_rfl)) rfl ⟨?_, HP.out.2⟩
  rfl
/-- A name in digits is read as the name. -/
theorem text_back (I : Nat → UInt8) : (bs (textL I)).size = 64 ∧ (∀ j, j < 64 → 0 ≤ dvB (byteAt (bs (textL I)) j)) ∧ ∀ k, k < 32 → idOf (bs (textL I)) k = I k := by
  have hb : ∀ k, k < 32 → (textL I).getD (2 * k) 0 = digF ((I k).toNat / 16) ∧ (textL I).getD (2 * k + 1) 0 = digF ((I k).toNat % 16) := by
    have g : ∀ (l : List UInt8) (k : Nat), k < l.length → (hexL l).getD (2 * k) 0 = digF ((l.getD k 0).toNat / 16) ∧ (hexL l).getD (2 * k + 1) 0 = digF ((l.getD k 0).toNat % 16) := by
      intro l
      induction l with
      | nil => intro k hk; simp at hk
      | cons a l ih =>
        intro k hk
        cases k with
        | zero => exact ⟨rfl, rfl⟩
        | succ k =>
          have := ih k (by simpa using hk)
          exact this
    intro k hk
    have := g ((List.range 32).map I) k (by simpa using hk)
    unfold textL
    simpa [List.getD, hk] using this
  have hsz : (bs (textL I)).size = 64 := by rw [bs_size]; unfold textL; rw [hexL_len]; simp
  refine ⟨hsz, fun j hj => ?_, fun k hk => ?_⟩
  · rw [bytes_bs]
    obtain ⟨k, hk⟩ : ∃ k, j = 2 * k ∨ j = 2 * k + 1 := ⟨j / 2, by omega⟩
    have h2 := hb k (by omega)
    have hI := (I k).toNat_lt
    rcases hk with rfl | rfl
    · rw [h2.1, dv_dig _ (by omega)]; omega
    · rw [h2.2, dv_dig _ (by omega)]; omega
  · have h2 := hb k hk
    have hI := (I k).toNat_lt
    unfold idOf unL hv
    simp only [List.getD_eq_getElem?_getD, List.getElem?_map, List.getElem?_range hk, Option.map_some, Option.getD_some]
    rw [bytes_bs, bytes_bs, h2.1, h2.2, dv_dig _ (by omega), dv_dig _ (by omega)]
    have e : 16 * ((((I k).toNat / 16 : Nat) : Int)).toNat + ((((I k).toNat % 16 : Nat) : Int)).toNat = (I k).toNat := by omega
    rw [e]
    exact UInt8.ofNat_toNat
end Go.Proofs.Ytbfmdingbgdflaa
