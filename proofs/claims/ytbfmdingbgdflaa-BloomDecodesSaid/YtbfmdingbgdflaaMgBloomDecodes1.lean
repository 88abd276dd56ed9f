/- Several texts of the claim joined into one (part 1): plain facts and walks. No conditions but those that each theorem tells. -/
import Derived.Test.YtbfmdingbgdflaaGen
import Derived.Test.YtbfmdingbgdflaaBloC
import Derived.Test.YtbfmdingbgdflaaBloD
import Derived.Test.YtbfmdingbgdflaaDigNil
import Derived.OwnWalk
import Derived.Test.YtbfmdingbgdflaaIndexB
import Derived.Test.YtbfmdingbgdflaaBloH
import Derived.Test.YtbfmdingbgdflaaRead
namespace Go.Proofs.Ytbfmdingbgdflaa
open Go.RowKit Go.WideShapes Go.ChangeShapes
theorem u8_of_wf {n : Int} (h : (Lit.int .u8 n).wf = true) : ∃ a : UInt8, n = (a.toNat : Int) := by
  have h := bounds_u8 h
  refine ⟨UInt8.ofNat n.toNat, ?_⟩
  rw [UInt8.toNat_ofNat']
  omega
theorem str_reach {s : ByteArray} (h : s.data.toList.length ≤ reachBytes) : s.size ≤ 140737488351232 := by
  have h2 : s.data.size ≤ reachBytes := by rw [← Array.length_toList]; exact h
  have h3 : s.size = s.data.size := rfl
  unfold reachBytes at h2
  omega
section
variable {H : Type} {enc : TypeId × Value → H} {P : Program} {W : World}
/-- A list of texts. -/
theorem open_strs {t e : TypeId} {base0 base : Nat} {r : Reach} {v : Value} {d : DataW H} {ps : List MemPlace} {ts : List TypeId} {ds : List (DataW H)} {held : Bool}
    (ht : P.underlying t = some (.slice e)) (he : P.underlying e = some .string) (hc : P.cellsOf e = 1) (hb : P.bytesOf e = 16)
    (hval : Value.okWide P W r base0 t v) (hd : DataW.Trod enc P W base (fun _ => true) held t v d ps)
    (hsz : (DataW.weightsEach P ts ds).all (· ≤ reachBytes) = true) (j : Nat) (hts : ts[j]? = some t) (hds : ds[j]? = some d) (mem : ∀ x ∈ ps, x.block < W.heap.size) :
    ∃ (A : Option Addr) (n c : Nat) (ss : List ByteArray), v = .slice A n c ∧ Reads W W.heap.size 1 A n (strV ss) ∧ n * 16 ≤ 140737488351232 ∧ ∀ s ∈ ss, s.size ≤ 9223372036854775807 := by
  obtain ⟨a0, len, cap, rfl⟩ := okWide_slice ht hval
  obtain ⟨fuel, hf⟩ := hd
  rcases open_strings ht he hc hf with ⟨hcs, hx⟩ | ⟨a, len', cap', ss, hcs, _, hl, hm, hz, hx, hcell, hws⟩
  · simp [Value.cells] at hcs
    obtain ⟨rfl, rfl, rfl⟩ := hcs
    exact ⟨none, 0, 0, [], rfl, Reads.none_, by omega, by simp⟩
  · simp [Value.cells] at hcs
    obtain ⟨rfl, rfl, rfl⟩ := hcs
    simp only [Prod.mk.injEq] at hx
    obtain ⟨rfl, rfl⟩ := hx
    simp only [if_true] at hz
    have hw := sized_slice hsz hts hds ht
    rw [hb] at hw
    simp only [strs, List.length_map, List.length_take, List.length_drop, reachBytes] at hw
    refine ⟨some a, len, cap, ss.take len, rfl, ⟨by simp [strV]; omega, fun hn => ⟨a, rfl, mem _ (MemPlace.mem_row.2 ⟨0, by omega, rfl⟩), fun k u hu => ?_⟩⟩, by omega, fun s hs => hws s (List.mem_of_mem_take hs)⟩
    have hk : k < len := by
      rcases Nat.lt_or_ge k len with h | h
      · exact h
      · rw [List.getElem?_eq_none (by simp [strV]; omega)] at hu; cases hu
    rw [hcell k (by omega)]
    simp only [strV, List.getElem?_map] at hu
    rw [List.getElem?_take, if_pos hk, List.getElem?_eq_getElem (by omega)] at hu
    simp at hu
    rw [← hu, List.getD_eq_getElem?_getD, List.getElem?_eq_getElem (by omega)]; rfl
/-- A list of texts. -/
theorem open_strsc {t e : TypeId} {base0 base : Nat} {r : Reach} {v : Value} {d : DataW H} {ps : List MemPlace} {ts : List TypeId} {ds : List (DataW H)} {held : Bool}
    (ht : P.underlying t = some (.slice e)) (he : P.underlying e = some .string) (hc : P.cellsOf e = 1) (hb : P.bytesOf e = 16)
    (hval : Value.okWide P W r base0 t v) (hd : DataW.Trod enc P W base (fun _ => true) held t v d ps)
    (hsz : (DataW.weightsEach P ts ds).all (· ≤ reachBytes) = true) (j : Nat) (hts : ts[j]? = some t) (hds : ds[j]? = some d) (mem : ∀ x ∈ ps, x.block < W.heap.size) :
    ∃ (A : Option Addr) (n c : Nat) (ss : List ByteArray), v = .slice A n c ∧ Reads W W.heap.size 1 A n (strV ss) ∧ n * 16 ≤ 140737488351232 ∧ (∀ s ∈ ss, s.size ≤ 9223372036854775807) ∧ n ≤ c := by
  obtain ⟨a0, len, cap, rfl⟩ := okWide_slice ht hval
  obtain ⟨fuel, hf⟩ := hd
  rcases open_strings ht he hc hf with ⟨hcs, hx⟩ | ⟨a, len', cap', ss, hcs, _, hl, hm, hz, hx, hcell, hws⟩
  · simp [Value.cells] at hcs
    obtain ⟨rfl, rfl, rfl⟩ := hcs
    exact ⟨none, 0, 0, [], rfl, Reads.none_, by omega, by simp, by omega⟩
  · simp [Value.cells] at hcs
    obtain ⟨rfl, rfl, rfl⟩ := hcs
    simp only [Prod.mk.injEq] at hx
    obtain ⟨rfl, rfl⟩ := hx
    simp only [if_true] at hz
    have hw := sized_slice hsz hts hds ht
    rw [hb] at hw
    simp only [strs, List.length_map, List.length_take, List.length_drop, reachBytes] at hw
    refine ⟨some a, len, cap, ss.take len, rfl, ⟨by simp [strV]; omega, fun hn => ⟨a, rfl, mem _ (MemPlace.mem_row.2 ⟨0, by omega, rfl⟩), fun k u hu => ?_⟩⟩, by omega, fun s hs => hws s (List.mem_of_mem_take hs), hl⟩
    have hk : k < len := by
      rcases Nat.lt_or_ge k len with h | h
      · exact h
      · rw [List.getElem?_eq_none (by simp [strV]; omega)] at hu; cases hu
    rw [hcell k (by omega)]
    simp only [strV, List.getElem?_map] at hu
    rw [List.getElem?_take, if_pos hk, List.getElem?_eq_getElem (by omega)] at hu
    simp at hu
    rw [← hu, List.getD_eq_getElem?_getD, List.getElem?_eq_getElem (by omega)]; rfl
end
theorem ints_u8s : ∀ (zs : List Int), (∀ n ∈ zs, (Lit.int .u8 n).wf = true) → zs.map (Value.int .u8) = u8s (zs.map fun n => UInt8.ofNat n.toNat)
  | [], _ => rfl
  | z :: zs, h => by
    have hz := bounds_u8 (h z (by simp))
    have e : (((UInt8.ofNat z.toNat).toNat : Nat) : Int) = z := by rw [UInt8.toNat_ofNat']; omega
    have ih := ints_u8s zs (fun n hn => h n (by simp [hn]))
    simp only [u8s, List.map_cons] at ih ⊢
    rw [ih, e]
section
variable {H : Type} {enc : TypeId × Value → H} {P : Program} {W : World}
theorem open_bytes {t e : TypeId} {base0 base : Nat} {r : Reach} {v : Value} {d : DataW H} {ps : List MemPlace} {ts : List TypeId} {ds : List (DataW H)} {held : Bool}
    (ht : P.underlying t = some (.slice e)) (he : P.underlying e = some (.int .u8)) (hc : P.cellsOf e = 1) (hb : P.bytesOf e = 1)
    (hval : Value.okWide P W r base0 t v) (hd : DataW.Trod enc P W base (fun _ => true) held t v d ps)
    (hsz : (DataW.weightsEach P ts ds).all (· ≤ reachBytes) = true) (j : Nat) (hts : ts[j]? = some t) (hds : ds[j]? = some d) (mem : ∀ x ∈ ps, x.block < W.heap.size) :
    ∃ (A : Option Addr) (n c : Nat) (l : List UInt8), v = .slice A n c ∧ Reads W W.heap.size 1 A n (u8s l) ∧ n ≤ 140737488351232 ∧ n ≤ c := by
  obtain ⟨a0, len, cap, rfl⟩ := okWide_slice ht hval
  obtain ⟨fuel, hf⟩ := hd
  rcases open_ints ht he hc hf with ⟨hcs, hx⟩ | ⟨a, len', cap', zs, hcs, _, hl, hm, hz, hx, hcell, hws⟩
  · simp [Value.cells] at hcs
    obtain ⟨rfl, rfl, rfl⟩ := hcs
    exact ⟨none, 0, 0, [], rfl, Reads.none_, by omega, by omega⟩
  · simp [Value.cells] at hcs
    obtain ⟨rfl, rfl, rfl⟩ := hcs
    simp only [Prod.mk.injEq] at hx
    obtain ⟨rfl, rfl⟩ := hx
    simp only [if_true] at hz
    have hw := sized_slice hsz hts hds ht
    rw [hb] at hw
    simp only [lits, List.length_map, List.length_take, List.length_drop, reachBytes] at hw
    refine ⟨some a, len, cap, (zs.take len).map fun n => UInt8.ofNat n.toNat, rfl, ⟨by simp [u8s]; omega, fun hn => ⟨a, rfl, mem _ (MemPlace.mem_row.2 ⟨0, by omega, rfl⟩), fun k u hu => ?_⟩⟩, by omega, hl⟩
    rw [← ints_u8s _ (fun n hn => hws n (List.mem_of_mem_take hn))] at hu
    have hk : k < len := by
      rcases Nat.lt_or_ge k len with h | h
      · exact h
      · rw [List.getElem?_eq_none (by simp; omega)] at hu; cases hu
    rw [hcell k (by omega)]
    rw [List.getElem?_map, List.getElem?_take, if_pos hk, List.getElem?_eq_getElem (by omega)] at hu
    simp at hu
    rw [← hu, List.getD_eq_getElem?_getD, List.getElem?_eq_getElem (by omega)]; rfl
end
end Go.Proofs.Ytbfmdingbgdflaa
namespace Go.Proofs.Ytbfmdingbgdflaa
open Go.RowKit Blo
set_option linter.unusedVariables false
attribute [local go_sem ↓] execOp_ld32 execOp_st32
attribute [local go_sem] run_ld32 run_st32
def boxedN (w : World) (I : Nat → UInt8) : World := (w.alloc (.cells #[.pointer none] 24)).alloc (.cells (idA I) 28)
theorem boxedN_below (w : World) (I : Nat → UInt8) : Below w.heap.size w (boxedN w I) := ((Below.refl _ _).alloc (Nat.le_refl _) _).alloc (by simp) _
theorem boxedN_f (w : World) (I : Nat → UInt8) : (boxedN w I).cell? ⟨w.heap.size, 0, none⟩ = some (.pointer none) := by
  have h := ((Blk.new w 24 #[.pointer none]).alloc (.cells (idA I) 28)).cell 0
  exact h
set_option maxRecDepth 100000 in
theorem hasNil_any (I : Nat → UInt8) (w : World) :
    Calls Try.prog 15 #[.pointer none, .agg (idA I)] w fun e w' => e = .returned (.bool false) ∧ Below w.heap.size w w' := by
  have hc1 := boxedN_f w I
  have HB := Lib.hid (boxedN_below w I)
  unfold boxedN at hc1 HB
  go_enter Try.func15, Try.ntmps15
  go_wp2
  go_ret
  exact ⟨rfl, HB.out⟩
set_option maxRecDepth 100000 in
theorem addNil_any (I : Nat → UInt8) (w : World) :
    Calls Try.prog 28 #[.pointer none, .agg (idA I)] w fun e w' => e = .returned (.int .i64 2) ∧ Below w.heap.size w w' := by
  have hc1 := boxedN_f w I
  have HB := Lib.hid (boxedN_below w I)
  unfold boxedN at hc1 HB
  go_enter Try.func28, Try.ntmps28
  go_wp2
  go_ret
  exact ⟨rfl, HB.out⟩
theorem joinNil1_any (x : Option Addr) (w : World) :
    Calls Try.prog 25 #[.pointer none, .pointer x] w fun e w' => e = .returned (.int .i64 2) ∧ w = w' := by
  go_enter Try.func25, Try.ntmps25
  go_wp2
  go_ret
  exact ⟨rfl, rfl⟩
theorem joinNil2_any (P : Nat) (w : World) :
    Calls Try.prog 25 #[.pointer (some ⟨P, 0, none⟩), .pointer none] w fun e w' => e = .returned (.int .i64 2) ∧ w = w' := by
  go_enter Try.func25, Try.ntmps25
  go_wp2
  go_ret
  exact ⟨rfl, rfl⟩
theorem onesNil_any (w : World) :
    Calls Try.prog 24 #[.pointer none] w fun e w' => e = .returned (.int .i64 0) ∧ w = w' := by
  go_enter Try.func24, Try.ntmps24
  go_wp2
  go_ret
  exact ⟨rfl, rfl⟩
theorem sizeNil_any (w : World) :
    Calls Try.prog 34 #[.pointer none] w fun e w' => e = .returned (.tuple #[.int .i64 0, .int .i64 0]) ∧ w = w' := by
  go_enter Try.func34, Try.ntmps34
  go_wp2
  go_ret2
  exact ⟨rfl, rfl⟩
theorem encNil_any (w : World) :
    Calls Try.prog 26 #[.pointer none] w fun e w' => e = .returned (.tuple #[.string { data := #[] }, .int .i64 2]) ∧ w = w' := by
  go_enter Try.func26, Try.ntmps26
  go_wp2
  go_ret2
  exact ⟨rfl, rfl⟩
/-- How large a filter is: doubled until it is large enough. -/
def fitF : Nat → Nat → Nat → Nat
  | 0, b, _ => b
  | f + 1, b, n => if b < 10 * n then fitF f (2 * b) n else b
def fitN (n : Nat) : Nat := fitF 18 64 n
theorem fit_no (n : Int) (w : World) (h : n < 0 ∨ 1048576 < n) :
    Calls Try.prog 49 #[.int .i64 n] w fun e w' => e = .returned (.tuple #[.int .i64 0, .int .i64 0, .int .i64 1]) ∧ w = w' := by
  by_cases h0 : n < 0
  · clear h
    go_enter Try.func49, Try.ntmps49
    go_wp2
    go_ret3
    exact ⟨rfl, rfl⟩
  · have h1 : 1048576 < n := by omega
    have h2 : 0 ≤ n := by omega
    clear h
    go_enter Try.func49, Try.ntmps49
    go_wp2
    go_ret3
    exact ⟨rfl, rfl⟩
set_option maxRecDepth 100000 in
theorem fit_any (n : Nat) (w : World) (h : n ≤ 1048576) :
    Calls Try.prog 49 #[.int .i64 (n : Int)] w fun e w' => e = .returned (.tuple #[.int .i64 ((fitN n : Nat) : Int), .int .i64 7, .int .i64 0]) ∧ w = w' := by
  have h1 : (n : Int) ≤ 1048576 := by omega
  have h2 : 0 ≤ (n : Int) := by omega
  go_enter Try.func49, Try.ntmps49
  go_wp2
  go_loopw [2] (fun b wr => ∃ k f : Nat, 64 ≤ k ∧ k ≤ 20971520 ∧ 10 * n ≤ k * 2 ^ f ∧ b = .int .i64 (k : Int) ∧ Hid (fitN n = fitF f k n) ∧ w = wr) (fun b _ => 20971520 - (intOf b).toNat)
  case atStart => exact ⟨64, 18, by omega, by omega, by omega, rfl, Lib.hid rfl, rfl⟩
  case round =>
    obtain ⟨k, f, hk1, hk2, hf, rfl, HF, rfl⟩ := hrel
    by_cases hlt : k < 10 * n
    · have hlt2 : (k : Int) < 10 * (n : Int) := by omega
      cases f with
      | zero => omega
      | succ f =>
        have HN : Hid (fitN n = fitF f (2 * k) n) := Lib.hid (by rw [HF.out, fitF, if_pos hlt])
        have hpow : 10 * n ≤ (2 * k) * 2 ^ f := by rw [Nat.pow_succ] at hf; rw [Nat.mul_comm 2 k, Nat.mul_assoc, Nat.mul_comm 2]; exact hf
        clear hf
        go_wp2
        go_roundw
        case rel => exact ⟨2 * k, f, by omega, by omega, hpow, by go_num, HN, by first | rfl | trivial⟩
        case measure => simp [intOf]; omega
    · have hlt2 : ¬ (k : Int) < 10 * (n : Int) := by omega
      have HN : Hid (fitN n = k) := Lib.hid (by
        rw [HF.out]
        cases f with
        | zero => rfl
        | succ f => rw [fitF, if_neg hlt])
      clear hf
      go_wp2
      go_ret3
      exact ⟨by rw [HN.out]; rfl, rfl⟩
theorem namedX_any (w : World) :
    Calls Try.prog 84 #[.string { data := #[120] }] w fun e w' => e = .returned (.bool false) ∧ w = w' := by
  go_enter Try.func84, Try.ntmps84
  go_wp2
  go_ret
  exact ⟨rfl, rfl⟩
theorem checkX_any (s : ByteArray) (w : World) :
    Calls Try.prog 52 #[.string { data := #[120] }, .string s] w fun e w' => e = .returned (.int .i64 10) ∧ w = w' := by
  go_enter Try.func52, Try.ntmps52
  go_wp2_with fail
  refine (namedX_any _).mono ?_
  rintro e w1 ⟨rfl, rfl⟩
  go_wp2
  go_ret
  exact ⟨rfl, rfl⟩
end Go.Proofs.Ytbfmdingbgdflaa
namespace Go.Proofs.Ytbfmdingbgdflaa
open Go.RowKit
set_option linter.unusedVariables false
attribute [local go_sem ↓] execOp_ld32 execOp_st32
attribute [local go_sem] run_ld32 run_st32
theorem run_ld32_cells (w : World) (g : Nat) (I : Nat → UInt8) (h : ∀ j, j < 32 → w.cell? ⟨g, j, none⟩ = some (.int .u8 ((I j).toNat : Int))) :
    (ld32 (.pointer (some ⟨g, 0, none⟩))).run Try.prog w = .ok (.value (.agg (idA I))) w := by
  have hl : (idA I).toList.length = 32 := by rw [Array.length_toList, idA_size]
  have := run_loadCells_list (P := Try.prog) w ⟨g, 0, none⟩ (idA I).toList (fun j v hv => by
    have hj : j < 32 := by
      rcases Nat.lt_or_ge j 32 with h | h
      · exact h
      · rw [List.getElem?_eq_none (by rw [hl]; exact h)] at hv; cases hv
    rw [add0, h j hj]
    rw [Array.getElem?_toList, idA_get I j hj] at hv
    exact hv)
  rw [hl] at this
  unfold ld32
  simp only [Instr.loadAt, Instr.sureAddr, loadVar, Sem.run_bind, Sem.run_pure, Result.andThen, run_isAgg32, run_size32, if_true, this]
theorem run_arrayAt32 (g cap : Nat) (W : World) : (Instr.arrayAt 28 (.slice (some ⟨g, 0, none⟩) 32 cap)).run Try.prog W = .ok (.pointer (some ⟨g, 0, none⟩)) W := by
  have ht : Try.prog.underlying 28 = some (.array 32 5) := by kernel_rfl
  simp [Instr.arrayAt, run_underlying ht, go_sem]
def idOf (s : ByteArray) : Nat → UInt8 := fun k => (unL s 32).getD k 0
set_option maxRecDepth 100000 in
set_option maxHeartbeats 0 in
theorem parse64_any (s : ByteArray) (w : World) (hs : s.size = 64) (hok : ∀ j, j < 64 → 0 ≤ dvB (byteAt s j)) :
    Calls Try.prog 37 #[.string s] w fun e w' => e = .returned (.tuple #[.agg (idA (idOf s)), .int .i64 0]) ∧ Below w.heap.size w w' := by
  have Z := zero_one w
  have hz : (w.alloc zeroId).heap.size = w.heap.size + 1 := by simp
  have f1 := idA_full (idOf s)
  have HZ := Lib.hid (And.intro Z hz)
  have HOK := Lib.hid hok
  clear Z hz hok
  go_enter Try.func37, Try.ntmps37
  go_wp2_with fail
  refine (unhex64_any s (w.alloc zeroId) hs HOK.out).mono ?_; rintro e w1 ⟨rfl, hb⟩
  have R1 : Hid (w1.rowIs w.heap.size 28 32 (fun _ => .int .u8 0) ∧ Below w.heap.size w w1) := Lib.hid ⟨HZ.out.1.1.of_block (hb.block _ (by have := HZ.out.2; omega)), HZ.out.1.2.trans (hb.mono (by have := HZ.out.2; omega))⟩
  clear hb
  obtain ⟨r, hr⟩ : ∃ r, bs (unL s 32) = r := ⟨_, rfl⟩
  have hrs : r.size = 32 := by rw [← hr, bs_size, unL_len]
  have HR := Lib.hid hr
  rw [hr]
  clear hr
  have AR := fun g cap W => run_arrayAt32 g cap W
  have KX : Hid (∀ cap w2, bufIs w2 5 w1.heap.size r.size cap (fun j => .int .u8 ((r.data.toList.getD j 0).toNat : Int)) → w1.grownBy w2 none → (ld32 (.pointer (some ⟨w1.heap.size, 0, none⟩))).run Try.prog w2 = .ok (.value (.agg (idA (idOf s)))) w2 ∧ ok32 w2 w.heap.size 0 = true ∧ Hid ((put32 w2 w.heap.size 0 (idA (idOf s))).heap[w.heap.size]? = some (.cells (idA (idOf s)) 28 (0, 0)) ∧ Below w.heap.size w (put32 w2 w.heap.size 0 (idA (idOf s))))) := Lib.hid (fun cap w2 hc2 hg2 => by
    have LD := run_ld32_cells w2 w1.heap.size (idOf s) (fun j hj => by
      rw [hc2.cell (by omega)]
      show some (Value.int .u8 ((byteAt r j).toNat : Int)) = _
      rw [← HR.out, bytes_bs]; rfl)
    have RW : w2.rowIs w.heap.size 28 32 (fun _ => .int .u8 0) := R1.out.1.of_block (hg2.block _ R1.out.1.lt (by simp))
    have BB : Below w.heap.size w w2 := below_grown R1.out.2 hg2 (fun g hg => by cases hg)
    exact ⟨LD, ok32_of RW (by omega), Lib.hid (id_put (idOf s) RW BB (Nat.le_refl _))⟩)
  go_wp2_with (with_reducible refine conv_bytes_wp (e := 5) (by kernel_rfl) (by kernel_rfl) (by kernel_rfl) rfl _ rfl r rfl ?_; intro cap w2 hc2 hg2; have LD := (KX.out cap w2 hc2 hg2).1; have o2 := (KX.out cap w2 hc2 hg2).2.1; have HP := (KX.out cap w2 hc2 hg2).2.2; clear hc2 hg2)
  refine bodyPost_ret (results_row_tmp (p := 2) (u := 3) rfl _ _ w.heap.size 28 (idA (idOf s)) (0, 0) rfl HP.out.1 Try.underlying28 (by rw [idA_size]; kernel_rfl)) rfl ⟨?_, HP.out.2⟩
  rfl
/-- A name in digits is read as the name. -/
theorem text_back (I : Nat → UInt8) : (bs (textL I)).size = 64 ∧ (∀ j, j < 64 → 0 ≤ dvB (byteAt (bs (textL I)) j)) ∧ ∀ k, k < 32 → idOf (bs (textL I)) k = I k := by
  have hb : ∀ k, k < 32 → (textL I).getD (2 * k) 0 = digF ((I k).toNat / 16) ∧ (textL I).getD (2 * k + 1) 0 = digF ((I k).toNat % 16) := by
    have g : ∀ (l : List UInt8) (k : Nat), k < l.length → (hexL l).getD (2 * k) 0 = digF ((l.getD k 0).toNat / 16) ∧ (hexL l).getD (2 * k + 1) 0 = digF ((l.getD k 0).toNat % 16) := by
      intro l
      induction l with
      | nil => intro k hk; simp at hk
      | cons a l ih =>
        intro k hk
        cases k with
        | zero => exact ⟨rfl, rfl⟩
        | succ k =>
          have := ih k (by simpa using hk)
          exact this
    intro k hk
    have := g ((List.range 32).map I) k (by simpa using hk)
    unfold textL
    simpa [List.getD, hk] using this
  have hsz : (bs (textL I)).size = 64 := by rw [bs_size]; unfold textL; rw [hexL_len]; simp
  refine ⟨hsz, fun j hj => ?_, fun k hk => ?_⟩
  · rw [bytes_bs]
    obtain ⟨k, hk⟩ : ∃ k, j = 2 * k ∨ j = 2 * k + 1 := ⟨j / 2, by omega⟩
    have h2 := hb k (by omega)
    have hI := (I k).toNat_lt
    rcases hk with rfl | rfl
    · rw [h2.1, dv_dig _ (by omega)]; omega
    · rw [h2.2, dv_dig _ (by omega)]; omega
  · have h2 := hb k hk
    have hI := (I k).toNat_lt
    unfold idOf unL hv
    simp only [List.getD_eq_getElem?_getD, List.getElem?_map, List.getElem?_range hk, Option.map_some, Option.getD_some]
    rw [bytes_bs, bytes_bs, h2.1, h2.2, dv_dig _ (by omega), dv_dig _ (by omega)]
    have e : 16 * ((((I k).toNat / 16 : Nat) : Int)).toNat + ((((I k).toNat % 16 : Nat) : Int)).toNat = (I k).toNat := by omega
    rw [e]
    exact UInt8.ofNat_toNat
end Go.Proofs.Ytbfmdingbgdflaa
namespace Go.Proofs.Ytbfmdingbgdflaa
open Go.RowKit
set_option linter.unusedVariables false
attribute [local go_sem ↓] execOp_ld32 execOp_st32 execOp_ld16 execOp_st16
attribute [local go_sem] run_ld32 run_st32 run_ld16 run_st16
/-- All digits good, and an even number of them. -/
def uhG (s : ByteArray) : Prop := s.size % 2 = 0 ∧ ∀ j, j < s.size → 0 ≤ dvB (byteAt s j)
/-- What Unhex tells. -/
def UhR (s u : ByteArray) (e : Int) : Prop := (uhG s ∧ u = bs (unL s (s.size / 2)) ∧ e = 0) ∨ (¬ uhG s ∧ u = { data := #[] } ∧ e = 4)
theorem and1 (n : Nat) (h : n < 9223372036854775808) : bits .and .i64 (n : Int) 1 = ((n % 2 : Nat) : Int) := by
  have hx : n &&& 1 < 2 ^ 63 := Nat.and_lt_two_pow _ (by omega)
  show IntKind.i64.wrap ((BitVec.ofInt 64 (n : Int) &&& BitVec.ofInt 64 1).toNat : Int) = _
  rw [BitVec.toNat_and, show (BitVec.ofInt 64 (n : Int)).toNat = n from by rw [BitVec.ofInt_natCast, BitVec.toNat_ofNat]; exact Nat.mod_eq_of_lt (by omega), show (BitVec.ofInt 64 1).toNat = 1 from rfl, Nat.and_one_is_mod]
  exact IntWalk.i64_in _ (by omega)
set_option maxRecDepth 100000 in
set_option maxHeartbeats 0 in
theorem unhex_any (s : ByteArray) (w : World) (hs : s.size ≤ 140737488351232) :
    Calls Try.prog 74 #[.string s] w fun e w' => (∃ u k, e = .returned (.tuple #[.string u, .int .i64 k]) ∧ UhR s u k) ∧ Below w.heap.size w w' := by
  have ht : Try.prog.underlying 134 = some (.array 16 5) := by kernel_rfl
  have hall : ∀ N W, (Instr.sliceAt 134 (.pointer (some ⟨N, 0, none⟩)) none none none).run Try.prog W = .ok (.slice (some ⟨N, 0, none⟩) 16 16) W := fun N W => by
    obtain ⟨i, hi⟩ := Option.isSome_iff_exists.1 (show (Try.prog.info? 5).isSome = true by kernel_rfl)
    exact run_all_array (P := Try.prog) W (t := 134) (n := 16) ht hi _
  clear ht
  go_enter Try.func74, Try.ntmps74
  go_wp2_with fail
  refine (digits_any _).mono ?_; rintro e w1 ⟨rfl, hb⟩
  obtain ⟨h1, h2, h3, h4⟩ := dig_new w1
  have f1 := dgA_full digF
  have H1 := Lib.hid (And.intro h2 (And.intro h3 hb))
  clear h2 h3 h4 hb
  unfold z16 at h1
  go_upto_region 2 with fail
  change Code.wp _ _ _ _ (put16 (w1.alloc z16) w1.heap.size 0 (dgA digF))
  have R1 : Hid (Below w.heap.size w (put16 (w1.alloc z16) w1.heap.size 0 (dgA digF))) := Lib.hid (H1.out.2.2.trans (H1.out.2.1.mono H1.out.2.2.size))
  generalize put16 (w1.alloc z16) w1.heap.size 0 (dgA digF) = w2 at H1 R1 ⊢
  obtain ⟨D, hD⟩ : ∃ D, w1.heap.size = D := ⟨_, rfl⟩
  rw [hD] at H1 ⊢
  clear hD h1 f1
  have RC : Hid (∀ j, j < 16 → w2.cell? (({ block := D, off := 0 } : Addr).add j) = some (.int .u8 ((((List.range 16).map digF).getD j 0).toNat : Int))) := Lib.hid (fun j hj => by
    rw [add0, H1.out.1.cell hj]; simp [u8V, List.getD, hj])
  have L16 : Hid (((List.range 16).map digF).length = 16) := Lib.hid (by simp)
  obtain ⟨dl, hdl⟩ : ∃ dl, (List.range 16).map digF = dl := ⟨_, rfl⟩
  have DS : bs dl = digS := by rw [← hdl]; rfl
  rw [hdl] at RC L16
  clear hdl
  obtain ⟨n, hn⟩ : ∃ n, s.size = n := ⟨_, rfl⟩
  have hand := and1 n (by omega)
  by_cases hodd : n % 2 = 1
  · have hG : Hid (¬ uhG s) := Lib.hid (fun h => by have := h.1; omega)
    rw [hodd] at hand
    have hand1 : bits .and .i64 (n : Int) 1 = 1 := hand
    rw [← hn] at hand1
    clear hand hn
    go_wp2_with (with_reducible refine conv_str_wp (e := 5) (by kernel_rfl) (by kernel_rfl) (by kernel_rfl) rfl _ rfl ⟨D, 0, none⟩ 16 16 rfl dl L16.out RC.out ?_)
    go_ret2
    exact ⟨⟨_, _, rfl, .inr ⟨hG.out, rfl, rfl⟩⟩, R1.out⟩
  rw [show n % 2 = 0 by omega] at hand
  have hand1 : bits .and .i64 (n : Int) 1 = 0 := hand
  obtain ⟨m, hm⟩ : ∃ m, n = 2 * m := ⟨n / 2, by omega⟩
  have hmi : (n : Int) / 2 = (m : Int) := by omega
  have hn0 : (n : Int) = (s.size : Int) := by omega
  rw [hn0] at hand1 hmi
  have hm2 : m ≤ 70368744175616 := by omega
  have HN : Hid (s.size = 2 * m) := Lib.hid (by omega)
  clear hand hn0 hn
  go_wp2_with (first
    | (with_reducible refine conv_str_wp (e := 5) (by kernel_rfl) (by kernel_rfl) (by kernel_rfl) rfl _ rfl ⟨D, 0, none⟩ 16 16 rfl dl L16.out RC.out ?_)
    | (with_reducible refine make0_wp elemByte rfl _ _ rfl w2.heap.size _ .i64 (m : Int) m rfl rfl rfl (by omega) (by omega) (Nat.le_refl _) ?_; intro v0 w3 ho3 hg3))
  have I3 : Hid (w3.ownsRow w2.heap.size 5 1 v0 0 (u8s (unL s 0)) ∧ Below w.heap.size w w3 ∧ w.heap.size ≤ w2.heap.size ∧ w2.heap.size ≤ w3.heap.size) := Lib.hid ⟨ho3, below_grown R1.out hg3 (fun g hg => by cases hg), R1.out.size, hg3.size⟩
  clear ho3 hg3 RC L16 H1
  obtain ⟨base, hbase⟩ : ∃ base, w2.heap.size = base := ⟨_, rfl⟩
  rw [hbase] at I3
  clear hbase R1 hmi hand1
  try rw [DS]
  clear DS
  generalize hdg : digS = dg at *
  have HGD := Lib.hid hdg
  clear hdg hodd
  subst hm
  go_loopw [7, 6] (fun i v wr => ∃ k : Nat, k ≤ m ∧ i = .int .i64 ((2 * k : Nat) : Int) ∧ Hid (wr.ownsRow base 5 1 v k (u8s (unL s k)) ∧ Below w.heap.size w wr ∧ w.heap.size ≤ base ∧ base ≤ wr.heap.size) ∧ Hid (∀ j, j < 2 * k → 0 ≤ dvB (byteAt s j))) (fun i _ _ => 2 * m - (intOf i).toNat)
  case atStart => exact ⟨0, by omega, rfl, I3, Lib.hid (fun j hj => absurd hj (by omega))⟩
  case round =>
    obtain ⟨k, hk, rfl, HR, HJ⟩ := hrel
    obtain ⟨q, hq⟩ : ∃ q, 2 * k = q := ⟨_, rfl⟩
    rw [hq]
    by_cases hlt : k < m
    · have hsz2 := HN.out
      have hqs : q < s.size := by omega
      have hqs1 : q + 1 < s.size := by omega
      obtain ⟨x, hx⟩ : ∃ x, byteAt s q = x := ⟨_, rfl⟩
      obtain ⟨y, hy⟩ : ∃ y, byteAt s (q + 1) = y := ⟨_, rfl⟩
      obtain ⟨d1, hd1⟩ : ∃ d, dvB x = d := ⟨_, rfl⟩
      obtain ⟨d2, hd2⟩ : ∃ d, dvB y = d := ⟨_, rfl⟩
      have C1 : ∀ W, Calls Try.prog 94 #[.string dg, .int .u8 (x.toNat : Int)] W fun e w' => e = .returned (.int .i64 d1) ∧ W = w' := fun W => by
        rw [← hd1, ← HGD.out]; exact strIdx_any digS _ W
      have C2 : ∀ W, Calls Try.prog 94 #[.string dg, .int .u8 (y.toNat : Int)] W fun e w' => e = .returned (.int .i64 d2) ∧ W = w' := fun W => by
        rw [← hd2, ← HGD.out]; exact strIdx_any digS _ W
      have g1 : s[q] = x := (byteAt_get s q hqs).trans hx
      have g2 : s[q + 1] = y := (byteAt_get s (q + 1) hqs1).trans hy
      have hqi : (q : Int) < (s.size : Int) := by omega
      have hqi1 : (q : Int) + 1 < (s.size : Int) := by omega
      have hq2 : (q : Int) + 2 = ((2 * (k + 1) : Nat) : Int) := by omega
      have z1 := dvB_lt x
      have z2 := dvB_lt y
      rw [hd1] at z1
      rw [hd2] at z2
      clear hsz2
      have HX := Lib.hid (And.intro (hx ▸ hd1 : dvB (byteAt s q) = d1) (hy ▸ hd2 : dvB (byteAt s (q + 1)) = d2))
      clear hx hy hd1 hd2
      go_wp2_with fail
      go_quiet (first | exact quiet_left (C1 _) | exact quiet_left (C2 _) | exact quiet_add_left (C1 _) | exact quiet_add_left (C2 _))
      clear C1 C2
      by_cases hb1 : d1 < 0
      · have hG : Hid (¬ uhG s) := Lib.hid (fun h => by have := h.2 q hqs; rw [HX.out.1] at this; omega)
        have BL := Lib.hid HR.out.2.1
        go_wp2
        go_ret2
        exact ⟨⟨_, _, rfl, .inr ⟨hG.out, rfl, rfl⟩⟩, below_drewN BL.out nq⟩
      by_cases hb2 : d2 < 0
      · have hG : Hid (¬ uhG s) := Lib.hid (fun h => by have := h.2 (q + 1) hqs1; rw [HX.out.2] at this; omega)
        have BL := Lib.hid HR.out.2.1
        go_wp2
        go_ret2
        exact ⟨⟨_, _, rfl, .inr ⟨hG.out, rfl, rfl⟩⟩, below_drewN BL.out nq⟩
      obtain ⟨dd, rfl⟩ : ∃ dd : Nat, d1 = (dd : Int) := ⟨d1.toNat, by omega⟩
      obtain ⟨l, rfl⟩ : ∃ l : Nat, d2 = (l : Int) := ⟨d2.toNat, by omega⟩
      have h16 : dd < 16 := by omega
      have l16 : l < 16 := by omega
      have HV : Hid (unL s (k + 1) = unL s k ++ [UInt8.ofNat (16 * dd + l)]) := Lib.hid (by
        rw [unL_succ, hq]; unfold hv; rw [HX.out.1, HX.out.2]; rfl)
      have HJ' : Hid (∀ j, j < 2 * (k + 1) → 0 ≤ dvB (byteAt s j)) := Lib.hid (fun j hj => by
        rcases Nat.lt_or_ge j (2 * k) with h | h
        · exact HJ.out j h
        · have : j = q ∨ j = q + 1 := by omega
          rcases this with rfl | rfl
          · rw [HX.out.1]; omega
          · rw [HX.out.2]; omega)
      have OR := or4 dd h16 l l16
      have OWN := Lib.hid (own_drewN HR.out.1 nq)
      have hle := HR.out.2.2.2
      have hle' : base ≤ (wr.drewN nq).heap.size := hle
      have hNN : wr.heap.size = (wr.drewN nq).heap.size := rfl
      have hk1 : k ≤ 4611686018427387904 := by omega
      have hk2 : (k + 1) * 1 ≤ 140737488355328 := by omega
      go_wp2_with (with_reducible refine append1_at elemByte rfl _ _ rfl base u6 k (u8s (unL s k)) rfl OWN.out _ wr.heap.size rfl hNN rfl hk1 hk2 hle' ?_; intro v' w' ho' hg')
      have HR' : Hid (w'.ownsRow base 5 1 v' (k + 1) (u8s (unL s (k + 1))) ∧ Below w.heap.size w w' ∧ w.heap.size ≤ base ∧ base ≤ w'.heap.size) := Lib.hid (by
        refine ⟨?_, below_grown (below_drewN HR.out.2.1 nq) hg' (fun g hg => by have := own_ge HR.out.1 _ hg; have := HR.out.2.2.1; omega), HR.out.2.2.1, Nat.le_trans HR.out.2.2.2 hg'.size⟩
        rw [HV.out]
        have e : u8s (unL s k ++ [UInt8.ofNat (16 * dd + l)]) = u8s (unL s k) ++ [.int .u8 (16 * (dd : Int) + (l : Int))] := by
          simp only [u8s, List.map_append, List.map_cons, List.map_nil]
          congr 3
          rw [UInt8.toNat_ofNat']; omega
        rw [e]
        exact ho')
      clear ho' hg'
      go_wp2
      go_roundw
      case rel => exact ⟨k + 1, by omega, by have := hq2; first | (congr 1; omega) | congr 1, HR', HJ'⟩
      case measure => simp [intOf]; omega
    · obtain rfl : k = m := by omega
      have hG : Hid (uhG s) := Lib.hid ⟨by have := HN.out; omega, fun j hj => HJ.out j (by have := HN.out; omega)⟩
      have EU : Hid (bs (unL s (s.size / 2)) = bs (unL s k)) := Lib.hid (by rw [HN.out, Nat.mul_div_cancel_left _ (by omega)])
      obtain ⟨A, c, rfl, hrd⟩ := own_reads HR.out.1
      have BL := Lib.hid HR.out.2.1
      have ULN := Lib.hid (unL_len s k)
      have hqe : (q : Int) = (s.size : Int) := by have := HN.out; omega
      rw [hqe]
      by_cases h0 : k = 0
      · subst h0
        have HE : Hid (unL s 0 = []) := Lib.hid rfl
        rcases A with _ | ad
        · have hcn : ∀ W, (convert 48 9 (.slice none 0 c)).run Try.prog W = .ok (.string { data := #[] }) W := fun W => by
            simp [convert, Conv.bytesToString, go_sem]; rfl
          go_wp2
          go_ret2
          exact ⟨⟨_, _, rfl, .inl ⟨hG.out, by rw [EU.out, HE.out]; rfl, rfl⟩⟩, BL.out⟩
        · go_wp2_with (with_reducible refine conv_str_wp (e := 5) (by kernel_rfl) (by kernel_rfl) (by kernel_rfl) rfl _ rfl ad 0 c rfl [] rfl (fun j hj => absurd hj (by omega)) ?_)
          go_ret2
          exact ⟨⟨_, _, rfl, .inl ⟨hG.out, by rw [EU.out, HE.out], rfl⟩⟩, BL.out⟩
      · obtain ⟨ad, rfl, _, hcell⟩ := reads_u8 hrd (by omega)
        have HC := Lib.hid hcell
        clear hcell
        go_wp2_with (with_reducible refine conv_str_wp (e := 5) (by kernel_rfl) (by kernel_rfl) (by kernel_rfl) rfl _ rfl ad k c rfl (unL s k) ULN.out HC.out ?_)
        go_ret2
        exact ⟨⟨_, _, rfl, .inl ⟨hG.out, by rw [EU.out], rfl⟩⟩, BL.out⟩
end Go.Proofs.Ytbfmdingbgdflaa
namespace Go.Proofs.Ytbfmdingbgdflaa
open Go.RowKit
set_option linter.unusedVariables false
/-- What a digit says; 16: it is none. -/
def dgB (c : UInt8) : Nat := if 48 ≤ c.toNat ∧ c.toNat ≤ 57 then c.toNat - 48 else if 97 ≤ c.toNat ∧ c.toNat ≤ 102 then c.toNat - 87 else 16
theorem dg_dv : ∀ c : UInt8, dvB c = if dgB c = 16 then -1 else (dgB c : Int) := by
  have h : ∀ n : Nat, n < 256 → dvB (UInt8.ofNat n) = if dgB (UInt8.ofNat n) = 16 then -1 else (dgB (UInt8.ofNat n) : Int) := by decide +kernel
  intro c
  have := h c.toNat c.toNat_lt
  rwa [UInt8.ofNat_toNat] at this
theorem dgB_le (c : UInt8) : dgB c ≤ 16 := by
  have := c.toNat_lt
  unfold dgB
  split
  · omega
  · split <;> omega
theorem rdigit_any (c : UInt8) (w : World) :
    Calls Try.prog 96 #[.int .u8 (c.toNat : Int)] w fun e w' => e = .returned (.int .u8 ((dgB c : Nat) : Int)) ∧ w = w' := by
  have hc := c.toNat_lt
  obtain ⟨n, hn⟩ : ∃ n, c.toNat = n := ⟨_, rfl⟩
  obtain ⟨d, hd⟩ : ∃ d, dgB c = d := ⟨_, rfl⟩
  have hd' : d = if 48 ≤ n ∧ n ≤ 57 then n - 48 else if 97 ≤ n ∧ n ≤ 102 then n - 87 else 16 := by rw [← hd, ← hn]; rfl
  rw [hn, hd]
  rw [hn] at hc
  clear hn hd
  by_cases h1 : 48 ≤ n
  · by_cases h2 : n ≤ 57
    · have e1 : (48 : Int) ≤ (n : Int) := by omega
      have e2 : (n : Int) ≤ 57 := by omega
      have ED : Hid (d = n - 48) := Lib.hid (by rw [hd', if_pos ⟨h1, h2⟩])
      clear hd'
      go_enter Try.func96, Try.ntmps96
      go_wp2
      go_ret
      refine ⟨?_, rfl⟩
      rw [ED.out]
      show Ending.returned (.int .u8 _) = _
      congr 2
      omega
    · have e1 : (48 : Int) ≤ (n : Int) := by omega
      have e2 : ¬ (n : Int) ≤ 57 := by omega
      by_cases h3 : 97 ≤ n
      · by_cases h4 : n ≤ 102
        · have e3 : (97 : Int) ≤ (n : Int) := by omega
          have e4 : (n : Int) ≤ 102 := by omega
          have ED : Hid (d = n - 87) := Lib.hid (by rw [hd', if_neg (by omega), if_pos ⟨h3, h4⟩])
          clear hd'
          go_enter Try.func96, Try.ntmps96
          go_wp2
          go_ret
          refine ⟨?_, rfl⟩
          rw [ED.out]
          show Ending.returned (.int .u8 _) = _
          congr 2
          omega
        · have e3 : (97 : Int) ≤ (n : Int) := by omega
          have e4 : ¬ (n : Int) ≤ 102 := by omega
          have ED : Hid (d = 16) := Lib.hid (by rw [hd', if_neg (by omega), if_neg (by omega)])
          clear hd'
          go_enter Try.func96, Try.ntmps96
          go_wp2
          go_ret
          exact ⟨by rw [ED.out]; rfl, rfl⟩
      · have e3 : ¬ (97 : Int) ≤ (n : Int) := by omega
        have ED : Hid (d = 16) := Lib.hid (by rw [hd', if_neg (by omega), if_neg (by omega)])
        clear hd'
        go_enter Try.func96, Try.ntmps96
        go_wp2
        go_ret
        exact ⟨by rw [ED.out]; rfl, rfl⟩
  · have e1 : ¬ (48 : Int) ≤ (n : Int) := by omega
    have e3 : ¬ (97 : Int) ≤ (n : Int) := by omega
    have ED : Hid (d = 16) := Lib.hid (by rw [hd', if_neg (by omega), if_neg (by omega)])
    clear hd'
    go_enter Try.func96, Try.ntmps96
    go_wp2
    go_ret
    exact ⟨by rw [ED.out]; rfl, rfl⟩
set_option maxRecDepth 100000 in
set_option maxHeartbeats 0 in
theorem runhex_any (s : ByteArray) (w : World) (hs : s.size ≤ 140737488351232) :
    Calls Try.prog 78 #[.string s] w fun e w' => (∃ u k, e = .returned (.tuple #[.string u, .int .i64 k]) ∧ UhR s u k) ∧ Below w.heap.size w w' := by
  by_cases hodd : s.size % 2 = 1
  · have hG : Hid (¬ uhG s) := Lib.hid (fun h => by have := h.1; omega)
    have ho1 : (s.size : Int) % 2 = 1 := by omega
    have ho2 : Int.tmod (s.size : Int) 2 = 1 := by rw [Int.tmod_eq_emod_of_nonneg (by omega)]; exact ho1
    go_enter Try.func78, Try.ntmps78
    go_wp2
    go_ret2
    exact ⟨⟨_, _, rfl, .inr ⟨hG.out, rfl, rfl⟩⟩, Below.refl _ _⟩
  obtain ⟨m, hm⟩ : ∃ m, s.size = 2 * m := ⟨s.size / 2, by omega⟩
  have HN := Lib.hid hm
  have ho1 : (s.size : Int) % 2 = 0 := by omega
  have ho2 : Int.tmod (s.size : Int) 2 = 0 := by rw [Int.tmod_eq_emod_of_nonneg (by omega)]; exact ho1
  have hm2 : m ≤ 70368744175616 := by omega
  clear hodd hm
  go_enter Try.func78, Try.ntmps78
  go_wp2
  clear ho1 ho2
  go_loopw [4, 5, 6, 7] (fun v i _ _ wr => ∃ k : Nat, k ≤ m ∧ i = .int .i64 ((2 * k : Nat) : Int) ∧ Hid (wr.ownsRow w.heap.size 5 1 v k (u8s (unL s k)) ∧ Below w.heap.size w wr) ∧ Hid (∀ j, j < 2 * k → 0 ≤ dvB (byteAt s j))) (fun _ i _ _ _ => 2 * m - (intOf i).toNat)
  case atStart => exact ⟨0, by omega, rfl, Lib.hid ⟨World.ownsRow_nil _ _ _ _, Below.refl _ _⟩, Lib.hid (fun j hj => absurd hj (by omega))⟩
  case round =>
    obtain ⟨k, hk, rfl, HR, HJ⟩ := hrel
    obtain ⟨q, hq⟩ : ∃ q, 2 * k = q := ⟨_, rfl⟩
    rw [hq]
    by_cases hlt : k < m
    · have hsz2 := HN.out
      have hqs : q < s.size := by omega
      have hqs1 : q + 1 < s.size := by omega
      have hqi : (q : Int) < (s.size : Int) := by omega
      have hqi1 : (q : Int) + 1 < (s.size : Int) := by omega
      have hq2 : (q : Int) + 2 = ((2 * (k + 1) : Nat) : Int) := by omega
      obtain ⟨x, hx⟩ : ∃ x, byteAt s q = x := ⟨_, rfl⟩
      obtain ⟨y, hy⟩ : ∃ y, byteAt s (q + 1) = y := ⟨_, rfl⟩
      have g1 : s[q] = x := (byteAt_get s q hqs).trans hx
      have g2 : s[q + 1] = y := (byteAt_get s (q + 1) hqs1).trans hy
      have z1 := dgB_le x
      have z2 := dgB_le y
      have p1 := dg_dv x
      have p2 := dg_dv y
      rw [← hx] at p1
      rw [← hy] at p2
      rw [hx] at p1
      rw [hy] at p2
      have HX : Hid ((dvB (byteAt s q) = if dgB x = 16 then -1 else (dgB x : Int)) ∧ dvB (byteAt s (q + 1)) = if dgB y = 16 then -1 else (dgB y : Int)) := Lib.hid ⟨by rw [hx]; exact p1, by rw [hy]; exact p2⟩
      clear hsz2 p1 p2 hx hy
      go_wp2_with fail
      refine (rdigit_any x _).mono ?_; rintro e w' ⟨rfl, rfl⟩
      go_wp2_with fail
      refine (rdigit_any y _).mono ?_; rintro e w' ⟨rfl, rfl⟩
      generalize dgB x = d1 at z1 HX ⊢
      generalize dgB y = d2 at z2 HX ⊢
      by_cases hb1 : d1 = 16
      · have hG : Hid (¬ uhG s) := Lib.hid (fun h => by have := h.2 q hqs; rw [HX.out.1, if_pos hb1] at this; omega)
        have BL := Lib.hid HR.out.2
        subst hb1
        rw [show ((16 : Nat) : Int) = 16 from rfl]
        go_wp2
        go_ret2
        exact ⟨⟨_, _, rfl, .inr ⟨hG.out, rfl, rfl⟩⟩, BL.out⟩
      have hd1 : ¬ (15 : Int) < (d1 : Int) := by omega
      by_cases hb2 : d2 = 16
      · have hG : Hid (¬ uhG s) := Lib.hid (fun h => by have := h.2 (q + 1) hqs1; rw [HX.out.2, if_pos hb2] at this; omega)
        have BL := Lib.hid HR.out.2
        subst hb2
        rw [show ((16 : Nat) : Int) = 16 from rfl]
        go_wp2
        go_ret2
        exact ⟨⟨_, _, rfl, .inr ⟨hG.out, rfl, rfl⟩⟩, BL.out⟩
      have hd2 : ¬ (15 : Int) < (d2 : Int) := by omega
      have h16 : d1 < 16 := by omega
      have l16 : d2 < 16 := by omega
      have HV : Hid (unL s (k + 1) = unL s k ++ [UInt8.ofNat (16 * d1 + d2)]) := Lib.hid (by
        rw [unL_succ, hq]; unfold hv; rw [HX.out.1, HX.out.2, if_neg hb1, if_neg hb2]; rfl)
      have HJ' : Hid (∀ j, j < 2 * (k + 1) → 0 ≤ dvB (byteAt s j)) := Lib.hid (fun j hj => by
        rcases Nat.lt_or_ge j (2 * k) with h | h
        · exact HJ.out j h
        · have : j = q ∨ j = q + 1 := by omega
          rcases this with rfl | rfl
          · rw [HX.out.1, if_neg hb1]; omega
          · rw [HX.out.2, if_neg hb2]; omega)
      have hle := HR.out.2.size
      have hk1 : k ≤ 4611686018427387904 := by omega
      have hk2 : (k + 1) * 1 ≤ 140737488355328 := by omega
      have W1 : IntKind.u8.wrap (16 * (d1 : Int)) = 16 * (d1 : Int) := by rw [IntKind.wrap_u8]; omega
      have W2 : IntKind.u8.wrap (16 * (d1 : Int) + (d2 : Int)) = 16 * (d1 : Int) + (d2 : Int) := by rw [IntKind.wrap_u8]; omega
      have W3 : (16 * (d1 : Int)) % 256 = 16 * (d1 : Int) := by omega
      have W4 : (16 * (d1 : Int) + (d2 : Int)) % 256 = 16 * (d1 : Int) + (d2 : Int) := by omega
      clear z1 z2 hb1 hb2
      go_wp2_with (with_reducible refine append1_at elemByte rfl _ _ rfl w.heap.size u4 k (u8s (unL s k)) rfl HR.out.1 _ wr.heap.size rfl rfl rfl hk1 hk2 hle ?_; intro v' w' ho' hg')
      have HR' : Hid (w'.ownsRow w.heap.size 5 1 v' (k + 1) (u8s (unL s (k + 1))) ∧ Below w.heap.size w w') := Lib.hid (by
        refine ⟨?_, below_grown HR.out.2 hg' (fun g hg => own_ge HR.out.1 _ hg)⟩
        rw [HV.out]
        have e : u8s (unL s k ++ [UInt8.ofNat (16 * d1 + d2)]) = u8s (unL s k) ++ [.int .u8 (16 * (d1 : Int) + (d2 : Int))] := by
          simp only [u8s, List.map_append, List.map_cons, List.map_nil]
          congr 3 <;> (rw [UInt8.toNat_ofNat']; omega)
        rw [e]
        exact ho')
      clear ho' hg'
      go_wp2
      go_roundw
      case rel => exact ⟨k + 1, by omega, by have := hq2; first | (congr 1; omega) | congr 1, HR', HJ'⟩
      case measure => simp [intOf]; omega
    · obtain rfl : k = m := by omega
      have hG : Hid (uhG s) := Lib.hid ⟨by have := HN.out; omega, fun j hj => HJ.out j (by have := HN.out; omega)⟩
      have EU : Hid (bs (unL s (s.size / 2)) = bs (unL s k)) := Lib.hid (by rw [HN.out, Nat.mul_div_cancel_left _ (by omega)])
      obtain ⟨A, c, rfl, hrd⟩ := own_reads HR.out.1
      have BL := Lib.hid HR.out.2
      have ULN := Lib.hid (unL_len s k)
      have hqe : (q : Int) = (s.size : Int) := by have := HN.out; omega
      rw [hqe]
      by_cases h0 : k = 0
      · subst h0
        have HE : Hid (unL s 0 = []) := Lib.hid rfl
        rcases A with _ | ad
        · have hcn : ∀ W, (convert 48 9 (.slice none 0 c)).run Try.prog W = .ok (.string { data := #[] }) W := fun W => by
            simp [convert, Conv.bytesToString, go_sem]; rfl
          go_wp2
          go_ret2
          exact ⟨⟨_, _, rfl, .inl ⟨hG.out, by rw [EU.out, HE.out]; rfl, rfl⟩⟩, BL.out⟩
        · go_wp2_with (with_reducible refine conv_str_wp (e := 5) (by kernel_rfl) (by kernel_rfl) (by kernel_rfl) rfl _ rfl ad 0 c rfl [] rfl (fun j hj => absurd hj (by omega)) ?_)
          go_ret2
          exact ⟨⟨_, _, rfl, .inl ⟨hG.out, by rw [EU.out, HE.out], rfl⟩⟩, BL.out⟩
      · obtain ⟨ad, rfl, _, hcell⟩ := reads_u8 hrd (by omega)
        have HC := Lib.hid hcell
        clear hcell
        go_wp2_with (with_reducible refine conv_str_wp (e := 5) (by kernel_rfl) (by kernel_rfl) (by kernel_rfl) rfl _ rfl ad k c rfl (unL s k) ULN.out HC.out ?_)
        go_ret2
        exact ⟨⟨_, _, rfl, .inl ⟨hG.out, by rw [EU.out], rfl⟩⟩, BL.out⟩
end Go.Proofs.Ytbfmdingbgdflaa
namespace Go.Proofs.Ytbfmdingbgdflaa
open Go.RowKit
set_option linter.unusedVariables false
attribute [local go_sem ↓] execOp_ld32 execOp_st32 execOp_ld16 execOp_st16
attribute [local go_sem] run_ld32 run_st32 run_ld16 run_st16
/-- A name in digits. -/
def pG (s : ByteArray) : Prop := s.size = 64 ∧ ∀ j, j < 64 → 0 ≤ dvB (byteAt s j)
open Classical in
noncomputable def pI (s : ByteArray) : Nat → UInt8 := if pG s then idOf s else zI
open Classical in
noncomputable def pE (s : ByteArray) : Int := if pG s then 0 else 4
theorem pG_not {s u : ByteArray} {k : Int} (h : ¬ pG s) (hu : UhR s u k) : k = 4 ∨ (k = 0 ∧ u.size ≠ 32) := by
  rcases hu with ⟨⟨h1, h2⟩, rfl, rfl⟩ | ⟨_, _, rfl⟩
  · refine .inr ⟨rfl, fun e => h ?_⟩
    rw [bs_size, unL_len] at e
    have h64 : s.size = 64 := by omega
    exact ⟨h64, fun j hj => h2 j (by omega)⟩
  · exact .inl rfl
theorem pG_yes {s u : ByteArray} {k : Int} (h : pG s) (hu : UhR s u k) : k = 0 ∧ u = bs (unL s 32) := by
  rcases hu with ⟨⟨h1, h2⟩, rfl, rfl⟩ | ⟨h3, _, rfl⟩
  · exact ⟨rfl, by rw [h.1]⟩
  · exact absurd ⟨by rw [h.1], fun j hj => h.2 j (by have := h.1; omega)⟩ h3
set_option maxRecDepth 100000 in
set_option maxHeartbeats 0 in
theorem parse_any (s : ByteArray) (w : World) (hs : s.size ≤ 140737488351232) :
    Calls Try.prog 37 #[.string s] w fun e w' => e = .returned (.tuple #[.agg (idA (pI s)), .int .i64 (pE s)]) ∧ Below w.heap.size w w' := by
  by_cases hp : pG s
  · unfold pI pE
    rw [if_pos hp, if_pos hp]
    exact parse64_any s w hp.1 hp.2
  have hI : pI s = zI := if_neg hp
  have hE : pE s = 4 := if_neg hp
  rw [hI, hE]
  clear hI hE
  have HP := Lib.hid hp
  clear hp
  have Z := zero_one w
  have hz : (w.alloc zeroId).heap.size = w.heap.size + 1 := by simp
  have f1 := idA_full zI
  have HZ := Lib.hid (And.intro Z hz)
  clear Z hz
  rw [← zero_lit] at f1
  go_enter Try.func37, Try.ntmps37
  go_wp2_with fail
  refine (unhex_any s (w.alloc zeroId) hs).mono ?_; rintro e w1 ⟨⟨u, k, rfl, hu⟩, hb⟩
  have hk := pG_not HP.out hu
  have R1 : w1.rowIs w.heap.size 28 32 (fun _ => .int .u8 0) := HZ.out.1.1.of_block (hb.block _ (by have := HZ.out.2; omega))
  have BB : Below w.heap.size w w1 := HZ.out.1.2.trans (hb.mono (by have := HZ.out.2; omega))
  obtain ⟨o1, HQ⟩ := zero_put BB R1
  have H := Lib.hid HQ
  clear R1 BB HQ hb hu
  rcases hk with rfl | ⟨rfl, h32⟩
  · go_wp2
    refine bodyPost_ret (results_row_tmp (p := 2) (u := 3) rfl _ _ w.heap.size 28 (idA zI) (0, 0) rfl H.out.1 Try.underlying28 (by rw [idA_size]; kernel_rfl)) rfl ⟨?_, H.out.2⟩
    rfl
  · have h32i : ¬ (u.size : Int) = 32 := by omega
    go_wp2
    refine bodyPost_ret (results_row_tmp (p := 2) (u := 3) rfl _ _ w.heap.size 28 (idA zI) (0, 0) rfl H.out.1 Try.underlying28 (by rw [idA_size]; kernel_rfl)) rfl ⟨?_, H.out.2⟩
    rfl
set_option maxRecDepth 100000 in
set_option maxHeartbeats 0 in
theorem rparse_any (s : ByteArray) (w : World) (hs : s.size ≤ 140737488351232) :
    Calls Try.prog 40 #[.string s] w fun e w' => e = .returned (.tuple #[.agg (idA (pI s)), .int .i64 (pE s)]) ∧ Below w.heap.size w w' := by
  have ZR := Lib.hid (zero_rows w)
  go_enter Try.func40, Try.ntmps40
  go_upto_region 2 with fail
  change Code.wp _ _ _ _ ((w.alloc zeroId).alloc zeroId)
  generalize (w.alloc zeroId).alloc zeroId = w2 at ZR ⊢
  go_wp2_with fail
  refine (runhex_any s w2 hs).mono ?_; rintro e w1 ⟨⟨u, k, rfl, hu⟩, hb⟩
  have R : Hid (w1.rowIs w.heap.size 28 32 (fun _ => .int .u8 0) ∧ w1.rowIs (w.heap.size + 1) 28 32 (fun _ => .int .u8 0) ∧ Below w.heap.size w w1) := Lib.hid ⟨ZR.out.1.of_block (hb.block _ ZR.out.1.lt), ZR.out.2.1.of_block (hb.block _ ZR.out.2.1.lt), ZR.out.2.2.trans (hb.mono ZR.out.2.2.size)⟩
  clear hb ZR
  by_cases hp : pG s
  · obtain ⟨rfl, rfl⟩ := pG_yes hp hu
    have hI : pI s = idOf s := if_pos hp
    have hE : pE s = 0 := if_pos hp
    have HR := Lib.hid (And.intro hI hE)
    clear hI hE hp hu
    obtain ⟨u, hu⟩ : ∃ u, bs (unL s 32) = u := ⟨_, rfl⟩
    have h32 : (u.size : Int) = 32 := by rw [← hu, bs_size, unL_len]; rfl
    have h32n : u.size = 32 := by omega
    have HU : Hid (∀ k, k < 32 → byteAt u k = idOf s k) := Lib.hid (fun k hk => by rw [← hu, bytes_bs]; rfl)
    rw [hu]
    clear hu
    go_wp2
    go_loopw [7] (fun i wr => ∃ k : Nat, k ≤ 32 ∧ i = .int .i64 k ∧ Hid (wr.rowIs w.heap.size 28 32 (fun _ => .int .u8 0) ∧ wr.rowIs (w.heap.size + 1) 28 32 (u8V (idS u k)) ∧ Below w.heap.size w wr)) (fun i _ => 32 - (intOf i).toNat)
    case atStart => exact ⟨0, by omega, rfl, Lib.hid ⟨R.out.1, R.out.2.1.congr fun i _ => by unfold idS; simp only [u8V]; rw [if_neg (by omega)]; rfl, R.out.2.2⟩⟩
    case round =>
      obtain ⟨k, hk, rfl, HL⟩ := hrel
      by_cases h2 : k < 32
      · obtain ⟨v1, hc1⟩ : ∃ v, wr.cell? ⟨w.heap.size + 1, k, none⟩ = some v := ⟨_, HL.out.2.1.cell h2⟩
        have hf1 : wr.frozen? ⟨w.heap.size + 1, k, none⟩ = false := HL.out.2.1.frozen _
        have hk32 : (k : Int) < 32 := by omega
        have hks : k < u.size := by omega
        have E := Lib.hid (byteAt_get u k hks)
        go_wp2
        go_roundw
        case rel =>
          refine ⟨k + 1, by omega, by go_num, Lib.hid ⟨HL.out.1.of_block (Below.heap_setCell _ _ _ _ (by show w.heap.size ≠ w.heap.size + 1; omega)), (HL.out.2.1.set k _).congr fun i hi => ?_, HL.out.2.2.setCell (by show _ ≤ w.heap.size + 1; omega) _⟩⟩
          simp only [u8V, idS]
          by_cases e : i = k
          · rw [if_pos e, if_pos (by omega), e, E.out]
          · rw [if_neg e]
            by_cases h3 : i < k
            · rw [if_pos h3, if_pos (by omega)]
            · rw [if_neg h3, if_neg (by omega)]
        case measure => simp [intOf]; omega
      · obtain rfl : k = 32 := by omega
        have E : Hid (row32 wr (w.heap.size + 1) 0 = idA (byteAt u)) := Lib.hid (id_end HL.out.2.1 (.inl (by omega)))
        have e1 := E.out
        have o1 := ok32_of HL.out.2.1 (off := 0) (by omega)
        have o2 := ok32_of HL.out.1 (off := 0) (by omega)
        have f1 := idA_full (byteAt u)
        have HQ := Lib.hid (id_put (byteAt u) HL.out.1 HL.out.2.2 (Nat.le_refl _))
        have EI : Hid (idA (byteAt u) = idA (idOf s)) := Lib.hid (idA_congr HU.out)
        clear HL
        rw [show ((32 : Nat) : Int) = 32 from rfl]
        go_wp2
        refine bodyPost_ret (results_row_tmp (p := 2) (u := 3) rfl _ _ w.heap.size 28 (idA (byteAt u)) (0, 0) rfl HQ.out.1 Try.underlying28 (by rw [idA_size]; kernel_rfl)) rfl ⟨?_, HQ.out.2⟩
        rw [EI.out, HR.out.1, HR.out.2]
        rfl
  · have hk := pG_not hp hu
    have hI : pI s = zI := if_neg hp
    have hE : pE s = 4 := if_neg hp
    have HI := Lib.hid (And.intro hI hE)
    clear hI hE hp hu
    have e1 : row32 w1 (w.heap.size + 1) 0 = idA zI := row32_id (R.out.2.1.congr fun i _ => rfl)
    have o1 := ok32_of R.out.2.1 (off := 0) (by omega)
    have o2 := ok32_of R.out.1 (off := 0) (by omega)
    have f1 := idA_full zI
    have HQ := Lib.hid (id_put zI R.out.1 R.out.2.2 (Nat.le_refl _))
    clear R
    rcases hk with rfl | ⟨rfl, h32⟩
    · go_wp2
      refine bodyPost_ret (results_row_tmp (p := 2) (u := 3) rfl _ _ w.heap.size 28 (idA zI) (0, 0) rfl HQ.out.1 Try.underlying28 (by rw [idA_size]; kernel_rfl)) rfl ⟨?_, HQ.out.2⟩
      rw [HI.out.1, HI.out.2]
      rfl
    · have h32i : ¬ (u.size : Int) = 32 := by omega
      go_wp2
      refine bodyPost_ret (results_row_tmp (p := 2) (u := 3) rfl _ _ w.heap.size 28 (idA zI) (0, 0) rfl HQ.out.1 Try.underlying28 (by rw [idA_size]; kernel_rfl)) rfl ⟨?_, HQ.out.2⟩
      rw [HI.out.1, HI.out.2]
      rfl
end Go.Proofs.Ytbfmdingbgdflaa
namespace Go.Proofs.Ytbfmdingbgdflaa
open Go.RowKit Blo Dig
set_option linter.unusedVariables false
attribute [local go_sem ↓] execOp_ld32 execOp_st32
attribute [local go_sem] run_ld32 run_st32
theorem rfit_no (n : Int) (w : World) (h : n < 0 ∨ 1048576 < n) :
    Calls Try.prog 48 #[.int .i64 n] w fun e w' => e = .returned (.tuple #[.int .i64 0, .int .i64 0, .int .i64 1]) ∧ w = w' := by
  by_cases h0 : n < 0
  · clear h
    go_enter Try.func48, Try.ntmps48
    go_wp2
    go_ret3
    exact ⟨rfl, rfl⟩
  · have h1 : 1048576 < n := by omega
    have h2 : 0 ≤ n := by omega
    clear h
    go_enter Try.func48, Try.ntmps48
    go_wp2
    go_ret3
    exact ⟨rfl, rfl⟩
set_option maxRecDepth 100000 in
theorem rfit_any (n : Nat) (w : World) (h : n ≤ 1048576) :
    Calls Try.prog 48 #[.int .i64 (n : Int)] w fun e w' => e = .returned (.tuple #[.int .i64 ((fitN n : Nat) : Int), .int .i64 7, .int .i64 0]) ∧ w = w' := by
  have h1 : (n : Int) ≤ 1048576 := by omega
  have h2 : 0 ≤ (n : Int) := by omega
  go_enter Try.func48, Try.ntmps48
  go_wp2
  go_loopw [5] (fun b wr => ∃ k f : Nat, 64 ≤ k ∧ k ≤ 20971520 ∧ 10 * n ≤ k * 2 ^ f ∧ b = .int .i64 (k : Int) ∧ Hid (fitN n = fitF f k n) ∧ w = wr) (fun b _ => 20971520 - (intOf b).toNat)
  case atStart => exact ⟨64, 18, by omega, by omega, by omega, rfl, Lib.hid rfl, rfl⟩
  case round =>
    obtain ⟨k, f, hk1, hk2, hf, rfl, HF, rfl⟩ := hrel
    by_cases hlt : k < 10 * n
    · have hlt2 : (k : Int) < 10 * (n : Int) := by omega
      cases f with
      | zero => omega
      | succ f =>
        have HN : Hid (fitN n = fitF f (2 * k) n) := Lib.hid (by rw [HF.out, fitF, if_pos hlt])
        have hpow : 10 * n ≤ (2 * k) * 2 ^ f := by rw [Nat.pow_succ] at hf; rw [Nat.mul_comm 2 k, Nat.mul_assoc, Nat.mul_comm 2]; exact hf
        clear hf
        go_wp2
        go_roundw
        case rel => exact ⟨2 * k, f, by omega, by omega, hpow, by go_num, HN, by first | rfl | trivial⟩
        case measure => simp [intOf]; omega
    · have hlt2 : ¬ (k : Int) < 10 * (n : Int) := by omega
      have HN : Hid (fitN n = k) := Lib.hid (by
        rw [HF.out]
        cases f with
        | zero => rfl
        | succ f => rw [fitF, if_neg hlt])
      clear hf
      go_wp2
      go_ret3
      exact ⟨by rw [HN.out]; rfl, rfl⟩
def aheadB : ByteArray := { data := #[98, 108, 111, 111, 109, 45] }
def behindB : ByteArray := { data := #[46, 98, 102] }
/-- The name of a filter's file. -/
def nameB (s : ByteArray) : ByteArray := aheadB ++ bs (textL (shaF (byteAt s) s.size)) ++ behindB
theorem name_any (s : ByteArray) (w : World) (hs : s.size ≤ 140737488351232) :
    Calls Try.prog 50 #[.string s] w fun e w' => e = .returned (.string (nameB s)) ∧ Below w.heap.size w w' := by
  obtain ⟨I, hI⟩ : ∃ I, shaF (byteAt s) s.size = I := ⟨_, rfl⟩
  have HN : Hid (nameB s = aheadB ++ bs (textL I) ++ behindB) := Lib.hid (by unfold nameB; rw [hI])
  have SM : ∀ W, Calls Try.prog 22 #[.string s] W fun e w' => e = .returned (.agg (idA I)) ∧ Below W.heap.size W w' := fun W => by
    rw [← hI]; exact digSum_any s W (by omega)
  have h64 : (bs (textL I)).size = 64 := (text_back I).1
  clear hI
  go_enter Try.func50, Try.ntmps50
  go_wp2_with fail
  refine (SM _).mono ?_; rintro e w1 ⟨rfl, hb1⟩
  have B1 := Lib.hid hb1
  clear hb1 SM
  go_wp2_with fail
  refine (text_any I _).mono ?_; rintro e w2 ⟨rfl, hb2⟩
  have B2 := Lib.hid (B1.out.trans (hb2.mono B1.out.size))
  clear hb2 B1
  generalize bs (textL I) = T at *
  have hcat1 : ¬ 9223372036854775807 < ByteArray.size { data := #[98, 108, 111, 111, 109, 45] } + T.size := by rw [h64]; decide
  have hcat2 : ¬ 9223372036854775807 < ByteArray.size { data := #[98, 108, 111, 111, 109, 45] } + T.size + ByteArray.size { data := #[46, 98, 102] } := by rw [h64]; decide
  go_wp2
  go_ret
  exact ⟨by rw [HN.out]; rfl, B2.out⟩
/-- Is a name one of a filter's file? -/
def nmG (s : ByteArray) : Prop := s.size = 73 ∧ s.extract 0 6 = aheadB ∧ s.extract 70 73 = behindB ∧ ∀ j, j < 64 → 0 ≤ dvB (byteAt s (6 + j))
theorem cut_all {s : ByteArray} (a b : Nat) : (s.extract a b).size = min b s.size - a := by rw [ByteArray.size_extract]
theorem pG_mid {s : ByteArray} (h : s.size = 73) : pG (s.extract 6 70) ↔ ∀ j, j < 64 → 0 ≤ dvB (byteAt s (6 + j)) := by
  unfold pG
  rw [ByteArray.size_extract, h]
  constructor
  · intro hp j hj
    have := hp.2 j hj
    rwa [byteAt_cut s 6 70 j (by omega) (by omega)] at this
  · intro hp
    exact ⟨rfl, fun j hj => by rw [byteAt_cut s 6 70 j (by omega) (by omega)]; exact hp j hj⟩
open Classical in
noncomputable def nmB (s : ByteArray) : Bool := if nmG s then true else false
theorem nm_no {s : ByteArray} (h : ¬ nmG s) : nmB s = false := if_neg h
theorem nm_yes {s : ByteArray} (h : nmG s) : nmB s = true := if_pos h
theorem str_yes {a : ByteArray} {l : List UInt8} (h : a = bs l) : (a.toList == l) = true := by
  rw [h, ByteArray.toList_eq, bs_data]; exact beq_self_eq_true _
theorem str_no {a : ByteArray} {l : List UInt8} (h : a ≠ bs l) : (a.toList == l) = false := by
  rw [ByteArray.toList_eq, beq_eq_false_iff_ne]
  intro e
  exact h (by rw [← e, bs_of])
set_option maxRecDepth 100000 in
set_option maxHeartbeats 0 in
theorem named_any (s : ByteArray) (w : World) (hs : s.size ≤ 140737488351232) :
    Calls Try.prog 84 #[.string s] w fun e w' => e = .returned (.bool (nmB s)) ∧ Below w.heap.size w w' := by
  by_cases h9 : s.size < 9
  · have X : Hid (nmB s = false) := Lib.hid (nm_no (fun h => by have := h.1; omega))
    have h9i : (s.size : Int) - 3 < 6 := by omega
    go_enter Try.func84, Try.ntmps84
    go_wp2
    go_ret
    exact ⟨by rw [X.out]; rfl, Below.refl _ _⟩
  obtain ⟨m, hm⟩ : ∃ m, s.size = m + 3 := ⟨s.size - 3, by omega⟩
  have HM := Lib.hid hm
  have hmi : (s.size : Int) - 3 = (m : Int) := by omega
  have hm6 : ¬ (m : Int) < 6 := by omega
  have hm6' : (6 : Int) ≤ (m : Int) := by omega
  have hmn : (m : Int) ≤ (s.size : Int) := by omega
  have h6n : (6 : Int) ≤ (s.size : Int) := by omega
  obtain ⟨a, ha⟩ : ∃ a, s.extract 0 6 = a := ⟨_, rfl⟩
  obtain ⟨z, hz⟩ : ∃ z, s.extract m s.size = z := ⟨_, rfl⟩
  obtain ⟨t, ht⟩ : ∃ t, s.extract 6 m = t := ⟨_, rfl⟩
  have HA := Lib.hid (And.intro ha (And.intro hz ht))
  by_cases ea : a = aheadB
  · by_cases ez : z = behindB
    · have g1 : (a.toList == [98, 108, 111, 111, 109, 45]) = true := str_yes ea
      have g2 : (z.toList == [46, 98, 102]) = true := str_yes ez
      have EV : Hid (nmB s = decide (pE t = 0)) := Lib.hid (by
        by_cases hp : pG t
        · have e1 : pE t = 0 := if_pos hp
          rw [decide_eq_true e1]
          have hts := hp.1
          rw [← ht, ByteArray.size_extract] at hts
          have h73 : s.size = 73 := by omega
          have hm70 : m = 70 := by omega
          refine nm_yes ⟨h73, by rw [ha, ea], by rw [← ez, ← hz, h73, hm70], ?_⟩
          rw [← pG_mid h73, ← hm70, ht]
          exact hp
        · have e1 : pE t = 4 := if_neg hp
          rw [e1]
          refine nm_no (fun h => hp ?_)
          have hm70 : m = 70 := by have := h.1; omega
          rw [← ht, hm70]
          exact (pG_mid h.1).2 h.2.2.2)
      have hts : t.size ≤ 140737488351232 := by rw [← ht, ByteArray.size_extract]; omega
      clear ea ez
      obtain ⟨pi, hpi⟩ : ∃ pi, pI t = pi := ⟨_, rfl⟩
      obtain ⟨pe, hpe⟩ : ∃ pe, pE t = pe := ⟨_, rfl⟩
      have PR : ∀ W, Calls Try.prog 37 #[.string t] W fun e w' => e = .returned (.tuple #[.agg (idA pi), .int .i64 pe]) ∧ Below W.heap.size W w' := fun W => by
        rw [← hpi, ← hpe]; exact parse_any t W hts
      rw [hpe] at EV
      clear hpi hpe hm h9
      go_enter Try.func84, Try.ntmps84
      go_wp2_with fail
      refine (PR _).mono ?_; rintro e w1 ⟨rfl, hb1⟩
      have B1 := Lib.hid hb1
      obtain ⟨o1, o2, o3⟩ : ok32 (w1.alloc zeroId) w1.heap.size 0 = true ∧ True ∧ Below w1.heap.size w1 (put32 (w1.alloc zeroId) w1.heap.size 0 (idA pi)) := by
        have z := zeros_row w1 (T := 28) (c := _) (n := 32) (z := .int .u8 0) (by rfl)
        have z' : (w1.alloc zeroId).rowIs w1.heap.size 28 32 (fun _ => .int .u8 0) := z
        obtain ⟨q1, q2⟩ := put32_row z' 0 (idA pi) (by omega) (idA_full pi)
        exact ⟨ok32_of z' (by omega), trivial, below_grown ((Below.refl _ _).alloc (Nat.le_refl _) _) q2 (fun g hg => by cases hg; exact Nat.le_refl _)⟩
      have B2 := Lib.hid (B1.out.trans (o3.mono B1.out.size))
      have f1 := idA_full pi
      clear hb1 o2 o3 PR
      unfold zeroId at o1
      go_upto_region 5 with fail
      change Code.wp _ _ _ _ (put32 (w1.alloc zeroId) w1.heap.size 0 (idA pi))
      generalize put32 (w1.alloc zeroId) w1.heap.size 0 (idA pi) = w2 at B2 ⊢
      clear o1 f1
      by_cases hpe : pe = 0
      · subst hpe
        go_wp2
        go_ret
        exact ⟨by rw [EV.out]; rfl, B2.out⟩
      · have EV2 : Hid (nmB s = false) := Lib.hid (by rw [EV.out]; exact decide_eq_false hpe)
        go_wp2
        go_ret
        exact ⟨by rw [EV2.out]; first | rfl | simp [hpe], B2.out⟩
    · have g1 : (a.toList == [98, 108, 111, 111, 109, 45]) = true := str_yes ea
      have g2 : (z.toList == [46, 98, 102]) = false := str_no ez
      have X : Hid (nmB s = false) := Lib.hid (nm_no (fun h => ez (by
        have e1 := h.1
        have e2 := h.2.2.1
        rw [← hz, e1, show m = 70 by omega]; exact e2)))
      clear ea ez hm h9
      go_enter Try.func84, Try.ntmps84
      go_wp2
      go_ret
      exact ⟨by rw [X.out]; rfl, Below.refl _ _⟩
  · have g1 : (a.toList == [98, 108, 111, 111, 109, 45]) = false := str_no ea
    have X : Hid (nmB s = false) := Lib.hid (nm_no (fun h => ea (by rw [← ha]; exact h.2.1)))
    clear ea hm h9
    go_enter Try.func84, Try.ntmps84
    go_wp2
    go_ret
    exact ⟨by rw [X.out]; rfl, Below.refl _ _⟩
end Go.Proofs.Ytbfmdingbgdflaa
namespace Go.Proofs.Ytbfmdingbgdflaa
open Go.RowKit Blo Dig
set_option linter.unusedVariables false
theorem dv_good (c : UInt8) : 0 ≤ dvB c ↔ ((48 ≤ c.toNat ∧ c.toNat ≤ 57) ∨ (97 ≤ c.toNat ∧ c.toNat ≤ 102)) := by
  rw [dg_dv]
  unfold dgB
  have := c.toNat_lt
  by_cases h1 : 48 ≤ c.toNat ∧ c.toNat ≤ 57
  · rw [if_pos h1, if_neg (by omega)]; omega
  · rw [if_neg h1]
    by_cases h2 : 97 ≤ c.toNat ∧ c.toNat ≤ 102
    · rw [if_pos h2, if_neg (by omega)]; omega
    · rw [if_neg h2, if_pos rfl]; omega
theorem nm_mid {s t : ByteArray} (h73 : s.size = 73) (ha : s.extract 0 6 = aheadB) (hz : s.extract 70 73 = behindB) (ht : s.extract 6 70 = t) : nmG s ↔ ∀ j, j < 64 → 0 ≤ dvB (byteAt t j) := by
  have e : ∀ j, j < 64 → byteAt t j = byteAt s (6 + j) := fun j hj => by rw [← ht, byteAt_cut s 6 70 j (by omega) (by omega)]
  exact ⟨fun h j hj => by rw [e j hj]; exact h.2.2.2 j hj, fun h => ⟨h73, ha, hz, fun j hj => by rw [← e j hj]; exact h j hj⟩⟩
set_option maxRecDepth 100000 in
set_option maxHeartbeats 0 in
theorem rnamed_any (s : ByteArray) (w : World) (hs : s.size ≤ 140737488351232) :
    Calls Try.prog 85 #[.string s, .string { data := #[98, 108, 111, 111, 109, 45] }, .string { data := #[46, 98, 102] }, .int .i64 1] w fun e w' => e = .returned (.bool (nmB s)) ∧ w = w' := by
  have z6 : ByteArray.size { data := #[98, 108, 111, 111, 109, 45] } = 6 := rfl
  have z3 : ByteArray.size { data := #[46, 98, 102] } = 3 := rfl
  by_cases h73 : s.size = 73
  · obtain ⟨a, ha⟩ : ∃ a, s.extract 0 6 = a := ⟨_, rfl⟩
    obtain ⟨z, hz⟩ : ∃ z, s.extract 70 73 = z := ⟨_, rfl⟩
    obtain ⟨t, ht⟩ : ∃ t, s.extract 6 70 = t := ⟨_, rfl⟩
    have HA := Lib.hid (And.intro h73 (And.intro ha (And.intro hz ht)))
    have h73i : (s.size : Int) = 73 := by omega
    have ht64 : t.size = 64 := by rw [← ht, ByteArray.size_extract]; omega
    by_cases ea : a = aheadB
    · by_cases ez : z = behindB
      · have g1 : (a.toList == [98, 108, 111, 111, 109, 45]) = true := str_yes ea
        have g2 : (z.toList == [46, 98, 102]) = true := str_yes ez
        have MID := Lib.hid (nm_mid h73 (ha.trans ea) (hz.trans ez) ht)
        clear ea ez
        go_enter Try.func85, Try.ntmps85
        go_wp2
        clear g1 g2 ha hz ht h73 h73i z6 z3
        go_loopw [10, 11] (fun i _ wr => ∃ k : Nat, k ≤ 64 ∧ i = .int .i64 (k : Int) ∧ Hid (∀ j, j < k → 0 ≤ dvB (byteAt t j)) ∧ w = wr) (fun i _ _ => 64 - (intOf i).toNat)
        case atStart => exact ⟨0, by omega, rfl, Lib.hid (fun j hj => absurd hj (by omega)), rfl⟩
        case round =>
          obtain ⟨k, hk, rfl, HJ, rfl⟩ := hrel
          by_cases hlt : k < 64
          · have hki : (k : Int) < 64 := by omega
            have hkt : k < t.size := by omega
            obtain ⟨c, hc⟩ : ∃ c, byteAt t k = c := ⟨_, rfl⟩
            have gk : t[k] = c := (byteAt_get t k hkt).trans hc
            have hcl := c.toNat_lt
            have r1 : (k : Int).tmod 65 = (k : Int) := by rw [Int.tmod_eq_emod_of_nonneg (by omega)]; omega
            have r2 : (k : Int) % 65 = (k : Int) := by omega
            have r3 : ¬ (k : Int) = 64 := by omega
            have DG := Lib.hid (dv_good c)
            have HC := Lib.hid hc
            have NO : Hid (¬ 0 ≤ dvB c → nmB s = false) := Lib.hid (fun h => nm_no (fun g => h (by have := MID.out.1 g k hlt; rw [hc] at this; exact this)))
            have YES : Hid (0 ≤ dvB c → ∀ j, j < k + 1 → 0 ≤ dvB (byteAt t j)) := Lib.hid (fun h j hj => by
              rcases Nat.lt_or_ge j k with h2 | h2
              · exact HJ.out j h2
              · obtain rfl : j = k := by omega
                rw [hc]; exact h)
            clear hc
            by_cases h1 : 48 ≤ c.toNat
            · have e1 : (48 : Int) ≤ (c.toNat : Int) := by omega
              by_cases h2 : c.toNat ≤ 57
              · have e2 : (c.toNat : Int) ≤ 57 := by omega
                have HJ' := Lib.hid (YES.out (DG.out.2 (.inl ⟨h1, h2⟩)))
                go_wp2
                go_roundw
                case rel => exact ⟨k + 1, by omega, by go_num, HJ', by first | rfl | trivial⟩
                case measure => simp [intOf]; omega
              · have e2 : ¬ (c.toNat : Int) ≤ 57 := by omega
                by_cases h3 : 97 ≤ c.toNat
                · have e3 : (97 : Int) ≤ (c.toNat : Int) := by omega
                  by_cases h4 : c.toNat ≤ 102
                  · have e4 : (c.toNat : Int) ≤ 102 := by omega
                    have HJ' := Lib.hid (YES.out (DG.out.2 (.inr ⟨h3, h4⟩)))
                    go_wp2
                    go_roundw
                    case rel => exact ⟨k + 1, by omega, by go_num, HJ', by first | rfl | trivial⟩
                    case measure => simp [intOf]; omega
                  · have e4 : ¬ (c.toNat : Int) ≤ 102 := by omega
                    have X := Lib.hid (NO.out (fun h => by have := DG.out.1 h; omega))
                    go_wp2
                    go_ret
                    exact ⟨by rw [X.out]; rfl, rfl⟩
                · have e3 : ¬ (97 : Int) ≤ (c.toNat : Int) := by omega
                  have X := Lib.hid (NO.out (fun h => by have := DG.out.1 h; omega))
                  go_wp2
                  go_ret
                  exact ⟨by rw [X.out]; rfl, rfl⟩
            · have e1 : ¬ (48 : Int) ≤ (c.toNat : Int) := by omega
              have e3 : ¬ (97 : Int) ≤ (c.toNat : Int) := by omega
              have X := Lib.hid (NO.out (fun h => by have := DG.out.1 h; omega))
              go_wp2
              go_ret
              exact ⟨by rw [X.out]; rfl, rfl⟩
          · obtain rfl : k = 64 := by omega
            have X : Hid (nmB s = true) := Lib.hid (nm_yes (MID.out.2 HJ.out))
            rw [show ((64 : Nat) : Int) = 64 from rfl]
            go_wp2
            go_ret
            exact ⟨by rw [X.out]; rfl, rfl⟩
      · have g1 : (a.toList == [98, 108, 111, 111, 109, 45]) = true := str_yes ea
        have g2 : (z.toList == [46, 98, 102]) = false := str_no ez
        have X : Hid (nmB s = false) := Lib.hid (nm_no (fun h => ez (by rw [← hz]; exact h.2.2.1)))
        clear ea ez
        go_enter Try.func85, Try.ntmps85
        go_wp2
        go_ret
        exact ⟨by rw [X.out]; rfl, rfl⟩
    · have g1 : (a.toList == [98, 108, 111, 111, 109, 45]) = false := str_no ea
      have X : Hid (nmB s = false) := Lib.hid (nm_no (fun h => ea (by rw [← ha]; exact h.2.1)))
      clear ea
      go_enter Try.func85, Try.ntmps85
      go_wp2
      go_ret
      exact ⟨by rw [X.out]; rfl, rfl⟩
  · have h73i : ¬ (s.size : Int) = 73 := by omega
    have X : Hid (nmB s = false) := Lib.hid (nm_no (fun h => h73 h.1))
    clear h73
    go_enter Try.func85, Try.ntmps85
    go_wp2
    go_ret
    exact ⟨by rw [X.out]; rfl, rfl⟩
open Classical in
/-- What Check tells. -/
noncomputable def chE (name s : ByteArray) : Int := if nmG name then (if nameB s = name then (if decO s = none then 4 else 0) else 9) else 10
theorem str2_yes {a b : ByteArray} (h : a = b) : (a.toList == b.toList) = true := by rw [h]; exact beq_self_eq_true _
theorem str2_no {a b : ByteArray} (h : a ≠ b) : (a.toList == b.toList) = false := by
  rw [ByteArray.toList_eq, ByteArray.toList_eq, beq_eq_false_iff_ne]
  intro e
  exact h (by rw [← bs_of a, e, bs_of])
set_option maxRecDepth 100000 in
set_option maxHeartbeats 0 in
theorem check_any (name s : ByteArray) (w : World) (hn : name.size ≤ 140737488351232) (hs : s.size ≤ 140737488351232) :
    Calls Try.prog 52 #[.string name, .string s] w fun e w' => e = .returned (.int .i64 (chE name s)) ∧ Below w.heap.size w w' := by
  go_enter Try.func52, Try.ntmps52
  go_wp2_with fail
  refine (named_any name _ hn).mono ?_; rintro e w1 ⟨rfl, hb1⟩
  have B1 := Lib.hid hb1
  clear hb1
  by_cases g : nmG name
  · rw [nm_yes g]
    go_wp2_with fail
    refine (name_any s _ hs).mono ?_; rintro e w2 ⟨rfl, hb2⟩
    have B2 := Lib.hid (B1.out.trans (hb2.mono B1.out.size))
    clear hb2
    by_cases e : nameB s = name
    · have E : Hid (chE name s = if decO s = none then 4 else 0) := Lib.hid (by unfold chE; rw [if_pos g, if_pos e])
      have g1 := str2_yes e
      generalize nameB s = nb at g1 ⊢
      clear e g
      go_wp2_with fail
      refine (decode_any s _ hs).mono ?_; intro e w3 hd
      unfold DecR at hd
      cases ho : decO s with
      | none =>
        rw [ho] at hd
        obtain ⟨rfl, hb3⟩ := hd
        have E2 : Hid (chE name s = 4) := Lib.hid (by rw [E.out, if_pos ho])
        have B3 := Lib.hid (B2.out.trans (hb3.mono B2.out.size))
        clear hb3 ho
        go_wp2
        go_ret
        exact ⟨by rw [E2.out]; rfl, B3.out⟩
      | some x =>
        obtain ⟨n, H, t⟩ := x
        rw [ho] at hd
        obtain ⟨P, g, cap, rfl, _, _, _, hb3⟩ := hd
        have E2 : Hid (chE name s = 0) := Lib.hid (by rw [E.out, ho]; rfl)
        have B3 := Lib.hid (B2.out.trans (hb3.mono B2.out.size))
        clear hb3 ho
        go_wp2
        go_ret
        exact ⟨by rw [E2.out]; rfl, B3.out⟩
    · have E : Hid (chE name s = 9) := Lib.hid (by unfold chE; rw [if_pos g, if_neg e])
      have g1 := str2_no e
      generalize nameB s = nb at g1 ⊢
      clear e g
      go_wp2
      go_ret
      exact ⟨by rw [E.out]; rfl, B2.out⟩
  · have E : Hid (chE name s = 10) := Lib.hid (by unfold chE; rw [if_neg g])
    rw [nm_no g]
    clear g
    go_wp2
    go_ret
    exact ⟨by rw [E.out]; rfl, B1.out⟩
end Go.Proofs.Ytbfmdingbgdflaa
namespace Go.Proofs.Ytbfmdingbgdflaa
open Go.RowKit Wir
set_option linter.unusedVariables false
theorem shG_fail (F : Nat → UInt8) (L : Nat) : ∀ f i acc, (shG F L f i acc).2 < 0 → (shG F L f i acc).1 = 0
  | 0, _, _, _ => rfl
  | f + 1, i, acc, h => by
    unfold shG at h ⊢
    by_cases h1 : i < L ∧ i < 10
    · rw [if_pos h1] at h ⊢
      by_cases h2 : (i = 9 ∧ 1 < (F i).toNat) ∨ (0 < i ∧ (F i).toNat = 0)
      · rw [if_pos h2]
      · rw [if_neg h2] at h ⊢
        by_cases h3 : (F i).toNat < 128
        · rw [if_pos h3] at h
          simp at h
          omega
        · rw [if_neg h3] at h ⊢
          exact shG_fail F L f (i + 1) _ h
    · rw [if_neg h1]
theorem shG_pos (F : Nat → UInt8) (L : Nat) : ∀ f i acc, (shG F L f i acc).2 < 0 ∨ 1 ≤ (shG F L f i acc).2
  | 0, _, _ => .inl (by simp [shG])
  | f + 1, i, acc => by
    unfold shG
    by_cases h1 : i < L ∧ i < 10
    · rw [if_pos h1]
      by_cases h2 : (i = 9 ∧ 1 < (F i).toNat) ∨ (0 < i ∧ (F i).toNat = 0)
      · rw [if_pos h2]; exact .inl (by simp)
      · rw [if_neg h2]
        by_cases h3 : (F i).toNat < 128
        · rw [if_pos h3]; exact .inr (by simp; omega)
        · rw [if_neg h3]; exact shG_pos F L f (i + 1) _
    · rw [if_neg h1]; exact .inl (by simp)
/-- How many bytes it has; 0: there is none. -/
def rk (s : ByteArray) : Int := if (short (byteAt s) s.size).2 < 0 then 0 else (short (byteAt s) s.size).2
theorem pow7 (i b : Nat) (hi : i < 10) (hb : b < 256) (h9 : ¬ (i = 9 ∧ 1 < b)) : b % 128 * 2 ^ (7 * i) ≤ 9223372036854775808 := by
  by_cases h : i = 9
  · subst h
    have h2 : b % 128 * 2 ^ (7 * 9) ≤ 1 * 2 ^ (7 * 9) := Nat.mul_le_mul (by omega) (Nat.le_refl _)
    have e : 1 * 2 ^ (7 * 9) = 9223372036854775808 := by decide
    omega
  · have h1 : 2 ^ (7 * i) ≤ 2 ^ 56 := Nat.pow_le_pow_right (by omega) (by omega)
    have h2 : b % 128 * 2 ^ (7 * i) ≤ 127 * 2 ^ 56 := Nat.mul_le_mul (by omega) h1
    have e : 127 * 2 ^ 56 ≤ 9223372036854775808 := by decide
    omega
theorem acc63 (i acc : Nat) (hi : i < 10) (h : acc < 2 ^ (7 * i)) : acc < 9223372036854775808 := by
  have h1 : 2 ^ (7 * i) ≤ 2 ^ 63 := Nat.pow_le_pow_right (by omega) (by omega)
  have e : 2 ^ 63 = 9223372036854775808 := by decide
  omega
theorem acc_next (a x k : Nat) (ha : a < 2 ^ (7 * k)) : a + x % 128 * 2 ^ (7 * k) < 2 ^ (7 * (k + 1)) := by
  rw [Nat.mul_add, Nat.pow_add]
  have h : x % 128 * 2 ^ (7 * k) ≤ 127 * 2 ^ (7 * k) := Nat.mul_le_mul_right _ (by omega)
  show _ < 2 ^ (7 * k) * 128
  omega
set_option maxRecDepth 100000 in
set_option maxHeartbeats 0 in
theorem rshort_any (s : ByteArray) (w : World) (hs : s.size ≤ 9223372036854775807) :
    Calls Try.prog 99 #[.string s] w fun e w' => e = .returned (.tuple #[.int .u64 ((short (byteAt s) s.size).1 : Int), .int .i64 (rk s)]) ∧ w = w' := by
  go_enter Try.func99, Try.ntmps99
  go_wp2
  go_loopw [4, 5, 6] (fun n i _ wr => ∃ k acc : Nat, k ≤ 10 ∧ k ≤ s.size ∧ i = .int .i64 (k : Int) ∧ n = .int .u64 (acc : Int) ∧ Hid (acc < 2 ^ (7 * k) ∧ short (byteAt s) s.size = shG (byteAt s) s.size (11 - k) k acc) ∧ w = wr) (fun _ i _ _ => 10 - (intOf i).toNat)
  case atStart => exact ⟨0, 0, by omega, by omega, rfl, rfl, Lib.hid ⟨by decide, rfl⟩, rfl⟩
  case round =>
    obtain ⟨k, acc, hk, hks, rfl, rfl, HS, rfl⟩ := hrel
    by_cases h1 : k < s.size
    · by_cases h2 : k < 10
      · have h1i : (k : Int) < (s.size : Int) := by omega
        have h2i : (k : Int) < 10 := by omega
        obtain ⟨b, hb⟩ : ∃ b, byteAt s k = b := ⟨_, rfl⟩
        have gk : s[k] = b := (byteAt_get s k h1).trans hb
        have hbl := b.toNat_lt
        have ST : Hid (short (byteAt s) s.size = if (k = 9 ∧ 1 < b.toNat) ∨ (0 < k ∧ b.toNat = 0) then (0, -1) else if b.toNat < 128 then (acc + b.toNat % 128 * 2 ^ (7 * k), (k : Int) + 1) else shG (byteAt s) s.size (11 - (k + 1)) (k + 1) (acc + b.toNat % 128 * 2 ^ (7 * k))) := Lib.hid (by
          rw [HS.out.2, show 11 - k = (11 - (k + 1)) + 1 by omega, shG, if_pos ⟨h1, h2⟩, hb])
        clear hb
        have hvl : b.toNat < 256 := by omega
        by_cases hk9 : k = 9
        · subst hk9
          rw [show ((9 : Nat) : Int) = 9 from rfl]
          have ha63 := acc63 9 acc h2 HS.out.1
          have V2 : IntKind.u64.wrap ((acc : Int) + 9223372036854775808) = (acc : Int) + 9223372036854775808 := by rw [IntKind.wrap_u64]; omega
          have W2 : ((acc : Int) + 9223372036854775808) % 18446744073709551616 = (acc : Int) + 9223372036854775808 := by omega
          have V0 : IntKind.u64.wrap (acc : Int) = (acc : Int) := by rw [IntKind.wrap_u64]; omega
          have W0 : (acc : Int) % 18446744073709551616 = (acc : Int) := by omega
          have h1i' : (9 : Int) < (s.size : Int) := by omega
          by_cases hb1 : 1 < b.toNat
          · have X : Hid (short (byteAt s) s.size = (0, -1)) := Lib.hid (by rw [ST.out, if_pos (.inl ⟨rfl, hb1⟩)])
            have XK : Hid (rk s = 0) := Lib.hid (by unfold rk; rw [X.out]; rfl)
            have e2 : (1 : Int) < (b.toNat : Int) := by omega
            have V3 : IntKind.u64.wrap (b.toNat : Int) = (b.toNat : Int) := by rw [IntKind.wrap_u64]; omega
            have W3 : (b.toNat : Int) % 18446744073709551616 = (b.toNat : Int) := by omega
            clear hb1
            go_wp2
            go_ret2
            exact ⟨by rw [X.out, XK.out]; rfl, rfl⟩
          · by_cases hb0 : b.toNat = 0
            · have X : Hid (short (byteAt s) s.size = (0, -1)) := Lib.hid (by rw [ST.out, if_pos (.inr ⟨by omega, hb0⟩)])
              have XK : Hid (rk s = 0) := Lib.hid (by unfold rk; rw [X.out]; rfl)
              have e0 : (b.toNat : Int) = 0 := by omega
              clear hb1
              go_wp2
              go_ret2
              exact ⟨by rw [X.out, XK.out]; rfl, rfl⟩
            · have hb : b.toNat = 1 := by omega
              have X : Hid (short (byteAt s) s.size = (acc + 9223372036854775808, 10)) := Lib.hid (by rw [ST.out, if_neg (by omega), if_pos (by omega), hb]; rfl)
              have XK : Hid (rk s = 10) := Lib.hid (by unfold rk; rw [X.out]; rfl)
              have e0 : (b.toNat : Int) = 1 := by omega
              clear hb1 hb0
              go_wp2
              go_ret2
              exact ⟨by rw [X.out, XK.out]; first | rfl | simp, rfl⟩
        · have h9 : ¬ (k = 9 ∧ 1 < b.toNat) := fun h => hk9 h.1
          have e9 : ¬ (k : Int) = 9 := by omega
          obtain ⟨m, hm⟩ : ∃ m, 7 * k = m := ⟨_, rfl⟩
          have hm64 : m < 64 := by omega
          have hmi : 7 * (k : Int) = (m : Int) := by omega
          obtain ⟨r, hr⟩ : ∃ r, b.toNat % 128 = r := ⟨_, rfl⟩
          obtain ⟨x, hx⟩ : ∃ x, r * 2 ^ m = x := ⟨_, rfl⟩
          obtain ⟨y, hy⟩ : ∃ y, acc + x = y := ⟨_, rfl⟩
          have hx63 : x ≤ 9223372036854775808 := by rw [← hx, ← hr, ← hm]; exact pow7 k b.toNat h2 hvl h9
          have ha63 := acc63 k acc h2 HS.out.1
          have E1 : (b.toNat : Int) % 128 = (r : Int) := by omega
          have E2 : (r : Int) * 2 ^ m = (x : Int) := by rw [← hx]; simp
          have E3 : (acc : Int) + (x : Int) = (y : Int) := by omega
          have W1 : (x : Int) % 18446744073709551616 = (x : Int) := by omega
          have W2 : (y : Int) % 18446744073709551616 = (y : Int) := by omega
          have V1 : IntKind.u64.wrap (x : Int) = (x : Int) := by rw [IntKind.wrap_u64]; omega
          have V2 : IntKind.u64.wrap (y : Int) = (y : Int) := by rw [IntKind.wrap_u64]; omega
          have V3 : IntKind.u64.wrap (b.toNat : Int) = (b.toNat : Int) := by rw [IntKind.wrap_u64]; omega
          have W3 : (b.toNat : Int) % 18446744073709551616 = (b.toNat : Int) := by omega
          have HY : Hid (acc + b.toNat % 128 * 2 ^ (7 * k) = y ∧ y < 2 ^ (7 * (k + 1))) := Lib.hid (by
            have e : acc + b.toNat % 128 * 2 ^ (7 * k) = y := by rw [hr, hm, hx, hy]
            exact ⟨e, by rw [← e]; exact acc_next acc b.toNat k HS.out.1⟩)
          have HY0 : Hid (b.toNat = 0 → y = acc) := Lib.hid (fun h => by rw [← hy, ← hx, ← hr, h]; simp)
          clear hr hx hy hm hx63 ha63
          by_cases h128 : b.toNat < 128
          · have e128 : (b.toNat : Int) < 128 := by omega
            by_cases h0 : b.toNat = 0
            · by_cases hk0 : k = 0
              · have X : Hid (short (byteAt s) s.size = (y, (k : Int) + 1)) := Lib.hid (by rw [ST.out, if_neg (by omega), if_pos h128, HY.out.1])
                have XK : Hid (rk s = (k : Int) + 1) := Lib.hid (by unfold rk; rw [X.out, if_neg (by show ¬ (k : Int) + 1 < 0; omega)])
                subst hk0
                have e0 : (b.toNat : Int) = 0 := by omega
                go_wp2
                go_ret2
                exact ⟨by rw [X.out, XK.out]; first | rfl | (rw [HY0.out h0]; first | rfl | simp) | simp, rfl⟩
              · have X : Hid (short (byteAt s) s.size = (0, -1)) := Lib.hid (by rw [ST.out, if_pos (.inr ⟨by omega, h0⟩)])
                have XK : Hid (rk s = 0) := Lib.hid (by unfold rk; rw [X.out]; rfl)
                have e0 : (b.toNat : Int) = 0 := by omega
                have ek : (0 : Int) < (k : Int) := by omega
                go_wp2
                go_ret2
                exact ⟨by rw [X.out, XK.out]; rfl, rfl⟩
            · have X : Hid (short (byteAt s) s.size = (y, (k : Int) + 1)) := Lib.hid (by rw [ST.out, if_neg (by omega), if_pos h128, HY.out.1])
              have XK : Hid (rk s = (k : Int) + 1) := Lib.hid (by unfold rk; rw [X.out, if_neg (by show ¬ (k : Int) + 1 < 0; omega)])
              have e0 : ¬ (b.toNat : Int) = 0 := by omega
              go_wp2
              go_ret2
              exact ⟨by rw [X.out, XK.out]; first | rfl | simp, rfl⟩
          · have e128 : ¬ (b.toNat : Int) < 128 := by omega
            have HN : Hid (y < 2 ^ (7 * (k + 1)) ∧ short (byteAt s) s.size = shG (byteAt s) s.size (11 - (k + 1)) (k + 1) y) := Lib.hid ⟨HY.out.2, by rw [ST.out, if_neg (by omega), if_neg h128, HY.out.1]⟩
            go_wp2
            go_roundw
            case rel => exact ⟨k + 1, y, by omega, by omega, by go_num, by first | rfl | go_num, HN, by first | rfl | trivial⟩
            case measure => simp [intOf]; omega
      · have h1i : (k : Int) < (s.size : Int) := by omega
        have h2i : ¬ (k : Int) < 10 := by omega
        have X : Hid (short (byteAt s) s.size = (0, -1)) := Lib.hid (by rw [HS.out.2, shG_end _ _ _ _ _ (by omega)])
        have XK : Hid (rk s = 0) := Lib.hid (by unfold rk; rw [X.out]; rfl)
        go_wp2
        go_ret2
        exact ⟨by rw [X.out, XK.out]; rfl, rfl⟩
    · have h1i : ¬ (k : Int) < (s.size : Int) := by omega
      have X : Hid (short (byteAt s) s.size = (0, -1)) := Lib.hid (by rw [HS.out.2, shG_end _ _ _ _ _ (by omega)])
      have XK : Hid (rk s = 0) := Lib.hid (by unfold rk; rw [X.out]; rfl)
      go_wp2
      go_ret2
      exact ⟨by rw [X.out, XK.out]; rfl, rfl⟩
def RRdr (w : World) (R : Nat) (s : ByteArray) : Prop := Blk w R 119 #[.string s]
set_option maxRecDepth 100000 in
set_option maxHeartbeats 0 in
theorem ruint_any (s : ByteArray) (R : Nat) (w : World) (h : RRdr w R s) (hs : s.size ≤ 9223372036854775807) :
    Calls Try.prog 83 #[.pointer (some ⟨R, 0, none⟩)] w
      fun e w' => e = .returned (.tuple #[.int .u64 ((short (byteAt s) s.size).1 : Int), .int .i64 (uintE s)]) ∧ RRdr w' R (uintS s) ∧ ∀ B, B ≤ R → Below B w w' := by
  have c0 : w.cell? ⟨R, 0, none⟩ = some (.string s) := h.cell 0
  have f0 : w.frozen? ⟨R, 0, none⟩ = false := h.frozen 0
  have HR := Lib.hid h
  have SB := Lib.hid (shG_bound (byteAt s) s.size 11 0 0 (by decide) (by omega))
  have SP := Lib.hid (shG_pos (byteAt s) s.size 11 0 0)
  have SF := Lib.hid (shG_fail (byteAt s) s.size 11 0 0)
  clear h
  by_cases hneg : (short (byteAt s) s.size).2 < 0
  · have EK : Hid (rk s = 0) := Lib.hid (if_pos hneg)
    have EE : Hid (uintE s = 4) := Lib.hid (if_pos hneg)
    have ES : Hid (uintS s = s) := Lib.hid (if_pos hneg)
    have EN : Hid ((short (byteAt s) s.size).1 = 0) := Lib.hid (SF.out hneg)
    clear hneg
    go_enter Try.func83, Try.ntmps83
    go_wp2_with fail
    refine (rshort_any s _ hs).mono ?_; rintro e w' ⟨rfl, rfl⟩
    rw [EK.out, EN.out]
    go_wp2
    go_ret2
    exact ⟨by rw [EE.out, EN.out]; rfl, by rw [ES.out]; exact HR.out, fun B _ => Below.refl _ _⟩
  · obtain ⟨k, hk⟩ : ∃ k : Nat, (short (byteAt s) s.size).2 = (k : Int) := ⟨(short (byteAt s) s.size).2.toNat, by omega⟩
    have hk1 : 1 ≤ k := by have h := SP.out; have : (short (byteAt s) s.size).2 = (shG (byteAt s) s.size 11 0 0).2 := rfl; rw [← this, hk] at h; omega
    have hkl : k ≤ s.size := by have h := SB.out.2.2; have : (short (byteAt s) s.size).2 = (shG (byteAt s) s.size 11 0 0).2 := rfl; rw [← this, hk] at h; omega
    have EK : Hid (rk s = (k : Int)) := Lib.hid (by unfold rk; rw [if_neg hneg, hk])
    have EE : Hid (uintE s = 0) := Lib.hid (if_neg hneg)
    have ES : Hid (uintS s = s.extract k s.size) := Lib.hid (by unfold uintS; rw [if_neg hneg, hk]; rfl)
    have hk0 : ¬ (k : Int) = 0 := by omega
    have hkli : (k : Int) ≤ (s.size : Int) := by omega
    obtain ⟨N, hN⟩ : ∃ N, (short (byteAt s) s.size).1 = N := ⟨_, rfl⟩
    have HN := Lib.hid hN
    clear hneg hk hN
    go_enter Try.func83, Try.ntmps83
    go_wp2_with fail
    refine (rshort_any s _ hs).mono ?_; rintro e w' ⟨rfl, rfl⟩
    rw [EK.out, HN.out]
    go_wp2
    go_ret2
    refine ⟨by rw [EE.out, HN.out]; rfl, ?_, fun B hB => (Below.refl _ _).setCell (by show B ≤ R; exact hB) _⟩
    rw [ES.out]
    exact HR.out.set_ 0 _
end Go.Proofs.Ytbfmdingbgdflaa
