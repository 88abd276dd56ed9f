/- Opening a law's arguments: lists of texts with their lengths, lists of bools. No conditions. -/
import Derived.Test.YthlnnclpfgokjaaOpen2
import Derived.Test.YthlnnclpfgokjaaShH
import Derived.Deep.Grids
namespace Go.Proofs.Ythlnnclpfgokjaa
open Go.RowKit Go.WideShapes Go.ChangeShapes
section
variable {H : Type} {enc : TypeId × Value → H} {P : Program} {W : World}
theorem weights_all_mem {e : TypeId} : ∀ (l : List (DataW H)) (d : DataW H), d ∈ l → ∀ n ∈ d.weights P e, n ∈ DataW.weightsAll P e l
  | [], _, h, _, _ => by cases h
  | x :: r, d, h, n, hn => by
    simp only [DataW.weightsAll, List.mem_append]
    rcases List.mem_cons.1 h with rfl | h
    · exact .inl hn
    · exact .inr (weights_all_mem r d h n hn)
theorem sized_elems {ts : List TypeId} {ds : List (DataW H)} (h : (DataW.weightsEach P ts ds).all (· ≤ reachBytes) = true) {j : Nat} {t e : TypeId} {elems spare : List (DataW H)} (ht : ts[j]? = some t) (hd : ds[j]? = some (.slice elems spare))
    (hu : P.underlying t = some (.slice e)) {l : List UInt8} (hm : (.lit (.string l) : DataW H) ∈ elems) : l.length ≤ reachBytes := by
  have h1 : l.length ∈ DataW.weightsAll P e elems := weights_all_mem elems _ hm _ (by simp [DataW.weights])
  have := List.all_eq_true.1 h _ (DataW.weights_mem_each ht hd l.length (by simp only [DataW.weights, hu, List.mem_cons, List.mem_append]; exact .inr (.inl h1)))
  simpa using this
/-- A list of texts. -/
theorem open_strsz {t e : TypeId} {base0 base : Nat} {r : Reach} {v : Value} {d : DataW H} {ps : List MemPlace} {ts : List TypeId} {ds : List (DataW H)} {held : Bool}
    (ht : P.underlying t = some (.slice e)) (he : P.underlying e = some .string) (hc : P.cellsOf e = 1) (hb : P.bytesOf e = 16)
    (hval : Value.okWide P W r base0 t v) (hd : DataW.Trod enc P W base (fun _ => true) held t v d ps)
    (hsz : (DataW.weightsEach P ts ds).all (· ≤ reachBytes) = true) (j : Nat) (hts : ts[j]? = some t) (hds : ds[j]? = some d) (mem : ∀ x ∈ ps, x.block < W.heap.size) :
    ∃ (A : Option Addr) (n c : Nat) (ss : List ByteArray), v = .slice A n c ∧ Reads W W.heap.size 1 A n (strV ss) ∧ n * 16 ≤ 140737488351232 ∧ (∀ s ∈ ss, s.size ≤ 140737488351232) ∧ n ≤ c := by
  obtain ⟨a0, len, cap, rfl⟩ := okWide_slice ht hval
  obtain ⟨fuel, hf⟩ := hd
  rcases open_strings ht he hc hf with ⟨hcs, hx⟩ | ⟨a, len', cap', ss, hcs, _, hl, hm, hz, hx, hcell, hws⟩
  · simp [Value.cells] at hcs
    obtain ⟨rfl, rfl, rfl⟩ := hcs
    exact ⟨none, 0, 0, [], rfl, Reads.none_, by omega, by simp, by omega⟩
  · simp [Value.cells] at hcs
    obtain ⟨rfl, rfl, rfl⟩ := hcs
    simp only [Prod.mk.injEq] at hx
    obtain ⟨rfl, rfl⟩ := hx
    simp only [if_true] at hz
    have hw := sized_slice hsz hts hds ht
    rw [hb] at hw
    simp only [strs, List.length_map, List.length_take, List.length_drop, reachBytes] at hw
    refine ⟨some a, len, cap, ss.take len, rfl, ⟨by simp [strV]; omega, fun hn => ⟨a, rfl, mem _ (MemPlace.mem_row.2 ⟨0, by omega, rfl⟩), fun k u hu => ?_⟩⟩, by omega, fun s hs => ?_, hl⟩
    · have hk : k < len := by
        rcases Nat.lt_or_ge k len with h | h
        · exact h
        · rw [List.getElem?_eq_none (by simp [strV]; omega)] at hu; cases hu
      rw [hcell k (by omega)]
      simp only [strV, List.getElem?_map] at hu
      rw [List.getElem?_take, if_pos hk, List.getElem?_eq_getElem (by omega)] at hu
      simp at hu
      rw [← hu, List.getD_eq_getElem?_getD, List.getElem?_eq_getElem (by omega)]; rfl
    · have := sized_elems (l := s.data.toList) hsz hts hds ht (by simp only [strs, List.mem_map]; exact ⟨s, hs, rfl⟩)
      rw [data_length] at this
      unfold reachBytes at this
      omega
theorem bulk_mem : ∀ (l : List (DataW H)) (d : DataW H), d ∈ l → Rows.uptoBulk d ≤ Rows.uptoBulkAll l
  | [], _, h => by cases h
  | x :: r, d, h => by
    simp only [Rows.uptoBulkAll]
    rcases List.mem_cons.1 h with rfl | h
    · omega
    · have := bulk_mem r d h; omega
/-- A list of texts that holds few letters. -/
theorem open_strszu {t e : TypeId} {base0 base : Nat} {r : Reach} {v : Value} {d : DataW H} {ps : List MemPlace} {ts : List TypeId} {ds : List (DataW H)} {held : Bool} (hbk : Rows.uptoBulk d ≤ 1048576)
    (ht : P.underlying t = some (.slice e)) (he : P.underlying e = some .string) (hc : P.cellsOf e = 1) (hb : P.bytesOf e = 16)
    (hval : Value.okWide P W r base0 t v) (hd : DataW.Trod enc P W base (fun _ => true) held t v d ps)
    (hsz : (DataW.weightsEach P ts ds).all (· ≤ reachBytes) = true) (j : Nat) (hts : ts[j]? = some t) (hds : ds[j]? = some d) (mem : ∀ x ∈ ps, x.block < W.heap.size) :
    ∃ (A : Option Addr) (n c : Nat) (ss : List ByteArray), v = .slice A n c ∧ Reads W W.heap.size 1 A n (strV ss) ∧ n * 16 ≤ 140737488351232 ∧ (∀ s ∈ ss, s.size ≤ 1048576) ∧ n ≤ c := by
  obtain ⟨a0, len, cap, rfl⟩ := okWide_slice ht hval
  obtain ⟨fuel, hf⟩ := hd
  rcases open_strings ht he hc hf with ⟨hcs, hx⟩ | ⟨a, len', cap', ss, hcs, _, hl, hm, hz, hx, hcell, hws⟩
  · simp [Value.cells] at hcs
    obtain ⟨rfl, rfl, rfl⟩ := hcs
    exact ⟨none, 0, 0, [], rfl, Reads.none_, by omega, by simp, by omega⟩
  · simp [Value.cells] at hcs
    obtain ⟨rfl, rfl, rfl⟩ := hcs
    simp only [Prod.mk.injEq] at hx
    obtain ⟨rfl, rfl⟩ := hx
    simp only [if_true] at hz
    have hw := sized_slice hsz hts hds ht
    rw [hb] at hw
    simp only [strs, List.length_map, List.length_take, List.length_drop, reachBytes] at hw
    refine ⟨some a, len, cap, ss.take len, rfl, ⟨by simp [strV]; omega, fun hn => ⟨a, rfl, mem _ (MemPlace.mem_row.2 ⟨0, by omega, rfl⟩), fun k u hu => ?_⟩⟩, by omega, fun s hs => ?_, hl⟩
    · have hk : k < len := by
        rcases Nat.lt_or_ge k len with h | h
        · exact h
        · rw [List.getElem?_eq_none (by simp [strV]; omega)] at hu; cases hu
      rw [hcell k (by omega)]
      simp only [strV, List.getElem?_map] at hu
      rw [List.getElem?_take, if_pos hk, List.getElem?_eq_getElem (by omega)] at hu
      simp at hu
      rw [← hu, List.getD_eq_getElem?_getD, List.getElem?_eq_getElem (by omega)]; rfl
    · have h1 : Rows.uptoBulk (DataW.lit (H := H) (.string s.data.toList)) ≤ Rows.uptoBulkAll (strs (H := H) (ss.take len)) := bulk_mem _ _ (by simp only [strs, List.mem_map]; exact ⟨s, hs, rfl⟩)
      simp only [Rows.uptoBulk] at h1 hbk
      rw [data_length] at h1
      omega
/-- A list of bools. -/
theorem open_boolsz {t e : TypeId} {base0 base : Nat} {r : Reach} {v : Value} {d : DataW H} {ps : List MemPlace} {ts : List TypeId} {ds : List (DataW H)} {held : Bool}
    (ht : P.underlying t = some (.slice e)) (he : P.underlying e = some .bool) (hc : P.cellsOf e = 1) (hb : P.bytesOf e = 1)
    (hval : Value.okWide P W r base0 t v) (hd : DataW.Trod enc P W base (fun _ => true) held t v d ps)
    (hsz : (DataW.weightsEach P ts ds).all (· ≤ reachBytes) = true) (j : Nat) (hts : ts[j]? = some t) (hds : ds[j]? = some d) (mem : ∀ x ∈ ps, x.block < W.heap.size) :
    ∃ (A : Option Addr) (n c : Nat) (l : List Bool), v = .slice A n c ∧ Reads W W.heap.size 1 A n (boolV l) ∧ n ≤ 140737488351232 ∧ n ≤ c := by
  obtain ⟨a0, len, cap, rfl⟩ := okWide_slice ht hval
  obtain ⟨fuel, hf⟩ := hd
  rcases Go.Deep.open_bools ht he hc hf with ⟨hcs, hx⟩ | ⟨a, len', cap', B, hcs, _, hl, hm, hx, hcell⟩
  · simp [Value.cells] at hcs
    obtain ⟨rfl, rfl, rfl⟩ := hcs
    exact ⟨none, 0, 0, [], rfl, Reads.none_, by omega, by omega⟩
  · simp [Value.cells] at hcs
    obtain ⟨rfl, rfl, rfl⟩ := hcs
    simp only [Prod.mk.injEq] at hx
    obtain ⟨rfl, rfl⟩ := hx
    have hw := sized_slice (elems := _) (spare := _) hsz hts hds ht
    rw [hb] at hw
    simp only [List.length_map, List.length_range, reachBytes] at hw
    refine ⟨some a, len, cap, (List.range len).map B, rfl, ⟨by simp [boolV], fun hn => ⟨a, rfl, mem _ (MemPlace.mem_row.2 ⟨0, by omega, rfl⟩), fun k u hu => ?_⟩⟩, by omega, hl⟩
    have hk : k < len := by
      rcases Nat.lt_or_ge k len with h | h
      · exact h
      · rw [List.getElem?_eq_none (by simp [boolV]; omega)] at hu; cases hu
    rw [hcell k (by omega)]
    simp [boolV, hk] at hu
    rw [← hu]
end
end Go.Proofs.Ythlnnclpfgokjaa
