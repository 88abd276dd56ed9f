/- Opening a law's argument that is two names and a text. No conditions. -/
import Derived.Test.YtbfmdingbgdflaaOpnId
namespace Go.Proofs.Ytbfmdingbgdflaa
open Go.RowKit Go.WideShapes Go.ChangeShapes
def nmA (I J : Nat → UInt8) (t : ByteArray) : Array Value := idA I ++ idA J ++ #[.string t]
theorem nmA_size (I J : Nat → UInt8) (t : ByteArray) : (nmA I J t).size = 65 := by simp [nmA, idA_size]
section
variable {H : Type} {enc : TypeId × Value → H} {P : Program} {W : World}
theorem id_cells {t e : TypeId} {base fuel : Nat} {L : List Value} {x : DataW H × List MemPlace} {sp : Nat → Bool} {held : Bool}
    (ht : P.underlying t = some (.array 32 e)) (he : P.underlying e = some (.int .u8)) (hc : P.cellsOf e = 1) (hk : P.cellsOf t = 32)
    (hd : DataW.trod enc P W base sp held fuel t L = some x) : ∃ I : Nat → UInt8, L = (idA I).toList := by
  obtain ⟨xs, m, rfl, _, hn, hxs, hel⟩ := DataW.trod_array ht hd
  rw [hk] at hn
  have hcell : ∀ i, ∃ a : UInt8, i < 32 → L[i]? = some (.int .u8 (a.toNat : Int)) := fun i => by
    by_cases hi : i < 32
    · have h := hel i hi
      rw [List.getElem?_eq_getElem (by omega), hc] at h
      obtain ⟨n, h1, _, h3⟩ := DataW.trod_int he h
      obtain ⟨a, rfl⟩ := u8_of_wf h3
      refine ⟨a, fun _ => ?_⟩
      rw [Nat.mul_one] at h1
      have h6 := congrArg (fun l => l[0]?) h1
      simpa using h6
    · exact ⟨0, fun h2 => absurd h2 hi⟩
  obtain ⟨I, hI⟩ : ∃ I : Nat → UInt8, ∀ i, i < 32 → L[i]? = some (.int .u8 ((I i).toNat : Int)) := ⟨fun i => Classical.choose (hcell i), fun i => Classical.choose_spec (hcell i)⟩
  refine ⟨I, ?_⟩
  apply List.ext_getElem?
  intro i
  by_cases hi : i < 32
  · rw [hI i hi, Array.getElem?_toList, idA_get _ i hi]
  · rw [List.getElem?_eq_none (by omega), List.getElem?_eq_none (by rw [Array.length_toList, idA_size]; omega)]
theorem join_cells {L : List Value} {I J : Nat → UInt8} {t : ByteArray} (h65 : L.length = 65) (hI' : (L.drop 0).take 32 = (idA I).toList) (hJ' : (L.drop 32).take 32 = (idA J).toList) (hT' : (L.drop 64).take 1 = [.string t]) : L = (nmA I J t).toList := by
  unfold nmA
  rw [Array.toList_append, Array.toList_append, ← hI', ← hJ']
  show _ = _ ++ [Value.string t]
  rw [← hT', List.drop_zero]
  have a1 : L = L.take 32 ++ L.drop 32 := (List.take_append_drop 32 _).symm
  have a2 : L.drop 32 = (L.drop 32).take 32 ++ (L.drop 32).drop 32 := (List.take_append_drop 32 _).symm
  have a3 : (L.drop 32).drop 32 = L.drop 64 := by rw [List.drop_drop]
  have a4 : (L.drop 64).take 1 = L.drop 64 := List.take_of_length_le (by rw [List.length_drop]; omega)
  rw [a4, List.append_assoc, ← a3, ← a2, ← a1]
set_option maxRecDepth 100000 in
theorem open_names {base0 base : Nat} {r : Reach} {v : Value} {d : DataW H} {ps : List MemPlace} {ts : List TypeId} {ds : List (DataW H)} {held : Bool}
    (hval : Value.okWide Try.prog W r base0 73 v) (hd : DataW.Trod enc Try.prog W base (fun _ => true) held 73 v d ps)
    (hsz : (DataW.weightsEach Try.prog ts ds).all (· ≤ reachBytes) = true) (j : Nat) (hts : ts[j]? = some 73) (hds : ds[j]? = some d) :
    ∃ (I J : Nat → UInt8) (t : ByteArray), v = .agg (nmA I J t) ∧ t.size ≤ 140737488351232 := by
  have hu := Try.underlying73
  obtain ⟨cs, rfl, hn⟩ := okWide_struct hu hval
  obtain ⟨fuel, hf⟩ := hd
  obtain ⟨xs, m, rfl, hx, hlen, hxs, hel⟩ := DataW.trod_struct hu hf
  have hcs : (Value.agg cs).cells.toList = cs.toList := rfl
  rw [hcs] at hel hlen
  have h65 : cs.toList.length = 65 := by rw [hlen]; kernel_rfl
  have hxs3 : xs.length = 3 := hxs
  have e0 := hel 0 _ rfl
  have e1 := hel 1 _ rfl
  have e2 := hel 2 _ rfl
  rw [List.getElem?_eq_getElem (by omega)] at e0 e1 e2
  obtain ⟨I, hI⟩ := id_cells (P := Try.prog) Try.underlying28 Try.underlying5 (by kernel_rfl) (by kernel_rfl) e0
  obtain ⟨J, hJ⟩ := id_cells (P := Try.prog) Try.underlying28 Try.underlying5 (by kernel_rfl) (by kernel_rfl) e1
  obtain ⟨t, hT, hxt, _⟩ := DataW.trod_string (P := Try.prog) Try.underlying9 e2
  have k32 : Try.prog.cellsOf 28 = 32 := by kernel_rfl
  have k1 : Try.prog.cellsOf 9 = 1 := by kernel_rfl
  have hI' : (cs.toList.drop 0).take 32 = (idA I).toList := by rw [← k32]; exact hI
  have hJ' : (cs.toList.drop 32).take 32 = (idA J).toList := by rw [← k32]; exact hJ
  have hT' : (cs.toList.drop 64).take 1 = [.string t] := by rw [← k1]; exact hT
  refine ⟨I, J, t, ?_, ?_⟩
  · exact congrArg Value.agg (Array.ext' (join_cells h65 hI' hJ' hT'))
  · simp only [Prod.mk.injEq] at hx
    have hw : t.data.toList.length ∈ d.weights Try.prog 73 := by
      rw [hx.1]
      show _ ∈ DataW.weights Try.prog 73 (.agg (xs.map (·.1)))
      unfold DataW.weights
      rw [hu]
      exact DataW.weights_mem_each (j := 2) (t := 9) (d := .lit (.string t.data.toList)) rfl (by rw [List.getElem?_map, List.getElem?_eq_getElem (by omega), hxt]; rfl) _ (by simp [DataW.weights])
    have := List.all_eq_true.1 hsz _ (DataW.weights_mem_each hts hds _ hw)
    exact str_reach (by simpa using this)
end
theorem nm_row (w : World) (I J : Nat → UInt8) (t : ByteArray) (T : TypeId) : (w.alloc (.cells (nmA I J t) T)).rowIs w.heap.size T 65 (fun i => if i < 32 then u8V I i else if i < 64 then u8V J (i - 32) else .string t) := by
  have := World.rowIs_alloc w (nmA I J t) T (fun i => if i < 32 then u8V I i else if i < 64 then u8V J (i - 32) else .string t) (fun i hi => by
    rw [nmA_size] at hi
    unfold nmA
    by_cases h1 : i < 32
    · rw [Array.getElem?_append_left (by simp [idA_size]; omega), Array.getElem?_append_left (by rw [idA_size]; exact h1), idA_get I i h1, if_pos h1]; rfl
    · by_cases h2 : i < 64
      · rw [Array.getElem?_append_left (by simp [idA_size]; omega), Array.getElem?_append_right (by rw [idA_size]; omega), idA_size, idA_get J (i - 32) (by omega), if_neg h1, if_pos h2]; rfl
      · obtain rfl : i = 64 := by omega
        rw [Array.getElem?_append_right (by simp [idA_size]), if_neg h1, if_neg h2]
        simp [idA_size])
  rw [nmA_size] at this
  exact this
theorem row32_at {w : World} {g N off : Nat} {T : TypeId} {f : Nat → Value} {I : Nat → UInt8} (h : w.rowIs g T N f) (hfit : off + 32 ≤ N) (e : ∀ j, j < 32 → f (off + j) = u8V I j) : row32 w g off = idA I := by
  apply Array.ext'
  unfold row32 idA
  simp only [List.map_inj_left]
  intro j hj
  have hj : j < 32 := by simpa using hj
  rw [h.cell (by omega), e j hj]; rfl
end Go.Proofs.Ytbfmdingbgdflaa
