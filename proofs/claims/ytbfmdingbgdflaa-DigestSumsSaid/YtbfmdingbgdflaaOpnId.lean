/- Opening a law's argument that is an array of 32 bytes. No conditions. -/
import Derived.Test.YtbfmdingbgdflaaOpn
import Derived.Test.YtbfmdingbgdflaaRow32
import Derived.OpenShut
import Derived.WideKeyArr2
namespace Go.Proofs.Ytbfmdingbgdflaa
open Go.RowKit Go.WideShapes Go.ChangeShapes
section
variable {H : Type} {enc : TypeId × Value → H} {P : Program} {W : World}
theorem open_id {t e : TypeId} {base0 base : Nat} {r : Reach} {v : Value} {d : DataW H} {ps : List MemPlace} {sp : Nat → Bool} {held : Bool}
    (ht : P.underlying t = some (.array 32 e)) (he : P.underlying e = some (.int .u8)) (hc : P.cellsOf e = 1) (hk : P.cellsOf t = 32)
    (hval : Value.okWide P W r base0 t v) (hd : DataW.Trod enc P W base sp held t v d ps) :
    ∃ I : Nat → UInt8, v = .agg (idA I) := by
  simp only [Value.okWide, ht] at hval
  obtain ⟨cs, rfl, hn, _⟩ := hval
  rw [hk] at hn
  obtain ⟨fuel, hf⟩ := hd
  obtain ⟨xs, m, rfl, _, _, hxs, hel⟩ := DataW.trod_array ht hf
  have hcell : ∀ i, i < 32 → ∃ a : UInt8, cs[i]? = some (.int .u8 (a.toNat : Int)) := by
    intro i hi
    have h := hel i hi
    rw [List.getElem?_eq_getElem (by omega), hc] at h
    obtain ⟨n, h1, _, h3⟩ := DataW.trod_int he h
    obtain ⟨a, rfl⟩ := u8_of_wf h3
    refine ⟨a, ?_⟩
    have h4 : ((Value.agg cs).cells.toList.drop (i * 1)).take 1 = [Value.int .u8 (a.toNat : Int)] := h1
    have h5 : (Value.agg cs).cells = cs := rfl
    rw [h5, Nat.mul_one] at h4
    have h6 := congrArg (fun l => l[0]?) h4
    simpa using h6
  have hall : ∀ i, ∃ a : UInt8, i < 32 → cs[i]? = some (.int .u8 (a.toNat : Int)) := fun i => by
    by_cases h : i < 32
    · obtain ⟨a, ha⟩ := hcell i h
      exact ⟨a, fun _ => ha⟩
    · exact ⟨0, fun h2 => absurd h2 h⟩
  refine ⟨fun i => Classical.choose (hall i), ?_⟩
  congr 1
  apply Array.ext
  · rw [idA_size, hn]
  · intro i h1 h2
    have hi : i < 32 := by omega
    have e1 := Classical.choose_spec (hall i) hi
    have e2 := idA_get (fun i => Classical.choose (hall i)) i hi
    rw [← e2] at e1
    exact Option.some.inj ((Array.getElem?_eq_getElem h1).symm.trans (e1.trans (Array.getElem?_eq_getElem h2)))
end
end Go.Proofs.Ytbfmdingbgdflaa
