/- Opening a law's argument that is a list of steps (two numbers and a text each). No conditions. -/
import Derived.Test.YtbfmdingbgdflaaOpn
import Derived.OpenShut
namespace Go.Proofs.Ytbfmdingbgdflaa
open Go.RowKit Go.WideShapes Go.ChangeShapes
/-- A step: two numbers and a text. -/
structure Stp where
  kind : Int
  who : Int
  id : ByteArray
deriving Inhabited
/-- The steps as they lie in memory. -/
def StpAt (w : World) (ad : Addr) (L : List Stp) : Prop := ∀ i (x : Stp), L[i]? = some x →
  w.cell? (ad.add (i * 3)) = some (.int .i64 x.kind) ∧ w.cell? ((ad.add (i * 3)).add 1) = some (.int .i64 x.who) ∧ w.cell? ((ad.add (i * 3)).add 2) = some (.string x.id)
section
variable {H : Type} {enc : TypeId × Value → H} {W : World}
set_option maxRecDepth 100000 in
theorem step_cells {base fuel : Nat} {L : List Value} {x : DataW H × List MemPlace} {sp : Nat → Bool} {held : Bool}
    (hd : DataW.trod enc Try.prog W base sp held fuel 59 L = some x) : ∃ s : Stp, L = [.int .i64 s.kind, .int .i64 s.who, .string s.id] ∧ (Lit.int .i64 s.kind).wf = true ∧ (Lit.int .i64 s.who).wf = true ∧ s.id.size ≤ maxLen := by
  have hu := Try.underlying59
  obtain ⟨xs, m, rfl, hx, hlen, hxs, hel⟩ := DataW.trod_struct (P := Try.prog) hu hd
  have h3 : L.length = 3 := by rw [hlen]; kernel_rfl
  have hxs3 : xs.length = 3 := hxs
  have e0 := hel 0 _ rfl
  have e1 := hel 1 _ rfl
  have e2 := hel 2 _ rfl
  rw [List.getElem?_eq_getElem (by omega)] at e0 e1 e2
  obtain ⟨a, ha, _, wa⟩ := DataW.trod_int (P := Try.prog) Try.underlying3 e0
  obtain ⟨b, hb, _, wb⟩ := DataW.trod_int (P := Try.prog) Try.underlying3 e1
  obtain ⟨t, hT, _, hz⟩ := DataW.trod_string (P := Try.prog) Try.underlying9 e2
  have k1 : Try.prog.cellsOf 9 = 1 := by kernel_rfl
  have k2 : Try.prog.cellsOf 3 = 1 := by kernel_rfl
  have ha' : (L.drop 0).take 1 = [.int .i64 a] := by rw [← k2]; exact ha
  have hb' : (L.drop 1).take 1 = [.int .i64 b] := by rw [← k2]; exact hb
  have hT' : (L.drop 2).take 1 = [.string t] := by rw [← k1]; exact hT
  refine ⟨⟨a, b, t⟩, ?_, wa, wb, hz⟩
  match L, h3, ha', hb', hT' with
  | [x, y, z], _, h1, h2, h3 =>
    simp at h1 h2 h3
    rw [h1, h2, h3]
set_option maxRecDepth 100000 in
theorem open_steps {base0 base : Nat} {r : Reach} {v : Value} {d : DataW H} {ps : List MemPlace} {ts : List TypeId} {ds : List (DataW H)} {held : Bool}
    (hval : Value.okWide Try.prog W r base0 50 v) (hd : DataW.Trod enc Try.prog W base (fun _ => true) held 50 v d ps)
    (hsz : (DataW.weightsEach Try.prog ts ds).all (· ≤ reachBytes) = true) (j : Nat) (hts : ts[j]? = some 50) (hds : ds[j]? = some d) (mem : ∀ x ∈ ps, x.block < W.heap.size) :
    ∃ (A : Option Addr) (n c : Nat) (L : List Stp), v = .slice A n c ∧ L.length = n ∧ n ≤ c ∧ n ≤ 140737488351232 ∧ (∀ x ∈ L, x.id.size ≤ 9223372036854775807) ∧ (0 < n → ∃ ad, A = some ad ∧ ad.block < W.heap.size ∧ StpAt W ad L) := by
  have hu := Try.underlying50
  obtain ⟨a0, len, cap, rfl⟩ := okWide_slice (P := Try.prog) hu hval
  obtain ⟨fuel, hf⟩ := hd
  have k3 : Try.prog.cellsOf 59 = 3 := by kernel_rfl
  have k32 : Try.prog.bytesOf 59 = 32 := by kernel_rfl
  have hcs : (Value.slice a0 len cap).cells.toList = [.slice a0 len cap] := rfl
  rw [hcs] at hf
  rcases DataW.trod_slice (P := Try.prog) hu hf with ⟨h0, hx⟩ | ⟨a, len', cap', elems, rest, n, _, h0, hx, hb, hl, hm, hlen, hel, hsp, hns⟩
  · simp at h0
    obtain ⟨rfl, rfl, rfl⟩ := h0
    exact ⟨none, 0, 0, [], rfl, rfl, Nat.le_refl _, by omega, by simp, fun h => absurd h (by omega)⟩
  · simp at h0
    obtain ⟨rfl, rfl, rfl⟩ := h0
    rw [k3] at hel
    have each : ∀ i, ∃ s : Stp, i < len → (Lit.int .i64 s.kind).wf = true ∧ s.id.size ≤ maxLen ∧ W.cell? (a.add (i * 3)) = some (.int .i64 s.kind) ∧ W.cell? ((a.add (i * 3)).add 1) = some (.int .i64 s.who) ∧ W.cell? ((a.add (i * 3)).add 2) = some (.string s.id) := fun i => by
      by_cases hi : i < len
      · have h := hel i hi
        rw [List.getElem?_eq_getElem (by omega), Option.bind_eq_some_iff] at h
        obtain ⟨cs, h1, h2⟩ := h
        obtain ⟨s, rfl, wa, wb, hz⟩ := step_cells h2
        obtain ⟨q1, q2, q3⟩ := World.cells?_some h1
        have g0 := q3 0 (by omega)
        have g1 := q3 1 (by omega)
        have g2 := q3 2 (by omega)
        exact ⟨s, fun _ => ⟨wa, hz, by simpa [Addr.add] using g0, by simpa using g1, by simpa using g2⟩⟩
      · exact ⟨default, fun h => absurd h hi⟩
    obtain ⟨S, hS⟩ : ∃ S : Nat → Stp, ∀ i, i < len → (Lit.int .i64 (S i).kind).wf = true ∧ (S i).id.size ≤ maxLen ∧ W.cell? (a.add (i * 3)) = some (.int .i64 (S i).kind) ∧ W.cell? ((a.add (i * 3)).add 1) = some (.int .i64 (S i).who) ∧ W.cell? ((a.add (i * 3)).add 2) = some (.string (S i).id) := ⟨fun i => Classical.choose (each i), fun i => Classical.choose_spec (each i)⟩
    simp only [Prod.mk.injEq] at hx
    have hlb : len ≤ 140737488351232 := by
      have hw : (elems.length + rest.length) * 32 ∈ d.weights Try.prog 50 := by
        rw [hx.1]
        unfold DataW.weights
        rw [hu]
        simp [k32]
      have := List.all_eq_true.1 hsz _ (DataW.weights_mem_each hts hds _ hw)
      have h2 : (elems.length + rest.length) * 32 ≤ reachBytes := by simpa using this
      unfold reachBytes at h2
      omega
    refine ⟨some a, len, cap, (List.range len).map S, rfl, by simp, hl, hlb, fun x hx' => ?_, fun hn => ⟨a, rfl, ?_, fun i x hi => ?_⟩⟩
    · obtain ⟨i, hi, rfl⟩ := List.mem_map.1 hx'
      have := (hS i (List.mem_range.1 hi)).2.1
      unfold maxLen at this
      omega
    · exact mem _ (by rw [hx.2]; exact List.mem_append_left _ (MemPlace.mem_row.2 ⟨0, by rw [k3]; omega, rfl⟩))
    · have hi' : i < len := by
        have := (List.getElem?_eq_some_iff.1 hi).1
        simpa using this
      rw [List.getElem?_map, List.getElem?_range hi'] at hi
      simp at hi
      subst hi
      exact (hS i hi').2.2
end
end Go.Proofs.Ytbfmdingbgdflaa
