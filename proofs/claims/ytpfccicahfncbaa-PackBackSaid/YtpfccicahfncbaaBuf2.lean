/- Byte rows that a conversion has laid: one byte appended, a text appended. Over any program. No conditions. -/
import Derived.Test.YtpfccicahfncbaaGen
namespace Go.Proofs.Ytpfccicahfncbaa
open Go.RowKit
set_option linter.unusedVariables false
section
variable {P : Program} {w : World}
theorem run_append_one (t e ty : TypeId) (ht : P.underlying t = some (.slice e)) (i : TypeInfo) (hi : P.info? e = some i) (hz : i.zero = some (.int .u8 0)) (hs1 : i.size = 1) (hb : i.bytes = 1)
    {g n cap : Nat} {f : Nat → Value} (h : bufIs w e g n cap f) (N : Nat) (u : Value) (hN : w.cell? ⟨N, 0, none⟩ = some u) (h1 : u.oneCell' = true) (hroom : n + 1 ≤ 140737488355328) :
    ∃ g' cap' w', (Builtin.append_ #[t, t] ty #[.slice (some ⟨g, 0, none⟩) n cap, .slice (some ⟨N, 0, none⟩) 1 1]).run P w = .ok (.slice (some ⟨g', 0, none⟩) (n + 1) cap') w' ∧ bufIs w' e g' (n + 1) cap' (fun j => if j = n then u else f j) ∧ w.grownBy w' (some g) ∧ (g' = g ∨ g' = w.heap.size) := by
  obtain ⟨c, fr, hh, hc1, hc2, hc3, hc4⟩ := id h
  have hfu : ∀ W : World, W.cell? ⟨N, 0, none⟩ = some u → (Builtin.firstCells 1 1 (.slice (some ⟨N, 0, none⟩) 1 1)).run P W = .ok [u].toArray W := fun W hW => run_firstCells_some (P := P) W 1 1 ⟨N, 0, none⟩ 1 1 [u] (by simp) (fun j v hj => by
    match j, hj with
    | 0, hj => simp at hj; subst hj; simpa [Addr.add] using hW)
  have hf1 := hfu w hN
  have hf2 := hfu w.drew hN
  by_cases hr : n + 1 ≤ cap
  · have hst := run_storeCells_cells (P := P) g n [u] 0 w (fun j hj => by
        rw [cell_of_row w g _ c e fr hh, Array.getElem?_eq_getElem (by simp at hj; omega)]; rfl) (fun j hj => h.frozen (by simp at hj; omega)) (fun v hv => by rw [List.mem_singleton] at hv; subst hv; exact h1)
    simp only [Nat.add_zero] at hst
    obtain ⟨c', a1, a2, a3, a4⟩ := block_setCells [u] n w c hh (by simp; omega)
    refine ⟨g, cap, w.setCells g n [u], ?_, ⟨c', fr, a1, by omega, hr, fun j hj => ?_, hc4⟩, a4, .inl rfl⟩
    · simp only [Builtin.append_, Builtin.lenOf]
      simp [run_underlying ht, sizeOf, typeInfo, hi, hs1, hr, hf1, Addr.add_lit, hst]
    · rw [a3]
      show _ = some (if j = n then u else f j)
      by_cases e1 : j = n
      · subst e1; rw [if_pos ⟨by omega, by simp⟩, if_pos rfl, Nat.sub_self]; rfl
      · rw [if_neg (by simp; omega), if_neg e1]; exact hc3 j (by omega)
  · have h63' : ¬ (9223372036854775807 < ((n : Int) + 1)) := by omega
    have h48' : ¬ (281474976710656 < Builtin.nextslicecap (n + 1) cap) := by
      have := growslice_fits (need := n + 1) (old := cap) (bytes := 1) (by omega) (by omega)
      omega
    have hge := grownCap_ge w (n + 1) cap e
    have hfo := run_firstCells_some (P := P) w.drew 1 n ⟨g, 0, none⟩ n cap ((List.range n).map f) (by simp) (fun j u hj => by
      have hjn : j < n := by
        rcases Nat.lt_or_ge j n with h | h
        · exact h
        · simp [h] at hj
      simp [hjn] at hj
      subst hj
      rw [add0]
      exact h.drew.cell hjn)
    refine ⟨w.heap.size, grownCap w (n + 1) cap e, w.drew.alloc (.cells (((List.range n).map f).toArray ++ [u].toArray ++ Builtin.zeroCells #[.int .u8 0] (grownCap w (n + 1) cap e - (n + 1))) e), ?_, ⟨_, (0, 0), heap_alloc_new w.drew _, ?_, hge, fun j hj => ?_, fun i _ h => by simp at h⟩, ?_, .inr rfl⟩
    · have hzc : (Value.int IntKind.u8 0).cells = #[.int .u8 0] := rfl
      simp only [Builtin.append_, Builtin.lenOf]
      simp [run_underlying ht, sizeOf, typeInfo, zeroValue, hi, hz, hs1, hb, hr, h63', h48', Question.forced, hf2, hfo, newRow, grownCap, hzc]
    · simp [Builtin.zeroCells]; omega
    · have hsz : (((List.range n).map f).toArray ++ [u].toArray).size = n + 1 := by simp
      rw [Array.getElem?_append_left (by rw [hsz]; exact hj)]
      show _ = some (if j = n then u else f j)
      by_cases e1 : j = n
      · subst e1; rw [if_pos rfl, Array.getElem?_append_right (by simp)]; simp
      · rw [if_neg e1, Array.getElem?_append_left (by simp; omega)]; simp [show j < n by omega]
    · exact only_alloc (only_drew (World.grownBy.refl _ _)) _
theorem append_one_wp {ops : Array Oper} {rest : List Oper} {o : Oper} {a : Act} {Q : Exit → Act → World → Prop} (hgd : o.guard = none) (s x : Operand) (t : TypeId)
    (ho : o.op = .call { callee := .builtin .append, args := #[s, x], argTypes := #[t, t] }) (e : TypeId) (ht : P.underlying t = some (.slice e)) (i : TypeInfo) (hi : P.info? e = some i) (hz : i.zero = some (.int .u8 0)) (hs1 : i.size = 1) (hb : i.bytes = 1)
    (g n cap : Nat) (f : Nat → Value) (hs : a.eval s = .slice (some ⟨g, 0, none⟩) n cap) (h : bufIs w e g n cap f) (u : Value) (N : Nat) (hx : a.eval x = .slice (some ⟨N, 0, none⟩) 1 1) (hN : N = w.heap.size) (h1 : u.oneCell' = true) (hroom : n + 1 ≤ 140737488355328)
    (hK : ∀ g' cap' w', bufIs w' e g' (n + 1) cap' (fun j => if j = n then u else f j) → w.grownBy w' (some g) → (g' = g ∨ w.heap.size ≤ g') → wpList P ops Q rest (a.put o.dst (.slice (some ⟨g', 0, none⟩) (n + 1) cap')) w') :
    wpList P ops Q (o :: rest) a (w.alloc (.cells #[u] e)) := by
  subst hN
  refine wpList_plain hgd fun K hK' => ?_
  have hc : (w.alloc (.cells #[u] e)).cell? ⟨w.heap.size, 0, none⟩ = some u := (World.rowIs_alloc w #[u] e (fun _ => u) (fun i hi => by
      have : i = 0 := by simpa using hi
      subst this; rfl)).cell (i := 0) (by simp)
  obtain ⟨g', cap', w', hrun, h2, h3, h4⟩ := run_append_one (P := P) (w := w.alloc (.cells #[u] e)) t e o.type ht i hi hz hs1 hb (h.of_block (Below.heap_alloc w _ g h.lt)) w.heap.size u hc h1 hroom
  unfold Oper.wp execOp
  simp only [ho, resolve, invoke, builtin, Sem.run_bind, Sem.run_pure, Result.andThen_ok, List.map_toArray, List.map_cons, List.map_nil, hs, hx, hrun]
  refine hK' _ _ (hK g' cap' w' h2 (grown_both (only_alloc (World.grownBy.refl _ _) _) h3) ?_)
  rcases h4 with h4 | h4
  · exact .inl h4
  · exact .inr (by rw [h4]; simp)
theorem append_str_wp {ops : Array Oper} {rest : List Oper} {o : Oper} {a : Act} {Q : Exit → Act → World → Prop} (hgd : o.guard = none) (s x : Operand) (t sT : TypeId)
    (ho : o.op = .call { callee := .builtin .append, args := #[s, x], argTypes := #[t, sT] }) (e : TypeId) (ht : P.underlying t = some (.slice e)) (hsT : P.underlying sT = some .string) (i : TypeInfo) (hi : P.info? e = some i) (hz : i.zero = some (.int .u8 0)) (hs1 : i.size = 1) (hb : i.bytes = 1)
    (g n cap : Nat) (f : Nat → Value) (hs : a.eval s = .slice (some ⟨g, 0, none⟩) n cap) (h : bufIs w e g n cap f) (st : ByteArray) (hx : a.eval x = .string st) (hroom : n + st.size ≤ 140737488355328)
    (hK : ∀ g' cap' w', bufIs w' e g' (n + st.size) cap' (thenStr f n st) → w.grownBy w' (some g) → (g' = g ∨ g' = w.heap.size) → wpList P ops Q rest (a.put o.dst (.slice (some ⟨g', 0, none⟩) (n + st.size) cap')) w') :
    wpList P ops Q (o :: rest) a w := by
  refine wpList_plain hgd fun K hK' => ?_
  obtain ⟨g', cap', w', hrun, h2, h3, h4⟩ := run_append_str (P := P) (w := w) t sT e o.type ht hsT i hi hz hs1 hb h st hroom
  unfold Oper.wp execOp
  simp only [ho, resolve, invoke, builtin, Sem.run_bind, Sem.run_pure, Result.andThen_ok, List.map_toArray, List.map_cons, List.map_nil, hs, hx, hrun]
  exact hK' _ _ (hK g' cap' w' h2 h3 h4)
end
end Go.Proofs.Ytpfccicahfncbaa
