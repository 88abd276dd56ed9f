/- A text appended to a row of bytes of the call's own, nil or not. No conditions but those that each theorem tells. -/
import Derived.Test.YthlnnclpfgokjaaBuf
import Derived.Deep.AppendSrc
namespace Go.Proofs.Ythlnnclpfgokjaa
open Go.RowKit Go.WideShapes Go.ChangeShapes
set_option linter.unusedVariables false
section
variable {P : Program} {w : World}
theorem byteCells_u8s (s : ByteArray) : byteCells s = u8s s.data.toList := rfl
theorem run_append_own_str (base : Nat) (t sT ty e : TypeId) (ht : P.underlying t = some (.slice e)) (hsT : P.underlying sT = some .string) (i : TypeInfo) (hi : P.info? e = some i) (hz : i.zero = some (.int .u8 0)) (hs1 : i.size = 1) (hb : i.bytes = 1)
    (v : Value) (n : Nat) (xs : List Value) (hown : w.ownsRow base e 1 v n xs) (s : ByteArray) (hroom : n + s.size ≤ 140737488355328) (hbase : base ≤ w.heap.size) :
    ∃ v' w', (Builtin.append_ #[t, sT] ty #[v, .string s]).run P w = .ok v' w' ∧ w'.ownsRow base e 1 v' (n + s.size) (xs ++ u8s s.data.toList) ∧ w.grownBy w' v.ownBlock ∧ (v'.ownBlock = v.ownBlock ∨ v'.ownBlock = some w.heap.size) := by
  have hlen : (u8s s.data.toList).length = s.size := by rw [u8s_length, Array.length_toList]; rfl
  have hxl : xs.length = n := by have := hown.1; omega
  have hsrc : Src P i.size sT (.string s) s.size (u8s s.data.toList) w := by rw [hs1, ← byteCells_u8s]; exact Src.ofString w hsT s
  have grown : ∀ (b : Option Addr) (cap : Nat), cap < n + s.size → (Builtin.firstCells i.size n (.slice b n cap)).run P w.drew = .ok xs.toArray w.drew →
      ∃ v' w', (Builtin.append_ #[t, sT] ty #[.slice b n cap, .string s]).run P w = .ok v' w' ∧ w'.ownsRow base e 1 v' (n + s.size) (xs ++ u8s s.data.toList) ∧ (∀ row, w.grownBy w' row) ∧ v'.ownBlock = some w.heap.size := fun b cap hc hf => by
    have hrun := run_append_grow_src (P := P) w t sT ty e i (.int .u8 0) ht hi hz b n cap xs hf (.string s) s.size (u8s s.data.toList) hsrc hc (by omega) (growslice_fits hc (by rw [hb]; omega))
    have hge := grownCap_ge w (n + s.size) cap e
    have hcm : grownCap w (n + s.size) cap e ≤ maxLen := grownCap_le_maxLen w (n + s.size) cap e (by unfold maxLen; omega)
    refine ⟨_, _, hrun, ⟨by rw [List.length_append, hlen]; omega, .inr ⟨w.heap.size, _, _, rfl, hbase, heap_alloc_new w.drew _, hge, hcm, ?_, ?_⟩⟩, fun row => only_alloc (only_drew (World.grownBy.refl _ _)) _, rfl⟩
    · simp [Builtin.zeroCells, hlen, hxl, Value.cells]; omega
    · simp only [Array.toList_append]
      rw [List.take_append_of_le_length (by rw [List.length_append, hlen, hxl]; omega), List.take_of_length_le (by rw [List.length_append, hlen, hxl]; omega)]
  rcases hown.2 with ⟨rfl, rfl⟩ | ⟨g, cap, cur, rfl, hbg, hg, hnc, hcm, hcs, htake⟩
  · obtain rfl : xs = [] := List.eq_nil_of_length_eq_zero hxl
    by_cases h0 : s.size = 0
    · have hd : s.data.toList = [] := List.eq_nil_of_length_eq_zero (by rw [Array.length_toList]; exact h0)
      refine ⟨.slice none 0 0, w, ?_, ⟨by rw [hd]; simp [u8s, h0], .inl ⟨rfl, by omega⟩⟩, World.grownBy.refl _ _, .inl rfl⟩
      have hf := Src.cells hsrc
      rw [hs1, h0] at hf
      simp [Builtin.append_, run_underlying ht, run_underlying hsT, sizeOf, typeInfo, hi, hs1, Builtin.lenOf, h0, hf]
    · obtain ⟨v', w', h1, h2, h3, h4⟩ := grown none 0 (by omega) (by simp [Builtin.firstCells])
      exact ⟨v', w', h1, h2, h3 _, .inr h4⟩
  · by_cases hr : n + s.size ≤ cap
    · have hcell : ∀ j, j < (u8s s.data.toList).length → (w.cell? ⟨g, 0 + n * i.size + j, none⟩).isSome = true := fun j hj => by
        rw [hlen] at hj
        rw [cell_of_row w g _ cur e (0, 0) hg, hs1, Array.getElem?_eq_getElem (by omega)]; rfl
      have hfz : ∀ j, j < (u8s s.data.toList).length → w.frozen? ⟨g, 0 + n * i.size + j, none⟩ = false := fun j _ => hown.frozenAt _
      have hrun := run_append_room_src (P := P) w t sT ty e i ht hi g 0 n cap (.string s) s.size (u8s s.data.toList) hsrc hr hcell hfz
      rw [hs1, Nat.mul_one, Nat.zero_add] at hrun
      obtain ⟨c', a1, a2, a3, a4⟩ := block_setCells (u8s s.data.toList) n w cur hg (by omega)
      refine ⟨_, _, hrun, ⟨by rw [List.length_append, hlen]; omega, .inr ⟨g, cap, c', rfl, hbg, a1, hr, hcm, by rw [a2]; exact hcs, ?_⟩⟩, a4, .inl rfl⟩
      refine List.ext_getElem? fun j => ?_
      rw [List.getElem?_take]
      by_cases hj : j < (n + s.size) * 1
      · rw [if_pos hj, Array.getElem?_toList, a3, hlen]
        by_cases h1 : n ≤ j ∧ j < n + s.size
        · rw [if_pos h1, List.getElem?_append_right (by omega), hxl]
        · rw [if_neg h1, List.getElem?_append_left (by omega), ← htake, List.getElem?_take, if_pos (by omega), Array.getElem?_toList]
      · rw [if_neg hj, List.getElem?_eq_none (by rw [List.length_append, hlen]; omega)]
    · have hfo : (Builtin.firstCells i.size n (.slice (some ⟨g, 0, none⟩) n cap)).run P w.drew = .ok xs.toArray w.drew := by
        rw [hs1]
        exact run_firstCells_some (P := P) w.drew 1 n ⟨g, 0, none⟩ n cap xs (by omega) (fun j u hj => by
          have := hown.cells (g := g) rfl j u hj
          exact this)
      obtain ⟨v', w', h1, h2, h3, h4⟩ := grown (some ⟨g, 0, none⟩) cap (by omega) hfo
      exact ⟨v', w', h1, h2, h3 _, .inr h4⟩
theorem append_own_str_wp (base : Nat) {ops : Array Oper} {rest : List Oper} {o : Oper} {a : Act} {Q : Exit → Act → World → Prop} (hgd : o.guard = none) (x y : Operand) (t sT : TypeId)
    (ho : o.op = .call { callee := .builtin .append, args := #[x, y], argTypes := #[t, sT] }) (e : TypeId) (ht : P.underlying t = some (.slice e)) (hsT : P.underlying sT = some .string) (i : TypeInfo) (hi : P.info? e = some i) (hz : i.zero = some (.int .u8 0)) (hs1 : i.size = 1) (hb : i.bytes = 1)
    (v : Value) (n : Nat) (xs : List Value) (hv : a.eval x = v) (hown : w.ownsRow base e 1 v n xs) (s : ByteArray) (hx : a.eval y = .string s) (hroom : n + s.size ≤ 140737488355328) (hbase : base ≤ w.heap.size)
    (hK : ∀ v' w', w'.ownsRow base e 1 v' (n + s.size) (xs ++ u8s s.data.toList) → w.grownBy w' v.ownBlock → (v'.ownBlock = v.ownBlock ∨ v'.ownBlock = some w.heap.size) → wpList P ops Q rest (a.put o.dst v') w') : wpList P ops Q (o :: rest) a w := by
  refine wpList_plain hgd fun K hK' => ?_
  obtain ⟨v', w', hrun, h2, h3, h4⟩ := run_append_own_str (P := P) (w := w) base t sT o.type e ht hsT i hi hz hs1 hb v n xs hown s hroom hbase
  unfold Oper.wp execOp
  simp only [ho, resolve, invoke, builtin, Sem.run_bind, Sem.run_pure, Result.andThen_ok, List.map_toArray, List.map_cons, List.map_nil, hv, hx, hrun]
  exact hK' _ _ (hK v' w' h2 h3 h4)
end
end Go.Proofs.Ythlnnclpfgokjaa
