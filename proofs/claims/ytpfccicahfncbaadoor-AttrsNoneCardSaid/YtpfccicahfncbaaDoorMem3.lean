/- Laws for copy into a row that is known cell by cell. Over any program. No conditions. -/
import Derived.Test.YtpfccicahfncbaaDoorMem2
namespace Go.Proofs.YtpfccicahfncbaaDoor
open Go.RowKit
section
variable {P : Program} {w : World}
theorem heap_setRow_self (w : World) (g : Nat) (cur cs : Array Value) (t : TypeId) (fr : Nat × Nat) (hg : w.heap[g]? = some (.cells cur t fr)) : (w.setRow g cs).heap[g]? = some (.cells cs t fr) := by
  simp [World.setRow, Array.getElem?_modify, hg]
/-- What stands at x behind a copy of vs to off. -/
def over (f : Nat → Value) (off : Nat) (vs : List Value) : Nat → Value := fun x => if off ≤ x ∧ x < off + vs.length then vs.getD (x - off) undef else f x
theorem storeCells_row {g N : Nat} {T : TypeId} {f : Nat → Value} (h : w.rowIs g T N f) (off : Nat) (vs : List Value) (hfit : off + vs.length ≤ N) (h1 : ∀ v ∈ vs, v.oneCell' = true) :
    ∃ w', (storeCells ⟨g, off, none⟩ vs).run P w = .ok () w' ∧ w'.rowIs g T N (over f off vs) ∧ w.grownBy w' (some g) := by
  obtain ⟨c, hb, hn, hc⟩ := h
  refine ⟨_, run_storeCells_at P g off T vs 0 c w hb (by rw [hn]; omega) h1, ⟨_, heap_setRow_self w g c _ T _ hb, ?_, fun i hi => ?_⟩, ?_⟩
  · simp; omega
  · simp only [Nat.add_zero, List.getElem?_toArray, over]
    have hct : ∀ j, j < N → c.toList[j]? = some (f j) := fun j hj => by rw [Array.getElem?_toList]; exact hc j hj
    have hl : c.toList.length = N := by simpa using hn
    by_cases h2 : off ≤ i ∧ i < off + vs.length
    · rw [if_pos h2, List.append_assoc, List.getElem?_append_right (by simp; omega), List.getElem?_append_left (by simp; omega)]
      have e : i - (List.take off c.toList).length = i - off := by rw [List.length_take, hl]; omega
      rw [e, List.getD_eq_getElem?_getD, List.getElem?_eq_getElem (by omega)]; rfl
    · rw [if_neg h2]
      by_cases h3 : i < off
      · rw [List.append_assoc, List.getElem?_append_left (by rw [List.length_take, hl]; omega), List.getElem?_take_of_lt h3]
        exact hct i hi
      · rw [List.getElem?_append_right (by rw [List.length_append, List.length_take, hl]; omega), List.getElem?_drop]
        have e : off + vs.length + (i - (List.take off c.toList ++ vs).length) = i := by rw [List.length_append, List.length_take, hl]; omega
        rw [e]; exact hct i hi
  · exact ⟨rfl, rfl, rfl, by simp [World.setRow], fun k hk hne => setRow_other w g k _ (fun e => hne (by rw [e]))⟩

def u8s (l : List UInt8) : List Value := l.map fun b => .int .u8 ((b.toNat : Nat) : Int)
theorem u8s_one (l : List UInt8) : ∀ v ∈ u8s l, v.oneCell' = true := by
  intro v hv; simp only [u8s, List.mem_map] at hv; obtain ⟨b, _, rfl⟩ := hv; rfl
theorem u8s_length (l : List UInt8) : (u8s l).length = l.length := by simp [u8s]
theorem u8s_get (l : List UInt8) (j : Nat) (h : j < l.length) : (u8s l).getD j undef = .int .u8 ((l.getD j 0).toNat : Int) := by
  simp [u8s, List.getD, h]

theorem run_copy_string (dT sT ty e : TypeId) (hu : P.underlying dT = some (.slice e)) (hs : (P.info? e).map (·.size) = some 1) {g N : Nat} {T : TypeId} {f : Nat → Value} (h : w.rowIs g T N f) (off dLen dCap : Nat) (s : ByteArray) (hfit : off + Nat.min s.size dLen ≤ N) :
    ∃ w', (Builtin.copy_ #[dT, sT] ty #[.slice (some ⟨g, off, none⟩) dLen dCap, .string s]).run P w = .ok (goInt (Nat.min s.size dLen)) w' ∧ w'.rowIs g T N (over f off (u8s (s.data.toList.take (Nat.min s.size dLen)))) ∧ w.grownBy w' (some g) := by
  have hl : (u8s (s.data.toList.take (Nat.min s.size dLen))).length = Nat.min s.size dLen := by
    rw [u8s_length, List.length_take]
    have : s.data.toList.length = s.size := by rw [Array.length_toList]; rfl
    rw [this]; exact Nat.min_eq_left (Nat.min_le_left _ _)
  obtain ⟨w', hrun, h2, h3⟩ := storeCells_row (P := P) h off (u8s (s.data.toList.take (Nat.min s.size dLen))) (by rw [hl]; exact hfit) (u8s_one _)
  refine ⟨w', ?_, h2, h3⟩
  have ec : List.take (Nat.min s.size dLen) (List.map (fun b : UInt8 => Value.int .u8 ((b.toNat : Nat) : Int)) s.data.toList) = u8s (s.data.toList.take (Nat.min s.size dLen)) := by
    rw [u8s, List.map_take]
  cases hq : P.info? e with
  | none => simp [hq] at hs
  | some i =>
    have hi : i.size = 1 := by simpa [hq] using hs
    simp only [Builtin.copy_, Builtin.lenOf, Builtin.firstCells]
    simp [run_underlying hu, sizeOf, typeInfo, hq, ec, hrun]

theorem copyStr_wp {ops : Array Oper} {rest : List Oper} {o : Oper} {a : Act} {Q : Exit → Act → World → Prop} (hgd : o.guard = none) (d s : Operand) (dT sT e : TypeId)
    (ho : o.op = .call { callee := .builtin .copy, args := #[d, s], argTypes := #[dT, sT] }) (hu : P.underlying dT = some (.slice e)) (hsz : (P.info? e).map (·.size) = some 1)
    {g N : Nat} {T : TypeId} {f : Nat → Value} (h : w.rowIs g T N f) (off dLen dCap : Nat) (st : ByteArray) (hd : a.eval d = .slice (some ⟨g, off, none⟩) dLen dCap) (hs : a.eval s = .string st) (hfit : off + Nat.min st.size dLen ≤ N)
    (hK : ∀ w', w'.rowIs g T N (over f off (u8s (st.data.toList.take (Nat.min st.size dLen)))) → w.grownBy w' (some g) → wpList P ops Q rest (a.put o.dst (goInt (Nat.min st.size dLen))) w') :
    wpList P ops Q (o :: rest) a w := by
  refine wpList_plain hgd fun K hK' => ?_
  obtain ⟨w', hrun, h2, h3⟩ := run_copy_string (P := P) dT sT o.type e hu hsz h off dLen dCap st hfit
  unfold Oper.wp
  simp [execOp, ho, resolve, invoke, builtin, hd, hs, hrun, Result.andThen]
  exact hK' _ _ (hK w' h2 h3)

/-- string(b) at a row that is known cell by cell. -/
theorem conv_str_wp {src e dst : TypeId} (hs : P.underlying src = some (.slice e)) (he : P.underlying e = some (.int .u8)) (hd : P.underlying dst = some .string)
    {ops : Array Oper} {rest : List Oper} {o : Oper} {a : Act} {Q : Exit → Act → World → Prop} (hgd : o.guard = none) (x : Operand) (ho : o.op = .convert src dst x) (ad : Addr) (len cap : Nat) (hx : a.eval x = .slice (some ad) len cap)
    (l : List UInt8) (hl : l.length = len) (hc : ∀ j, j < len → w.cell? (ad.add j) = some (.int .u8 ((l.getD j 0).toNat : Int)))
    (h : wpList P ops Q rest (a.put o.dst (.string (bs l))) w) : wpList P ops Q (o :: rest) a w := by
  refine wpList_plain hgd fun K hK => ?_
  have hrun := run_str (P := P) (w := w) src e dst hs he hd ad len cap l hl hc
  unfold Oper.wp
  simp [execOp, ho, hx, hrun, Result.andThen]
  exact hK _ _ h
end
end Go.Proofs.YtpfccicahfncbaaDoor
