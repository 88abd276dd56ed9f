/- Extended attributes compared: one with another, and lists of them (slices.Equal). No conditions. -/
import Derived.Test.YtpfccicahfncbaaAtt
import Derived.Test.YtpfccicahfncbaaEqT
import Derived.BigQuiet
namespace Go.Proofs.Ytpfccicahfncbaa
open Go.RowKit Wir
set_option linter.unusedVariables false
set_option linter.unusedSimpArgs false
theorem eqX_fields : (Try.prog.fieldsOf 97).toList.map (fun f => (f.name != "_", f.type, f.offset)) = [(true, 9, 0), (true, 9, 1)] := by kernel_rfl
theorem eq_str (n : Nat) (a b : ByteArray) (w : World) : (Op.equalIn (n + 1) 9 (.string a) (.string b)).run Try.prog w = .ok (a.toList == b.toList) w := run_equalIn_string w n _ a b Try.underlying9
theorem eq_xts (p q r s : ByteArray) (w : World) : (Op.equalIn 10000 97 (.agg #[.string p, .string q]) (.agg #[.string r, .string s])).run Try.prog w = .ok ((p.toList == r.toList) && (q.toList == s.toList)) w := by
  refine (run_equalIn_struct w 9999 _ _ _ (by kernel_rfl) (by kernel_rfl)).trans ?_
  rw [eqT_of, eqX_fields]
  have a0 := part_cell (P := Try.prog) 9 #[.string p, .string q] 0 _ rfl (fun w => by kernel_rfl) w
  have a1 := part_cell (P := Try.prog) 9 #[.string p, .string q] 1 _ rfl (fun w => by kernel_rfl) w
  have b0 := part_cell (P := Try.prog) 9 #[.string r, .string s] 0 _ rfl (fun w => by kernel_rfl) w
  have b1 := part_cell (P := Try.prog) 9 #[.string r, .string s] 1 _ rfl (fun w => by kernel_rfl) w
  rw [eqT_stepB a0 b0 (eq_str 9998 p r w), eqT_stepB a1 b1 (eq_str 9998 q s w), eqT, Sem.run_pure]
  cases (p.toList == r.toList) <;> cases (q.toList == s.toList) <;> rfl
def neqX (x y : Operand) (a b : Value) : Sem Next := do
  let v ← (do eqGuard .neq 97 x y a b; binOp .neq 97 a b)
  pure (.value v)
theorem execOp_neqX (ρ : Operand → Value) (dst : Option Tmp) (x y : Operand) (yt ty : TypeId) (pos : String) (after : Array Edge) (guard : Option (Nat × Bool)) :
    execOp ρ { dst, op := .binOp .neq 97 x y yt, type := ty, pos, after, guard } = neqX x y (ρ x) (ρ y) := rfl
theorem run_neqX (x y : Operand) (p q r s : ByteArray) (w : World) : (neqX x y (.agg #[.string p, .string q]) (.agg #[.string r, .string s])).run Try.prog w = .ok (.value (.bool (!((p.toList == r.toList) && (q.toList == s.toList))))) w := by
  unfold neqX
  have h1 := run_eqGuard_agg (P := Try.prog) w .neq 97 x y #[.string p, .string q] #[.string r, .string s] (by kernel_rfl)
  have h2 : (binOp .neq 97 (.agg #[.string p, .string q]) (.agg #[.string r, .string s])).run Try.prog w = .ok (.bool (!((p.toList == r.toList) && (q.toList == s.toList)))) w := by
    refine (run_neq_struct (P := Try.prog) w 97 _ _).trans ?_
    rw [eq_xts p q r s w, Result.andThen_ok]
  generalize (!((p.toList == r.toList) && (q.toList == s.toList))) = b at *
  generalize #[Value.string p, Value.string q] = N at *
  generalize #[Value.string r, Value.string s] = M at *
  rw [Sem.run_bind, Sem.run_bind, h1, Result.andThen_ok, h2, Result.andThen_ok, Sem.run_pure]
attribute [local go_sem ↓] execOp_neqX
attribute [local go_sem] run_neqX
/-- Are two the same? -/
def sameP (p q : ByteArray × ByteArray) : Bool := (p.1.toList == q.1.toList) && (p.2.toList == q.2.toList)
theorem toList_inj {a b : ByteArray} (h : a.toList = b.toList) : a = b := by
  rw [ByteArray.toList_eq, ByteArray.toList_eq] at h
  exact ByteArray.ext (Array.ext' h)
theorem sameP_iff (p q : ByteArray × ByteArray) : sameP p q = true ↔ p = q := by
  unfold sameP
  rw [Bool.and_eq_true, beq_iff_eq, beq_iff_eq]
  constructor
  · rintro ⟨h1, h2⟩; exact Prod.ext (toList_inj h1) (toList_inj h2)
  · rintro rfl; exact ⟨rfl, rfl⟩
def sameX (xs ys : List (ByteArray × ByteArray)) : Bool := decide (xs = ys)
set_option maxRecDepth 100000 in
theorem eqXs_any (A A' : Option Addr) (n c n' c' : Nat) (xs ys : List (ByteArray × ByteArray)) (w : World) (B : Nat) (hr : Reads w B 2 A n (xtV xs)) (hr' : Reads w B 2 A' n' (xtV ys)) (hn : n ≤ 4611686018427387904) (hn' : n' ≤ 4611686018427387904) :
    Calls Try.prog 57 #[.slice A n c, .slice A' n' c'] w fun e w' => e = .returned (.bool (sameX xs ys)) ∧ Below w.heap.size w w' := by
  have HR := Lib.hid hr
  have HR' := Lib.hid hr'
  have HL := Lib.hid hr.xtLen
  have HL' := Lib.hid hr'.xtLen
  clear hr hr'
  by_cases hnn : n = n'
  · subst hnn
    go_enter Try.func57, Try.ntmps57
    have t0 : ((n : Int) != (n : Int)) = false := by simp
    go_wp2
    go_loopw [13] (fun i wr => ∃ k : Nat, k ≤ n ∧ i = .int .i64 k ∧ Hid (xs.take k = ys.take k) ∧ Hid (∃ q, wr = w.drewN q)) (fun i _ => n - (intOf i).toNat)
    case atStart => exact ⟨0, by omega, rfl, Lib.hid rfl, Lib.hid ⟨0, rfl⟩⟩
    case round =>
      obtain ⟨k, hk, rfl, HT, HQ⟩ := hrel
      obtain ⟨q, rfl⟩ := HQ.out
      by_cases hlt : k < n
      · obtain ⟨ad, hkl, rfl, hbl, x0, x1⟩ := xt_cells HR.out k hlt
        obtain ⟨ad', hkl', rfl, hbl', y0, y1⟩ := xt_cells HR'.out k hlt
        have HS : Hid (sameP xs[k] ys[k] = true → xs.take (k + 1) = ys.take (k + 1)) := Lib.hid (fun h => by
          rw [List.take_add_one, List.take_add_one, HT.out, List.getElem?_eq_getElem hkl, List.getElem?_eq_getElem hkl', (sameP_iff _ _).1 h])
        have HN : Hid (sameP xs[k] ys[k] = false → sameX xs ys = false) := Lib.hid (fun h => by
          rw [sameX, decide_eq_false_iff_not]
          rintro rfl
          rw [(sameP_iff _ _).2 rfl] at h; cases h)
        obtain ⟨x, hx⟩ : ∃ x, xs[k] = x := ⟨_, rfl⟩
        obtain ⟨y, hy⟩ : ∃ y, ys[k] = y := ⟨_, rfl⟩
        rw [hx] at HS HN x0 x1
        rw [hy] at HS HN y0 y1
        change w.cell? ⟨(ad.add (k * 2)).block, (ad.add (k * 2)).off + 1, none⟩ = _ at x1
        change w.cell? ⟨(ad'.add (k * 2)).block, (ad'.add (k * 2)).off + 1, none⟩ = _ at y1
        clear hx hy hkl hkl' HQ
        have hki : (k : Int) < (n : Int) := by omega
        have hk0 : (0 : Int) ≤ (k : Int) := by omega
        cases hsm : sameP x y with
        | true =>
          have hs2 : ((x.1.toList == y.1.toList) && (x.2.toList == y.2.toList)) = true := hsm
          have HT2 : Hid (xs.take (k + 1) = ys.take (k + 1)) := Lib.hid (HS.out hsm)
          rw [Bool.and_eq_true] at hs2
          obtain ⟨hs3, hs4⟩ := hs2
          clear HS HN hsm
          go_wp2
          go_quiet (fail)
          go_wp2
          go_roundw
          case rel => exact ⟨k + 1, by omega, by go_num, HT2, Lib.hid ⟨_, rfl⟩⟩
          case measure => simp [intOf]; omega
        | false =>
          have hs2 : ((x.1.toList == y.1.toList) && (x.2.toList == y.2.toList)) = false := hsm
          have HT2 : Hid (sameX xs ys = false) := Lib.hid (HN.out hsm)
          clear HS HN hsm
          go_wp2
          go_quiet (fail)
          go_wp2
          go_ret
          exact ⟨by rw [HT2.out]; rfl, below_drewN (below_drewN (Below.refl _ _) _) _⟩
      · obtain rfl : k = n := by omega
        have HT2 : Hid (sameX xs ys = true) := Lib.hid (by
          have := HT.out
          rw [List.take_of_length_le (by rw [HL.out]; omega), List.take_of_length_le (by rw [HL'.out]; omega)] at this
          rw [sameX, decide_eq_true_eq]; exact this)
        go_wp2
        go_ret
        exact ⟨by rw [HT2.out]; rfl, below_drewN (Below.refl _ _) _⟩
  · have t0 : ((n : Int) != (n' : Int)) = true := by rw [bne_iff_ne]; omega
    have HT2 : Hid (sameX xs ys = false) := Lib.hid (by
      rw [sameX, decide_eq_false_iff_not]
      rintro rfl
      exact hnn (HL.out.symm.trans HL'.out))
    clear hnn
    go_enter Try.func57, Try.ntmps57
    go_wp2
    go_ret
    exact ⟨by rw [HT2.out]; rfl, Below.refl _ _⟩
end Go.Proofs.Ytpfccicahfncbaa
