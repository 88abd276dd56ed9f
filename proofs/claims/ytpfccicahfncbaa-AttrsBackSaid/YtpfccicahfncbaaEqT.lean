/- Structs compared field by field, over any program. No conditions. -/
import Derived.Test.YtpfccicahfncbaaMem
namespace Go.Proofs.Ytpfccicahfncbaa
open Go.RowKit
set_option linter.unusedVariables false
def eqT (d : Nat) (xs ys : Array Value) : List (Bool × TypeId × Nat) → Sem Bool
  | [] => pure true
  | (n, t, off) :: fs =>
    if n = true then do
      let a ← part t xs off
      let b ← part t ys off
      let r ← Op.equalIn d t a b
      if (!r) = true then pure false else eqT d xs ys fs
    else eqT d xs ys fs
theorem eqT_of (d : Nat) (xs ys : Array Value) : ∀ fs : List Field, Op.eqFields d xs ys fs = eqT d xs ys (fs.map fun f => (f.name != "_", f.type, f.offset))
  | [] => rfl
  | f :: fs => by
    rw [Op.eqFields, List.map_cons, eqT, eqT_of d xs ys fs]
    by_cases h : f.name = "_"
    · rw [if_neg (by simp [h]), if_neg (by simp [h])]
    · rw [if_pos h, if_pos (by simp [h])]
theorem eqT_step {P : Program} {d : Nat} {xs ys : Array Value} {t : TypeId} {off : Nat} {fs : List (Bool × TypeId × Nat)} {w : World} {a b : Value} (h1 : (part t xs off).run P w = .ok a w) (h2 : (part t ys off).run P w = .ok b w) (h3 : (Op.equalIn d t a b).run P w = .ok true w) :
    (eqT d xs ys ((true, t, off) :: fs)).run P w = (eqT d xs ys fs).run P w := by
  rw [eqT, if_pos rfl]
  simp only [Sem.run_bind, h1, h2, h3, Result.andThen, Bool.not_true, Bool.false_eq_true, if_false]
theorem eqT_stepB {P : Program} {d : Nat} {xs ys : Array Value} {t : TypeId} {off : Nat} {fs : List (Bool × TypeId × Nat)} {w : World} {a b : Value} {r : Bool} (h1 : (part t xs off).run P w = .ok a w) (h2 : (part t ys off).run P w = .ok b w) (h3 : (Op.equalIn d t a b).run P w = .ok r w) :
    (eqT d xs ys ((true, t, off) :: fs)).run P w = if r = true then (eqT d xs ys fs).run P w else .ok false w := by
  rw [eqT, if_pos rfl, Sem.run_bind, h1, Result.andThen_ok, Sem.run_bind, h2, Result.andThen_ok, Sem.run_bind, h3, Result.andThen_ok]
  cases r with
  | true => rw [if_neg (by decide), if_pos rfl]
  | false => rw [if_pos (by decide), if_neg (by decide), Sem.run_pure]
theorem part_cell {P : Program} (t : TypeId) (cs : Array Value) (k : Nat) (v : Value) (hv : cs[k]? = some v) (ha : ∀ w, (isAgg t).run P w = .ok false w) (w : World) : (part t cs k).run P w = .ok v w := by
  unfold part
  rw [Sem.run_bind, ha, Result.andThen_ok, if_neg (by decide), hv, Sem.run_pure]
end Go.Proofs.Ytpfccicahfncbaa
