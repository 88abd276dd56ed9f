/- Plain: the sum's rounds as functions; rows of 32-bit numbers. -/
import Derived.Test.YtfoandpcoakcjaaU32
namespace Go.Proofs.Ytfoandpcoakcjaa
namespace Dig
open Go.RowKit
set_option linter.unusedVariables false
def upd (f : Nat → UInt32) (k : Nat) (v : UInt32) : Nat → UInt32 := fun x => if x = k then v else f x
def uV (f : Nat → UInt32) : Nat → Value := fun i => .int .u32 ((f i).toNat : Int)
theorem uV_upd (f : Nat → UInt32) (k : Nat) (v : UInt32) (x : Nat) : (if x = k then (.int .u32 (v.toNat : Int)) else uV f x) = uV (upd f k v) x := by
  unfold uV upd; by_cases e : x = k <;> simp [e]
def uA (n : Nat) (f : Nat → UInt32) : Array Value := ((List.range n).map fun k => Value.int .u32 ((f k).toNat : Int)).toArray
theorem uA_size (n : Nat) (f : Nat → UInt32) : (uA n f).size = n := by simp [uA]
theorem uA_get (n : Nat) (f : Nat → UInt32) (k : Nat) (h : k < n) : (uA n f)[k]? = some (.int .u32 ((f k).toNat : Int)) := by simp [uA, h]
theorem uA_congr {n : Nat} {f g : Nat → UInt32} (h : ∀ k, k < n → f k = g k) : uA n f = uA n g := by
  unfold uA
  congr 1
  exact List.map_congr_left fun k hk => by rw [h k (by simpa using hk)]
/-- The words of a block, byte by byte. -/
def ldF (b : Nat → UInt8) : Nat → Nat → UInt32
  | 0 => fun _ => 0
  | i + 1 => upd (ldF b i) (i / 4) (ldF b i (i / 4) <<< UInt32.ofNat 8 ||| UInt32.ofNat (b i).toNat)
def sg0 (x : UInt32) : UInt32 := rr x 7 ^^^ rr x 18 ^^^ x >>> UInt32.ofNat 3
def sg1 (y : UInt32) : UInt32 := rr y 17 ^^^ rr y 19 ^^^ y >>> UInt32.ofNat 10
/-- The other words, by and by: t of them. -/
def scF (f : Nat → UInt32) : Nat → Nat → UInt32
  | 0 => f
  | t + 1 => upd (scF f t) (t + 16) (sg1 (scF f t (t + 14)) + scF f t (t + 9) + sg0 (scF f t (t + 1)) + scF f t t)
def t1F (v : Nat → UInt32) (k x : UInt32) : UInt32 := v 7 + rr3 (v 4) 6 11 25 + (v 4 &&& v 5 ^^^ ~~~ (v 4) &&& v 6) + k + x
def t2F (v : Nat → UInt32) : UInt32 := rr3 (v 0) 2 13 22 + (v 0 &&& v 1 ^^^ v 0 &&& v 2 ^^^ v 1 &&& v 2)
def rdF (v : Nat → UInt32) (k x : UInt32) : Nat → UInt32
  | 0 => t1F v k x + t2F v
  | 4 => v 3 + t1F v k x
  | i + 1 => v i
def rdsF (k w v : Nat → UInt32) : Nat → Nat → UInt32
  | 0 => v
  | t + 1 => rdF (rdsF k w v t) (k t) (w t)
def roundsF (h k : Nat → UInt32) (b : Nat → UInt8) : Nat → UInt32 := fun i => h i + rdsF k (scF (ldF b 64) 48) h 64 i
end Dig
end Go.Proofs.Ytfoandpcoakcjaa
