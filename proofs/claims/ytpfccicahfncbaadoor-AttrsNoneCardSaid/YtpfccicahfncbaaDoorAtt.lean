/- Attributes, plainly: what may be, their bytes; in memory. No conditions. -/
import Derived.Test.YtpfccicahfncbaaDoorName
import Derived.Test.YtpfccicahfncbaaDoorText
import Derived.Test.YtpfccicahfncbaaDoorElemN
namespace Go.Proofs.YtpfccicahfncbaaDoor
open Go.RowKit Wir
set_option linter.unusedVariables false
/-- What is known of a file. -/
structure Att where
  nd : UInt8
  md : UInt32
  ui : UInt32
  gi : UInt32
  mt : Int
  tg : ByteArray
  xs : List (ByteArray × ByteArray)
def Att.fit (a : Att) : Prop := -9223372036854775808 ≤ a.mt ∧ a.mt ≤ 9223372036854775807
def xtC (p : ByteArray × ByteArray) : List Value := [.string p.1, .string p.2]
def xtV (l : List (ByteArray × ByteArray)) : List Value := l.flatMap xtC
theorem xtV_length (l : List (ByteArray × ByteArray)) : (xtV l).length = l.length * 2 := by
  induction l with
  | nil => rfl
  | cons o l ih =>
    show (xtC o ++ xtV l).length = _
    rw [List.length_append, ih, List.length_cons]
    show 2 + _ = _
    omega
theorem xtV_app (a b : List (ByteArray × ByteArray)) : xtV (a ++ b) = xtV a ++ xtV b := by unfold xtV; rw [List.flatMap_append]
theorem xtV_get (l : List (ByteArray × ByteArray)) (i : Nat) (h : i < l.length) : (xtV l)[i * 2]? = some (.string (l[i]).1) ∧ (xtV l)[i * 2 + 1]? = some (.string (l[i]).2) := by
  induction l generalizing i with
  | nil => simp at h
  | cons o l ih =>
    have e : xtV (o :: l) = .string o.1 :: .string o.2 :: xtV l := rfl
    rw [e]
    cases i with
    | zero => exact ⟨rfl, rfl⟩
    | succ i =>
      have := ih i (by simpa using h)
      rw [show (i + 1) * 2 = i * 2 + 1 + 1 by omega]
      simpa using this
theorem xtV_one (l : List (ByteArray × ByteArray)) : ∀ u ∈ xtV l, u.oneCell' = true := fun u hu => by
  obtain ⟨o, _, ho⟩ := List.mem_flatMap.1 hu
  simp only [xtC, List.mem_cons, List.not_mem_nil, or_false] at ho
  rcases ho with rfl | rfl <;> rfl
theorem xt_cells {w : World} {B n : Nat} {A : Option Addr} {l : List (ByteArray × ByteArray)} (h : Reads w B 2 A n (xtV l)) (i : Nat) (hi : i < n) :
    ∃ (ad : Addr) (hl : i < l.length), A = some ad ∧ ad.block < B ∧ w.cell? (ad.add (i * 2)) = some (.string (l[i]).1) ∧ w.cell? ((ad.add (i * 2)).add 1) = some (.string (l[i]).2) := by
  obtain ⟨ad, e, hb, hc⟩ := h.2 (by omega)
  have hl : i < l.length := by have := h.1; rw [xtV_length] at this; omega
  obtain ⟨g1, g2⟩ := xtV_get l i hl
  exact ⟨ad, hl, e, hb, hc _ _ g1, by rw [add_of_add]; exact hc _ _ g2⟩
theorem Reads.xtLen {w : World} {B n : Nat} {A : Option Addr} {l : List (ByteArray × ByteArray)} (h : Reads w B 2 A n (xtV l)) : l.length = n := by
  have := h.1; rw [xtV_length] at this; omega
theorem xtV_take (l : List (ByteArray × ByteArray)) (k : Nat) (hk : k < l.length) : xtV (l.take (k + 1)) = xtV (l.take k) ++ [.string (l[k]).1, .string (l[k]).2] := by
  rw [List.take_add_one, List.getElem?_eq_getElem hk, xtV_app]; rfl
/-- A set of attributes as a value: its list lies at A. -/
def attV (a : Att) (A : Option Addr) (n c : Nat) : Array Value := #[.int .u8 (a.nd.toNat : Int), .int .u32 (a.md.toNat : Int), .int .u32 (a.ui.toNat : Int), .int .u32 (a.gi.toNat : Int), .int .i64 a.mt, .string a.tg, .slice A n c]
/-- May the list be, behind a name? -/
def chkX : ByteArray → List (ByteArray × ByteArray) → Bool
  | _, [] => true
  | last, p :: xs => decide (nmE p.1 = 0) && decide (p.2.size ≤ 4096) && Op.bytesLess last.toList p.1.toList && chkX p.1 xs
def nul (s : ByteArray) : Bool := decide (0 ≤ Lib.indexByte s.data.toList 0)
/-- What Check says first .. -/
def chk1 (a : Att) : Bool := decide (a.nd.toNat < 1) || decide (3 < a.nd.toNat) || decide (4095 < a.md.toNat) || decide (a.mt < 0) || decide (1099511627776 < a.mt)
def chk2 (a : Att) : Bool := (decide (a.nd.toNat = 3) != !a.tg.toList.isEmpty) || decide (1024 < a.tg.size) || nul a.tg || decide (16 < a.xs.length)
def chkA (a : Att) : Int := if chk1 a = true ∨ chk2 a = true ∨ chkX ByteArray.empty a.xs = false then 1 else 0
theorem chkA_bad1 {a : Att} (h : chk1 a = true) : chkA a = 1 := by rw [chkA, if_pos (.inl h)]
theorem chkA_bad2 {a : Att} (h : chk2 a = true) : chkA a = 1 := by rw [chkA, if_pos (.inr (.inl h))]
theorem chkA_bad3 {a : Att} (h : chkX ByteArray.empty a.xs = false) : chkA a = 1 := by rw [chkA, if_pos (.inr (.inr h))]
theorem chkA_ok {a : Att} (h1 : chk1 a = false) (h2 : chk2 a = false) (h3 : chkX ByteArray.empty a.xs = true) : chkA a = 0 := by
  rw [chkA, if_neg]
  rintro (h | h | h)
  · rw [h1] at h; cases h
  · rw [h2] at h; cases h
  · rw [h3] at h; cases h
theorem chkX_step (last : ByteArray) (l : List (ByteArray × ByteArray)) (k : Nat) (h : k < l.length) : chkX last (l.drop k) = (decide (nmE (l[k]).1 = 0) && decide ((l[k]).2.size ≤ 4096) && Op.bytesLess last.toList (l[k]).1.toList && chkX (l[k]).1 (l.drop (k + 1))) := by
  rw [List.drop_eq_getElem_cons h, chkX]
theorem nmE_or (s : ByteArray) : nmE s = 0 ∨ nmE s = 10 := by
  unfold nmE
  split
  · exact .inr rfl
  · split
    · exact .inr rfl
    · exact .inl rfl
end Go.Proofs.YtpfccicahfncbaaDoor
