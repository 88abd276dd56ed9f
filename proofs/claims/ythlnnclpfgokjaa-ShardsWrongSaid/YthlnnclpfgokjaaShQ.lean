/- Shards, plainly: out of any k shards of a whole, all come back; one too few is lost. No conditions but those that each theorem tells. -/
import Derived.Test.YthlnnclpfgokjaaShL
import Derived.Test.YthlnnclpfgokjaaShC
namespace Go.Proofs.Ythlnnclpfgokjaa
open Go.RowKit Gf
set_option linter.unusedVariables false
/-- Data shards with their parity behind them. -/
def allL (D : List ByteArray) (m : Nat) : List ByteArray := D ++ parL D m
theorem allL_length (D : List ByteArray) (m : Nat) : (allL D m).length = D.length + m := by unfold allL; rw [List.length_append, parL_length]
theorem sAt_app (a b : List ByteArray) (i : Nat) : sAt (a ++ b) i = if i < a.length then sAt a i else sAt b (i - a.length) := by
  unfold sAt
  by_cases h : i < a.length
  · rw [if_pos h, List.getD_eq_getElem?_getD, List.getD_eq_getElem?_getD, List.getElem?_append_left h]
  · rw [if_neg h, List.getD_eq_getElem?_getD, List.getD_eq_getElem?_getD, List.getElem?_append_right (by omega)]
theorem allL_size (D : List ByteArray) (m i : Nat) (ha : alikeB D = true) (hi : i < D.length + m) : (sAt (allL D m) i).size = (sAt D 0).size := by
  unfold allL
  rw [sAt_app]
  by_cases h : i < D.length
  · rw [if_pos h]; exact (alikeB_iff D).1 ha i h
  · rw [if_neg h, parL_at _ _ _ (by omega), sumL_size]
/-- Each shard's bytes are the generator's row over the data. -/
theorem allL_byte (D : List ByteArray) (m i x : Nat) (hi : i < D.length + m) (hx : x < (sAt D 0).size) :
    byteAt (sAt (allL D m) i) x = sm (fun j => gm (genF D.length i j) (byteAt (sAt D j) x)) D.length := by
  unfold allL
  rw [sAt_app]
  by_cases h : i < D.length
  · rw [if_pos h, ← unit_left D.length i h (fun j => byteAt (sAt D j) x)]
    exact sm_congr fun j _ => by unfold genF; rw [if_pos h]
  · rw [if_neg h, parL_byte _ _ _ _ (by omega) hx]
    exact sm_congr fun j _ => by rw [genF_cau _ _ _ (by omega)]
theorem getD_range (n i : Nat) (B : Nat → Bool) (h : i < n) : ((List.range n).map B).getD i false = B i := by
  rw [List.getD_eq_getElem?_getD, List.getElem?_map, List.getElem?_range h]; rfl
theorem pickL_range (B : Nat → Bool) (n : Nat) : pickL ((List.range n).map B) n = (List.range n).filter B := by
  unfold pickL
  refine List.filter_congr fun i hi => ?_
  exact getD_range n i B (by simpa using hi)
/-- Shards that are there come back with the others. -/
theorem reb_back (D : List ByteArray) (m : Nat) (T : List ByteArray) (tt : List Bool) (h1 : 1 ≤ D.length) (h2 : D.length ≤ 32) (hm : D.length + m ≤ 64) (ha : alikeB D = true)
    (hT : T.length = D.length + m) (htt : tt.length = D.length + m) (hsame : ∀ i, i < D.length + m → tt.getD i false = true → sAt T i = sAt (allL D m) i) (hcnt : D.length ≤ (pickL tt (D.length + m)).length) :
    rebR T tt (D.length : Int) = (allL D m, 0) := by
  have hat : ∀ l, l < (pickL tt (D.length + m)).length → (pickL tt (D.length + m)).getD l 0 < D.length + m ∧ tt.getD ((pickL tt (D.length + m)).getD l 0) false = true := fun l hl => filter_at (fun i => tt.getD i false) (D.length + m) l hl
  have hS : ∀ l, l < (pickL tt (D.length + m)).length → sAt (someL T tt (D.length + m)) l = sAt (allL D m) ((pickL tt (D.length + m)).getD l 0) := fun l hl => by
    rw [someL_at _ _ _ _ hl]; exact hsame _ (hat l hl).1 (hat l hl).2
  have hSz : ∀ l, l < (pickL tt (D.length + m)).length → (sAt (someL T tt (D.length + m)) l).size = (sAt D 0).size := fun l hl => by
    rw [hS l hl]; exact allL_size D m _ ha (hat l hl).1
  have hSA : alikeB (someL T tt (D.length + m)) = true := (alikeB_iff _).2 (fun l hl => by
    rw [someL_length] at hl
    rw [hSz l hl, hSz 0 (by omega)])
  obtain ⟨B, hinv, hB⟩ := back_is D.length tt (D.length + m) h1 h2 hm hcnt
  have hout : outL T tt D.length = D := by
    have hl : (outL T tt D.length).length = D.length := outL_length _ _ _
    refine strs_ext hl fun i hi => ?_
    rw [hl] at hi
    have e1 : sAt (outL T tt D.length) i = sumL (sAt (mat D.length D.length B) i) ((someL T tt (D.length + m)).take D.length) := by
      unfold outL backL
      rw [sAt_map _ _ _ hi, hT, hinv]
    rw [e1]
    have hz0 : (sAt ((someL T tt (D.length + m)).take D.length) 0).size = (sAt D 0).size := by rw [sAt_take _ _ _ (by omega)]; exact hSz 0 (by omega)
    have hDi : (sAt D i).size = (sAt D 0).size := (alikeB_iff D).1 ha i hi
    refine str_ext (by rw [sumL_size, hz0, hDi]) fun x hx => ?_
    rw [sumL_size, hz0] at hx
    rw [sumL_at _ _ _ (by rw [hz0]; exact hx)]
    have hlen : ((someL T tt (D.length + m)).take D.length).length = D.length := by rw [List.length_take, someL_length]; omega
    rw [hlen]
    have e2 : ∀ l, l < D.length → gm (byteAt (sAt (mat D.length D.length B) i) l) (byteAt (sAt ((someL T tt (D.length + m)).take D.length) l) x) =
        gm (B i l) (sm (fun j => gm (genF D.length ((pickL tt (D.length + m)).getD l 0) j) (byteAt (sAt D j) x)) D.length) := fun l hl => by
      have e3 : byteAt (sAt (mat D.length D.length B) i) l = B i l := ent_mat _ _ _ _ _ hi hl
      rw [e3, sAt_take _ _ _ hl, hS l (by omega), allL_byte D m _ x (hat l (by omega)).1 hx]
    rw [sm_congr e2, ← sm_assoc (B i) (fun l j => genF D.length ((pickL tt (D.length + m)).getD l 0) j) (fun j => byteAt (sAt D j) x) D.length D.length]
    rw [sm_congr (g := fun j => gm (if i = j then 1 else 0) (byteAt (sAt D j) x)) fun j hj => by rw [hB i j hi hj]]
    exact unit_left D.length i hi (fun j => byteAt (sAt D j) x)
  unfold rebR
  rw [if_pos ⟨by omega, by omega, by omega, by omega, by omega⟩, hT, if_neg (by rw [hSA]; simp), if_neg (by omega)]
  have e : rebL T tt (D.length : Int).toNat = allL D m := by
    rw [Int.toNat_natCast]
    unfold rebL allL
    rw [hout, hT, Nat.add_sub_cancel_left]
  rw [e]
theorem reb_few (D : List ByteArray) (m : Nat) (T : List ByteArray) (tt : List Bool) (h1 : 1 ≤ D.length) (h2 : D.length ≤ 32) (hm : D.length + m ≤ 64) (ha : alikeB D = true)
    (hT : T.length = D.length + m) (htt : tt.length = D.length + m) (hsame : ∀ i, i < D.length + m → tt.getD i false = true → sAt T i = sAt (allL D m) i) (hcnt : (pickL tt (D.length + m)).length < D.length) :
    rebR T tt (D.length : Int) = ([], 70) := by
  have hat : ∀ l, l < (pickL tt (D.length + m)).length → (pickL tt (D.length + m)).getD l 0 < D.length + m ∧ tt.getD ((pickL tt (D.length + m)).getD l 0) false = true := fun l hl => filter_at (fun i => tt.getD i false) (D.length + m) l hl
  have hSz : ∀ l, l < (pickL tt (D.length + m)).length → (sAt (someL T tt (D.length + m)) l).size = (sAt D 0).size := fun l hl => by
    rw [someL_at _ _ _ _ hl, hsame _ (hat l hl).1 (hat l hl).2]; exact allL_size D m _ ha (hat l hl).1
  have hSA : alikeB (someL T tt (D.length + m)) = true := (alikeB_iff _).2 (fun l hl => by
    rw [someL_length] at hl
    rw [hSz l hl, hSz 0 (by omega)])
  unfold rebR
  rw [if_pos ⟨by omega, by omega, by omega, by omega, by omega⟩, hT, if_neg (by rw [hSA]; simp), if_pos (by omega)]
/-- How many are true. -/
def cntB (B : Nat → Bool) (n : Nat) : Nat := ((List.range n).filter B).length
theorem cntB_succ (B : Nat → Bool) (n : Nat) : cntB B (n + 1) = cntB B n + if B n = true then 1 else 0 := by
  unfold cntB
  rw [List.range_succ, List.filter_append, List.length_append]
  by_cases h : B n = true
  · rw [if_pos h]; simp [h]
  · rw [if_neg h]; simp [h]
theorem cntB_congr {B C : Nat → Bool} {n : Nat} (h : ∀ i, i < n → B i = C i) : cntB B n = cntB C n := by
  unfold cntB
  rw [List.filter_congr fun i hi => h i (by simpa using hi)]
theorem cntB_all (n : Nat) : cntB (fun _ => true) n = n := by
  unfold cntB
  rw [List.filter_eq_self.2 (fun _ _ => rfl), List.length_range]
theorem cntB_none {B : Nat → Bool} {n : Nat} (h : ∀ i, i < n → B i = false) : cntB B n = 0 := by
  unfold cntB
  rw [List.length_eq_zero_iff, List.filter_eq_nil_iff]
  intro i hi; rw [h i (by simpa using hi)]; simp
def clr (B : Nat → Bool) (a : Nat) : Nat → Bool := fun i => if i = a then false else B i
theorem cntB_clr (B : Nat → Bool) (a : Nat) (h : B a = true) : ∀ n, a < n → cntB (clr B a) n + 1 = cntB B n
  | 0, hn => by omega
  | n + 1, hn => by
    rw [cntB_succ, cntB_succ]
    by_cases e : a = n
    · subst e
      have e1 : clr B a a = false := by unfold clr; rw [if_pos rfl]
      rw [e1, h, cntB_congr (C := B) fun i hi => by unfold clr; rw [if_neg (by omega)]]; simp
    · have e1 : clr B a n = B n := by unfold clr; rw [if_neg (fun h => e h.symm)]
      have := cntB_clr B a h n (by omega)
      rw [e1]; omega
theorem fits_all (D : List ByteArray) (m : Nat) (h1 : 1 ≤ D.length) (h2 : D.length ≤ 32) (hm : D.length + m ≤ 64) (ha : alikeB D = true) : fitR (allL D m) (D.length : Int) = (true, 0) := by
  have hA : alikeB (allL D m) = true := (alikeB_iff _).2 (fun i hi => by
    rw [allL_length] at hi
    rw [allL_size D m i ha hi, allL_size D m 0 ha (by omega)])
  unfold fitR
  rw [if_pos ⟨by omega, by omega, by rw [allL_length]; omega, by rw [allL_length]; omega, hA⟩]
  have : fitB (allL D m) D.length = true := by
    unfold fitB
    rw [decide_eq_true_eq, allL_length, Nat.add_sub_cancel_left]
    unfold allL
    rw [List.take_left', List.drop_left'] <;> rfl
  rw [Int.toNat_natCast, this]
/-- What was cut joins to the text, with 0 behind it. -/
def joinL (l : List ByteArray) : List UInt8 := l.flatMap fun s => s.data.toList
theorem joinL_cut (s : ByteArray) (N : Nat) : ∀ k, joinL ((List.range k).map (cutF s N)) = (List.range (k * N)).map fun i => byteAt s i
  | 0 => by simp [joinL]
  | k + 1 => by
    have ih := joinL_cut s N k
    unfold joinL at ih ⊢
    rw [List.range_succ, List.map_append, List.flatMap_append, ih, Nat.add_mul, Nat.one_mul, List.range_add, List.map_append]
    congr 1
    simp [cutF, bs_data]
theorem joinL_take (s : ByteArray) (M : Nat) (h : s.size ≤ M) : bs (((List.range M).map fun i => byteAt s i).take s.size) = s := by
  refine str_ext (by rw [bs_size]; simp; omega) fun i hi => ?_
  rw [bs_size] at hi
  simp at hi
  rw [byteAt_bs, List.getD_eq_getElem?_getD, List.getElem?_take, if_pos (by omega), List.getElem?_map, List.getElem?_range (by omega)]; rfl
end Go.Proofs.Ythlnnclpfgokjaa
