/- Shards, plainly: what cutting, summing, encoding, rebuilding tell; what was rebuilt out of any k shards of a whole is the whole. No conditions. -/
import Derived.Test.YthlnnclpfgokjaaInv
import Derived.Test.YthlnnclpfgokjaaMat
import Derived.Test.YthlnnclpfgokjaaShK
namespace Go.Proofs.Ythlnnclpfgokjaa
open Go.RowKit Gf
theorem genF_cau (k i j : Nat) (h : k ≤ i) : genF k i j = cauF (i - k) j := by unfold genF; rw [if_neg (by omega)]; rfl
/-- Have texts one length? -/
def alikeB (l : List ByteArray) : Bool := l.all fun s => s.size == (sAt l 0).size
theorem alikeB_iff (l : List ByteArray) : alikeB l = true ↔ ∀ k, k < l.length → (sAt l k).size = (sAt l 0).size := by
  unfold alikeB
  rw [List.all_eq_true]
  constructor
  · intro h k hk; simpa using h _ (sAt_mem hk)
  · intro h s hs
    obtain ⟨j, hj, rfl⟩ := List.getElem_of_mem hs
    have := h j hj
    rw [sAt_get hj] at this
    simpa using this
/-- Shards, each times a number, summed up. -/
def sumL (b : ByteArray) (l : List ByteArray) : ByteArray := bs ((List.range (sAt l 0).size).map fun i => sm (fun j => gm (byteAt b j) (byteAt (sAt l j) i)) l.length)
theorem sumL_size (b : ByteArray) (l : List ByteArray) : (sumL b l).size = (sAt l 0).size := by unfold sumL; rw [bs_size]; simp
theorem byteAt_map (n i : Nat) (f : Nat → UInt8) (hi : i < n) : byteAt (bs ((List.range n).map f)) i = f i := by
  rw [byteAt_bs, List.getD_eq_getElem?_getD, List.getElem?_map, List.getElem?_range hi]; rfl
theorem sumL_at (b : ByteArray) (l : List ByteArray) (i : Nat) (hi : i < (sAt l 0).size) : byteAt (sumL b l) i = sm (fun j => gm (byteAt b j) (byteAt (sAt l j) i)) l.length := byteAt_map _ _ _ hi
theorem sAt_map (n i : Nat) (f : Nat → ByteArray) (hi : i < n) : sAt ((List.range n).map f) i = f i := by
  rw [sAt_get (by simpa using hi)]; simp
theorem byteAt_high (s : ByteArray) (k : Nat) (h : s.size ≤ k) : byteAt s k = 0 := by
  unfold byteAt
  rw [List.getD_eq_getElem?_getD, List.getElem?_eq_none (by rw [Array.length_toList]; exact h)]; rfl
theorem str_ext {a b : ByteArray} (hs : a.size = b.size) (h : ∀ i, i < a.size → byteAt a i = byteAt b i) : a = b := by
  rw [← bs_of a, ← bs_of b]
  congr 1
  refine List.ext_getElem (by rw [Array.length_toList, Array.length_toList]; exact hs) fun i h1 h2 => ?_
  have := h i (by rw [Array.length_toList] at h1; exact h1)
  unfold byteAt at this
  rw [List.getD_eq_getElem?_getD, List.getD_eq_getElem?_getD, List.getElem?_eq_getElem h1, List.getElem?_eq_getElem h2] at this
  exact this
/-- Parity shards. -/
def parL (data : List ByteArray) (m : Nat) : List ByteArray := (List.range m).map fun i => sumL (sAt (mat m data.length cauF) i) data
theorem parL_length (d : List ByteArray) (m : Nat) : (parL d m).length = m := by simp [parL]
theorem parL_at (d : List ByteArray) (m i : Nat) (hi : i < m) : sAt (parL d m) i = sumL (bs ((List.range d.length).map fun j => cauF i j)) d := by
  unfold parL
  rw [sAt_map _ _ _ hi, sAt_mat _ _ _ _ hi]
theorem parL_byte (d : List ByteArray) (m i x : Nat) (hi : i < m) (hx : x < (sAt d 0).size) : byteAt (sAt (parL d m) i) x = sm (fun j => gm (cauF i j) (byteAt (sAt d j) x)) d.length := by
  rw [parL_at d m i hi, sumL_at _ _ _ hx]
  exact sm_congr fun j hj => by rw [byteAt_map _ _ _ hj]
def encOk (d : List ByteArray) (m : Int) : Prop := 1 ≤ d.length ∧ d.length ≤ 32 ∧ alikeB d = true ∧ 0 ≤ m ∧ m ≤ 64 - (d.length : Int)
instance (d : List ByteArray) (m : Int) : Decidable (encOk d m) := by unfold encOk; infer_instance
def encR (d : List ByteArray) (m : Int) : List ByteArray × Int := if encOk d m then (parL d m.toNat, 0) else ([], 1)
/-- The places of the shards that are there. -/
def pickL (there : List Bool) (n : Nat) : List Nat := (List.range n).filter fun i => there.getD i false
theorem pickL_succ (t : List Bool) (n : Nat) : pickL t (n + 1) = pickL t n ++ if t.getD n false then [n] else [] := by
  unfold pickL
  rw [List.range_succ, List.filter_append]
  congr 1
  rw [List.filter_cons]; rfl
theorem pickL_len (t : List Bool) (n : Nat) : (pickL t n).length ≤ n := by
  unfold pickL
  have := List.length_filter_le (fun i => t.getD i false) (List.range n)
  simpa using this
def someL (all : List ByteArray) (there : List Bool) (n : Nat) : List ByteArray := (pickL there n).map (sAt all)
def genRow (k i : Nat) : ByteArray := bs ((List.range k).map (genF k i))
def rowsL (k : Nat) (there : List Bool) (n : Nat) : List ByteArray := (pickL there n).map (genRow k)
theorem someL_length (a : List ByteArray) (t : List Bool) (n : Nat) : (someL a t n).length = (pickL t n).length := by simp [someL]
theorem rowsL_length (k : Nat) (t : List Bool) (n : Nat) : (rowsL k t n).length = (pickL t n).length := by simp [rowsL]
theorem getD_lt {l : List Nat} {i : Nat} (h : i < l.length) : l.getD i 0 = l[i] := by rw [List.getD_eq_getElem?_getD, List.getElem?_eq_getElem h]; rfl
theorem someL_at (a : List ByteArray) (t : List Bool) (n i : Nat) (hi : i < (pickL t n).length) : sAt (someL a t n) i = sAt a ((pickL t n).getD i 0) := by
  rw [sAt_get (by rw [someL_length]; exact hi), getD_lt hi]; simp [someL]
theorem rowsL_take (k : Nat) (t : List Bool) (n : Nat) (h : k ≤ (pickL t n).length) : (rowsL k t n).take k = mat k k fun i j => genF k ((pickL t n).getD i 0) j := by
  refine List.ext_getElem (by rw [mat_length, List.length_take, rowsL_length]; omega) fun i h1 h2 => ?_
  rw [mat_length] at h2
  rw [List.getElem_take]
  simp only [rowsL, mat, List.getElem_map, List.getElem_range]
  rw [getD_lt (by omega)]; rfl
/-- The rows of the first k shards that are there can be undone. -/
theorem back_is (k : Nat) (t : List Bool) (n : Nat) (h1 : 1 ≤ k) (h2 : k ≤ 32) (hn : n ≤ 64) (h : k ≤ (pickL t n).length) :
    ∃ B : Mat, invR ((rowsL k t n).take k) = (mat k k B, 0) ∧ ∀ i j, i < k → j < k → sm (fun l => gm (B i l) (genF k ((pickL t n).getD l 0) j)) k = if i = j then 1 else 0 := by
  rw [rowsL_take k t n h]
  have hA : ∀ i j, i < k → augM (mat k k fun i j => genF k ((pickL t n).getD i 0) j) k i j = if j < k then genF k ((pickL t n).getD i 0) j else if j = k + i then 1 else 0 := fun i j hi => by
    unfold augM
    by_cases hj : j < k
    · rw [if_pos hj, if_pos hj, ent_mat _ _ _ _ _ hi hj]
    · rw [if_neg hj, if_neg hj]
  have hp : ∀ i, i < k → (pickL t n).getD i 0 < n := fun i hi => (filter_at _ n i (by unfold pickL at h; omega)).1
  have hfull : (esteps k (augM (mat k k fun i j => genF k ((pickL t n).getD i 0) j) k) k).2 = k := by
    refine gen_full k (by omega) (fun i => (pickL t n).getD i 0) (fun i j hij hj => filter_mono _ n i j hij (by unfold pickL at h; omega)) (fun i hi => by have := hp i hi; omega) _ (fun i j hi hj => ?_)
    rw [hA i j hi, if_pos hj]
  have hb := inverse_both k _ _ hA hfull
  refine ⟨fun i j => (esteps k (augM (mat k k fun i j => genF k ((pickL t n).getD i 0) j) k) k).1 i (k + j), ?_, hb.1⟩
  unfold invR
  rw [if_pos ⟨ok_mat k k _ h1 (by omega) h1 (by omega), by rw [mat_length]; unfold col; rw [col_mat k k _ 0 (by omega)]⟩]
  unfold invE
  rw [mat_length, hfull, if_neg (by omega)]
def backL (k : Nat) (t : List Bool) (n : Nat) : List ByteArray := (invR ((rowsL k t n).take k)).1
def outL (all : List ByteArray) (t : List Bool) (k : Nat) : List ByteArray := (List.range k).map fun i => sumL (sAt (backL k t all.length) i) ((someL all t all.length).take k)
def rebL (all : List ByteArray) (t : List Bool) (k : Nat) : List ByteArray := outL all t k ++ parL (outL all t k) (all.length - k)
def rebOk (all : List ByteArray) (t : List Bool) (k : Int) : Prop := 1 ≤ k ∧ k ≤ 32 ∧ k ≤ (all.length : Int) ∧ all.length ≤ 64 ∧ t.length = all.length
instance (a : List ByteArray) (t : List Bool) (k : Int) : Decidable (rebOk a t k) := by unfold rebOk; infer_instance
def rebR (all : List ByteArray) (t : List Bool) (k : Int) : List ByteArray × Int :=
  if rebOk all t k then (if alikeB (someL all t all.length) = false then ([], 1) else if (pickL t all.length).length < k.toNat then ([], 70) else (rebL all t k.toNat, 0)) else ([], 1)
theorem outL_length (a : List ByteArray) (t : List Bool) (k : Nat) : (outL a t k).length = k := by simp [outL]
theorem rebL_length (a : List ByteArray) (t : List Bool) (k : Nat) (h : k ≤ a.length) : (rebL a t k).length = a.length := by
  unfold rebL; rw [List.length_append, outL_length, parL_length]; omega
def fitOk (all : List ByteArray) (k : Int) : Prop := 1 ≤ k ∧ k ≤ 32 ∧ k ≤ (all.length : Int) ∧ all.length ≤ 64 ∧ alikeB all = true
instance (a : List ByteArray) (k : Int) : Decidable (fitOk a k) := by unfold fitOk; infer_instance
def fitB (all : List ByteArray) (k : Nat) : Bool := decide (parL (all.take k) (all.length - k) = all.drop k)
def fitR (all : List ByteArray) (k : Int) : Bool × Int := if fitOk all k then (fitB all k.toNat, 0) else (false, 1)
/-- A text cut. -/
def cutN (s : ByteArray) (k : Nat) : Nat := (s.size + k - 1) / k
def cutL (s : ByteArray) (k : Nat) : List ByteArray := (List.range k).map fun i => bs ((List.range (cutN s k)).map fun j => byteAt s (i * cutN s k + j))
def cutR (s : ByteArray) (k : Int) : List ByteArray × Int := if 1 ≤ k ∧ k ≤ 32 then (cutL s k.toNat, 0) else ([], 1)
theorem cutL_length (s : ByteArray) (k : Nat) : (cutL s k).length = k := by simp [cutL]
end Go.Proofs.Ythlnnclpfgokjaa
