/- What AttrsNone makes in memory: a row of sets of attributes, written over one by one; the answers at the ends of the ranges. No conditions but those that each theorem tells. -/
import Derived.Test.YtpfccicahfncbaaDoorAttStrm
import Derived.Test.YtpfccicahfncbaaDoorAttRStr
import Derived.Test.YtpfccicahfncbaaDoorAttAwk
import Derived.Test.YtpfccicahfncbaaDoorModP
namespace Go.Proofs.YtpfccicahfncbaaDoor
open Go.RowKit Wir
set_option linter.unusedVariables false
def nnF : Att := ⟨1, 0, 0, 0, 0, ⟨#[]⟩, []⟩
def nnM : AttM := ⟨nnF, none, 0, 0⟩
/-- A row of 257 sets of attributes, the first k of them a file's. -/
def NnRow (W : World) (g k : Nat) : Prop := ∃ cs, Blk W g 27 cs ∧ cs.size = 1799 ∧ ∀ i j, i < k → j < 7 → cs[i * 7 + j]? = nnM.v[j]?
theorem NnRow.below {W W' : World} {g k : Nat} (h : NnRow W g k) (hb : Below W.heap.size W W') : NnRow W' g k := by
  obtain ⟨cs, h1, h2, h3⟩ := h
  exact ⟨cs, h1.below hb h1.lt, h2, h3⟩
theorem NnRow.start (w : World) (z : Array Value) (hz : z.size = 7) : NnRow (w.alloc (.cells (madeCells z 1799) 27)) w.heap.size 0 :=
  ⟨_, Blk.new _ _ _, size_madeCells _ _, fun i j hi => absurd hi (Nat.not_lt_zero _)⟩
theorem NnRow.cells {W : World} {g k : Nat} (h : NnRow W g k) (i : Nat) (hi : i < 257) : (∀ j, j < 7 → ∃ x, W.cell? ⟨g, i * 7 + j, none⟩ = some x) ∧ ∀ j, W.frozen? ⟨g, i * 7 + j, none⟩ = false := by
  obtain ⟨cs, h1, h2, h3⟩ := h
  refine ⟨fun j hj => ⟨cs[i * 7 + j]'(by omega), ?_⟩, fun j => h1.frozen _⟩
  rw [h1.cell]; exact Array.getElem?_eq_getElem _
theorem NnRow.step {W : World} {g k : Nat} (h : NnRow W g k) (hk : k < 257) {a0 a1 a2 a3 a4 a5 a6 : Value} (e : nnM.v = [a0, a1, a2, a3, a4, a5, a6]) :
    NnRow (((((((W.setCell ⟨g, k * 7, none⟩ a0).setCell ⟨g, k * 7 + 1, none⟩ a1).setCell ⟨g, k * 7 + 2, none⟩ a2).setCell ⟨g, k * 7 + 3, none⟩ a3).setCell ⟨g, k * 7 + 4, none⟩ a4).setCell ⟨g, k * 7 + 5, none⟩ a5).setCell ⟨g, k * 7 + 6, none⟩ a6) g (k + 1) := by
  obtain ⟨cs, h1, h2, h3⟩ := h
  refine ⟨_, (((((((h1.set_ (k * 7) a0).set_ (k * 7 + 1) a1).set_ (k * 7 + 2) a2).set_ (k * 7 + 3) a3).set_ (k * 7 + 4) a4).set_ (k * 7 + 5) a5).set_ (k * 7 + 6) a6), by simpa using h2, fun i j hi hj => ?_⟩
  simp only [Array.getElem?_setIfInBounds, Array.size_setIfInBounds, h2]
  rcases Nat.lt_or_ge i k with hl | hl
  · rw [if_neg (by omega), if_neg (by omega), if_neg (by omega), if_neg (by omega), if_neg (by omega), if_neg (by omega), if_neg (by omega)]
    exact h3 i j hl hj
  · obtain rfl : i = k := by omega
    rw [e]
    have : j = 0 ∨ j = 1 ∨ j = 2 ∨ j = 3 ∨ j = 4 ∨ j = 5 ∨ j = 6 := by omega
    rcases this with rfl | rfl | rfl | rfl | rfl | rfl | rfl
    · rw [if_neg (by omega), if_neg (by omega), if_neg (by omega), if_neg (by omega), if_neg (by omega), if_neg (by omega), if_pos (by omega), if_pos (by omega)]; rfl
    · rw [if_neg (by omega), if_neg (by omega), if_neg (by omega), if_neg (by omega), if_neg (by omega), if_pos (by omega), if_pos (by omega)]; rfl
    · rw [if_neg (by omega), if_neg (by omega), if_neg (by omega), if_neg (by omega), if_pos (by omega), if_pos (by omega)]; rfl
    · rw [if_neg (by omega), if_neg (by omega), if_neg (by omega), if_pos (by omega), if_pos (by omega)]; rfl
    · rw [if_neg (by omega), if_neg (by omega), if_pos (by omega), if_pos (by omega)]; rfl
    · rw [if_neg (by omega), if_pos (by omega), if_pos (by omega)]; rfl
    · rw [if_pos (by omega), if_pos (by omega)]; rfl
/-- What holds at the head of a round: the file's set, the row. -/
structure NnI (w W : World) (pf pg k : Nat) : Prop where
  file : Blk W pf 27 #[.int .u8 1, .int .u32 0, .int .u32 0, .int .u32 0, .int .i64 0, .string ⟨#[]⟩, .slice none 0 0]
  below : Below w.heap.size w W
  row : NnRow W pg k
  lt : pf < pg
  le : w.heap.size ≤ pg
theorem NnI.fileCells {w W : World} {pf pg k : Nat} (h : NnI w W pf pg k) : W.cell? ⟨pf, 0, none⟩ = some (.int .u8 1) ∧ W.cell? ⟨pf, 1, none⟩ = some (.int .u32 0) ∧ W.cell? ⟨pf, 2, none⟩ = some (.int .u32 0) ∧ W.cell? ⟨pf, 3, none⟩ = some (.int .u32 0) ∧ W.cell? ⟨pf, 4, none⟩ = some (.int .i64 0) ∧ W.cell? ⟨pf, 5, none⟩ = some (.string ⟨#[]⟩) ∧ W.cell? ⟨pf, 6, none⟩ = some (.slice none 0 0) :=
  ⟨h.file.cell 0, h.file.cell 1, h.file.cell 2, h.file.cell 3, h.file.cell 4, h.file.cell 5, h.file.cell 6⟩
theorem NnI.mono {w W W' : World} {pf pg k : Nat} (h : NnI w W pf pg k) (hb : Below W.heap.size W W') : NnI w W' pf pg k := ⟨h.file.below hb h.file.lt, h.below.trans (hb.mono h.below.size), h.row.below hb, h.lt, h.le⟩
theorem NnI.drew {w W : World} {pf pg k : Nat} (h : NnI w W pf pg k) : NnI w W.drew pf pg k := h.mono (Below.refl _ _).drew
theorem NnI.step {w W : World} {pf pg k : Nat} (h : NnI w W pf pg k) (hk : k < 257) :
    NnI w (((((((W.setCell ⟨pg, k * 7, none⟩ (.int .u8 1)).setCell ⟨pg, k * 7 + 1, none⟩ (.int .u32 0)).setCell ⟨pg, k * 7 + 2, none⟩ (.int .u32 0)).setCell ⟨pg, k * 7 + 3, none⟩ (.int .u32 0)).setCell ⟨pg, k * 7 + 4, none⟩ (.int .i64 0)).setCell ⟨pg, k * 7 + 5, none⟩ (.string ⟨#[]⟩)).setCell ⟨pg, k * 7 + 6, none⟩ (.slice none 0 0)) pf pg (k + 1) := by
  have hne : pf ≠ pg := Nat.ne_of_lt h.lt
  refine ⟨?_, ?_, h.row.step hk rfl, h.lt, h.le⟩
  · exact ((((((h.file.far (p := ⟨pg, _, none⟩) hne _).far (p := ⟨pg, _, none⟩) hne _).far (p := ⟨pg, _, none⟩) hne _).far (p := ⟨pg, _, none⟩) hne _).far (p := ⟨pg, _, none⟩) hne _).far (p := ⟨pg, _, none⟩) hne _).far (p := ⟨pg, _, none⟩) hne _
  · exact ((((((h.below.setCell (p := ⟨pg, _, none⟩) h.le _).setCell (p := ⟨pg, _, none⟩) h.le _).setCell (p := ⟨pg, _, none⟩) h.le _).setCell (p := ⟨pg, _, none⟩) h.le _).setCell (p := ⟨pg, _, none⟩) h.le _).setCell (p := ⟨pg, _, none⟩) h.le _).setCell (p := ⟨pg, _, none⟩) h.le _
theorem nnV_get (n k : Nat) (hk : k < n * 7) : (attsV (List.replicate n nnM))[k]? = nnM.v[k % 7]? := by
  have hl : k / 7 < (List.replicate n nnM).length := by rw [List.length_replicate]; omega
  have := attsV_get (List.replicate n nnM) (k / 7) (k % 7) hl (Nat.mod_lt _ (by decide))
  rw [show k / 7 * 7 + k % 7 = k by omega] at this
  rw [this, List.getElem_replicate]
theorem NnRow.own {W : World} {g base : Nat} (h : NnRow W g 257) (hb : base ≤ g) : W.ownsRow base 27 7 (.slice (some ⟨g, 0, none⟩) 257 257) 257 (attsV (List.replicate 257 nnM)) := by
  obtain ⟨cs, h1, h2, h3⟩ := h
  refine ⟨by rw [attsV_length, List.length_replicate], .inr ⟨g, 257, cs, rfl, hb, h1, Nat.le_refl _, by unfold maxLen; omega, h2, ?_⟩⟩
  rw [List.take_of_length_le (by rw [Array.length_toList, h2]; omega)]
  apply List.ext_getElem?
  intro x
  rcases Nat.lt_or_ge x 1799 with hx | hx
  · rw [nnV_get 257 x (by omega), Array.getElem?_toList]
    have := h3 (x / 7) (x % 7) (by omega) (by omega)
    rw [show x / 7 * 7 + x % 7 = x by omega] at this
    exact this
  · rw [List.getElem?_eq_none (by rw [Array.length_toList, h2]; exact hx), List.getElem?_eq_none (by rw [attsV_length, List.length_replicate]; exact hx)]
theorem nn_chk : chkA nnF = 0 := by
  refine chkA_ok ?_ ?_ rfl
  · decide +kernel
  · decide +kernel
theorem strF_all : ∀ (n : Nat) (s : ByteArray), (strF s (List.replicate n nnF)).2 = 0
  | 0, s => rfl
  | n + 1, s => by
    rw [List.replicate_succ, strF, if_pos nn_chk]
    exact strF_all n _
theorem str_257 : (strR ((List.replicate 257 nnM).map (·.a))).2 = 0 := by
  rw [List.map_replicate, strR, if_neg (by rw [List.length_replicate]; omega)]
  exact strF_all _ _
theorem str_258 : (strR ((List.replicate 257 nnM ++ [nnM]).map (·.a))).2 = 1 := by
  rw [strR, if_pos (by rw [List.length_map, List.length_append, List.length_replicate]; right; show 257 < 257 + 1; omega)]
theorem str_0 : (strR (([] : List AttM).map (·.a))).2 = 1 := by
  rw [strR, if_pos (by left; show 0 < 1; omega)]
theorem rs_no1 : (rsR ⟨#[]⟩).2 = 4 := by decide +kernel
theorem rs_no2 : (rsR ⟨#[0]⟩).2 = 4 := by decide +kernel
def zA1 : Att := ⟨0, 0, 0, 0, 0, ⟨#[]⟩, []⟩
def zA2 : Att := ⟨1, 4096, 0, 0, 0, ⟨#[]⟩, []⟩
def zA3 : Att := ⟨1, 0, 0, 0, 1099511627776, ⟨#[]⟩, []⟩
def zA4 : Att := ⟨1, 0, 0, 0, 1099511627777, ⟨#[]⟩, []⟩
def zA5 : Att := ⟨3, 0, 0, 0, 0, ⟨#[0, 0, 0]⟩, []⟩
theorem z_chk1 : chkA zA1 = 1 := chkA_bad1 (by decide +kernel)
theorem z_chk2 : chkA zA2 = 1 := chkA_bad1 (by decide +kernel)
theorem z_chk3 : chkA zA3 = 0 := chkA_ok (by decide +kernel) (by decide +kernel) rfl
theorem z_chk4 : chkA zA4 = 1 := chkA_bad1 (by decide +kernel)
theorem z_chk5 : chkA zA5 = 1 := chkA_bad2 (by decide +kernel)
theorem md_1 : mdR 2 1023 = (⟨#[100, 114, 119, 120, 114, 119, 120, 114, 119, 116]⟩, 0) := by
  rw [mdR, if_pos (by decide)]
  rfl
theorem md_2 : mdR 4 0 = (ByteArray.empty, 1) := by rw [mdR, if_neg (by decide)]
end Go.Proofs.YtpfccicahfncbaaDoor
