/- Walks: field.texts, field.grid, field.Unit. -/
import Derived.Test.YthlnnclpfgokjaaMem3
import Derived.Test.YthlnnclpfgokjaaChk
import Derived.Test.YthlnnclpfgokjaaTake
namespace Go.Proofs.Ythlnnclpfgokjaa
open Go.RowKit Gf
theorem elemStr : Elem1 Try.prog 28 9 (.string ByteArray.empty) 16 := Elem1.of (by kernel_rfl) (by kernel_rfl) rfl
theorem elemByte : Elem1 Try.prog 44 5 (.int .u8 0) 1 := Elem1.of (by kernel_rfl) (by kernel_rfl) rfl
theorem runStr {w : World} (ad : Addr) (len cap : Nat) (l : List UInt8) (hl : l.length = len) (hc : ∀ j, j < len → w.cell? (ad.add j) = some (.int .u8 ((l.getD j 0).toNat : Int))) :
    (convert 44 9 (.slice (some ad) len cap)).run Try.prog w = .ok (.string (bs l)) w := run_str _ 5 _ (by kernel_rfl) (by kernel_rfl) (by kernel_rfl) ad len cap l hl hc

/-- The bytes of row i, from a column on. -/
def cut (G : Nat → UInt8) (i f m : Nat) : List UInt8 := (List.range m).map fun j => G (i * 128 + f + j)
def textsL (G : Nat → UInt8) (f m n : Nat) : List ByteArray := (List.range n).map fun i => bs (cut G i f m)
theorem textsL_succ (G : Nat → UInt8) (f m k : Nat) : textsL G f m (k + 1) = textsL G f m k ++ [bs (cut G k f m)] := by
  simp [textsL, List.range_succ]

set_option maxRecDepth 100000 in
theorem texts_any (w : World) (g N n : Nat) (c : Nat) (G : Nat → UInt8) (f m : Nat) (hG : w.rowIs g 72 N (u8V G)) (hN : n * 128 ≤ N) (hn : n ≤ 64) (hc : n ≤ c) (hf : f + m ≤ 128) (hf1 : f < 128) :
    Calls Try.prog 57 #[.slice (some ⟨g, 0, none⟩) n c, .int .i64 (f : Int), .int .i64 (m : Int)] w
      fun e w' => ∃ v, e = .returned v ∧ w'.ownsRow w.heap.size 9 1 v n (strV (textsL G f m n)) ∧ Below w.heap.size w w' := by
  have HG := Lib.hid hG
  clear hG
  go_enter Try.func57, Try.ntmps57
  go_wp2_with (at_make; refine make0_wp elemStr rfl _ _ rfl w.heap.size _ _ _ n rfl rfl rfl (by omega) (by omega) (Nat.le_refl _) ?_; intro v0 w0 hown0 hg0)
  have hb0 := below_grown (Below.refl _ _) hg0 (by intro _ h; cases h)
  have H0 := Lib.hid (And.intro hown0 hb0)
  clear hown0 hb0 hg0
  go_loopw [7, 8, 14] (fun v x i wr => ∃ k : Nat, k ≤ n ∧ i = .int .i64 k ∧ Hid (wr.ownsRow w.heap.size 9 1 v k (strV (textsL G f m k)) ∧ Below w.heap.size w wr)) (fun _ _ i _ => n - (intOf i).toNat)
  case atStart => exact ⟨0, by omega, rfl, H0⟩
  case round =>
    obtain ⟨k, hk, rfl, H⟩ := hrel
    by_cases hlt : k < n
    · have hcut : ∀ W, (Instr.sliceAt 72 (.pointer (some ⟨g, k * 128, none⟩)) (some (.int .i64 (f : Int))) (some (.int .i64 ((f : Int) + (m : Int)))) none).run Try.prog W = .ok (.slice (some ⟨g, k * 128 + f, none⟩) m (128 - f)) W := fun W => by
        obtain ⟨i, hi, _, hz1, _⟩ := elemByte.info
        have := run_cut_array (P := Try.prog) W (t := 72) (n := 128) (by kernel_rfl) hi hz1 ⟨g, k * 128, none⟩ .i64 .i64 (f : Int) ((f : Int) + (m : Int)) f (f + m) rfl (by omega) (by omega) hf hf1
        rw [Nat.add_sub_cancel_left] at this
        rw [this]
        congr 3
        unfold Addr.add; split <;> simp_all
      have hstr : (convert 44 9 (.slice (some ⟨g, k * 128 + f, none⟩) m (128 - f))).run Try.prog wr = .ok (.string (bs (cut G k f m))) wr := by
        refine runStr _ _ _ _ (by simp [cut]) fun j hj => ?_
        have := ((HG.out.of_block (H.out.2.block g HG.out.lt)).cell (i := k * 128 + f + j) (by omega))
        have ea : ({ block := g, off := k * 128 + f, spot := none } : Addr).add j = ⟨g, k * 128 + f + j, none⟩ := by unfold Addr.add; split <;> simp_all
        rw [ea, this]
        simp [u8V, cut, List.getD, hj]
      go_wp2_with (at_builtin; refine append1_new elemStr rfl _ _ rfl w.heap.size _ k _ rfl H.out.1 (.string (bs (cut G k f m))) rfl rfl (by omega) (by omega) H.out.2.size ?_; intro v' w' ho hg)
      have H' : Hid (w'.ownsRow w.heap.size 9 1 v' (k + 1) (strV (textsL G f m (k + 1))) ∧ Below w.heap.size w w') := Lib.hid ⟨by rw [textsL_succ]; simpa [strV] using ho, below_own H.out.2 H.out.1 hg⟩
      go_roundw
      case rel => exact ⟨k + 1, by omega, by go_num, H'⟩
      case measure => simp [intOf]; omega
    · obtain rfl : k = n := by omega
      go_wp2
      go_ret
      exact ⟨_, rfl, H.out.1, H.out.2⟩

theorem rowInfo : (Try.prog.info? 72).map (fun i => (i.zero, i.size, i.bytes)) = some (some (.agg (Array.replicate 128 (.int .u8 0))), 128, 128) := by kernel_rfl
/-- The grid that a matrix's rows make: columns from the row's length on are 0. -/
def gridG (ss : List ByteArray) (k : Nat) : Nat → UInt8 := fun x => if x / 128 < k ∧ x % 128 < (sAt ss (x / 128)).size then (sAt ss (x / 128)).data.toList.getD (x % 128) 0 else 0

theorem rows_made (w : World) (n : Nat) (hn : n ≤ 64) :
    (Instr.makeSlice 70 (.int .i64 (n : Int)) (.int .i64 (n : Int))).run Try.prog w = .ok (.slice (some ⟨w.heap.size, 0, none⟩) n n) (w.alloc (.cells (madeCells (Value.agg (Array.replicate 128 (.int .u8 0))).cells (n * 128)) 72)) := by
  obtain ⟨i, hi, h1, h2, h3⟩ := info_parts rowInfo
  have := run_make_rowN (P := Try.prog) 70 72 i _ (by kernel_rfl) hi h1 .i64 .i64 n n (Nat.le_refl _) (by rw [h3]; omega) (by omega) w
  rw [h2] at this
  exact this
theorem rows_new (w : World) (n : Nat) : (w.alloc (.cells (madeCells (Value.agg (Array.replicate 128 (.int .u8 0))).cells (n * 128)) 72)).rowIs w.heap.size 72 (n * 128) (u8V fun _ => 0) :=
  rowIs_madeN w _ (.int .u8 0) _ _ (by show 0 < (Array.replicate 128 (Value.int .u8 0)).size; rw [Array.size_replicate]; omega) (by
    intro j hj
    have : (Value.agg (Array.replicate 128 (.int .u8 0))).cells = Array.replicate 128 (.int .u8 0) := rfl
    rw [this] at hj ⊢
    rw [Array.size_replicate] at hj
    rw [Array.getElem?_replicate, if_pos hj])

theorem data_length (s : ByteArray) : s.data.toList.length = s.size := by rw [Array.length_toList]; rfl
theorem grid_step (ss : List ByteArray) (k : Nat) (hz : (sAt ss k).size ≤ 128) (l : List UInt8) (hl : l = (sAt ss k).data.toList) (i : Nat) :
    over (u8V (gridG ss k)) (k * 128) (u8s l) i = u8V (gridG ss (k + 1)) i := by
  have hll : l.length = (sAt ss k).size := by rw [hl]; exact data_length _
  simp only [over, u8s_length, hll]
  by_cases h : k * 128 ≤ i ∧ i < k * 128 + (sAt ss k).size
  · have e1 : i / 128 = k := by omega
    have e2 : i - k * 128 = i % 128 := by omega
    rw [if_pos h, u8s_get _ _ (by omega), e2, hl]
    simp only [u8V, gridG, e1]
    rw [if_pos ⟨by omega, by omega⟩]
  · rw [if_neg h]
    simp only [u8V, gridG]
    by_cases h1 : i / 128 < k ∧ i % 128 < (sAt ss (i / 128)).size
    · rw [if_pos h1, if_pos ⟨by omega, h1.2⟩]
    · rw [if_neg h1, if_neg]
      intro h2
      by_cases e : i / 128 = k
      · rw [e] at h2; omega
      · exact h1 ⟨by omega, h2.2⟩

set_option maxRecDepth 100000 in
theorem grid_any (w : World) (B : Nat) (A : Option Addr) (n c : Nat) (ss : List ByteArray) (h : Reads w B 1 A n (strV ss)) (hB : B ≤ w.heap.size) (hn : n ≤ 64) (hz : ∀ s ∈ ss, s.size ≤ 128) :
    Calls Try.prog 58 #[.slice A n c] w
      fun e w' => e = .returned (.slice (some ⟨w.heap.size, 0, none⟩) n n) ∧ w'.rowIs w.heap.size 72 (n * 128) (u8V (gridG ss n)) ∧ Below w.heap.size w w' := by
  have H := Lib.hid h
  have HZ := Lib.hid hz
  have hmk := fun W => rows_made W n hn
  clear h hz
  go_enter Try.func58, Try.ntmps58
  go_wp2
  clear hmk
  go_loopw [4, 5, 11] (fun _ _ i wr => ∃ k : Nat, k ≤ n ∧ i = .int .i64 k ∧ Hid (wr.rowIs w.heap.size 72 (n * 128) (u8V (gridG ss k)) ∧ Below w.heap.size w wr)) (fun _ _ i _ => n - (intOf i).toNat)
  case atStart =>
    refine ⟨0, by omega, rfl, Lib.hid ⟨(rows_new w n).congr fun i hi => ?_, (Below.refl _ _).alloc (Nat.le_refl _) _⟩⟩
    simp only [u8V, gridG]; rw [if_neg (by omega)]
  case round =>
    obtain ⟨k, hk, rfl, HR⟩ := hrel
    by_cases hlt : k < n
    · obtain ⟨ad, rfl, hb, hc⟩ := ((H.out.below (HR.out.2.mono hB)).str hlt)
      have hck := hc k hlt
      have hzk : (sAt ss k).size ≤ 128 := HZ.out _ (sAt_mem (by rw [H.out.len]; omega))
      clear hc
      have hall : ∀ W, (Instr.sliceAt 72 (.pointer (some ⟨w.heap.size, k * 128, none⟩)) none none none).run Try.prog W = .ok (.slice (some ⟨w.heap.size, k * 128, none⟩) 128 128) W := fun W => by
        obtain ⟨i, hi, _⟩ := elemByte.info
        exact run_all_array W (by kernel_rfl) hi _
      have hm : Nat.min (sAt ss k).size 128 = (sAt ss k).size := Nat.min_eq_left hzk
      have HF : Hid (k * 128 + Nat.min (sAt ss k).size 128 ≤ n * 128) := Lib.hid (by rw [hm]; omega)
      have HM := Lib.hid hm
      clear hm
      go_wp2_with (with_reducible refine copyStr_wp rfl _ _ 44 9 5 rfl (by kernel_rfl) (by kernel_rfl) HR.out.1 (k * 128) 128 128 (sAt ss k) rfl rfl HF.out ?_; intro w' hr hg)
      have H' : Hid (w'.rowIs w.heap.size 72 (n * 128) (u8V (gridG ss (k + 1))) ∧ Below w.heap.size w w') := Lib.hid ⟨hr.congr fun i _ => grid_step ss k hzk _ (by
        rw [List.take_of_length_le (by rw [data_length]; first | exact Nat.le_refl _ | (rw [HM.out]; exact Nat.le_refl _))]) i, below_grown HR.out.2 hg (by intro g h; injection h with h; omega)⟩
      go_roundw
      case rel => exact ⟨k + 1, by omega, by go_num, H'⟩
      case measure => simp [intOf]; omega
    · obtain rfl : k = n := by omega
      go_wp2
      go_ret
      exact ⟨rfl, HR.out.1, HR.out.2⟩
end Go.Proofs.Ythlnnclpfgokjaa
