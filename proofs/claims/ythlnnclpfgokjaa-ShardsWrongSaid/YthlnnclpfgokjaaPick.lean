/- Walk: picked, of the field's laws: places below n, none twice, rising. -/
import Derived.Test.YthlnnclpfgokjaaRefMade
namespace Go.Proofs.Ythlnnclpfgokjaa
open Go.RowKit Gf
set_option linter.unusedVariables false
theorem elemBool : Elem1 Try.prog 55 4 (.bool false) 1 := Elem1.of (by kernel_rfl) (by kernel_rfl) rfl
theorem elemInt : Elem1 Try.prog 45 3 (.int .i64 0) 8 := Elem1.of (by kernel_rfl) (by kernel_rfl) rfl
theorem bools_made (w : World) (n : Nat) (hn : n ≤ 70368744177664) :
    (Instr.makeSlice 55 (.int .i64 (n : Int)) (.int .i64 (n : Int))).run Try.prog w = .ok (.slice (some ⟨w.heap.size, 0, none⟩) n n) (w.alloc (.cells (madeCells #[.bool false] n) 4)) := by
  obtain ⟨i, hi, h1, h2, h3⟩ := elemBool.info
  have := run_make_rowN (P := Try.prog) 55 4 i _ (by kernel_rfl) hi h1 .i64 .i64 n n (Nat.le_refl _) (by rw [h3]; omega) (by omega) w
  rw [h2, Nat.mul_one] at this
  exact this
def natV (l : List Nat) : List Value := l.map fun i : Nat => .int .i64 (i : Int)
/-- Is i met among the first k? -/
def pkB (l : List UInt8) (n k i : Nat) : Bool := (l.take k).any fun b => b.toNat % n == i
def pkL (l : List UInt8) (n k : Nat) : List Nat := (List.range k).filter fun i => pkB l n l.length i
theorem pkB_succ (l : List UInt8) (n k i : Nat) (hk : k < l.length) : pkB l n (k + 1) i = (pkB l n k i || ((l.getD k 0).toNat % n == i)) := by
  unfold pkB
  rw [List.take_succ_eq_append_getElem hk, List.any_append]
  simp [List.getD, hk]
theorem pkL_succ (l : List UInt8) (n k : Nat) : pkL l n (k + 1) = pkL l n k ++ if pkB l n l.length k then [k] else [] := by
  unfold pkL
  rw [List.range_succ, List.filter_append]
  congr 1
  rw [List.filter_cons]; rfl
theorem pkL_lt (l : List UInt8) (n k x : Nat) (h : x ∈ pkL l n k) : x < k := by
  unfold pkL at h
  have := (List.mem_filter.1 h).1
  simpa using this
theorem pkL_length (l : List UInt8) (n k : Nat) : (pkL l n k).length ≤ k := by
  unfold pkL
  have := List.length_filter_le (fun i => pkB l n l.length i) (List.range k)
  simpa using this
theorem pkL_mono (l : List UInt8) (n k : Nat) (i j : Nat) (hij : i < j) (hj : j < (pkL l n k).length) : (pkL l n k).getD i 0 < (pkL l n k).getD j 0 := by
  have h : (pkL l n k).Pairwise (· < ·) := List.Pairwise.filter _ List.pairwise_lt_range
  have := List.pairwise_iff_getElem.1 h i j (by omega) hj hij
  rw [List.getD_eq_getElem?_getD, List.getD_eq_getElem?_getD, List.getElem?_eq_getElem (by omega), List.getElem?_eq_getElem hj]
  exact this
theorem pkL_at (l : List UInt8) (n k i : Nat) (hi : i < (pkL l n k).length) : (pkL l n k).getD i 0 < k := by
  refine pkL_lt l n k _ ?_
  rw [List.getD_eq_getElem?_getD, List.getElem?_eq_getElem hi]
  exact List.getElem_mem hi
theorem Reads.u8 {w : World} {B n : Nat} {A : Option Addr} {l : List UInt8} (h : Reads w B 1 A n (u8s l)) : l.length = n := by
  have := h.1; rw [u8s_length] at this; omega

set_option maxRecDepth 100000 in
theorem picked_any (w : World) (B : Nat) (A : Option Addr) (m c n : Nat) (l : List UInt8) (h : Reads w B 1 A m (u8s l)) (hB : B ≤ w.heap.size) (hm : m ≤ 9223372036854775807) (hn1 : 1 ≤ n) (hn : n ≤ 64) :
    Calls Try.prog 39 #[.slice A m c, .int .i64 (n : Int)] w
      fun e w' => ∃ v, e = .returned v ∧ w'.ownsRow w.heap.size 3 1 v (pkL l n n).length (natV (pkL l n n)) ∧ Below w.heap.size w w' := by
  have hl := h.u8
  have H := Lib.hid h
  have HL := Lib.hid hl
  clear h hl
  have hmk := fun W => bools_made W n (by omega)
  go_enter Try.func39, Try.ntmps39
  go_wp2
  clear hmk
  go_loopw [6] (fun i wr => ∃ k : Nat, k ≤ m ∧ i = .int .i64 k ∧ Hid (wr.rowIs w.heap.size 4 n (fun i => .bool (pkB l n k i)) ∧ Below w.heap.size w wr)) (fun i _ => m - (intOf i).toNat)
  case atStart => exact ⟨0, by omega, rfl, Lib.hid ⟨(World.rowIs_made w (.bool false) n 4).congr fun i hi => by simp [pkB], (Below.refl _ _).alloc (Nat.le_refl _) _⟩⟩
  case round =>
    obtain ⟨k, hk, rfl, HR⟩ := hrel
    by_cases hlt : k < m
    · obtain ⟨ad, rfl, hb, hc⟩ := reads_u8 (H.out.below (HR.out.2.mono hB)) (by omega)
      have hck := hc k hlt
      clear hc
      obtain ⟨b, hbe⟩ : ∃ b, b = l.getD k 0 := ⟨_, rfl⟩
      rw [← hbe] at hck
      have HBE := Lib.hid hbe
      clear hbe
      have hb256 : b.toNat < 256 := b.toNat_lt
      have hmod : b.toNat % n < n := Nat.mod_lt _ (by omega)
      obtain ⟨v1, hc1⟩ : ∃ v, wr.cell? ⟨w.heap.size, b.toNat % n, none⟩ = some v := ⟨_, HR.out.1.cell hmod⟩
      have hf1 : wr.frozen? ⟨w.heap.size, b.toNat % n, none⟩ = false := HR.out.1.frozen _
      go_wp2
      go_roundw
      case rel =>
        refine ⟨k + 1, by omega, by go_num, Lib.hid ⟨(HR.out.1.set (b.toNat % n) _).congr fun i hi => ?_, HR.out.2.setCell (Nat.le_refl _) _⟩⟩
        rw [pkB_succ _ _ _ _ (by rw [HL.out]; exact hlt), ← HBE.out]
        by_cases e : i = b.toNat % n
        · rw [if_pos e, e]; simp
        · rw [if_neg e, beq_eq_false_iff_ne.2 (fun h => e h.symm), Bool.or_false]
      case measure => simp [intOf]; omega
    · obtain rfl : k = m := by omega
      have HO : Hid (wr.rowIs w.heap.size 4 n (fun i => .bool (pkB l n l.length i)) ∧ Below w.heap.size w wr) := Lib.hid (by rw [HL.out]; exact HR.out)
      clear HR
      go_wp2
      obtain ⟨w1, rfl⟩ : ∃ w1 : World, w1 = wr := ⟨_, rfl⟩
      go_loopw [7, 8] (fun v i wr => ∃ j : Nat, j ≤ n ∧ i = .int .i64 j ∧ Hid (wr.rowIs w.heap.size 4 n (fun i => .bool (pkB l n l.length i)) ∧ wr.ownsRow w.heap.size 3 1 v (pkL l n j).length (natV (pkL l n j)) ∧ Below w.heap.size w wr)) (fun _ i _ => n - (intOf i).toNat)
      case atStart => exact ⟨0, by omega, rfl, Lib.hid ⟨HO.out.1, World.ownsRow_nil _ _ _ _, HO.out.2⟩⟩
      case round =>
        obtain ⟨j, hj, rfl, HJ⟩ := hrel
        by_cases hjl : j < n
        · have hlen := pkL_length l n j
          by_cases hb : pkB l n l.length j = true
          · have hc1 : wr.cell? ⟨w.heap.size, j, none⟩ = some (.bool true) := by rw [HJ.out.1.cell hjl, hb]
            have HB := Lib.hid hb
            clear hb
            have hj1 : (pkL l n j).length ≤ 4611686018427387904 := by omega
            have hj2 : ((pkL l n j).length + 1) * 8 ≤ 140737488355328 := by omega
            go_wp2_with (at_builtin; refine append1_new elemInt rfl _ _ rfl w.heap.size _ _ _ rfl HJ.out.2.1 _ rfl rfl hj1 hj2 HJ.out.2.2.size ?_; intro v' w' ho hg)
            have HJ' : Hid (w'.rowIs w.heap.size 4 n (fun i => .bool (pkB l n l.length i)) ∧ w'.ownsRow w.heap.size 3 1 v' (pkL l n (j + 1)).length (natV (pkL l n (j + 1))) ∧ Below w.heap.size w w') :=
              Lib.hid ⟨row_keep HJ.out.1 HJ.out.2.1 (by decide) hg, by rw [pkL_succ, HB.out, if_pos rfl]; simpa [natV] using ho, below_own HJ.out.2.2 HJ.out.2.1 hg⟩
            clear ho hg
            go_roundw
            case rel => exact ⟨j + 1, by omega, by go_num, HJ'⟩
            case measure => simp [intOf]; omega
          · rw [Bool.not_eq_true] at hb
            have hc1 : wr.cell? ⟨w.heap.size, j, none⟩ = some (.bool false) := by rw [HJ.out.1.cell hjl, hb]
            have e : pkL l n (j + 1) = pkL l n j := by rw [pkL_succ, hb, if_neg (by decide), List.append_nil]
            have HJ' := HJ
            rw [← e] at HJ'
            clear hb e
            go_wp2
            go_roundw
            case rel => exact ⟨j + 1, by omega, by go_num, HJ'⟩
            case measure => simp [intOf]; omega
        · obtain rfl : j = n := by omega
          go_wp2
          go_ret
          exact ⟨_, rfl, HJ.out.2.1, HJ.out.2.2⟩
end Go.Proofs.Ythlnnclpfgokjaa
