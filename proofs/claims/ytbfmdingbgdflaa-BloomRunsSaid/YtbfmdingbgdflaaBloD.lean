/- Walks: the filter's sizes, New, Ones; made, of the filters' laws. -/
import Derived.Test.YtbfmdingbgdflaaBloC
import Derived.Test.YtbfmdingbgdflaaId
namespace Go.Proofs.Ytbfmdingbgdflaa
open Go.RowKit Blo
set_option linter.unusedVariables false
/-- May a filter have that size? -/
def szB (n h : Int) : Bool := decide (64 ≤ n ∧ n ≤ 16777216 ∧ 1 ≤ h ∧ h ≤ 8) && (n.toNat &&& (n.toNat - 1)) == 0
theorem szB_pow (n m H : Nat) (hn : n = 2 ^ m) (h1 : 64 ≤ n) (h2 : n ≤ 16777216) (h3 : 1 ≤ H) (h4 : H ≤ 8) : szB (n : Int) (H : Int) = true := by
  unfold szB
  rw [Bool.and_eq_true, decide_eq_true_eq, beq_iff_eq, Int.toNat_natCast]
  refine ⟨by omega, ?_⟩
  rw [hn, Nat.and_two_pow_sub_one_eq_mod, Nat.mod_self]
theorem sized_any (n h : Int) (w : World) (h3 : -9223372036854775808 ≤ h) (h4 : h ≤ 9223372036854775807) :
    Calls Try.prog 67 #[.int .i64 n, .int .i64 h] w fun e w' => e = .returned (.bool (szB n h)) ∧ w = w' := by
  by_cases a1 : n < 64
  · have X : Hid (szB n h = false) := Lib.hid (by unfold szB; rw [Bool.and_eq_false_iff, decide_eq_false_iff_not]; left; omega)
    go_enter Try.func67, Try.ntmps67
    go_wp2
    go_ret
    exact ⟨by rw [X.out]; rfl, rfl⟩
  by_cases a2 : 16777216 < n
  · have X : Hid (szB n h = false) := Lib.hid (by unfold szB; rw [Bool.and_eq_false_iff, decide_eq_false_iff_not]; left; omega)
    go_enter Try.func67, Try.ntmps67
    go_wp2
    go_ret
    exact ⟨by rw [X.out]; rfl, rfl⟩
  obtain ⟨N, rfl⟩ : ∃ N : Nat, n = N := ⟨n.toNat, by omega⟩
  have e : bits .and .i64 (N : Int) ((N : Int) - 1) = ((N &&& (N - 1) : Nat) : Int) := by
    have := i64_and_nat N (N - 1) (by omega) (by omega)
    rw [show ((N - 1 : Nat) : Int) = (N : Int) - 1 from by omega] at this
    exact this
  by_cases a3 : N &&& (N - 1) = 0
  · have e2 : (bits .and .i64 (N : Int) ((N : Int) - 1) == 0) = true := by rw [e, a3]; rfl
    by_cases a4 : h < 1
    · have X : Hid (szB N h = false) := Lib.hid (by unfold szB; rw [Bool.and_eq_false_iff, decide_eq_false_iff_not]; left; omega)
      clear e a3
      go_enter Try.func67, Try.ntmps67
      go_wp2
      go_ret
      exact ⟨by rw [X.out]; rfl, rfl⟩
    by_cases a5 : 8 < h
    · have X : Hid (szB N h = false) := Lib.hid (by unfold szB; rw [Bool.and_eq_false_iff, decide_eq_false_iff_not]; left; omega)
      have hd : decide (h ≤ 8) = false := by rw [decide_eq_false_iff_not]; omega
      clear e a3
      go_enter Try.func67, Try.ntmps67
      go_wp2
      go_ret
      exact ⟨by rw [X.out]; rfl, rfl⟩
    have X : Hid (szB N h = true) := Lib.hid (by unfold szB; rw [Bool.and_eq_true, decide_eq_true_eq, beq_iff_eq]; exact ⟨by omega, a3⟩)
    have hd : decide (h ≤ 8) = true := by rw [decide_eq_true_eq]; omega
    clear e a3
    go_enter Try.func67, Try.ntmps67
    go_wp2
    go_ret
    exact ⟨by rw [X.out]; rfl, rfl⟩
  · have e2 : (bits .and .i64 (N : Int) ((N : Int) - 1) == 0) = false := by rw [e, beq_eq_false_iff_ne]; omega
    have X : Hid (szB N h = false) := Lib.hid (by unfold szB; rw [Bool.and_eq_false_iff]; right; rw [beq_eq_false_iff_ne, Int.toNat_natCast]; exact a3)
    clear e a3
    go_enter Try.func67, Try.ntmps67
    go_wp2
    go_ret
    exact ⟨by rw [X.out]; rfl, rfl⟩
theorem new_no (n h : Int) (w : World) (h3 : -9223372036854775808 ≤ h) (h4 : h ≤ 9223372036854775807) (hz : szB n h = false) :
    Calls Try.prog 29 #[.int .i64 n, .int .i64 h] w fun e w' => e = .returned (.tuple #[.pointer none, .int .i64 1]) ∧ w = w' := by
  have Z := Lib.hid hz
  clear hz
  go_enter Try.func29, Try.ntmps29
  go_wp2_with fail
  refine (sized_any n h _ h3 h4).mono ?_; rintro e w' ⟨rfl, rfl⟩
  rw [Z.out]
  go_wp2
  go_ret2
  exact ⟨rfl, rfl⟩
set_option maxRecDepth 100000 in
theorem new_any (n H : Nat) (w : World) (hn : 8 * n ≤ 16777216) (hH : H ≤ 8) (hz : szB ((8 * n : Nat) : Int) (H : Int) = true) :
    Calls Try.prog 29 #[.int .i64 ((8 * n : Nat) : Int), .int .i64 (H : Int)] w fun e w' => e = .returned (.tuple #[.pointer (some ⟨w.heap.size + 1, 0, none⟩), .int .i64 0]) ∧
      Flt w' (w.heap.size + 1) w.heap.size n n H (fun _ => 0) ∧ Below w.heap.size w w' := by
  have Z := Lib.hid hz
  clear hz
  have hmk := fun W => bytes_made W n (by omega)
  obtain ⟨N, hN⟩ : ∃ N, 8 * n = N := ⟨_, rfl⟩
  have hq : (N : Int) / 8 = (n : Int) := by omega
  rw [hN] at Z ⊢
  go_enter Try.func29, Try.ntmps29
  go_wp2_with fail
  refine (sized_any _ _ _ (by omega) (by omega)).mono ?_; rintro e w' ⟨rfl, rfl⟩
  rw [Z.out]
  go_wp2
  go_ret2
  refine ⟨rfl, ⟨?_, ?_⟩, ((Below.refl _ _).alloc (Nat.le_refl _) _).alloc (by simp) _⟩
  · have := Blk.new (w.alloc (.cells (madeCells #[.int .u8 0] n) 5)) 86 #[.slice (some ⟨w.heap.size, 0, none⟩) n n, .int .i64 (H : Int)]
    rw [show (w.alloc (.cells (madeCells #[.int .u8 0] n) 5)).heap.size = w.heap.size + 1 from by simp] at this
    exact this
  · exact bufIs.of_row (((World.rowIs_made w (.int .u8 0) n 5).alloc _).congr fun i _ => rfl)
set_option maxRecDepth 100000 in
theorem made_any (w : World) (B : Nat) (A : Option Addr) (cnt c n H m : Nat) (l : List ByteArray) (h : Reads w B 1 A cnt (strV l)) (hB : B ≤ w.heap.size) (hc : cnt ≤ 9223372036854775807) (hz : ∀ s ∈ l, s.size ≤ 9223372036854775807) (hn : 8 * n = 2 ^ m) (h6 : 6 ≤ m) (hm : m ≤ 24) (h1 : 1 ≤ H) (hH : H ≤ 8) :
    Calls Try.prog 14 #[.int .i64 ((8 * n : Nat) : Int), .int .i64 (H : Int), .slice A cnt c] w fun e w' => e = .returned (.pointer (some ⟨w.heap.size + 1, 0, none⟩)) ∧
      Flt w' (w.heap.size + 1) w.heap.size n n H (addL n H (fun _ => 0) (l.map byteAt)) ∧ Below w.heap.size w w' := by
  have h64 : 64 ≤ 8 * n := by
    have : 2 ^ 6 ≤ 2 ^ m := Nat.pow_le_pow_right (by omega) h6
    rw [hn]; exact this
  have h24 : 8 * n ≤ 16777216 := by rw [hn]; exact Nat.pow_le_pow_right (by omega) hm
  have Z := szB_pow (8 * n) m H hn h64 h24 h1 hH
  have HN := Lib.hid hn
  have hl := h.len
  have HL := Lib.hid hl
  have X := Lib.hid h
  have HZ := Lib.hid hz
  have ZZ := Lib.hid Z
  clear hn h hz hl Z
  obtain ⟨N, hN⟩ : ∃ N, 8 * n = N := ⟨_, rfl⟩
  have HNN := Lib.hid hN
  rw [hN]
  clear hN
  go_enter Try.func14, Try.ntmps14
  go_wp2_with fail
  rw [← HNN.out]
  refine (new_any n H _ h24 hH ZZ.out).mono ?_
  rintro e w2 ⟨rfl, hf, hb⟩
  have H2 := Lib.hid (And.intro hf hb)
  have s2 := hb.size
  clear hf hb
  go_wp2
  go_loopw [6, 9] (fun _ i wr => ∃ k : Nat, k ≤ cnt ∧ i = .int .i64 k ∧ Hid (Flt wr (w.heap.size + 1) w.heap.size n n H (addL n H (fun _ => 0) ((l.take k).map byteAt)) ∧ Below w.heap.size w wr)) (fun _ i _ => cnt - (intOf i).toNat)
  case atStart => exact ⟨0, by omega, rfl, Lib.hid ⟨H2.out.1, H2.out.2⟩⟩
  case round =>
    obtain ⟨k, hk, rfl, HR⟩ := hrel
    by_cases hlt : k < cnt
    · obtain ⟨ad, rfl, hbk, hck⟩ := (X.out.below (HR.out.2.mono hB)).str hlt
      have hck1 := hck k hlt
      have hsz : (sAt l k).size ≤ 9223372036854775807 := HZ.out _ (sAt_mem (by rw [HL.out]; exact hlt))
      have TK : Hid ((l.take (k + 1)).map byteAt = (l.take k).map byteAt ++ [byteAt (sAt l k)]) := Lib.hid (by
        rw [List.take_succ_eq_append_getElem (by rw [HL.out]; exact hlt), List.map_append, sAt_get (by rw [HL.out]; exact hlt)]; rfl)
      clear hck
      generalize sAt l k = s at *
      go_wp2_with fail
      refine (id_any s _ hsz).mono ?_
      rintro e w3 ⟨rfl, hb3⟩
      have H3 := Lib.hid (And.intro (HR.out.1.below hb3) (HR.out.2.trans (hb3.mono HR.out.2.size)))
      clear hb3
      go_wp2_with fail
      refine (add_any w3 _ _ n n H m _ _ H3.out.1 HN.out hm hH).mono ?_
      rintro e w4 ⟨rfl, hf4, hg4⟩
      have H4 : Hid (Flt w4 (w.heap.size + 1) w.heap.size n n H (addL n H (fun _ => 0) ((l.take (k + 1)).map byteAt)) ∧ Below w.heap.size w w4) := Lib.hid ⟨by rw [TK.out, addL_snoc]; exact hf4, below_grown H3.out.2 hg4 (by intro g' e; injection e with e; omega)⟩
      clear hf4 hg4
      go_wp2
      go_roundw
      case rel => exact ⟨k + 1, by omega, by go_num, H4⟩
      case measure => simp [intOf]; omega
    · obtain rfl : k = cnt := by omega
      have HF : Hid (Flt wr (w.heap.size + 1) w.heap.size n n H (addL n H (fun _ => 0) (l.map byteAt)) ∧ Below w.heap.size w wr) := Lib.hid (by
        have := HR.out
        rw [← HL.out, List.take_length] at this
        exact this)
      clear HR
      go_wp2
      go_ret
      exact ⟨rfl, HF.out.1, HF.out.2⟩
end Go.Proofs.Ytbfmdingbgdflaa
