/- Walks: the reference's put and times: limbs of 32 bits. Conditions: the number fits five limbs. -/
import Derived.Test.YtbfmdingbgdflaaLimb
import Derived.BigQuiet
namespace Go.Proofs.Ytbfmdingbgdflaa
open Go.RowKit
set_option linter.unusedVariables false
theorem elemU64 : Elem1 Try.prog 113 37 (.int .u64 0) 8 := Elem1.of (by kernel_rfl) (by kernel_rfl) rfl
theorem u64_made (w : World) (n : Nat) (hn : n ≤ 1048576) :
    (Instr.makeSlice 113 (.int .i64 (n : Int)) (.int .i64 (n : Int))).run Try.prog w = .ok (.slice (some ⟨w.heap.size, 0, none⟩) n n) (w.alloc (.cells (madeCells #[.int .u64 0] n) 37)) := by
  obtain ⟨i, hi, h1, h2, h3⟩ := elemU64.info
  have := run_make_rowN (P := Try.prog) 113 37 i _ (by kernel_rfl) hi h1 .i64 .i64 n n (Nat.le_refl _) (by rw [h3]; omega) (by omega) w
  rw [h2, Nat.mul_one] at this
  exact this
/-- Five limbs in memory, with their number. -/
structure Lm (w : World) (g : Nat) (f : Nat → Nat) : Prop where
  row : w.rowIs g 37 5 (lmV f)
  low : ∀ i, i < 5 → f i < 4294967296
theorem Lm.of_block {w w' : World} {g : Nat} {f : Nat → Nat} (h : Lm w g f) (e : w'.heap[g]? = w.heap[g]?) : Lm w' g f := ⟨h.row.of_block e, h.low⟩
theorem Lm.below {w w' : World} {g : Nat} {f : Nat → Nat} (h : Lm w g f) (hb : Below w.heap.size w w') : Lm w' g f := h.of_block (hb.block _ h.row.lt)
theorem last_zero {c v m T : Nat} (h : v + m * c = T) (hT : T < c) : m = 0 ∧ v = T := by
  rcases Nat.eq_zero_or_pos m with rfl | hp
  · exact ⟨rfl, by rw [← h, Nat.zero_mul, Nat.add_zero]⟩
  · have := Nat.le_mul_of_pos_left c hp
    omega
set_option maxRecDepth 100000 in
set_option maxHeartbeats 0 in
theorem put_limb (g : Nat) (f : Nat → Nat) (a n : Nat) (w : World) (h : Lm w g f) (hn : n < 18446744073709551616) (ha : a ≤ 5) (hv : vl f + n * pw a < pw 5) :
    Calls Try.prog 104 #[.slice (some ⟨g, 0, none⟩) 5 5, .int .i64 (a : Int), .int .u64 (n : Int)] w fun e w' =>
      e = .returned (.tuple #[]) ∧ (∃ f', Lm w' g f' ∧ vl f' = vl f + n * pw a) ∧ w.grownBy w' (some g) := by
  obtain ⟨T, hT⟩ : ∃ T, vl f + n * pw a = T := ⟨_, rfl⟩
  have H0 : Hid (Lm w g f ∧ vl f + n * pw a = T ∧ w.grownBy w (some g)) := Lib.hid ⟨h, hT, World.grownBy.refl _ _⟩
  rw [hT] at hv
  have HT := Lib.hid (And.intro hT hv)
  clear h hv hT
  go_enter Try.func104, Try.ntmps104
  go_wp2
  go_loopw [1, 2] (fun av nv wr => ∃ (k m : Nat) (f1 : Nat → Nat), k ≤ 5 ∧ m < 18446744073709551616 ∧ av = .int .i64 (k : Int) ∧ nv = .int .u64 (m : Int) ∧ Hid (Lm wr g f1 ∧ vl f1 + m * pw k = T ∧ w.grownBy wr (some g))) (fun av _ _ => 5 - (intOf av).toNat)
  case atStart => exact ⟨a, n, f, ha, hn, rfl, rfl, H0⟩
  case round =>
    obtain ⟨k, m, f1, hk, hm, rfl, rfl, HR⟩ := hrel
    by_cases hlt : k < 5
    · have hki : (k : Int) < 5 := by omega
      by_cases hm0 : 0 < m
      · have hmi : (0 : Int) < (m : Int) := by omega
        obtain ⟨x, hx⟩ : ∃ x, f1 k = x := ⟨_, rfl⟩
        have hxl : x < 4294967296 := by rw [← hx]; exact HR.out.1.low k hlt
        obtain ⟨r, hr⟩ : ∃ r, m % 4294967296 = r := ⟨_, rfl⟩
        obtain ⟨y, hy⟩ : ∃ y, x + r = y := ⟨_, rfl⟩
        obtain ⟨z, hz⟩ : ∃ z, y % 4294967296 = z := ⟨_, rfl⟩
        obtain ⟨q1, hq1⟩ : ∃ q1, m / 4294967296 = q1 := ⟨_, rfl⟩
        obtain ⟨q2, hq2⟩ : ∃ q2, y / 4294967296 = q2 := ⟨_, rfl⟩
        obtain ⟨q, hq⟩ : ∃ q, q1 + q2 = q := ⟨_, rfl⟩
        have c0 : wr.cell? ⟨g, k, none⟩ = some (.int .u64 (x : Int)) := by rw [HR.out.1.row.cell hlt, lmV, hx]
        have f0 : wr.frozen? ⟨g, k, none⟩ = false := HR.out.1.row.frozen _
        have E1 : (m : Int) % 4294967296 = (r : Int) := by omega
        have E2 : (x : Int) + (r : Int) = (y : Int) := by omega
        have E3 : (y : Int) % 4294967296 = (z : Int) := by omega
        have E4 : (m : Int) / 4294967296 = (q1 : Int) := by omega
        have E5 : (y : Int) / 4294967296 = (q2 : Int) := by omega
        have E6 : (q1 : Int) + (q2 : Int) = (q : Int) := by omega
        have W1 : (y : Int) % 18446744073709551616 = (y : Int) := by omega
        have W2 : (q : Int) % 18446744073709551616 = (q : Int) := by omega
        have V1 : IntKind.u64.wrap (y : Int) = (y : Int) := by rw [IntKind.wrap_u64]; omega
        have V2 : IntKind.u64.wrap (q : Int) = (q : Int) := by rw [IntKind.wrap_u64]; omega
        have hzl : z < 4294967296 := by omega
        have hql : q < 18446744073709551616 := by omega
        have ST : Hid (vl (fun i => if i = k then z else f1 i) + q * pw (k + 1) = vl f1 + m * pw k) := Lib.hid (by rw [← hq]; exact put_step f1 k m x y z r q1 q2 hlt hx (by omega) hy.symm (by omega))
        clear hr hy hz hq1 hq2 hx hq
        go_wp2
        go_roundw
        case rel =>
          refine ⟨k + 1, q, fun i => if i = k then z else f1 i, by omega, hql, by go_num, by first | rfl | (congr 1), Lib.hid ⟨⟨((HR.out.1.row.set k _).set k _).congr fun i hi => ?_, fun i hi => ?_⟩, ?_, only_setCell (only_setCell HR.out.2.2 (.inl rfl) _) (.inl rfl) _⟩⟩
          · by_cases e : i = k
            · simp [lmV, e]
            · simp [lmV, e]
          · show (if i = k then z else f1 i) < _
            by_cases e : i = k
            · rw [if_pos e]; exact hzl
            · rw [if_neg e]; exact HR.out.1.low i hi
          · rw [ST.out]; exact HR.out.2.1
        case measure => simp [intOf]; omega
      · obtain rfl : m = 0 := by omega
        rw [show ((0 : Nat) : Int) = 0 from rfl]
        go_wp2
        go_end0
        refine ⟨rfl, ⟨f1, HR.out.1, ?_⟩, HR.out.2.2⟩
        have := HR.out.2.1
        rw [Nat.zero_mul, Nat.add_zero] at this
        rw [this, HT.out.1]
    · obtain rfl : k = 5 := by omega
      obtain ⟨hm0, hv0⟩ := last_zero HR.out.2.1 HT.out.2
      subst hm0
      have EV := Lib.hid hv0
      clear hv0
      rw [show ((5 : Nat) : Int) = 5 from rfl]
      go_wp2
      go_end0
      exact ⟨rfl, ⟨f1, HR.out.1, by rw [EV.out, HT.out.1]⟩, HR.out.2.2⟩
theorem fit1 {v a b c d e : Nat} (h : v = a) (s : a + b + c = d) (hd : d < e) : v + b < e := by omega
theorem fit2 {v a b c d e : Nat} (h : v = a + b) (s : a + b + c = d) (hd : d < e) : v + c < e := by omega
theorem vl_zero : vl (fun _ => 0) = 0 := rfl
set_option maxRecDepth 100000 in
set_option maxHeartbeats 0 in
theorem times_limb (g : Nat) (l : Nat → Nat) (x : Nat) (w : World) (h : Lm w g l) (hx : x < 274877906944) (hv : vl l * x < pw 5) :
    Calls Try.prog 101 #[.slice (some ⟨g, 0, none⟩) 5 5, .int .u64 (x : Int)] w fun e w' =>
      e = .returned (.slice (some ⟨w.heap.size, 0, none⟩) 5 5) ∧ (∃ f', Lm w' w.heap.size f' ∧ vl f' = vl l * x) ∧ Below w.heap.size w w' := by
  have H := Lib.hid h
  obtain ⟨lo, hlo⟩ : ∃ lo, x % 4294967296 = lo := ⟨_, rfl⟩
  obtain ⟨hi, hhi⟩ : ∃ hi, x / 4294967296 = hi := ⟨_, rfl⟩
  have E1 : (x : Int) % 4294967296 = (lo : Int) := by omega
  have E2 : (x : Int) / 4294967296 = (hi : Int) := by omega
  have HX : Hid (x = hi * 4294967296 + lo) := Lib.hid (by omega)
  have hlo2 : lo < 4294967296 := by omega
  have hhi2 : hi < 64 := by omega
  have HV := Lib.hid hv
  have mk := fun W => u64_made W 5 (by omega)
  have mk5 : ∀ W, (Instr.makeSlice 113 (.int .i64 5) (.int .i64 5)).run Try.prog W = .ok (.slice (some ⟨W.heap.size, 0, none⟩) 5 5) (W.alloc (.cells (madeCells #[.int .u64 0] 5) 37)) := mk
  clear mk h hv hlo hhi
  go_enter Try.func101, Try.ntmps101
  go_wp2
  have M1 : Hid (Lm (w.alloc (.cells (madeCells #[.int .u64 0] 5) 37)) w.heap.size (fun _ => 0) ∧ Below w.heap.size w (w.alloc (.cells (madeCells #[.int .u64 0] 5) 37))) := Lib.hid ⟨⟨World.rowIs_made w (.int .u64 0) 5 37, fun _ _ => by omega⟩, (Below.refl _ _).alloc (Nat.le_refl _) _⟩
  generalize w.alloc (.cells (madeCells #[.int .u64 0] 5) 37) = w1 at M1 ⊢
  obtain ⟨N, hN⟩ : ∃ N, w.heap.size = N := ⟨_, rfl⟩
  have hgN : g < N := by rw [← hN]; exact H.out.row.lt
  rw [hN] at M1
  have HN := Lib.hid hN
  try rw [hN]
  clear hN
  simp only [E1]
  go_loopw [8] (fun i wr => ∃ (k : Nat) (f : Nat → Nat), k ≤ 5 ∧ i = .int .i64 (k : Int) ∧ Hid (Lm wr N f ∧ vl f = pl l k * x ∧ Below N w wr ∧ Lm wr g l)) (fun i _ => 5 - (intOf i).toNat)
  case atStart => exact ⟨0, fun _ => 0, by omega, rfl, Lib.hid ⟨M1.out.1, by rw [vl_zero, pl, Nat.zero_mul], M1.out.2, H.out.of_block (M1.out.2.block _ hgN)⟩⟩
  case round =>
    obtain ⟨k, f, hk, rfl, HR⟩ := hrel
    by_cases hlt : k < 5
    · obtain ⟨y, hy⟩ : ∃ y, l k = y := ⟨_, rfl⟩
      have hyl : y < 4294967296 := by rw [← hy]; exact H.out.low k hlt
      have c0 : wr.cell? ⟨g, k, none⟩ = some (.int .u64 (y : Int)) := by rw [HR.out.2.2.2.row.cell hlt, lmV, hy]
      obtain ⟨n1, hn1⟩ : ∃ n1, y * lo = n1 := ⟨_, rfl⟩
      obtain ⟨n2, hn2⟩ : ∃ n2, y * hi = n2 := ⟨_, rfl⟩
      have b1 : n1 < 18446744073709551616 := by
        have := Nat.mul_le_mul (show y ≤ 4294967295 by omega) (show lo ≤ 4294967295 by omega)
        omega
      have b2 : n2 < 18446744073709551616 := by
        have := Nat.mul_le_mul (show y ≤ 4294967295 by omega) (show hi ≤ 63 by omega)
        omega
      have F1 : (y : Int) * (lo : Int) = (n1 : Int) := by rw [← hn1]; exact (Int.natCast_mul y lo).symm
      have F2 : (y : Int) * (hi : Int) = (n2 : Int) := by rw [← hn2]; exact (Int.natCast_mul y hi).symm
      have V1 : IntKind.u64.wrap (n1 : Int) = (n1 : Int) := by rw [IntKind.wrap_u64]; omega
      have V2 : IntKind.u64.wrap (n2 : Int) = (n2 : Int) := by rw [IntKind.wrap_u64]; omega
      have W1 : (n1 : Int) % 18446744073709551616 = (n1 : Int) := by omega
      have W2 : (n2 : Int) % 18446744073709551616 = (n2 : Int) := by omega
      obtain ⟨k1, hk1n⟩ : ∃ k1, k + 1 = k1 := ⟨_, rfl⟩
      have hk1 : (k : Int) + 1 = (k1 : Int) := by omega
      have hk15 : k1 ≤ 5 := by omega
      have SUM : Hid (pl l k * x + n1 * pw k + n2 * pw k1 = pl l k1 * x ∧ pl l k1 * x < pw 5) := Lib.hid (by
        have s := limb_step l x lo hi k hlt HX.out
        rw [hy, hn1, hn2, hk1n] at s
        refine ⟨s, Nat.lt_of_le_of_lt (Nat.mul_le_mul_right x ?_) HV.out⟩
        rw [← hk1n]; exact pl_le l k hlt)
      clear hn1 hn2 hy hk1n
      go_wp2_with fail
      refine (put_limb N f k n1 wr HR.out.1 b1 (by omega) (fit1 HR.out.2.1 SUM.out.1 SUM.out.2)).mono ?_
      rintro e w2 ⟨rfl, ⟨f2, hf2, hv2⟩, hg2⟩
      have R2 : Hid (Lm w2 N f2 ∧ vl f2 = pl l k * x + n1 * pw k ∧ Below N w w2 ∧ Lm w2 g l) := Lib.hid ⟨hf2, by rw [hv2, HR.out.2.1], ⟨hg2.os.trans HR.out.2.2.1.os, hg2.tape.trans HR.out.2.2.1.tape, hg2.output.trans HR.out.2.2.1.output, Nat.le_trans HR.out.2.2.1.size hg2.size, fun j hj => (hg2.block j (by have := HR.out.1.row.lt; omega) (by intro e; injection e with e; omega)).trans (HR.out.2.2.1.block j hj)⟩, HR.out.2.2.2.of_block (hg2.block _ HR.out.2.2.2.row.lt (by intro e; injection e with e; omega))⟩
      have c1 : w2.cell? ⟨g, k, none⟩ = some (.int .u64 (y : Int)) := by
        rw [← c0]
        exact World.cell?_of_block (hg2.block _ HR.out.2.2.2.row.lt (by intro e; injection e with e; have e2 : g = N := e; omega))
      clear hf2 hv2 hg2
      go_wp2_with fail
      refine (put_limb N f2 k1 n2 w2 R2.out.1 b2 hk15 (fit2 R2.out.2.1 SUM.out.1 SUM.out.2)).mono ?_
      rintro e w3 ⟨rfl, ⟨f3, hf3, hv3⟩, hg3⟩
      have R3 : Hid (Lm w3 N f3 ∧ vl f3 = pl l k1 * x ∧ Below N w w3 ∧ Lm w3 g l) := Lib.hid ⟨hf3, by rw [hv3, R2.out.2.1]; exact SUM.out.1, ⟨hg3.os.trans R2.out.2.2.1.os, hg3.tape.trans R2.out.2.2.1.tape, hg3.output.trans R2.out.2.2.1.output, Nat.le_trans R2.out.2.2.1.size hg3.size, fun j hj => (hg3.block j (by have := R2.out.1.row.lt; omega) (by intro e; injection e with e; omega)).trans (R2.out.2.2.1.block j hj)⟩, R2.out.2.2.2.of_block (hg3.block _ R2.out.2.2.2.row.lt (by intro e; injection e with e; omega))⟩
      clear hf3 hv3 hg3
      go_wp2
      go_roundw
      case rel => exact ⟨k1, f3, hk15, by first | rfl | (congr 1) | go_num, R3⟩
      case measure => simp [intOf]; omega
    · obtain rfl : k = 5 := by omega
      rw [show ((5 : Nat) : Int) = 5 from rfl]
      go_wp2
      go_ret
      refine ⟨by rw [HN.out]; rfl, ⟨f, by rw [HN.out]; exact HR.out.1, by rw [HR.out.2.1, pl_all]⟩, by rw [HN.out]; exact HR.out.2.2.1⟩
end Go.Proofs.Ytbfmdingbgdflaa
