/- Walks: wire's Reader: Fixed. -/
import Derived.Test.YtpfccicahfncbaaDoorTkP
namespace Go.Proofs.YtpfccicahfncbaaDoor
open Go.RowKit Wir
set_option linter.unusedVariables false
/-- A number of k bytes, the greatest first. -/
def beN (F : Nat → UInt8) : Nat → Nat
  | 0 => 0
  | k + 1 => beN F k * 256 + (F k).toNat
theorem beN_lt (F : Nat → UInt8) (k : Nat) : beN F k < 2 ^ (8 * k) := by
  induction k with
  | zero => exact (by decide : 0 < 2 ^ 0)
  | succ k ih =>
    have := (F k).toNat_lt
    rw [Nat.mul_add, Nat.pow_add]
    show beN F k * 256 + _ < 2 ^ (8 * k) * 256
    omega
theorem beN_small (F : Nat → UInt8) (k : Nat) (h : k ≤ 7) : beN F k < 72057594037927936 := Nat.lt_of_lt_of_le (beN_lt F k) (Nat.pow_le_pow_right (by omega) (by omega) : 2 ^ (8 * k) ≤ 2 ^ 56)
theorem fix_step (a x : Nat) (ha : a < 72057594037927936) (hx : x < 256) : bits .or .u64 (IntKind.u64.wrap ((a : Int) * 256)) (x : Int) = ((a * 256 + x : Nat) : Int) := by
  have e : (a : Int) * 256 = ((a * 256 : Nat) : Int) := by omega
  have wz : ∀ n : Nat, n < 18446744073709551616 → IntKind.u64.wrap (n : Int) = (n : Int) := fun n h => by rw [IntKind.wrap_u64]; omega
  rw [e, wz _ (by omega), u64_or_nat _ _ (by omega) (by omega)]
  congr 1
  have := Nat.two_pow_add_eq_or_of_lt (b := x) (i := 8) (by simpa using hx) a
  rw [show (2 ^ 8 * a) = a * 256 from by rw [Nat.mul_comm]] at this
  exact this.symm
/-- What Fixed tells. -/
def fixV (s : ByteArray) (k : Nat) : Nat := if s.size < k then 0 else beN (byteAt s) k
theorem fixF_any (s : ByteArray) (wb nb k : Nat) (w : World) (hw : Blk w wb 3 #[.int .i64 (k : Int)]) (h : Blk w nb 62 #[.int .u64 0]) (hs : s.size ≤ 9223372036854775807) (hk : k ≤ 8) :
    Calls Tryd.prog 55 #[.string s, .pointer (some ⟨wb, 0, none⟩), .pointer (some ⟨nb, 0, none⟩)] w fun e w' => e = .returned (.int .i64 (k : Int)) ∧ Blk w' nb 62 #[.int .u64 (fixV s k : Int)] ∧ (∀ g, g ≠ nb → g < w.heap.size → w'.heap[g]? = w.heap[g]?) ∧ ∀ B, B ≤ nb → Below B w w' := by
  have hne : wb ≠ nb := Blk.ne_ hw h (by decide)
  have c0 : w.cell? ⟨nb, 0, none⟩ = some (.int .u64 0) := h.cell 0
  have c1 : w.cell? ⟨wb, 0, none⟩ = some (.int .i64 (k : Int)) := hw.cell 0
  have H := Lib.hid h
  have HW := Lib.hid hw
  clear h hw
  go_enter Tryd.func55, Tryd.ntmps55
  by_cases hle : s.size < k
  · have E : Hid (fixV s k = 0) := Lib.hid (if_pos hle)
    go_wp2
    go_ret
    exact ⟨rfl, by rw [E.out]; exact H.out, fun g _ _ => rfl, fun B _ => Below.refl _ _⟩
  · have E : Hid (fixV s k = beN (byteAt s) k) := Lib.hid (if_neg hle)
    have hki : (k : Int) ≤ (s.size : Int) := by omega
    go_wp2_with fail
    clear c0 c1
    go_loopw [11] (fun i wr => ∃ j : Nat, j ≤ k ∧ i = .int .i64 j ∧ Hid (Blk wr nb 62 #[.int .u64 (beN (byteAt s) j : Int)] ∧ Blk wr wb 3 #[.int .i64 (k : Int)] ∧ (∀ g, g ≠ nb → g < w.heap.size → wr.heap[g]? = w.heap[g]?) ∧ ∀ B, B ≤ nb → Below B w wr)) (fun i _ => k - (intOf i).toNat)
    case atStart => exact ⟨0, by omega, rfl, Lib.hid ⟨H.out, HW.out, fun g _ _ => rfl, fun B _ => Below.refl _ _⟩⟩
    case round =>
      obtain ⟨j, hj, rfl, HK⟩ := hrel
      by_cases hlt : j < k
      · have hjs : j < s.size := by omega
        have hji : (j : Int) < (k : Int) := by omega
        have hji2 : (j : Int) < (s.size : Int) := by omega
        have hx := (byteAt s j).toNat_lt
        have EX := Lib.hid (byteAt_get s j hjs)
        have FS : Hid (bits .or .u64 (IntKind.u64.wrap ((beN (byteAt s) j : Int) * 256)) ((byteAt s j).toNat : Int) = (beN (byteAt s) (j + 1) : Int)) := Lib.hid (fix_step _ _ (beN_small (byteAt s) j (by omega)) hx)
        have HS : Hid (∀ v, Blk (wr.drew.setCell ⟨nb, 0, none⟩ v) nb 62 #[v] ∧ Blk (wr.drew.setCell ⟨nb, 0, none⟩ v) wb 3 #[.int .i64 (k : Int)] ∧ (∀ g, g ≠ nb → g < w.heap.size → (wr.drew.setCell ⟨nb, 0, none⟩ v).heap[g]? = w.heap[g]?) ∧ ∀ B, B ≤ nb → Below B w (wr.drew.setCell ⟨nb, 0, none⟩ v)) := Lib.hid (fun v => ⟨HK.out.1.set_ 0 v, HK.out.2.1.far (p := ⟨nb, 0, none⟩) hne v, fun g h1 h2 => by rw [Below.heap_setCell _ _ _ _ h1]; exact HK.out.2.2.1 g h1 h2, fun B hB => (HK.out.2.2.2 B hB).drew.setCell hB v⟩)
        have c0 : wr.cell? ⟨nb, 0, none⟩ = some (.int .u64 (beN (byteAt s) j : Int)) := HK.out.1.cell 0
        have f0 : wr.frozen? ⟨nb, 0, none⟩ = false := HK.out.1.frozen 0
        obtain ⟨a', ha'⟩ : ∃ a', beN (byteAt s) (j + 1) = a' := ⟨_, rfl⟩
        rw [ha'] at FS
        have HA := Lib.hid ha'
        clear ha'
        generalize beN (byteAt s) j = a at *
        rw [← EX.out] at FS hx
        go_wp2_with fail
        go_region
        rw [FS.out]
        go_wp2
        go_roundw
        case rel => exact ⟨j + 1, by omega, by go_num, Lib.hid (by rw [HA.out]; exact HS.out _)⟩
        case measure => simp [intOf]; omega
      · obtain rfl : j = k := by omega
        have c1 : wr.cell? ⟨wb, 0, none⟩ = some (.int .i64 (j : Int)) := HK.out.2.1.cell 0
        clear hle
        go_wp2
        go_ret
        exact ⟨rfl, by rw [E.out]; exact HK.out.1, HK.out.2.2.1, HK.out.2.2.2⟩
theorem withFixed_any (s : ByteArray) (R wb nb k : Nat) (w : World) (h : Rdr w R s) (hw : Blk w wb 3 #[.int .i64 (k : Int)]) (hn : Blk w nb 62 #[.int .u64 0]) (hs : s.size ≤ 9223372036854775807) (hk : k ≤ 8) :
    Calls Tryd.prog 50 #[.pointer (some ⟨R, 0, none⟩), .func (.func 55) #[] #[.pointer (some ⟨wb, 0, none⟩), .pointer (some ⟨nb, 0, none⟩)]] w
      fun e w' => e = .returned (.int .i64 (takeE s k)) ∧ Rdr w' R (takeS s k) ∧ Blk w' nb 62 #[.int .u64 (fixV s k : Int)] ∧ ∀ B, B ≤ R → B ≤ nb → Below B w w' := by
  have c0 : w.cell? ⟨R, 0, none⟩ = some (.string s) := h.cell 0
  have hne : R ≠ nb := Blk.ne_ h hn (by decide)
  have H := Lib.hid h
  have F := Lib.hid (fixF_any s wb nb k w hw hn hs hk)
  have hlt := h.lt
  clear h hw hn
  go_enter Tryd.func50, Tryd.ntmps50
  go_wp2_with fail
  (with_reducible refine F.out.mono ?_)
  rintro e w1 ⟨rfl, hn1, hk1, hb1⟩
  have R1 : Hid (Rdr w1 R s) := Lib.hid ((hk1 R hne hlt).trans H.out)
  have B1 := Lib.hid hn1
  have L1 : Hid (∀ B, B ≤ R → B ≤ nb → Below B w w1) := Lib.hid (fun B _ h2 => hb1 B h2)
  clear hn1 hk1 hb1 F
  have c1 : w1.cell? ⟨R, 0, none⟩ = some (.string s) := R1.out.cell 0
  have f1 : w1.frozen? ⟨R, 0, none⟩ = false := R1.out.frozen 0
  by_cases hk : s.size < k
  · have E1' : Hid (takeE s k = 4) := Lib.hid (by rw [takeE, if_pos hk])
    have E2' : Hid (takeS s k = s) := Lib.hid (by rw [takeS, if_pos hk])
    go_wp2
    go_ret
    exact ⟨by rw [E1'.out]; rfl, by rw [E2'.out]; exact R1.out, B1.out, L1.out⟩
  · have E1' : Hid (takeE s k = 0) := Lib.hid (by rw [takeE, if_neg hk])
    have E2' : Hid (takeS s k = s.extract k s.size) := Lib.hid (by rw [takeS, if_neg hk])
    have hms : k ≤ s.size := by omega
    clear hk
    go_wp2
    go_ret
    exact ⟨by rw [E1'.out]; rfl, by rw [E2'.out]; exact R1.out.set_ 0 _, B1.out.far (p := ⟨R, 0, none⟩) (by show nb ≠ R; omega) _, fun B h1 h2 => (L1.out B h1 h2).setCell h1 _⟩
theorem fixed_any (s : ByteArray) (R k : Nat) (w : World) (h : Rdr w R s) (hs : s.size ≤ 9223372036854775807) (hk : k ≤ 8) (hk1 : 1 ≤ k) :
    Calls Tryd.prog 41 #[.pointer (some ⟨R, 0, none⟩), .int .i64 (k : Int)] w
      fun e w' => e = .returned (.tuple #[.int .u64 (fixV s k : Int), .int .i64 (takeE s k)]) ∧ Rdr w' R (takeS s k) ∧ ∀ B, B ≤ R → Below B w w' := by
  have hlt := h.lt
  have hmf : ∀ (fn : Fn) (first cap : Array Value) (w : World), (Instr.makeFunc fn first cap).run Tryd.prog w = .ok (.func fn first cap) w := fun _ _ _ _ => rfl
  have HN0 := Blk.new w 3 #[.int .i64 (k : Int)]
  have HN := HN0.alloc (.cells #[.int .u64 0] 62)
  have HT0 := Blk.new (w.alloc (.cells #[.int .i64 (k : Int)] 3)) 62 #[.int .u64 0]
  rw [show (w.alloc (.cells #[.int .i64 (k : Int)] 3)).heap.size = w.heap.size + 1 from by simp] at HT0
  have W := Lib.hid (withFixed_any s R w.heap.size (w.heap.size + 1) k ((w.alloc (.cells #[.int .i64 (k : Int)] 3)).alloc (.cells #[.int .u64 0] 62)) ((Blk.alloc h _).alloc _) HN HT0 hs hk)
  have B0 : Hid (∀ B, B ≤ R → Below B w ((w.alloc (.cells #[.int .i64 (k : Int)] 3)).alloc (.cells #[.int .u64 0] 62))) := Lib.hid (fun B hB => ((Below.refl _ _).alloc (by omega) _).alloc (by simp; omega) _)
  have c0 : (w.alloc (.cells #[.int .i64 (k : Int)] 3)).cell? ⟨w.heap.size, 0, none⟩ = some (.int .i64 (k : Int)) := HN0.cell 0
  clear h HN0 HT0 HN
  go_enter Tryd.func41, Tryd.ntmps41
  go_wp2_with fail
  (with_reducible refine W.out.mono ?_)
  rintro e w1 ⟨rfl, hr1, hb1, hl1⟩
  have R1 := Lib.hid hr1
  have L1 : Hid (∀ B, B ≤ R → Below B w w1) := Lib.hid (fun B hB => (B0.out B hB).trans (hl1 B hB (by omega)))
  have c1 : w1.cell? ⟨w.heap.size + 1, 0, none⟩ = some (.int .u64 (fixV s k : Int)) := hb1.cell 0
  clear hr1 hl1 hb1 c0 W
  go_wp2
  go_ret2
  exact ⟨rfl, R1.out, L1.out⟩
end Go.Proofs.YtpfccicahfncbaaDoor
