/- Walks: wire's Reader once more, with what stays as it was: all blocks but the reader's own. -/
import Derived.Test.YtpfccicahfncbaaDoorText
import Derived.Test.YtpfccicahfncbaaDoorFixR
namespace Go.Proofs.YtpfccicahfncbaaDoor
open Go.RowKit Wir
set_option linter.unusedVariables false
set_option linter.unusedSimpArgs false
/-- What `with` makes of a closure's answer. -/
def wtE (s : ByteArray) (z : Int) : Int := if z < 0 ∨ (s.size : Int) < z then 4 else 0
def wtS (s : ByteArray) (z : Int) : ByteArray := if z < 0 ∨ (s.size : Int) < z then s else s.extract z.toNat s.size
set_option maxHeartbeats 1000000 in
theorem with_uint (s : ByteArray) (R b1 : Nat) (z : Int) (w a : World) (X : World → Prop) (hX : ∀ W v, X W → X (W.setCell ⟨R, 0, none⟩ v)) (h : Rdr w R s) (hs : s.size ≤ 9223372036854775807) (hz : -1 ≤ z)
    (hF : Calls Tryd.prog 51 #[.string s, .pointer (some ⟨b1, 0, none⟩)] w fun e w1 => e = .returned (.int .i64 z) ∧ Rdr w1 R s ∧ a.grownBy w1 (some R) ∧ X w1) :
    Calls Tryd.prog 50 #[.pointer (some ⟨R, 0, none⟩), .func (.func 51) #[] #[.pointer (some ⟨b1, 0, none⟩)]] w
      fun e w' => e = .returned (.int .i64 (wtE s z)) ∧ Rdr w' R (wtS s z) ∧ a.grownBy w' (some R) ∧ X w' := by
  have c0 : w.cell? ⟨R, 0, none⟩ = some (.string s) := h.cell 0
  have F := Lib.hid hF
  have HX := Lib.hid hX
  clear h hF hX
  by_cases hb : z < 0 ∨ (s.size : Int) < z
  · have E1 : Hid (wtE s z = 4) := Lib.hid (if_pos hb)
    have E2 : Hid (wtS s z = s) := Lib.hid (if_pos hb)
    go_enter Tryd.func50, Tryd.ntmps50
    go_wp2_with fail
    (with_reducible refine F.out.mono ?_)
    rintro e w1 ⟨rfl, hr1, hg1, hx1⟩
    have R1 := Lib.hid hr1
    have G1 := Lib.hid hg1
    have X1 := Lib.hid hx1
    clear hr1 hg1 hx1
    have hb' : z < 0 ∨ (0 ≤ z ∧ (s.size : Int) < z) := by omega
    clear hb
    rcases hb' with h | ⟨h, h'⟩
    · have d1 : decide (z < 0) = true := decide_eq_true h
      go_wp2
      go_ret
      exact ⟨by rw [E1.out]; rfl, by rw [E2.out]; exact R1.out, G1.out, X1.out⟩
    · have d1 : decide (z < 0) = false := by rw [decide_eq_false_iff_not]; omega
      have d2 : decide ((s.size : Int) < z) = true := decide_eq_true h'
      have c1 : w1.cell? ⟨R, 0, none⟩ = some (.string s) := R1.out.cell 0
      go_wp2
      go_ret
      exact ⟨by rw [E1.out]; rfl, by rw [E2.out]; exact R1.out, G1.out, X1.out⟩
  · have E1 : Hid (wtE s z = 0) := Lib.hid (if_neg hb)
    obtain ⟨m, rfl⟩ : ∃ m : Nat, z = (m : Int) := ⟨z.toNat, by omega⟩
    have E2 : Hid (wtS s (m : Int) = s.extract m s.size) := Lib.hid ((if_neg hb).trans (by rw [Int.toNat_natCast]))
    have hms : m ≤ s.size := by omega
    clear hb
    go_enter Tryd.func50, Tryd.ntmps50
    go_wp2_with fail
    (with_reducible refine F.out.mono ?_)
    rintro e w1 ⟨rfl, hr1, hg1, hx1⟩
    have R1 := Lib.hid hr1
    have G1 := Lib.hid hg1
    have X1 := Lib.hid hx1
    clear hr1 hg1 hx1
    have c1 : w1.cell? ⟨R, 0, none⟩ = some (.string s) := R1.out.cell 0
    have f1 : w1.frozen? ⟨R, 0, none⟩ = false := R1.out.frozen 0
    go_wp2
    go_ret
    exact ⟨by rw [E1.out]; rfl, by rw [E2.out]; exact R1.out.set_ 0 _, only_setCell G1.out (p := ⟨R, 0, none⟩) (.inl rfl) _, HX.out _ _ X1.out⟩
set_option maxHeartbeats 1000000 in
theorem with_text (s : ByteArray) (R b1 b2 : Nat) (z : Int) (w a : World) (X : World → Prop) (hX : ∀ W v, X W → X (W.setCell ⟨R, 0, none⟩ v)) (h : Rdr w R s) (hs : s.size ≤ 9223372036854775807) (hz : -1 ≤ z)
    (hF : Calls Tryd.prog 53 #[.string s, .pointer (some ⟨b1, 0, none⟩), .pointer (some ⟨b2, 0, none⟩)] w fun e w1 => e = .returned (.int .i64 z) ∧ Rdr w1 R s ∧ a.grownBy w1 (some R) ∧ X w1) :
    Calls Tryd.prog 50 #[.pointer (some ⟨R, 0, none⟩), .func (.func 53) #[] #[.pointer (some ⟨b1, 0, none⟩), .pointer (some ⟨b2, 0, none⟩)]] w
      fun e w' => e = .returned (.int .i64 (wtE s z)) ∧ Rdr w' R (wtS s z) ∧ a.grownBy w' (some R) ∧ X w' := by
  have c0 : w.cell? ⟨R, 0, none⟩ = some (.string s) := h.cell 0
  have F := Lib.hid hF
  have HX := Lib.hid hX
  clear h hF hX
  by_cases hb : z < 0 ∨ (s.size : Int) < z
  · have E1 : Hid (wtE s z = 4) := Lib.hid (if_pos hb)
    have E2 : Hid (wtS s z = s) := Lib.hid (if_pos hb)
    go_enter Tryd.func50, Tryd.ntmps50
    go_wp2_with fail
    (with_reducible refine F.out.mono ?_)
    rintro e w1 ⟨rfl, hr1, hg1, hx1⟩
    have R1 := Lib.hid hr1
    have G1 := Lib.hid hg1
    have X1 := Lib.hid hx1
    clear hr1 hg1 hx1
    have hb' : z < 0 ∨ (0 ≤ z ∧ (s.size : Int) < z) := by omega
    clear hb
    rcases hb' with h | ⟨h, h'⟩
    · have d1 : decide (z < 0) = true := decide_eq_true h
      go_wp2
      go_ret
      exact ⟨by rw [E1.out]; rfl, by rw [E2.out]; exact R1.out, G1.out, X1.out⟩
    · have d1 : decide (z < 0) = false := by rw [decide_eq_false_iff_not]; omega
      have d2 : decide ((s.size : Int) < z) = true := decide_eq_true h'
      have c1 : w1.cell? ⟨R, 0, none⟩ = some (.string s) := R1.out.cell 0
      go_wp2
      go_ret
      exact ⟨by rw [E1.out]; rfl, by rw [E2.out]; exact R1.out, G1.out, X1.out⟩
  · have E1 : Hid (wtE s z = 0) := Lib.hid (if_neg hb)
    obtain ⟨m, rfl⟩ : ∃ m : Nat, z = (m : Int) := ⟨z.toNat, by omega⟩
    have E2 : Hid (wtS s (m : Int) = s.extract m s.size) := Lib.hid ((if_neg hb).trans (by rw [Int.toNat_natCast]))
    have hms : m ≤ s.size := by omega
    clear hb
    go_enter Tryd.func50, Tryd.ntmps50
    go_wp2_with fail
    (with_reducible refine F.out.mono ?_)
    rintro e w1 ⟨rfl, hr1, hg1, hx1⟩
    have R1 := Lib.hid hr1
    have G1 := Lib.hid hg1
    have X1 := Lib.hid hx1
    clear hr1 hg1 hx1
    have c1 : w1.cell? ⟨R, 0, none⟩ = some (.string s) := R1.out.cell 0
    have f1 : w1.frozen? ⟨R, 0, none⟩ = false := R1.out.frozen 0
    go_wp2
    go_ret
    exact ⟨by rw [E1.out]; rfl, by rw [E2.out]; exact R1.out.set_ 0 _, only_setCell G1.out (p := ⟨R, 0, none⟩) (.inl rfl) _, HX.out _ _ X1.out⟩
set_option maxHeartbeats 1000000 in
theorem with_fixed (s : ByteArray) (R b1 b2 : Nat) (z : Int) (w a : World) (X : World → Prop) (hX : ∀ W v, X W → X (W.setCell ⟨R, 0, none⟩ v)) (h : Rdr w R s) (hs : s.size ≤ 9223372036854775807) (hz : -1 ≤ z)
    (hF : Calls Tryd.prog 55 #[.string s, .pointer (some ⟨b1, 0, none⟩), .pointer (some ⟨b2, 0, none⟩)] w fun e w1 => e = .returned (.int .i64 z) ∧ Rdr w1 R s ∧ a.grownBy w1 (some R) ∧ X w1) :
    Calls Tryd.prog 50 #[.pointer (some ⟨R, 0, none⟩), .func (.func 55) #[] #[.pointer (some ⟨b1, 0, none⟩), .pointer (some ⟨b2, 0, none⟩)]] w
      fun e w' => e = .returned (.int .i64 (wtE s z)) ∧ Rdr w' R (wtS s z) ∧ a.grownBy w' (some R) ∧ X w' := by
  have c0 : w.cell? ⟨R, 0, none⟩ = some (.string s) := h.cell 0
  have F := Lib.hid hF
  have HX := Lib.hid hX
  clear h hF hX
  by_cases hb : z < 0 ∨ (s.size : Int) < z
  · have E1 : Hid (wtE s z = 4) := Lib.hid (if_pos hb)
    have E2 : Hid (wtS s z = s) := Lib.hid (if_pos hb)
    go_enter Tryd.func50, Tryd.ntmps50
    go_wp2_with fail
    (with_reducible refine F.out.mono ?_)
    rintro e w1 ⟨rfl, hr1, hg1, hx1⟩
    have R1 := Lib.hid hr1
    have G1 := Lib.hid hg1
    have X1 := Lib.hid hx1
    clear hr1 hg1 hx1
    have hb' : z < 0 ∨ (0 ≤ z ∧ (s.size : Int) < z) := by omega
    clear hb
    rcases hb' with h | ⟨h, h'⟩
    · have d1 : decide (z < 0) = true := decide_eq_true h
      go_wp2
      go_ret
      exact ⟨by rw [E1.out]; rfl, by rw [E2.out]; exact R1.out, G1.out, X1.out⟩
    · have d1 : decide (z < 0) = false := by rw [decide_eq_false_iff_not]; omega
      have d2 : decide ((s.size : Int) < z) = true := decide_eq_true h'
      have c1 : w1.cell? ⟨R, 0, none⟩ = some (.string s) := R1.out.cell 0
      go_wp2
      go_ret
      exact ⟨by rw [E1.out]; rfl, by rw [E2.out]; exact R1.out, G1.out, X1.out⟩
  · have E1 : Hid (wtE s z = 0) := Lib.hid (if_neg hb)
    obtain ⟨m, rfl⟩ : ∃ m : Nat, z = (m : Int) := ⟨z.toNat, by omega⟩
    have E2 : Hid (wtS s (m : Int) = s.extract m s.size) := Lib.hid ((if_neg hb).trans (by rw [Int.toNat_natCast]))
    have hms : m ≤ s.size := by omega
    clear hb
    go_enter Tryd.func50, Tryd.ntmps50
    go_wp2_with fail
    (with_reducible refine F.out.mono ?_)
    rintro e w1 ⟨rfl, hr1, hg1, hx1⟩
    have R1 := Lib.hid hr1
    have G1 := Lib.hid hg1
    have X1 := Lib.hid hx1
    clear hr1 hg1 hx1
    have c1 : w1.cell? ⟨R, 0, none⟩ = some (.string s) := R1.out.cell 0
    have f1 : w1.frozen? ⟨R, 0, none⟩ = false := R1.out.frozen 0
    go_wp2
    go_ret
    exact ⟨by rw [E1.out]; rfl, by rw [E2.out]; exact R1.out.set_ 0 _, only_setCell G1.out (p := ⟨R, 0, none⟩) (.inl rfl) _, HX.out _ _ X1.out⟩
theorem wt_uint (s : ByteArray) : wtE s (short (byteAt s) s.size).2 = uintE s ∧ wtS s (short (byteAt s) s.size).2 = uintS s := by
  obtain ⟨_, _, b3⟩ := shG_bound (byteAt s) s.size 11 0 0 (by decide) (by omega)
  change (short (byteAt s) s.size).2 ≤ s.size at b3
  have e : ((short (byteAt s) s.size).2 < 0 ∨ (s.size : Int) < (short (byteAt s) s.size).2) ↔ (short (byteAt s) s.size).2 < 0 := by omega
  simp only [wtE, wtS, uintE, uintS, e]
  exact ⟨trivial, trivial⟩
theorem wt_text (s : ByteArray) (m : Nat) : wtE s (txN s m) = txE s m ∧ wtS s (txN s m) = txS s m := by
  cases hb : txB s m with
  | false =>
    have e1 : txN s m = -1 := by rw [txN, if_neg (by rw [hb]; decide)]
    have e2 : txE s m = 4 := by rw [txE, if_neg (by rw [hb]; decide)]
    have e3 : txS s m = s := by rw [txS, if_neg (by rw [hb]; decide)]
    rw [e1, e2, e3]
    exact ⟨if_pos (Or.inl (by decide)), if_pos (Or.inl (by decide))⟩
  | true =>
    obtain ⟨b1, b2, b3⟩ : 0 ≤ (short (byteAt s) s.size).2 ∧ (short (byteAt s) s.size).1 ≤ m ∧ (short (byteAt s) s.size).1 + (short (byteAt s) s.size).2.toNat ≤ s.size := of_decide_eq_true hb
    have e1 : txN s m = (((short (byteAt s) s.size).2.toNat + (short (byteAt s) s.size).1 : Nat) : Int) := by rw [txN, if_pos hb]
    have e2 : txE s m = 0 := by rw [txE, if_pos hb]
    have e3 : txS s m = s.extract ((short (byteAt s) s.size).2.toNat + (short (byteAt s) s.size).1) s.size := by rw [txS, if_pos hb]
    rw [e1, e2, e3]
    exact ⟨if_neg (by omega), (if_neg (by omega)).trans (by rw [Int.toNat_natCast])⟩
theorem wt_take (s : ByteArray) (k : Nat) : wtE s (k : Int) = takeE s k ∧ wtS s (k : Int) = takeS s k := by
  have e : ((k : Int) < 0 ∨ (s.size : Int) < (k : Int)) ↔ s.size < k := by omega
  simp only [wtE, wtS, takeE, takeS, e, Int.toNat_natCast]
  exact ⟨trivial, trivial⟩
theorem short_lo (s : ByteArray) : -1 ≤ (short (byteAt s) s.size).2 := (shG_bound (byteAt s) s.size 11 0 0 (by decide) (by omega)).2.1
theorem short_64 (s : ByteArray) : (short (byteAt s) s.size).1 < 18446744073709551616 := by
  have h : (short (byteAt s) s.size).1 < 2 ^ 64 := (shG_bound (byteAt s) s.size 11 0 0 (by decide) (by omega)).1
  have e : (2 : Nat) ^ 64 = 18446744073709551616 := by decide
  omega
theorem grown_refl (w : World) (row : Option Nat) : w.grownBy w row := ⟨rfl, rfl, rfl, Nat.le_refl _, fun _ _ _ => rfl⟩
theorem uint_g (s : ByteArray) (R : Nat) (w : World) (h : Rdr w R s) (hs : s.size ≤ 9223372036854775807) :
    Calls Tryd.prog 31 #[.pointer (some ⟨R, 0, none⟩)] w
      fun e w' => e = .returned (.tuple #[.int .u64 ((short (byteAt s) s.size).1 : Int), .int .i64 (uintE s)]) ∧ Rdr w' R (uintS s) ∧ w.grownBy w' (some R) := by
  have hlt := h.lt
  have HB := Lib.hid (Blk.new w 62 #[.int .u64 0])
  have F := uintF_any s w.heap.size _ (w.alloc (.cells #[.int .u64 0] 62)) HB.out hs
  have W := Lib.hid (with_uint s R w.heap.size _ (w.alloc (.cells #[.int .u64 0] 62)) w (fun W => Blk W w.heap.size 62 #[.int .u64 ((short (byteAt s) s.size).1 : Int)]) (fun W v hW => hW.far (p := ⟨R, 0, none⟩) (by show w.heap.size ≠ R; omega) v) (Blk.alloc h _) hs (short_lo s) (F.mono (fun e w1 ⟨he, hw⟩ => ⟨he, by rw [hw]; exact Blk.far (Blk.alloc h _) (p := ⟨w.heap.size, 0, none⟩) (by show R ≠ w.heap.size; omega) _, by rw [hw]; exact only_setCell (only_alloc (grown_refl w (some R)) _) (p := ⟨w.heap.size, 0, none⟩) (.inr (Nat.le_refl _)) _, by rw [hw]; exact HB.out.set_ 0 _⟩)))
  rw [(wt_uint s).1, (wt_uint s).2] at W
  have hmf : ∀ (fn : Fn) (first cap : Array Value) (w : World), (Instr.makeFunc fn first cap).run Tryd.prog w = .ok (.func fn first cap) w := fun _ _ _ _ => rfl
  clear h F
  go_enter Tryd.func31, Tryd.ntmps31
  go_wp2_with fail
  (with_reducible refine W.out.mono ?_)
  rintro e w1 ⟨rfl, hr1, hg1, hb1⟩
  have R1 := Lib.hid hr1
  have G1 := Lib.hid hg1
  have c1 : w1.cell? ⟨w.heap.size, 0, none⟩ = some (.int .u64 ((short (byteAt s) s.size).1 : Int)) := hb1.cell 0
  clear hr1 hg1 hb1 W
  go_wp2
  go_ret2
  exact ⟨rfl, R1.out, G1.out⟩
theorem txN_lo (s : ByteArray) (m : Nat) : -1 ≤ txN s m := by
  unfold txN
  split
  · omega
  · omega
theorem text_g (s : ByteArray) (R m : Nat) (w : World) (h : Rdr w R s) (hs : s.size ≤ 9223372036854775807) (hm : m ≤ 9223372036854775807) :
    Calls Tryd.prog 32 #[.pointer (some ⟨R, 0, none⟩), .int .i64 (m : Int)] w
      fun e w' => e = .returned (.tuple #[.string (txT s m), .int .i64 (txE s m)]) ∧ Rdr w' R (txS s m) ∧ w.grownBy w' (some R) := by
  have hlt := h.lt
  have hmf : ∀ (fn : Fn) (first cap : Array Value) (w : World), (Instr.makeFunc fn first cap).run Tryd.prog w = .ok (.func fn first cap) w := fun _ _ _ _ => rfl
  have HN0 := Blk.new w 3 #[.int .i64 (m : Int)]
  have HN := HN0.alloc (.cells #[.string ⟨#[]⟩] 9)
  have HT := Blk.new (w.alloc (.cells #[.int .i64 (m : Int)] 3)) 9 #[.string ⟨#[]⟩]
  rw [show (w.alloc (.cells #[.int .i64 (m : Int)] 3)).heap.size = w.heap.size + 1 from by simp] at HT
  have HR : Rdr ((w.alloc (.cells #[.int .i64 (m : Int)] 3)).alloc (.cells #[.string ⟨#[]⟩] 9)) R s := (Blk.alloc h _).alloc _
  have HG : w.grownBy ((w.alloc (.cells #[.int .i64 (m : Int)] 3)).alloc (.cells #[.string ⟨#[]⟩] 9)) (some R) := only_alloc (only_alloc (grown_refl w (some R)) _) _
  have W : Hid (Calls Tryd.prog 50 #[.pointer (some ⟨R, 0, none⟩), .func (.func 53) #[] #[.pointer (some ⟨w.heap.size, 0, none⟩), .pointer (some ⟨w.heap.size + 1, 0, none⟩)]] ((w.alloc (.cells #[.int .i64 (m : Int)] 3)).alloc (.cells #[.string ⟨#[]⟩] 9))
      fun e w' => e = .returned (.int .i64 (txE s m)) ∧ Rdr w' R (txS s m) ∧ w.grownBy w' (some R) ∧ Blk w' (w.heap.size + 1) 9 #[.string (txT s m)]) := Lib.hid (by
    rw [← (wt_text s m).1, ← (wt_text s m).2]
    refine with_text s R w.heap.size (w.heap.size + 1) _ _ w (fun W => Blk W (w.heap.size + 1) 9 #[.string (txT s m)]) (fun W v hW => hW.far (p := ⟨R, 0, none⟩) (by show w.heap.size + 1 ≠ R; omega) v) HR hs (txN_lo s m) ?_
    cases hb : txB s m with
    | false =>
      have e1 : txN s m = -1 := by rw [txN, if_neg (by rw [hb]; decide)]
      have e2 : txT s m = ⟨#[]⟩ := by rw [txT, if_neg (by rw [hb]; decide)]; rfl
      rw [e1, e2]
      exact (textF_no s _ _ m _ HN hs hm hb).mono (fun e w1 ⟨he, hw⟩ => ⟨he, by rw [← hw]; exact HR, by rw [← hw]; exact HG, by rw [← hw]; exact HT⟩)
    | true =>
      exact (textF_yes s _ _ m _ _ HN HT hs hm hb).mono (fun e w1 ⟨he, hw⟩ => ⟨he, by rw [hw]; exact Blk.far HR (p := ⟨w.heap.size + 1, 0, none⟩) (by show R ≠ w.heap.size + 1; omega) _, by rw [hw]; exact only_setCell HG (p := ⟨w.heap.size + 1, 0, none⟩) (.inr (Nat.le_succ _)) _, by rw [hw]; exact HT.set_ 0 _⟩))
  have c0 : (w.alloc (.cells #[.int .i64 (m : Int)] 3)).cell? ⟨w.heap.size, 0, none⟩ = some (.int .i64 (m : Int)) := HN0.cell 0
  clear h HN0 HN HT HR HG
  go_enter Tryd.func32, Tryd.ntmps32
  go_wp2_with fail
  (with_reducible refine W.out.mono ?_)
  rintro e w1 ⟨rfl, hr1, hg1, hb1⟩
  have R1 := Lib.hid hr1
  have G1 := Lib.hid hg1
  have c1 : w1.cell? ⟨w.heap.size + 1, 0, none⟩ = some (.string (txT s m)) := hb1.cell 0
  clear hr1 hg1 hb1 W c0
  go_wp2
  go_ret2
  exact ⟨rfl, R1.out, G1.out⟩
theorem fixed_g (s : ByteArray) (R k : Nat) (w : World) (h : Rdr w R s) (hs : s.size ≤ 9223372036854775807) (hk : k ≤ 8) (hk1 : 1 ≤ k) :
    Calls Tryd.prog 41 #[.pointer (some ⟨R, 0, none⟩), .int .i64 (k : Int)] w
      fun e w' => e = .returned (.tuple #[.int .u64 (fixV s k : Int), .int .i64 (takeE s k)]) ∧ Rdr w' R (takeS s k) ∧ w.grownBy w' (some R) := by
  have hlt := h.lt
  have hmf : ∀ (fn : Fn) (first cap : Array Value) (w : World), (Instr.makeFunc fn first cap).run Tryd.prog w = .ok (.func fn first cap) w := fun _ _ _ _ => rfl
  have HN0 := Blk.new w 3 #[.int .i64 (k : Int)]
  have HN := HN0.alloc (.cells #[.int .u64 0] 62)
  have HT := Blk.new (w.alloc (.cells #[.int .i64 (k : Int)] 3)) 62 #[.int .u64 0]
  rw [show (w.alloc (.cells #[.int .i64 (k : Int)] 3)).heap.size = w.heap.size + 1 from by simp] at HT
  have HR : Rdr ((w.alloc (.cells #[.int .i64 (k : Int)] 3)).alloc (.cells #[.int .u64 0] 62)) R s := (Blk.alloc h _).alloc _
  have HG : w.grownBy ((w.alloc (.cells #[.int .i64 (k : Int)] 3)).alloc (.cells #[.int .u64 0] 62)) (some R) := only_alloc (only_alloc (grown_refl w (some R)) _) _
  have W : Hid (Calls Tryd.prog 50 #[.pointer (some ⟨R, 0, none⟩), .func (.func 55) #[] #[.pointer (some ⟨w.heap.size, 0, none⟩), .pointer (some ⟨w.heap.size + 1, 0, none⟩)]] ((w.alloc (.cells #[.int .i64 (k : Int)] 3)).alloc (.cells #[.int .u64 0] 62))
      fun e w' => e = .returned (.int .i64 (takeE s k)) ∧ Rdr w' R (takeS s k) ∧ w.grownBy w' (some R) ∧ Blk w' (w.heap.size + 1) 62 #[.int .u64 (fixV s k : Int)]) := Lib.hid (by
    rw [← (wt_take s k).1, ← (wt_take s k).2]
    refine with_fixed s R w.heap.size (w.heap.size + 1) _ _ w (fun W => Blk W (w.heap.size + 1) 62 #[.int .u64 (fixV s k : Int)]) (fun W v hW => hW.far (p := ⟨R, 0, none⟩) (by show w.heap.size + 1 ≠ R; omega) v) HR hs (by omega) ?_
    exact (fixF_any s _ _ k _ HN HT hs hk).mono (fun e w1 ⟨he, h1, h2, h3⟩ => ⟨he, (h2 R (by omega) (by simp; omega)).trans HR, ⟨(h3 (w.heap.size + 1) (Nat.le_refl _)).os.trans HG.os, (h3 (w.heap.size + 1) (Nat.le_refl _)).tape.trans HG.tape, (h3 (w.heap.size + 1) (Nat.le_refl _)).output.trans HG.output, Nat.le_trans HG.size (h3 0 (Nat.zero_le _)).size, fun g hg hne => (h2 g (by omega) (by simp; omega)).trans (HG.block g hg hne)⟩, h1⟩))
  have c0 : (w.alloc (.cells #[.int .i64 (k : Int)] 3)).cell? ⟨w.heap.size, 0, none⟩ = some (.int .i64 (k : Int)) := HN0.cell 0
  clear h HN0 HN HT HR HG
  go_enter Tryd.func41, Tryd.ntmps41
  go_wp2_with fail
  (with_reducible refine W.out.mono ?_)
  rintro e w1 ⟨rfl, hr1, hg1, hb1⟩
  have R1 := Lib.hid hr1
  have G1 := Lib.hid hg1
  have c1 : w1.cell? ⟨w.heap.size + 1, 0, none⟩ = some (.int .u64 (fixV s k : Int)) := hb1.cell 0
  clear hr1 hg1 hb1 W c0
  go_wp2
  go_ret2
  exact ⟨rfl, R1.out, G1.out⟩
end Go.Proofs.YtpfccicahfncbaaDoor
