/- Several texts of the claim joined into one (part 4): plain facts and walks. No conditions but those that each theorem tells. -/
import Derived.Test.YtpfccicahfncbaaDoorMgAttrsOne2
import Derived.Test.YtpfccicahfncbaaDoorMgAttrsOne3
namespace Go.Proofs.YtpfccicahfncbaaDoor
open Go.RowKit Wir
set_option linter.unusedVariables false
set_option linter.unusedSimpArgs false
/-- What `with` makes of a closure's answer. -/
def wtE (s : ByteArray) (z : Int) : Int := if z < 0 ∨ (s.size : Int) < z then 4 else 0
def wtS (s : ByteArray) (z : Int) : ByteArray := if z < 0 ∨ (s.size : Int) < z then s else s.extract z.toNat s.size
set_option maxHeartbeats 1000000 in
theorem with_uint (s : ByteArray) (R b1 : Nat) (z : Int) (w a : World) (X : World → Prop) (hX : ∀ W v, X W → X (W.setCell ⟨R, 0, none⟩ v)) (h : Rdr w R s) (hs : s.size ≤ 9223372036854775807) (hz : -1 ≤ z)
    (hF : Calls Tryd.prog 51 #[.string s, .pointer (some ⟨b1, 0, none⟩)] w fun e w1 => e = .returned (.int .i64 z) ∧ Rdr w1 R s ∧ a.grownBy w1 (some R) ∧ X w1) :
    Calls Tryd.prog 50 #[.pointer (some ⟨R, 0, none⟩), .func (.func 51) #[] #[.pointer (some ⟨b1, 0, none⟩)]] w
      fun e w' => e = .returned (.int .i64 (wtE s z)) ∧ Rdr w' R (wtS s z) ∧ a.grownBy w' (some R) ∧ X w' := by
  have c0 : w.cell? ⟨R, 0, none⟩ = some (.string s) := h.cell 0
  have F := Lib.hid hF
  have HX := Lib.hid hX
  clear h hF hX
  by_cases hb : z < 0 ∨ (s.size : Int) < z
  · have E1 : Hid (wtE s z = 4) := Lib.hid (if_pos hb)
    have E2 : Hid (wtS s z = s) := Lib.hid (if_pos hb)
    go_enter Tryd.func50, Tryd.ntmps50
    go_wp2_with fail
    (with_reducible refine F.out.mono ?_)
    rintro e w1 ⟨rfl, hr1, hg1, hx1⟩
    have R1 := Lib.hid hr1
    have G1 := Lib.hid hg1
    have X1 := Lib.hid hx1
    clear hr1 hg1 hx1
    have hb' : z < 0 ∨ (0 ≤ z ∧ (s.size : Int) < z) := by omega
    clear hb
    rcases hb' with h | ⟨h, h'⟩
    · have d1 : decide (z < 0) = true := decide_eq_true h
      go_wp2
      go_ret
      exact ⟨by rw [E1.out]; rfl, by rw [E2.out]; exact R1.out, G1.out, X1.out⟩
    · have d1 : decide (z < 0) = false := by rw [decide_eq_false_iff_not]; omega
      have d2 : decide ((s.size : Int) < z) = true := decide_eq_true h'
      have c1 : w1.cell? ⟨R, 0, none⟩ = some (.string s) := R1.out.cell 0
      go_wp2
      go_ret
      exact ⟨by rw [E1.out]; rfl, by rw [E2.out]; exact R1.out, G1.out, X1.out⟩
  · have E1 : Hid (wtE s z = 0) := Lib.hid (if_neg hb)
    obtain ⟨m, rfl⟩ : ∃ m : Nat, z = (m : Int) := ⟨z.toNat, by omega⟩
    have E2 : Hid (wtS s (m : Int) = s.extract m s.size) := Lib.hid ((if_neg hb).trans (by rw [Int.toNat_natCast]))
    have hms : m ≤ s.size := by omega
    clear hb
    go_enter Tryd.func50, Tryd.ntmps50
    go_wp2_with fail
    (with_reducible refine F.out.mono ?_)
    rintro e w1 ⟨rfl, hr1, hg1, hx1⟩
    have R1 := Lib.hid hr1
    have G1 := Lib.hid hg1
    have X1 := Lib.hid hx1
    clear hr1 hg1 hx1
    have c1 : w1.cell? ⟨R, 0, none⟩ = some (.string s) := R1.out.cell 0
    have f1 : w1.frozen? ⟨R, 0, none⟩ = false := R1.out.frozen 0
    go_wp2
    go_ret
    exact ⟨by rw [E1.out]; rfl, by rw [E2.out]; exact R1.out.set_ 0 _, only_setCell G1.out (p := ⟨R, 0, none⟩) (.inl rfl) _, HX.out _ _ X1.out⟩
set_option maxHeartbeats 1000000 in
theorem with_text (s : ByteArray) (R b1 b2 : Nat) (z : Int) (w a : World) (X : World → Prop) (hX : ∀ W v, X W → X (W.setCell ⟨R, 0, none⟩ v)) (h : Rdr w R s) (hs : s.size ≤ 9223372036854775807) (hz : -1 ≤ z)
    (hF : Calls Tryd.prog 53 #[.string s, .pointer (some ⟨b1, 0, none⟩), .pointer (some ⟨b2, 0, none⟩)] w fun e w1 => e = .returned (.int .i64 z) ∧ Rdr w1 R s ∧ a.grownBy w1 (some R) ∧ X w1) :
    Calls Tryd.prog 50 #[.pointer (some ⟨R, 0, none⟩), .func (.func 53) #[] #[.pointer (some ⟨b1, 0, none⟩), .pointer (some ⟨b2, 0, none⟩)]] w
      fun e w' => e = .returned (.int .i64 (wtE s z)) ∧ Rdr w' R (wtS s z) ∧ a.grownBy w' (some R) ∧ X w' := by
  have c0 : w.cell? ⟨R, 0, none⟩ = some (.string s) := h.cell 0
  have F := Lib.hid hF
  have HX := Lib.hid hX
  clear h hF hX
  by_cases hb : z < 0 ∨ (s.size : Int) < z
  · have E1 : Hid (wtE s z = 4) := Lib.hid (if_pos hb)
    have E2 : Hid (wtS s z = s) := Lib.hid (if_pos hb)
    go_enter Tryd.func50, Tryd.ntmps50
    go_wp2_with fail
    (with_reducible refine F.out.mono ?_)
    rintro e w1 ⟨rfl, hr1, hg1, hx1⟩
    have R1 := Lib.hid hr1
    have G1 := Lib.hid hg1
    have X1 := Lib.hid hx1
    clear hr1 hg1 hx1
    have hb' : z < 0 ∨ (0 ≤ z ∧ (s.size : Int) < z) := by omega
    clear hb
    rcases hb' with h | ⟨h, h'⟩
    · have d1 : decide (z < 0) = true := decide_eq_true h
      go_wp2
      go_ret
      exact ⟨by rw [E1.out]; rfl, by rw [E2.out]; exact R1.out, G1.out, X1.out⟩
    · have d1 : decide (z < 0) = false := by rw [decide_eq_false_iff_not]; omega
      have d2 : decide ((s.size : Int) < z) = true := decide_eq_true h'
      have c1 : w1.cell? ⟨R, 0, none⟩ = some (.string s) := R1.out.cell 0
      go_wp2
      go_ret
      exact ⟨by rw [E1.out]; rfl, by rw [E2.out]; exact R1.out, G1.out, X1.out⟩
  · have E1 : Hid (wtE s z = 0) := Lib.hid (if_neg hb)
    obtain ⟨m, rfl⟩ : ∃ m : Nat, z = (m : Int) := ⟨z.toNat, by omega⟩
    have E2 : Hid (wtS s (m : Int) = s.extract m s.size) := Lib.hid ((if_neg hb).trans (by rw [Int.toNat_natCast]))
    have hms : m ≤ s.size := by omega
    clear hb
    go_enter Tryd.func50, Tryd.ntmps50
    go_wp2_with fail
    (with_reducible refine F.out.mono ?_)
    rintro e w1 ⟨rfl, hr1, hg1, hx1⟩
    have R1 := Lib.hid hr1
    have G1 := Lib.hid hg1
    have X1 := Lib.hid hx1
    clear hr1 hg1 hx1
    have c1 : w1.cell? ⟨R, 0, none⟩ = some (.string s) := R1.out.cell 0
    have f1 : w1.frozen? ⟨R, 0, none⟩ = false := R1.out.frozen 0
    go_wp2
    go_ret
    exact ⟨by rw [E1.out]; rfl, by rw [E2.out]; exact R1.out.set_ 0 _, only_setCell G1.out (p := ⟨R, 0, none⟩) (.inl rfl) _, HX.out _ _ X1.out⟩
set_option maxHeartbeats 1000000 in
theorem with_fixed (s : ByteArray) (R b1 b2 : Nat) (z : Int) (w a : World) (X : World → Prop) (hX : ∀ W v, X W → X (W.setCell ⟨R, 0, none⟩ v)) (h : Rdr w R s) (hs : s.size ≤ 9223372036854775807) (hz : -1 ≤ z)
    (hF : Calls Tryd.prog 55 #[.string s, .pointer (some ⟨b1, 0, none⟩), .pointer (some ⟨b2, 0, none⟩)] w fun e w1 => e = .returned (.int .i64 z) ∧ Rdr w1 R s ∧ a.grownBy w1 (some R) ∧ X w1) :
    Calls Tryd.prog 50 #[.pointer (some ⟨R, 0, none⟩), .func (.func 55) #[] #[.pointer (some ⟨b1, 0, none⟩), .pointer (some ⟨b2, 0, none⟩)]] w
      fun e w' => e = .returned (.int .i64 (wtE s z)) ∧ Rdr w' R (wtS s z) ∧ a.grownBy w' (some R) ∧ X w' := by
  have c0 : w.cell? ⟨R, 0, none⟩ = some (.string s) := h.cell 0
  have F := Lib.hid hF
  have HX := Lib.hid hX
  clear h hF hX
  by_cases hb : z < 0 ∨ (s.size : Int) < z
  · have E1 : Hid (wtE s z = 4) := Lib.hid (if_pos hb)
    have E2 : Hid (wtS s z = s) := Lib.hid (if_pos hb)
    go_enter Tryd.func50, Tryd.ntmps50
    go_wp2_with fail
    (with_reducible refine F.out.mono ?_)
    rintro e w1 ⟨rfl, hr1, hg1, hx1⟩
    have R1 := Lib.hid hr1
    have G1 := Lib.hid hg1
    have X1 := Lib.hid hx1
    clear hr1 hg1 hx1
    have hb' : z < 0 ∨ (0 ≤ z ∧ (s.size : Int) < z) := by omega
    clear hb
    rcases hb' with h | ⟨h, h'⟩
    · have d1 : decide (z < 0) = true := decide_eq_true h
      go_wp2
      go_ret
      exact ⟨by rw [E1.out]; rfl, by rw [E2.out]; exact R1.out, G1.out, X1.out⟩
    · have d1 : decide (z < 0) = false := by rw [decide_eq_false_iff_not]; omega
      have d2 : decide ((s.size : Int) < z) = true := decide_eq_true h'
      have c1 : w1.cell? ⟨R, 0, none⟩ = some (.string s) := R1.out.cell 0
      go_wp2
      go_ret
      exact ⟨by rw [E1.out]; rfl, by rw [E2.out]; exact R1.out, G1.out, X1.out⟩
  · have E1 : Hid (wtE s z = 0) := Lib.hid (if_neg hb)
    obtain ⟨m, rfl⟩ : ∃ m : Nat, z = (m : Int) := ⟨z.toNat, by omega⟩
    have E2 : Hid (wtS s (m : Int) = s.extract m s.size) := Lib.hid ((if_neg hb).trans (by rw [Int.toNat_natCast]))
    have hms : m ≤ s.size := by omega
    clear hb
    go_enter Tryd.func50, Tryd.ntmps50
    go_wp2_with fail
    (with_reducible refine F.out.mono ?_)
    rintro e w1 ⟨rfl, hr1, hg1, hx1⟩
    have R1 := Lib.hid hr1
    have G1 := Lib.hid hg1
    have X1 := Lib.hid hx1
    clear hr1 hg1 hx1
    have c1 : w1.cell? ⟨R, 0, none⟩ = some (.string s) := R1.out.cell 0
    have f1 : w1.frozen? ⟨R, 0, none⟩ = false := R1.out.frozen 0
    go_wp2
    go_ret
    exact ⟨by rw [E1.out]; rfl, by rw [E2.out]; exact R1.out.set_ 0 _, only_setCell G1.out (p := ⟨R, 0, none⟩) (.inl rfl) _, HX.out _ _ X1.out⟩
theorem wt_uint (s : ByteArray) : wtE s (short (byteAt s) s.size).2 = uintE s ∧ wtS s (short (byteAt s) s.size).2 = uintS s := by
  obtain ⟨_, _, b3⟩ := shG_bound (byteAt s) s.size 11 0 0 (by decide) (by omega)
  change (short (byteAt s) s.size).2 ≤ s.size at b3
  have e : ((short (byteAt s) s.size).2 < 0 ∨ (s.size : Int) < (short (byteAt s) s.size).2) ↔ (short (byteAt s) s.size).2 < 0 := by omega
  simp only [wtE, wtS, uintE, uintS, e]
  exact ⟨trivial, trivial⟩
theorem wt_text (s : ByteArray) (m : Nat) : wtE s (txN s m) = txE s m ∧ wtS s (txN s m) = txS s m := by
  cases hb : txB s m with
  | false =>
    have e1 : txN s m = -1 := by rw [txN, if_neg (by rw [hb]; decide)]
    have e2 : txE s m = 4 := by rw [txE, if_neg (by rw [hb]; decide)]
    have e3 : txS s m = s := by rw [txS, if_neg (by rw [hb]; decide)]
    rw [e1, e2, e3]
    exact ⟨if_pos (Or.inl (by decide)), if_pos (Or.inl (by decide))⟩
  | true =>
    obtain ⟨b1, b2, b3⟩ : 0 ≤ (short (byteAt s) s.size).2 ∧ (short (byteAt s) s.size).1 ≤ m ∧ (short (byteAt s) s.size).1 + (short (byteAt s) s.size).2.toNat ≤ s.size := of_decide_eq_true hb
    have e1 : txN s m = (((short (byteAt s) s.size).2.toNat + (short (byteAt s) s.size).1 : Nat) : Int) := by rw [txN, if_pos hb]
    have e2 : txE s m = 0 := by rw [txE, if_pos hb]
    have e3 : txS s m = s.extract ((short (byteAt s) s.size).2.toNat + (short (byteAt s) s.size).1) s.size := by rw [txS, if_pos hb]
    rw [e1, e2, e3]
    exact ⟨if_neg (by omega), (if_neg (by omega)).trans (by rw [Int.toNat_natCast])⟩
theorem wt_take (s : ByteArray) (k : Nat) : wtE s (k : Int) = takeE s k ∧ wtS s (k : Int) = takeS s k := by
  have e : ((k : Int) < 0 ∨ (s.size : Int) < (k : Int)) ↔ s.size < k := by omega
  simp only [wtE, wtS, takeE, takeS, e, Int.toNat_natCast]
  exact ⟨trivial, trivial⟩
theorem short_lo (s : ByteArray) : -1 ≤ (short (byteAt s) s.size).2 := (shG_bound (byteAt s) s.size 11 0 0 (by decide) (by omega)).2.1
theorem short_64 (s : ByteArray) : (short (byteAt s) s.size).1 < 18446744073709551616 := by
  have h : (short (byteAt s) s.size).1 < 2 ^ 64 := (shG_bound (byteAt s) s.size 11 0 0 (by decide) (by omega)).1
  have e : (2 : Nat) ^ 64 = 18446744073709551616 := by decide
  omega
theorem grown_refl (w : World) (row : Option Nat) : w.grownBy w row := ⟨rfl, rfl, rfl, Nat.le_refl _, fun _ _ _ => rfl⟩
theorem uint_g (s : ByteArray) (R : Nat) (w : World) (h : Rdr w R s) (hs : s.size ≤ 9223372036854775807) :
    Calls Tryd.prog 31 #[.pointer (some ⟨R, 0, none⟩)] w
      fun e w' => e = .returned (.tuple #[.int .u64 ((short (byteAt s) s.size).1 : Int), .int .i64 (uintE s)]) ∧ Rdr w' R (uintS s) ∧ w.grownBy w' (some R) := by
  have hlt := h.lt
  have HB := Lib.hid (Blk.new w 62 #[.int .u64 0])
  have F := uintF_any s w.heap.size _ (w.alloc (.cells #[.int .u64 0] 62)) HB.out hs
  have W := Lib.hid (with_uint s R w.heap.size _ (w.alloc (.cells #[.int .u64 0] 62)) w (fun W => Blk W w.heap.size 62 #[.int .u64 ((short (byteAt s) s.size).1 : Int)]) (fun W v hW => hW.far (p := ⟨R, 0, none⟩) (by show w.heap.size ≠ R; omega) v) (Blk.alloc h _) hs (short_lo s) (F.mono (fun e w1 ⟨he, hw⟩ => ⟨he, by rw [hw]; exact Blk.far (Blk.alloc h _) (p := ⟨w.heap.size, 0, none⟩) (by show R ≠ w.heap.size; omega) _, by rw [hw]; exact only_setCell (only_alloc (grown_refl w (some R)) _) (p := ⟨w.heap.size, 0, none⟩) (.inr (Nat.le_refl _)) _, by rw [hw]; exact HB.out.set_ 0 _⟩)))
  rw [(wt_uint s).1, (wt_uint s).2] at W
  have hmf : ∀ (fn : Fn) (first cap : Array Value) (w : World), (Instr.makeFunc fn first cap).run Tryd.prog w = .ok (.func fn first cap) w := fun _ _ _ _ => rfl
  clear h F
  go_enter Tryd.func31, Tryd.ntmps31
  go_wp2_with fail
  (with_reducible refine W.out.mono ?_)
  rintro e w1 ⟨rfl, hr1, hg1, hb1⟩
  have R1 := Lib.hid hr1
  have G1 := Lib.hid hg1
  have c1 : w1.cell? ⟨w.heap.size, 0, none⟩ = some (.int .u64 ((short (byteAt s) s.size).1 : Int)) := hb1.cell 0
  clear hr1 hg1 hb1 W
  go_wp2
  go_ret2
  exact ⟨rfl, R1.out, G1.out⟩
theorem txN_lo (s : ByteArray) (m : Nat) : -1 ≤ txN s m := by
  unfold txN
  split
  · omega
  · omega
theorem text_g (s : ByteArray) (R m : Nat) (w : World) (h : Rdr w R s) (hs : s.size ≤ 9223372036854775807) (hm : m ≤ 9223372036854775807) :
    Calls Tryd.prog 32 #[.pointer (some ⟨R, 0, none⟩), .int .i64 (m : Int)] w
      fun e w' => e = .returned (.tuple #[.string (txT s m), .int .i64 (txE s m)]) ∧ Rdr w' R (txS s m) ∧ w.grownBy w' (some R) := by
  have hlt := h.lt
  have hmf : ∀ (fn : Fn) (first cap : Array Value) (w : World), (Instr.makeFunc fn first cap).run Tryd.prog w = .ok (.func fn first cap) w := fun _ _ _ _ => rfl
  have HN0 := Blk.new w 3 #[.int .i64 (m : Int)]
  have HN := HN0.alloc (.cells #[.string ⟨#[]⟩] 9)
  have HT := Blk.new (w.alloc (.cells #[.int .i64 (m : Int)] 3)) 9 #[.string ⟨#[]⟩]
  rw [show (w.alloc (.cells #[.int .i64 (m : Int)] 3)).heap.size = w.heap.size + 1 from by simp] at HT
  have HR : Rdr ((w.alloc (.cells #[.int .i64 (m : Int)] 3)).alloc (.cells #[.string ⟨#[]⟩] 9)) R s := (Blk.alloc h _).alloc _
  have HG : w.grownBy ((w.alloc (.cells #[.int .i64 (m : Int)] 3)).alloc (.cells #[.string ⟨#[]⟩] 9)) (some R) := only_alloc (only_alloc (grown_refl w (some R)) _) _
  have W : Hid (Calls Tryd.prog 50 #[.pointer (some ⟨R, 0, none⟩), .func (.func 53) #[] #[.pointer (some ⟨w.heap.size, 0, none⟩), .pointer (some ⟨w.heap.size + 1, 0, none⟩)]] ((w.alloc (.cells #[.int .i64 (m : Int)] 3)).alloc (.cells #[.string ⟨#[]⟩] 9))
      fun e w' => e = .returned (.int .i64 (txE s m)) ∧ Rdr w' R (txS s m) ∧ w.grownBy w' (some R) ∧ Blk w' (w.heap.size + 1) 9 #[.string (txT s m)]) := Lib.hid (by
    rw [← (wt_text s m).1, ← (wt_text s m).2]
    refine with_text s R w.heap.size (w.heap.size + 1) _ _ w (fun W => Blk W (w.heap.size + 1) 9 #[.string (txT s m)]) (fun W v hW => hW.far (p := ⟨R, 0, none⟩) (by show w.heap.size + 1 ≠ R; omega) v) HR hs (txN_lo s m) ?_
    cases hb : txB s m with
    | false =>
      have e1 : txN s m = -1 := by rw [txN, if_neg (by rw [hb]; decide)]
      have e2 : txT s m = ⟨#[]⟩ := by rw [txT, if_neg (by rw [hb]; decide)]; rfl
      rw [e1, e2]
      exact (textF_no s _ _ m _ HN hs hm hb).mono (fun e w1 ⟨he, hw⟩ => ⟨he, by rw [← hw]; exact HR, by rw [← hw]; exact HG, by rw [← hw]; exact HT⟩)
    | true =>
      exact (textF_yes s _ _ m _ _ HN HT hs hm hb).mono (fun e w1 ⟨he, hw⟩ => ⟨he, by rw [hw]; exact Blk.far HR (p := ⟨w.heap.size + 1, 0, none⟩) (by show R ≠ w.heap.size + 1; omega) _, by rw [hw]; exact only_setCell HG (p := ⟨w.heap.size + 1, 0, none⟩) (.inr (Nat.le_succ _)) _, by rw [hw]; exact HT.set_ 0 _⟩))
  have c0 : (w.alloc (.cells #[.int .i64 (m : Int)] 3)).cell? ⟨w.heap.size, 0, none⟩ = some (.int .i64 (m : Int)) := HN0.cell 0
  clear h HN0 HN HT HR HG
  go_enter Tryd.func32, Tryd.ntmps32
  go_wp2_with fail
  (with_reducible refine W.out.mono ?_)
  rintro e w1 ⟨rfl, hr1, hg1, hb1⟩
  have R1 := Lib.hid hr1
  have G1 := Lib.hid hg1
  have c1 : w1.cell? ⟨w.heap.size + 1, 0, none⟩ = some (.string (txT s m)) := hb1.cell 0
  clear hr1 hg1 hb1 W c0
  go_wp2
  go_ret2
  exact ⟨rfl, R1.out, G1.out⟩
theorem fixed_g (s : ByteArray) (R k : Nat) (w : World) (h : Rdr w R s) (hs : s.size ≤ 9223372036854775807) (hk : k ≤ 8) (hk1 : 1 ≤ k) :
    Calls Tryd.prog 41 #[.pointer (some ⟨R, 0, none⟩), .int .i64 (k : Int)] w
      fun e w' => e = .returned (.tuple #[.int .u64 (fixV s k : Int), .int .i64 (takeE s k)]) ∧ Rdr w' R (takeS s k) ∧ w.grownBy w' (some R) := by
  have hlt := h.lt
  have hmf : ∀ (fn : Fn) (first cap : Array Value) (w : World), (Instr.makeFunc fn first cap).run Tryd.prog w = .ok (.func fn first cap) w := fun _ _ _ _ => rfl
  have HN0 := Blk.new w 3 #[.int .i64 (k : Int)]
  have HN := HN0.alloc (.cells #[.int .u64 0] 62)
  have HT := Blk.new (w.alloc (.cells #[.int .i64 (k : Int)] 3)) 62 #[.int .u64 0]
  rw [show (w.alloc (.cells #[.int .i64 (k : Int)] 3)).heap.size = w.heap.size + 1 from by simp] at HT
  have HR : Rdr ((w.alloc (.cells #[.int .i64 (k : Int)] 3)).alloc (.cells #[.int .u64 0] 62)) R s := (Blk.alloc h _).alloc _
  have HG : w.grownBy ((w.alloc (.cells #[.int .i64 (k : Int)] 3)).alloc (.cells #[.int .u64 0] 62)) (some R) := only_alloc (only_alloc (grown_refl w (some R)) _) _
  have W : Hid (Calls Tryd.prog 50 #[.pointer (some ⟨R, 0, none⟩), .func (.func 55) #[] #[.pointer (some ⟨w.heap.size, 0, none⟩), .pointer (some ⟨w.heap.size + 1, 0, none⟩)]] ((w.alloc (.cells #[.int .i64 (k : Int)] 3)).alloc (.cells #[.int .u64 0] 62))
      fun e w' => e = .returned (.int .i64 (takeE s k)) ∧ Rdr w' R (takeS s k) ∧ w.grownBy w' (some R) ∧ Blk w' (w.heap.size + 1) 62 #[.int .u64 (fixV s k : Int)]) := Lib.hid (by
    rw [← (wt_take s k).1, ← (wt_take s k).2]
    refine with_fixed s R w.heap.size (w.heap.size + 1) _ _ w (fun W => Blk W (w.heap.size + 1) 62 #[.int .u64 (fixV s k : Int)]) (fun W v hW => hW.far (p := ⟨R, 0, none⟩) (by show w.heap.size + 1 ≠ R; omega) v) HR hs (by omega) ?_
    exact (fixF_any s _ _ k _ HN HT hs hk).mono (fun e w1 ⟨he, h1, h2, h3⟩ => ⟨he, (h2 R (by omega) (by simp; omega)).trans HR, ⟨(h3 (w.heap.size + 1) (Nat.le_refl _)).os.trans HG.os, (h3 (w.heap.size + 1) (Nat.le_refl _)).tape.trans HG.tape, (h3 (w.heap.size + 1) (Nat.le_refl _)).output.trans HG.output, Nat.le_trans HG.size (h3 0 (Nat.zero_le _)).size, fun g hg hne => (h2 g (by omega) (by simp; omega)).trans (HG.block g hg hne)⟩, h1⟩))
  have c0 : (w.alloc (.cells #[.int .i64 (k : Int)] 3)).cell? ⟨w.heap.size, 0, none⟩ = some (.int .i64 (k : Int)) := HN0.cell 0
  clear h HN0 HN HT HR HG
  go_enter Tryd.func41, Tryd.ntmps41
  go_wp2_with fail
  (with_reducible refine W.out.mono ?_)
  rintro e w1 ⟨rfl, hr1, hg1, hb1⟩
  have R1 := Lib.hid hr1
  have G1 := Lib.hid hg1
  have c1 : w1.cell? ⟨w.heap.size + 1, 0, none⟩ = some (.int .u64 (fixV s k : Int)) := hb1.cell 0
  clear hr1 hg1 hb1 W c0
  go_wp2
  go_ret2
  exact ⟨rfl, R1.out, G1.out⟩
end Go.Proofs.YtpfccicahfncbaaDoor
namespace Go.Proofs.YtpfccicahfncbaaDoor
open Go.RowKit Wir
set_option linter.unusedVariables false
set_option linter.unusedSimpArgs false
/-- A world that differs from another one in two blocks and in new ones. -/
def Grow2 (w w' : World) (R kb : Nat) : Prop := ∃ w1, w.grownBy w1 (some R) ∧ w1.grownBy w' (some kb)
theorem Grow2.blk {w w' : World} {R kb g : Nat} {t : TypeId} {cs : Array Value} (h : Grow2 w w' R kb) (hb : Blk w g t cs) (h1 : g ≠ R) (h2 : g ≠ kb) : Blk w' g t cs := by
  obtain ⟨w1, g1, g2⟩ := h
  exact (hb.grown g1 (by intro e; injection e with e; exact h1 e)).grown g2 (by intro e; injection e with e; exact h2 e)
theorem Grow2.below {a w w' : World} {B R kb : Nat} (h : Grow2 w w' R kb) (hb : Below B a w) (hs : B ≤ w.heap.size) (h1 : B ≤ R) (h2 : B ≤ kb) : Below B a w' := by
  obtain ⟨w1, g1, g2⟩ := h
  exact (hb.grown g1 hs (fun k e => by injection e with e; omega)).grown g2 (Nat.le_trans hs g1.size) (fun k e => by injection e with e; omega)
theorem Grow2.size {w w' : World} {R kb : Nat} (h : Grow2 w w' R kb) : w.heap.size ≤ w'.heap.size := by
  obtain ⟨w1, g1, g2⟩ := h
  exact Nat.le_trans g1.size g2.size
theorem Grow2.own {w w' : World} {base n size R kb : Nat} {e : TypeId} {v : Value} {xs : List Value} (h : Grow2 w w' R kb) (ho : w.ownsRow base e size v n xs) (h1 : R < base) (h2 : kb < base) : w'.ownsRow base e size v n xs := by
  obtain ⟨w1, g1, g2⟩ := h
  have hne : ∀ g, g < base → v.ownBlock = none ∨ v.ownBlock ≠ some g := fun g hg => by
    rcases ho.2 with ⟨rfl, _⟩ | ⟨g', cap, cur, rfl, hb, _⟩
    · exact .inl rfl
    · right; show some g' ≠ some g; intro e; injection e with e; omega
  exact (ho.kept g1 (hne R h1)).kept g2 (hne kb h2)
/-- The reader's box, the reader, and whether all went well. -/
structure RS (w : World) (rb R kb : Nat) (s : ByteArray) (ok : Bool) : Prop where
  rp : Blk w rb 65 #[.pointer (some ⟨R, 0, none⟩)]
  rd : Rdr w R s
  ok : Blk w kb 4 #[.bool ok]
  n1 : rb ≠ R
  n2 : rb ≠ kb
  n3 : kb ≠ R
set_option maxRecDepth 100000 in
theorem numF_any (m : Nat) (s : ByteArray) (ok : Bool) (rb R kb : Nat) (w : World) (h : RS w rb R kb s ok) (hs : s.size ≤ 9223372036854775807) (hm : m < 18446744073709551616) :
    Calls Tryd.prog 39 #[.int .u64 (m : Int), .pointer (some ⟨rb, 0, none⟩), .pointer (some ⟨kb, 0, none⟩)] w
      fun e w' => e = .returned (.int .u64 ((short (byteAt s) s.size).1 : Int)) ∧ RS w' rb R kb (uintS s) (ok && (decide (uintE s = 0) && decide ((short (byteAt s) s.size).1 ≤ m))) ∧ Grow2 w w' R kb := by
  have c0 : w.cell? ⟨rb, 0, none⟩ = some (.pointer (some ⟨R, 0, none⟩)) := h.rp.cell 0
  have U := Lib.hid (uint_g s R w h.rd hs)
  have H := Lib.hid h
  have h64 := short_64 s
  clear h
  go_enter Tryd.func39, Tryd.ntmps39
  go_wp2_with fail
  (with_reducible refine U.out.mono ?_)
  rintro e w1 ⟨rfl, hr1, hg1⟩
  have H1 : Hid (Blk w1 rb 65 #[.pointer (some ⟨R, 0, none⟩)] ∧ Rdr w1 R (uintS s) ∧ Blk w1 kb 4 #[.bool ok] ∧ w.grownBy w1 (some R)) := Lib.hid ⟨H.out.rp.grown hg1 (by intro e; injection e with e; exact H.out.n1 e), hr1, H.out.ok.grown hg1 (by intro e; injection e with e; exact H.out.n3 e), hg1⟩
  clear hr1 hg1 U c0
  have k0 : w1.cell? ⟨kb, 0, none⟩ = some (.bool ok) := H1.out.2.2.1.cell 0
  have f0 : w1.frozen? ⟨kb, 0, none⟩ = false := H1.out.2.2.1.frozen 0
  have HF : Hid (∀ b : Bool, RS (w1.setCell ⟨kb, 0, none⟩ (.bool b)) rb R kb (uintS s) b ∧ Grow2 w (w1.setCell ⟨kb, 0, none⟩ (.bool b)) R kb) := Lib.hid (fun b => ⟨⟨H1.out.1.far (p := ⟨kb, 0, none⟩) H.out.n2 _, H1.out.2.1.far (p := ⟨kb, 0, none⟩) (fun e => H.out.n3 e.symm) _, H1.out.2.2.1.set_ 0 _, H.out.n1, H.out.n2, H.out.n3⟩, ⟨w1, H1.out.2.2.2, only_setCell (grown_refl w1 (some kb)) (p := ⟨kb, 0, none⟩) (.inl rfl) _⟩⟩)
  obtain ⟨n, hn⟩ : ∃ n, (short (byteAt s) s.size).1 = n := ⟨_, rfl⟩
  rw [hn] at h64 ⊢
  have HN := Lib.hid hn
  clear hn
  cases ok with
  | false =>
    go_wp2
    go_ret
    exact ⟨by rw [HN.out]; rfl, by rw [Bool.false_and]; exact (HF.out false).1, (HF.out false).2⟩
  | true =>
    by_cases he : uintE s = 0
    · have E : Hid ((true && (decide (uintE s = 0) && decide (n ≤ m))) = decide (n ≤ m)) := Lib.hid (by rw [decide_eq_true he]; rfl)
      rw [he]
      clear he
      go_wp2
      go_ret
      exact ⟨by rw [HN.out]; rfl, by rw [HN.out, E.out]; exact (HF.out _).1, (HF.out _).2⟩
    · have d1 : (uintE s == 0) = false := by rw [beq_eq_false_iff_ne]; exact he
      have E : Hid ((true && (decide (uintE s = 0) && decide (n ≤ m))) = false) := Lib.hid (by rw [decide_eq_false he]; rfl)
      clear he
      go_wp2
      go_ret
      exact ⟨by rw [HN.out]; rfl, by rw [HN.out, E.out]; exact (HF.out false).1, (HF.out false).2⟩
set_option maxRecDepth 100000 in
theorem txtF_any (m : Nat) (s : ByteArray) (ok : Bool) (rb R kb : Nat) (w : World) (h : RS w rb R kb s ok) (hs : s.size ≤ 9223372036854775807) (hm : m ≤ 9223372036854775807) :
    Calls Tryd.prog 40 #[.int .i64 (m : Int), .pointer (some ⟨rb, 0, none⟩), .pointer (some ⟨kb, 0, none⟩)] w
      fun e w' => e = .returned (.string (txT s m)) ∧ RS w' rb R kb (txS s m) (ok && txB s m) ∧ Grow2 w w' R kb := by
  have c0 : w.cell? ⟨rb, 0, none⟩ = some (.pointer (some ⟨R, 0, none⟩)) := h.rp.cell 0
  have U := Lib.hid (text_g s R m w h.rd hs hm)
  have H := Lib.hid h
  clear h
  go_enter Tryd.func40, Tryd.ntmps40
  go_wp2_with fail
  (with_reducible refine U.out.mono ?_)
  rintro e w1 ⟨rfl, hr1, hg1⟩
  have H1 : Hid (Blk w1 rb 65 #[.pointer (some ⟨R, 0, none⟩)] ∧ Rdr w1 R (txS s m) ∧ Blk w1 kb 4 #[.bool ok] ∧ w.grownBy w1 (some R)) := Lib.hid ⟨H.out.rp.grown hg1 (by intro e; injection e with e; exact H.out.n1 e), hr1, H.out.ok.grown hg1 (by intro e; injection e with e; exact H.out.n3 e), hg1⟩
  clear hr1 hg1 U c0
  have k0 : w1.cell? ⟨kb, 0, none⟩ = some (.bool ok) := H1.out.2.2.1.cell 0
  have f0 : w1.frozen? ⟨kb, 0, none⟩ = false := H1.out.2.2.1.frozen 0
  have HF : Hid (∀ b : Bool, RS (w1.setCell ⟨kb, 0, none⟩ (.bool b)) rb R kb (txS s m) b ∧ Grow2 w (w1.setCell ⟨kb, 0, none⟩ (.bool b)) R kb) := Lib.hid (fun b => ⟨⟨H1.out.1.far (p := ⟨kb, 0, none⟩) H.out.n2 _, H1.out.2.1.far (p := ⟨kb, 0, none⟩) (fun e => H.out.n3 e.symm) _, H1.out.2.2.1.set_ 0 _, H.out.n1, H.out.n2, H.out.n3⟩, ⟨w1, H1.out.2.2.2, only_setCell (grown_refl w1 (some kb)) (p := ⟨kb, 0, none⟩) (.inl rfl) _⟩⟩)
  cases ok with
  | false =>
    go_wp2
    go_ret
    exact ⟨rfl, by rw [Bool.false_and]; exact (HF.out false).1, (HF.out false).2⟩
  | true =>
    cases hb : txB s m with
    | true =>
      have E : Hid (txE s m = 0) := Lib.hid (by rw [txE, if_pos hb])
      have EB := Lib.hid hb
      clear hb
      rw [E.out]
      go_wp2
      go_ret
      exact ⟨rfl, by rw [EB.out]; exact (HF.out true).1, (HF.out true).2⟩
    | false =>
      have E : Hid (txE s m = 4) := Lib.hid (by rw [txE, if_neg (by rw [hb]; decide)])
      have EB := Lib.hid hb
      clear hb
      rw [E.out]
      go_wp2
      go_ret
      exact ⟨rfl, by rw [EB.out]; exact (HF.out false).1, (HF.out false).2⟩
end Go.Proofs.YtpfccicahfncbaaDoor
