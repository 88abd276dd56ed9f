/- Walks: wire's Reader: Text, End; wire.PutText. -/
import Derived.Test.YtpfccicahfncbaaDoorTkP
import Derived.Test.YtpfccicahfncbaaDoorShort
import Derived.Test.YtpfccicahfncbaaDoorPut
namespace Go.Proofs.YtpfccicahfncbaaDoor
open Go.RowKit Wir
set_option linter.unusedVariables false
set_option linter.unusedSimpArgs false
/-- Is a text with its length ahead of it at the front, of at most so many bytes? -/
def txB (s : ByteArray) (m : Nat) : Bool := decide (0 ≤ (short (byteAt s) s.size).2 ∧ (short (byteAt s) s.size).1 ≤ m ∧ (short (byteAt s) s.size).1 + (short (byteAt s) s.size).2.toNat ≤ s.size)
def txT (s : ByteArray) (m : Nat) : ByteArray := if txB s m = true then s.extract (short (byteAt s) s.size).2.toNat ((short (byteAt s) s.size).2.toNat + (short (byteAt s) s.size).1) else ByteArray.empty
def txE (s : ByteArray) (m : Nat) : Int := if txB s m = true then 0 else 4
def txS (s : ByteArray) (m : Nat) : ByteArray := if txB s m = true then s.extract ((short (byteAt s) s.size).2.toNat + (short (byteAt s) s.size).1) s.size else s
/-- What the closure tells: how many bytes are taken. -/
def txN (s : ByteArray) (m : Nat) : Int := if txB s m = true then (((short (byteAt s) s.size).2.toNat + (short (byteAt s) s.size).1 : Nat) : Int) else -1
theorem textF_no (s : ByteArray) (mb tb m : Nat) (w : World) (hm : Blk w mb 3 #[.int .i64 (m : Int)]) (hs : s.size ≤ 9223372036854775807) (hm2 : m ≤ 9223372036854775807) (hb : txB s m = false) :
    Calls Tryd.prog 53 #[.string s, .pointer (some ⟨mb, 0, none⟩), .pointer (some ⟨tb, 0, none⟩)] w fun e w' => e = .returned (.int .i64 (-1)) ∧ w = w' := by
  have c1 : w.cell? ⟨mb, 0, none⟩ = some (.int .i64 (m : Int)) := hm.cell 0
  have C := Lib.hid (short_any s w hs)
  obtain ⟨b1, b2, b3⟩ := shG_bound (byteAt s) s.size 11 0 0 (by decide) (by omega)
  have hb' : ¬ (0 ≤ (short (byteAt s) s.size).2 ∧ (short (byteAt s) s.size).1 ≤ m ∧ (short (byteAt s) s.size).1 + (short (byteAt s) s.size).2.toNat ≤ s.size) := of_decide_eq_false hb
  change (short (byteAt s) s.size).1 < 2 ^ 64 at b1
  change -1 ≤ (short (byteAt s) s.size).2 at b2
  change (short (byteAt s) s.size).2 ≤ s.size at b3
  generalize short (byteAt s) s.size = p at *
  obtain ⟨n, z⟩ := p
  dsimp only at b1 b2 b3 hb' C
  clear hb hm
  by_cases hz : z < 0
  · obtain rfl : z = -1 := by omega
    clear hb' b1
    go_enter Tryd.func53, Tryd.ntmps53
    go_wp2_with fail
    (with_reducible refine C.out.mono ?_)
    rintro e w' ⟨rfl, rfl⟩
    go_wp2
    go_ret
    exact ⟨rfl, rfl⟩
  · obtain ⟨k, rfl⟩ : ∃ k : Nat, z = (k : Int) := ⟨z.toNat, by omega⟩
    rw [Int.toNat_natCast] at hb'
    have hn64 : n ≤ 18446744073709551615 := by
      have : (2 : Nat) ^ 64 = 18446744073709551616 := by decide
      omega
    clear b1
    by_cases hnm : n ≤ m
    · have hle : s.size < n + k := by omega
      have hks : k ≤ s.size := by omega
      have d1 : decide ((m : Int) < (n : Int)) = false := by rw [decide_eq_false_iff_not]; omega
      have d2 : decide ((s.size : Int) - (k : Int) < (n : Int)) = true := by rw [decide_eq_true_eq]; omega
      clear hb' hz b2 b3
      go_enter Tryd.func53, Tryd.ntmps53
      go_wp2_with fail
      (with_reducible refine C.out.mono ?_)
      rintro e w' ⟨rfl, rfl⟩
      go_wp2
      go_ret
      exact ⟨rfl, rfl⟩
    · have d1 : decide ((m : Int) < (n : Int)) = true := by rw [decide_eq_true_eq]; omega
      clear hb' hz b2 b3
      go_enter Tryd.func53, Tryd.ntmps53
      go_wp2_with fail
      (with_reducible refine C.out.mono ?_)
      rintro e w' ⟨rfl, rfl⟩
      go_wp2
      go_ret
      exact ⟨rfl, rfl⟩
theorem textF_yes (s : ByteArray) (mb tb m : Nat) (v : Value) (w : World) (hm : Blk w mb 3 #[.int .i64 (m : Int)]) (h : Blk w tb 9 #[v]) (hs : s.size ≤ 9223372036854775807) (hm2 : m ≤ 9223372036854775807) (hb : txB s m = true) :
    Calls Tryd.prog 53 #[.string s, .pointer (some ⟨mb, 0, none⟩), .pointer (some ⟨tb, 0, none⟩)] w fun e w' => e = .returned (.int .i64 (txN s m)) ∧ w' = w.setCell ⟨tb, 0, none⟩ (.string (txT s m)) := by
  have c0 : w.cell? ⟨tb, 0, none⟩ = some v := h.cell 0
  have f0 : w.frozen? ⟨tb, 0, none⟩ = false := h.frozen 0
  have c1 : w.cell? ⟨mb, 0, none⟩ = some (.int .i64 (m : Int)) := hm.cell 0
  have C := Lib.hid (short_any s w hs)
  obtain ⟨b1, b2, b3⟩ : 0 ≤ (short (byteAt s) s.size).2 ∧ (short (byteAt s) s.size).1 ≤ m ∧ (short (byteAt s) s.size).1 + (short (byteAt s) s.size).2.toNat ≤ s.size := of_decide_eq_true hb
  rw [txN, if_pos hb, txT, if_pos hb]
  generalize short (byteAt s) s.size = p at *
  obtain ⟨n, z⟩ := p
  dsimp only at b1 b2 b3 C ⊢
  obtain ⟨k, rfl⟩ : ∃ k : Nat, z = (k : Int) := ⟨z.toNat, by omega⟩
  rw [Int.toNat_natCast] at b3 ⊢
  have d0 : decide ((k : Int) < 0) = false := by rw [decide_eq_false_iff_not]; omega
  have d1 : decide ((m : Int) < (n : Int)) = false := by rw [decide_eq_false_iff_not]; omega
  have d2 : decide ((s.size : Int) - (k : Int) < (n : Int)) = false := by rw [decide_eq_false_iff_not]; omega
  clear hb hm h b1
  go_enter Tryd.func53, Tryd.ntmps53
  go_wp2_with fail
  (with_reducible refine C.out.mono ?_)
  rintro e w' ⟨rfl, rfl⟩
  go_wp2
  go_ret
  exact ⟨rfl, rfl⟩
theorem withText_any (s : ByteArray) (R mb tb m : Nat) (w : World) (h : Rdr w R s) (hmb : Blk w mb 3 #[.int .i64 (m : Int)]) (htb : Blk w tb 9 #[.string ⟨#[]⟩]) (hs : s.size ≤ 9223372036854775807) (hm2 : m ≤ 9223372036854775807) :
    Calls Tryd.prog 50 #[.pointer (some ⟨R, 0, none⟩), .func (.func 53) #[] #[.pointer (some ⟨mb, 0, none⟩), .pointer (some ⟨tb, 0, none⟩)]] w
      fun e w' => e = .returned (.int .i64 (txE s m)) ∧ Rdr w' R (txS s m) ∧ Blk w' tb 9 #[.string (txT s m)] ∧ ∀ B, B ≤ R → B ≤ tb → Below B w w' := by
  have c0 : w.cell? ⟨R, 0, none⟩ = some (.string s) := h.cell 0
  have hne : R ≠ tb := Blk.ne_ h htb (by decide)
  have H := Lib.hid h
  have HB := Lib.hid htb
  cases hb : txB s m with
  | false =>
    have F := Lib.hid (textF_no s mb tb m w hmb hs hm2 hb)
    have E1' : Hid (txE s m = 4) := Lib.hid (by rw [txE, if_neg (by rw [hb]; decide)])
    have E2' : Hid (txS s m = s) := Lib.hid (by rw [txS, if_neg (by rw [hb]; decide)])
    have E3' : Hid (txT s m = ⟨#[]⟩) := Lib.hid (by rw [txT, if_neg (by rw [hb]; decide)]; rfl)
    clear h hmb htb hb
    go_enter Tryd.func50, Tryd.ntmps50
    go_wp2_with fail
    (with_reducible refine F.out.mono ?_)
    rintro e w1 ⟨rfl, rfl⟩
    go_wp2
    go_ret
    exact ⟨by rw [E1'.out]; rfl, by rw [E2'.out]; exact H.out, by rw [E3'.out]; exact HB.out, fun B _ _ => Below.refl _ _⟩
  | true =>
    have F := Lib.hid (textF_yes s mb tb m _ w hmb htb hs hm2 hb)
    have E1' : Hid (txE s m = 0) := Lib.hid (by rw [txE, if_pos hb])
    have E2' : Hid (txS s m = s.extract ((short (byteAt s) s.size).2.toNat + (short (byteAt s) s.size).1) s.size) := Lib.hid (by rw [txS, if_pos hb])
    obtain ⟨b1, b2, b3⟩ : 0 ≤ (short (byteAt s) s.size).2 ∧ (short (byteAt s) s.size).1 ≤ m ∧ (short (byteAt s) s.size).1 + (short (byteAt s) s.size).2.toNat ≤ s.size := of_decide_eq_true hb
    rw [txN, if_pos hb] at F
    obtain ⟨k, hk⟩ : ∃ k, (short (byteAt s) s.size).2.toNat + (short (byteAt s) s.size).1 = k := ⟨_, rfl⟩
    rw [hk] at F E2'
    have hks : k ≤ s.size := by omega
    clear h hmb htb hb hk b1 b2 b3
    go_enter Tryd.func50, Tryd.ntmps50
    go_wp2_with fail
    (with_reducible refine F.out.mono ?_)
    rintro e w1 ⟨rfl, hw1⟩
    have R1 : Hid (Rdr w1 R s) := Lib.hid (by rw [hw1]; exact H.out.far (p := ⟨tb, 0, none⟩) (by show R ≠ tb; exact hne) _)
    have B1 : Hid (Blk w1 tb 9 #[.string (txT s m)]) := Lib.hid (by rw [hw1]; exact HB.out.set_ 0 _)
    have L1 : Hid (∀ B, B ≤ R → B ≤ tb → Below B w w1) := Lib.hid (fun B h1 h2 => by rw [hw1]; exact (Below.refl _ _).setCell h2 _)
    clear hw1
    have c1 : w1.cell? ⟨R, 0, none⟩ = some (.string s) := R1.out.cell 0
    have f1 : w1.frozen? ⟨R, 0, none⟩ = false := R1.out.frozen 0
    go_wp2
    go_ret
    exact ⟨by rw [E1'.out]; rfl, by rw [E2'.out]; exact R1.out.set_ 0 _, B1.out.far (p := ⟨R, 0, none⟩) (by show tb ≠ R; omega) _, fun B h1 h2 => (L1.out B h1 h2).setCell h1 _⟩
theorem rtxt_any (s : ByteArray) (R m : Nat) (w : World) (h : Rdr w R s) (hs : s.size ≤ 9223372036854775807) (hm : m ≤ 9223372036854775807) :
    Calls Tryd.prog 32 #[.pointer (some ⟨R, 0, none⟩), .int .i64 (m : Int)] w
      fun e w' => e = .returned (.tuple #[.string (txT s m), .int .i64 (txE s m)]) ∧ Rdr w' R (txS s m) ∧ ∀ B, B ≤ R → Below B w w' := by
  have hlt := h.lt
  have hmf : ∀ (fn : Fn) (first cap : Array Value) (w : World), (Instr.makeFunc fn first cap).run Tryd.prog w = .ok (.func fn first cap) w := fun _ _ _ _ => rfl
  have HN0 := Blk.new w 3 #[.int .i64 (m : Int)]
  have HN := Lib.hid (HN0.alloc (.cells #[.string ⟨#[]⟩] 9))
  have HT0 := Blk.new (w.alloc (.cells #[.int .i64 (m : Int)] 3)) 9 #[.string ⟨#[]⟩]
  rw [show (w.alloc (.cells #[.int .i64 (m : Int)] 3)).heap.size = w.heap.size + 1 from by simp] at HT0
  have HT := Lib.hid HT0
  have H : Hid (Rdr ((w.alloc (.cells #[.int .i64 (m : Int)] 3)).alloc (.cells #[.string ⟨#[]⟩] 9)) R s) := Lib.hid ((Blk.alloc h _).alloc _)
  have B0 : Hid (∀ B, B ≤ R → Below B w ((w.alloc (.cells #[.int .i64 (m : Int)] 3)).alloc (.cells #[.string ⟨#[]⟩] 9))) := Lib.hid (fun B hB => ((Below.refl _ _).alloc (by omega) _).alloc (by simp; omega) _)
  have c0 : (w.alloc (.cells #[.int .i64 (m : Int)] 3)).cell? ⟨w.heap.size, 0, none⟩ = some (.int .i64 (m : Int)) := HN0.cell 0
  clear h HN0 HT0
  go_enter Tryd.func32, Tryd.ntmps32
  go_wp2_with fail
  refine (withText_any s R w.heap.size (w.heap.size + 1) m _ H.out HN.out HT.out hs hm).mono ?_
  rintro e w1 ⟨rfl, hr1, hb1, hl1⟩
  have R1 := Lib.hid hr1
  have L1 : Hid (∀ B, B ≤ R → Below B w w1) := Lib.hid (fun B hB => (B0.out B hB).trans (hl1 B hB (by omega)))
  have c1 : w1.cell? ⟨w.heap.size + 1, 0, none⟩ = some (.string (txT s m)) := hb1.cell 0
  clear hr1 hl1 hb1 c0
  go_wp2
  go_ret2
  exact ⟨rfl, R1.out, L1.out⟩
def endE (s : ByteArray) : Int := if s.size = 0 then 0 else 4
theorem rend_any (s : ByteArray) (R : Nat) (w : World) (h : Rdr w R s) :
    Calls Tryd.prog 34 #[.pointer (some ⟨R, 0, none⟩)] w fun e w' => e = .returned (.int .i64 (endE s)) ∧ w = w' := by
  have c0 : w.cell? ⟨R, 0, none⟩ = some (.string s) := h.cell 0
  by_cases h0 : s.size = 0
  · have E : Hid (endE s = 0) := Lib.hid (if_pos h0)
    have ht : s.toList = [] := by rw [ByteArray.toList_eq, List.eq_nil_iff_length_eq_zero]; simpa using h0
    have ht2 : (!s.toList.isEmpty) = false := by rw [ht]; rfl
    go_enter Tryd.func34, Tryd.ntmps34
    go_wp2
    go_ret
    exact ⟨by rw [E.out]; rfl, rfl⟩
  · have E : Hid (endE s = 4) := Lib.hid (if_neg h0)
    have ht2 : s.toList.isEmpty = false := by
      rw [ByteArray.toList_eq, List.isEmpty_eq_false_iff, ne_eq, List.eq_nil_iff_length_eq_zero]; simpa using h0
    go_enter Tryd.func34, Tryd.ntmps34
    go_wp2
    go_ret
    exact ⟨by rw [E.out]; rfl, rfl⟩
def txL (t : ByteArray) : ByteArray := bs (putL t.size) ++ t
theorem putText_any (s t : ByteArray) (w : World) (hs : s.size ≤ 2305843009213693952) (ht : t.size ≤ 2305843009213693952) :
    Calls Tryd.prog 26 #[.string s, .string t] w fun e w' => e = .returned (.string (s ++ txL t)) ∧ Below w.heap.size w w' := by
  have C := Lib.hid (put_any s t.size w (by omega) (by omega))
  have E : Hid (s ++ txL t = s ++ bs (putL t.size) ++ t) := Lib.hid (by rw [txL, ByteArray.append_assoc])
  have hl := putN_length 9 t.size
  have hz : (s ++ bs (putL t.size)).size ≤ 2305843009213693962 := by rw [ByteArray.size_append, bs_size]; show _ + (putN 9 t.size).length ≤ _; omega
  generalize s ++ bs (putL t.size) = u at *
  clear hl
  go_enter Tryd.func26, Tryd.ntmps26
  go_wp2_with fail
  (with_reducible refine C.out.mono ?_)
  rintro e w1 ⟨rfl, hb⟩
  have HB := Lib.hid hb
  clear hb C
  go_wp2
  go_ret
  exact ⟨by rw [E.out]; rfl, HB.out⟩
end Go.Proofs.YtpfccicahfncbaaDoor
