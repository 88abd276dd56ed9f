/- Walks: wire's Reader: New, Left, Uint, Take. -/
import Derived.Test.YtpfccicahfncbaaDoorShort
namespace Go.Proofs.YtpfccicahfncbaaDoor
open Go.RowKit Wir
set_option linter.unusedVariables false
/-- A reader with so much left. -/
def Rdr (w : World) (R : Nat) (s : ByteArray) : Prop := Blk w R 89 #[.string s]
theorem newReader_any (s : ByteArray) (w : World) :
    Calls Tryd.prog 30 #[.string s] w fun e w' => e = .returned (.pointer (some ⟨w.heap.size, 0, none⟩)) ∧ Rdr w' w.heap.size s ∧ Below w.heap.size w w' := by
  go_enter Tryd.func30, Tryd.ntmps30
  go_wp2
  go_ret
  exact ⟨rfl, Blk.new _ _ _, (Below.refl _ _).alloc (Nat.le_refl _) _⟩
theorem left_any (s : ByteArray) (R : Nat) (w : World) (h : Rdr w R s) (hs : s.size ≤ 9223372036854775807) :
    Calls Tryd.prog 33 #[.pointer (some ⟨R, 0, none⟩)] w fun e w' => e = .returned (.int .i64 (s.size : Int)) ∧ w = w' := by
  have c0 : w.cell? ⟨R, 0, none⟩ = some (.string s) := h.cell 0
  go_enter Tryd.func33, Tryd.ntmps33
  go_wp2
  go_ret
  exact ⟨rfl, rfl⟩
theorem uintF_any (s : ByteArray) (b : Nat) (v : Value) (w : World) (h : Blk w b 62 #[v]) (hs : s.size ≤ 9223372036854775807) :
    Calls Tryd.prog 51 #[.string s, .pointer (some ⟨b, 0, none⟩)] w fun e w' => e = .returned (.int .i64 (short (byteAt s) s.size).2) ∧ w' = w.setCell ⟨b, 0, none⟩ (.int .u64 ((short (byteAt s) s.size).1 : Int)) := by
  have c0 : w.cell? ⟨b, 0, none⟩ = some v := h.cell 0
  have f0 : w.frozen? ⟨b, 0, none⟩ = false := h.frozen 0
  go_enter Tryd.func51, Tryd.ntmps51
  go_wp2_with fail
  refine (short_any s _ hs).mono ?_; rintro e w' ⟨rfl, rfl⟩
  obtain ⟨q, hq⟩ : ∃ q, short (byteAt s) s.size = q := ⟨_, rfl⟩
  obtain ⟨a, k⟩ := q
  rw [hq]
  have EQ := Lib.hid hq
  clear hq
  go_wp2
  go_ret
  exact ⟨by rw [EQ.out]; rfl, by rw [EQ.out]⟩
/-- What Uint answers, and what is left behind it. -/
def uintE (s : ByteArray) : Int := if (short (byteAt s) s.size).2 < 0 then 4 else 0
def uintS (s : ByteArray) : ByteArray := if (short (byteAt s) s.size).2 < 0 then s else s.extract (short (byteAt s) s.size).2.toNat s.size
theorem withUint_any (s : ByteArray) (R b : Nat) (v : Value) (w : World) (h : Rdr w R s) (hb : Blk w b 62 #[v]) (hs : s.size ≤ 9223372036854775807) :
    Calls Tryd.prog 50 #[.pointer (some ⟨R, 0, none⟩), .func (.func 51) #[] #[.pointer (some ⟨b, 0, none⟩)]] w
      fun e w' => e = .returned (.int .i64 (uintE s)) ∧ Rdr w' R (uintS s) ∧ Blk w' b 62 #[.int .u64 ((short (byteAt s) s.size).1 : Int)] ∧ ∀ B, B ≤ R → B ≤ b → Below B w w' := by
  have c0 : w.cell? ⟨R, 0, none⟩ = some (.string s) := h.cell 0
  have hne : R ≠ b := Blk.ne_ h hb (by decide)
  have H := Lib.hid h
  have HB := Lib.hid hb
  have SB := shG_bound (byteAt s) s.size 11 0 0 (by decide) (by omega)
  have S1 : -1 ≤ (short (byteAt s) s.size).2 := SB.2.1
  have S2 : (short (byteAt s) s.size).2 ≤ s.size := SB.2.2
  clear SB h hb
  go_enter Tryd.func50, Tryd.ntmps50
  go_wp2_with fail
  refine (uintF_any s b v _ HB.out hs).mono ?_
  obtain ⟨q, hq⟩ : ∃ q, short (byteAt s) s.size = q := ⟨_, rfl⟩
  rw [hq] at S1 S2 ⊢
  have E1 : Hid (uintE s = if q.2 < 0 then 4 else 0) := Lib.hid (by unfold uintE; rw [hq])
  have E2 : Hid (uintS s = if q.2 < 0 then s else s.extract q.2.toNat s.size) := Lib.hid (by unfold uintS; rw [hq])
  have EQ := Lib.hid hq
  clear hq
  obtain ⟨a, k⟩ := q
  rintro e w1 ⟨rfl, hw1⟩
  have R1 : Hid (Rdr w1 R s) := Lib.hid (by rw [hw1]; exact H.out.far (p := ⟨b, 0, none⟩) (by show R ≠ b; exact hne) _)
  have B1 : Hid (Blk w1 b 62 #[.int .u64 (a : Int)]) := Lib.hid (by rw [hw1]; exact HB.out.set_ 0 _)
  have L1 : Hid (∀ B, B ≤ R → B ≤ b → Below B w w1) := Lib.hid (fun B h1 h2 => by rw [hw1]; exact (Below.refl _ _).setCell h2 _)
  clear hw1
  have c1 : w1.cell? ⟨R, 0, none⟩ = some (.string s) := R1.out.cell 0
  have f1 : w1.frozen? ⟨R, 0, none⟩ = false := R1.out.frozen 0
  by_cases hk : k < 0
  · have E1' : Hid (uintE s = 4) := Lib.hid (by rw [E1.out, if_pos hk])
    have E2' : Hid (uintS s = s) := Lib.hid (by rw [E2.out, if_pos hk])
    go_wp2
    go_ret
    exact ⟨by rw [E1'.out]; rfl, by rw [E2'.out]; exact R1.out, by rw [EQ.out]; exact B1.out, L1.out⟩
  · obtain ⟨m, rfl⟩ : ∃ m : Nat, k = m := ⟨k.toNat, by omega⟩
    have E1' : Hid (uintE s = 0) := Lib.hid (by rw [E1.out, if_neg hk])
    have E2' : Hid (uintS s = s.extract m s.size) := Lib.hid (by rw [E2.out, if_neg hk]; rfl)
    have hms : m ≤ s.size := by omega
    clear hk
    go_wp2
    go_ret
    exact ⟨by rw [E1'.out]; rfl, by rw [E2'.out]; exact R1.out.set_ 0 _, by rw [EQ.out]; exact B1.out.far (p := ⟨R, 0, none⟩) (by show b ≠ R; omega) _, fun B h1 h2 => (L1.out B h1 h2).setCell h1 _⟩
theorem uint_any (s : ByteArray) (R : Nat) (w : World) (h : Rdr w R s) (hs : s.size ≤ 9223372036854775807) :
    Calls Tryd.prog 31 #[.pointer (some ⟨R, 0, none⟩)] w
      fun e w' => e = .returned (.tuple #[.int .u64 ((short (byteAt s) s.size).1 : Int), .int .i64 (uintE s)]) ∧ Rdr w' R (uintS s) ∧ ∀ B, B ≤ R → Below B w w' := by
  have hlt := h.lt
  have H : Hid (Rdr (w.alloc (.cells #[.int .u64 0] 62)) R s) := Lib.hid (Blk.alloc h _)
  have hmf : ∀ (fn : Fn) (first cap : Array Value) (w : World), (Instr.makeFunc fn first cap).run Tryd.prog w = .ok (.func fn first cap) w := fun _ _ _ _ => rfl
  have HB := Lib.hid (Blk.new w 62 #[.int .u64 0])
  clear h
  go_enter Tryd.func31, Tryd.ntmps31
  go_wp2_with fail
  refine (withUint_any s R w.heap.size _ _ H.out HB.out hs).mono ?_
  rintro e w1 ⟨rfl, hr1, hb1, hl1⟩
  have R1 := Lib.hid hr1
  have L1 : Hid (∀ B, B ≤ R → Below B w w1) := Lib.hid (fun B hB => (((Below.refl _ _).alloc (by omega) _)).trans (hl1 B hB (by omega)))
  have c1 : w1.cell? ⟨w.heap.size, 0, none⟩ = some (.int .u64 ((short (byteAt s) s.size).1 : Int)) := hb1.cell 0
  clear hr1 hl1 hb1
  go_wp2
  go_ret2
  exact ⟨rfl, R1.out, L1.out⟩
end Go.Proofs.YtpfccicahfncbaaDoor
