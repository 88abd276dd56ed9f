/- Several texts of the claim joined into one (part 2): plain facts and walks. No conditions but those that each theorem tells. -/
import Derived.Test.YtpfccicahfncbaaDoorMgAttrsOne1
import Derived.Test.YtpfccicahfncbaaDoorMem
import Derived.Laws.RangeAny
import Derived.LoopTactic
import Derived.Deep.DeepCutAuto
import Derived.Lib.Hide
import Derived.BigQuiet
import Derived.Test.YtpfccicahfncbaaDoorShort
import Derived.Test.YtpfccicahfncbaaDoorPut
import Derived.Test.YtpfccicahfncbaaDoorMem3
import Derived.StillTailTactics
namespace Go.Proofs.YtpfccicahfncbaaDoor
open Go.RowKit
set_option linter.unusedVariables false
set_option linter.unusedSimpArgs false
theorem rune_wide (s : ByteArray) (pos : Nat) (h : pos < s.size) : 1 ≤ (Utf8.decode s pos).2 := by
  by_cases ha : (s[pos]'h).toNat < 128
  · rw [decode_ascii s pos h ha]
    exact Nat.le_refl _
  · exact (decode_high s pos h (by omega)).2
def fffd (s : ByteArray) (pos : Nat) : Bool := Lib.hasPrefix (s.extract pos s.size).data.toList [239, 191, 189]
/-- Do the bytes from pos on begin with bytes that are no rune? -/
def noRune (s : ByteArray) (pos : Nat) : Bool := decide ((Utf8.decode s pos).1 = 65533) && !fffd s pos
/-- How many runes there are from pos on, c being counted; false: they are not all whole. -/
def whF (s : ByteArray) : Nat → Nat → Nat → Nat × Bool
  | 0, _, c => (c, true)
  | b + 1, pos, c => if pos < s.size then (if noRune s pos = true then (0, false) else whF s b (pos + (Utf8.decode s pos).2) (c + 1)) else (c, true)
def whR (s : ByteArray) : Nat × Bool := whF s s.size 0 0
theorem whF_end (s : ByteArray) (b pos c : Nat) (h : ¬ pos < s.size) : whF s b pos c = (c, true) := by
  cases b with
  | zero => rfl
  | succ b => rw [whF, if_neg h]
/-- Is there a rune that no name has from pos on? -/
def ctF (s : ByteArray) : Nat → Nat → Bool
  | 0, _ => false
  | b + 1, pos => if pos < s.size then (if (Utf8.decode s pos).1 < 32 ∨ (Utf8.decode s pos).1 = 127 ∨ (Utf8.decode s pos).1 = 47 then true else ctF s b (pos + (Utf8.decode s pos).2)) else false
def ctR (s : ByteArray) : Bool := ctF s s.size 0
theorem ctF_end (s : ByteArray) (b pos : Nat) (h : ¬ pos < s.size) : ctF s b pos = false := by
  cases b with
  | zero => rfl
  | succ b => rw [ctF, if_neg h]
def dots (s : ByteArray) : Bool := (s.toList == [46]) || (s.toList == [46, 46])
/-- What Check says of a name. -/
def nmE (s : ByteArray) : Int := if (whR s).2 = false ∨ (whR s).1 < 1 ∨ 64 < (whR s).1 ∨ 255 < s.size ∨ dots s = true then 10 else if ctR s = true then 10 else 0
set_option maxRecDepth 100000 in
theorem whole_runes (s : ByteArray) (w : World) (hs : s.size ≤ 4611686018427387904) :
    Calls Tryd.prog 63 #[.string s] w fun e w' => e = .returned (.tuple #[.int .i64 ((whR s).1 : Int), .bool (whR s).2]) ∧ Below w.heap.size w w' := by
  have HP : Hid (∀ pos W, Calls Tryd.prog 73 #[.string (s.extract pos s.size), .string ⟨#[239, 191, 189]⟩] W fun e w' => e = .returned (.bool (fffd s pos)) ∧ w' = W) := Lib.hid (fun pos W => Tryd.strings_HasPrefix (s.extract pos s.size) ⟨#[239, 191, 189]⟩ W)
  have HB : Hid (∀ pos, Below w.heap.size w (w.iter s pos)) := Lib.hid (fun pos => (Below.refl _ _).alloc (Nat.le_refl _) _)
  have hut := Tryd.underlying9
  go_enter Tryd.func63, Tryd.ntmps63
  go_wp2
  go_loopw [2] (fun c w' => ∃ (pos b k : Nat), w' = w.iter s pos ∧ c = .int .i64 k ∧ Hid (whF s b pos k = whR s) ∧ s.size ≤ pos + b ∧ k ≤ pos) (fun _ w' => s.size - w'.iterPos w.heap.size)
  case atStart => exact ⟨0, s.size, 0, rfl, rfl, Lib.hid rfl, by omega, by omega⟩
  case round =>
    obtain ⟨pos, b, k, rfl, rfl, HC, hb, hk⟩ := hrel
    by_cases hp : pos < s.size
    · have hnx : ∀ ty, (Instr.next (.pointer (some ⟨w.heap.size, 0, none⟩)) true ty).run Tryd.prog (w.iter s pos) = _ := fun ty => run_next_any w s pos ty hp
      have hwd := rune_wide s pos hp
      obtain ⟨b, rfl⟩ : ∃ b', b = b' + 1 := ⟨b - 1, by omega⟩
      have hps : (pos : Int) ≤ (s.size : Int) := by omega
      by_cases hr : (Utf8.decode s pos).1 = 65533
      · have hrb : (((Utf8.decode s pos).1 : Int) == 65533) = true := by rw [beq_iff_eq]; omega
        cases hf : fffd s pos with
        | true =>
          have HQ : Hid (∀ W, Calls Tryd.prog 73 #[.string (s.extract pos s.size), .string ⟨#[239, 191, 189]⟩] W fun e w' => e = .returned (.bool true) ∧ w' = W) := Lib.hid (fun W => by rw [← hf]; exact HP.out pos W)
          have HW : Hid (whF s b (pos + (Utf8.decode s pos).2) (k + 1) = whR s) := Lib.hid (by rw [← HC.out, whF, if_pos hp, if_neg (by simp [noRune, hf])])
          clear hf hr HC
          go_wp2_with fail
          (with_reducible refine (HQ.out _).mono ?_)
          rintro e w' ⟨rfl, rfl⟩
          go_wp2
          go_roundw
          case rel => exact ⟨pos + (Utf8.decode s pos).2, b, k + 1, rfl, by go_num, HW, by omega, by omega⟩
          case measure => simp; omega
        | false =>
          have HQ : Hid (∀ W, Calls Tryd.prog 73 #[.string (s.extract pos s.size), .string ⟨#[239, 191, 189]⟩] W fun e w' => e = .returned (.bool false) ∧ w' = W) := Lib.hid (fun W => by rw [← hf]; exact HP.out pos W)
          have HW : Hid (whR s = (0, false)) := Lib.hid (by rw [← HC.out, whF, if_pos hp, if_pos (by simp [noRune, hf, hr])])
          clear hf hr HC
          go_wp2_with fail
          (with_reducible refine (HQ.out _).mono ?_)
          rintro e w' ⟨rfl, rfl⟩
          go_wp2
          go_ret2
          exact ⟨by rw [HW.out]; rfl, HB.out _⟩
      · have hrb : (((Utf8.decode s pos).1 : Int) == 65533) = false := by rw [beq_eq_false_iff_ne]; omega
        have HW : Hid (whF s b (pos + (Utf8.decode s pos).2) (k + 1) = whR s) := Lib.hid (by rw [← HC.out, whF, if_pos hp, if_neg (by simp [noRune, hr])])
        clear hr HC
        go_wp2
        go_roundw
        case rel => exact ⟨pos + (Utf8.decode s pos).2, b, k + 1, rfl, by go_num, HW, by omega, by omega⟩
        case measure => simp; omega
    · have hnx : ∀ ty, (Instr.next (.pointer (some ⟨w.heap.size, 0, none⟩)) true ty).run Tryd.prog (w.iter s pos) = _ := fun ty => run_next_end w s pos ty hp
      have HW : Hid (whR s = (k, true)) := Lib.hid (by rw [← HC.out, whF_end s b pos k hp])
      go_wp2
      go_ret2
      exact ⟨by rw [HW.out]; rfl, HB.out _⟩
theorem dots_of (s : ByteArray) (h : dots s = false) : (s.toList == [46]) = false ∧ (s.toList == [46, 46]) = false := by
  unfold dots at h
  rw [Bool.or_eq_false_iff] at h
  exact h
set_option maxRecDepth 100000 in
theorem nameChk_any (s : ByteArray) (w : World) (hs : s.size ≤ 4611686018427387904) :
    Calls Tryd.prog 46 #[.string s] w fun e w' => e = .returned (.int .i64 (nmE s)) ∧ Below w.heap.size w w' := by
  have C1 := Lib.hid (whole_runes s w hs)
  have hut := Tryd.underlying9
  by_cases h1 : (whR s).2 = false ∨ (whR s).1 < 1 ∨ 64 < (whR s).1 ∨ 255 < s.size ∨ dots s = true
  · have E : Hid (nmE s = 10) := Lib.hid (by rw [nmE, if_pos h1])
    obtain ⟨p, hp⟩ : ∃ p, whR s = p := ⟨_, rfl⟩
    rw [hp] at C1 h1
    obtain ⟨n, ok⟩ := p
    dsimp only at h1 C1
    clear hp
    cases ok with
    | false =>
      clear h1
      go_enter Tryd.func46, Tryd.ntmps46
      go_wp2_with fail
      (with_reducible refine C1.out.mono ?_)
      rintro e w1 ⟨rfl, hb1⟩
      have HB1 := Lib.hid hb1
      clear hb1 C1
      go_wp2
      go_ret
      exact ⟨by rw [E.out]; rfl, HB1.out⟩
    | true =>
      by_cases hn : n < 1 ∨ 64 < n ∨ 255 < s.size
      · go_enter Tryd.func46, Tryd.ntmps46
        go_wp2_with fail
        (with_reducible refine C1.out.mono ?_)
        rintro e w1 ⟨rfl, hb1⟩
        have HB1 := Lib.hid hb1
        clear hb1 C1 h1
        have hn' : n < 1 ∨ (1 ≤ n ∧ 64 < n) ∨ (1 ≤ n ∧ n ≤ 64 ∧ 255 < s.size) := by omega
        clear hn
        rcases hn' with h | ⟨h, h'⟩ | ⟨h, h', h''⟩
        all_goals
          go_wp2
          go_ret
          exact ⟨by rw [E.out]; rfl, HB1.out⟩
      · have hd : dots s = true := by
          rcases h1 with h | h | h | h | h
          · cases h
          · exact absurd (.inl h) hn
          · exact absurd (.inr (.inl h)) hn
          · exact absurd (.inr (.inr h)) hn
          · exact h
        have hn1 : 1 ≤ n := by omega
        have hn2 : n ≤ 64 := by omega
        have hn3 : s.size ≤ 255 := by omega
        unfold dots at hd
        clear h1 hn
        cases ha : (s.toList == [46]) with
        | true =>
          clear hd
          go_enter Tryd.func46, Tryd.ntmps46
          go_wp2_with fail
          (with_reducible refine C1.out.mono ?_)
          rintro e w1 ⟨rfl, hb1⟩
          have HB1 := Lib.hid hb1
          clear hb1 C1
          go_wp2
          go_ret
          exact ⟨by rw [E.out]; rfl, HB1.out⟩
        | false =>
          rw [ha, Bool.false_or] at hd
          go_enter Tryd.func46, Tryd.ntmps46
          go_wp2_with fail
          (with_reducible refine C1.out.mono ?_)
          rintro e w1 ⟨rfl, hb1⟩
          have HB1 := Lib.hid hb1
          clear hb1 C1
          go_wp2
          go_ret
          exact ⟨by rw [E.out]; rfl, HB1.out⟩
  · have E : Hid (nmE s = if ctR s = true then 10 else 0) := Lib.hid (by rw [nmE, if_neg h1])
    have hd : dots s = false := by
      cases h : dots s with
      | false => rfl
      | true => exact absurd (.inr (.inr (.inr (.inr h)))) h1
    obtain ⟨d1, d2⟩ := dots_of s hd
    obtain ⟨p, hp⟩ : ∃ p, whR s = p := ⟨_, rfl⟩
    rw [hp] at C1 h1
    obtain ⟨n, ok⟩ := p
    dsimp only at h1 C1
    have hok : ok = true := by
      cases ok with
      | true => rfl
      | false => exact absurd (.inl rfl) h1
    subst hok
    have hn1 : 1 ≤ n := by
      rcases Nat.lt_or_ge n 1 with h | h
      · exact absurd (.inr (.inl h)) h1
      · exact h
    have hn2 : n ≤ 64 := by
      rcases Nat.lt_or_ge 64 n with h | h
      · exact absurd (.inr (.inr (.inl h))) h1
      · exact h
    have hn3 : s.size ≤ 255 := by
      rcases Nat.lt_or_ge 255 s.size with h | h
      · exact absurd (.inr (.inr (.inr (.inl h)))) h1
      · exact h
    clear h1 hd hp
    go_enter Tryd.func46, Tryd.ntmps46
    go_wp2_with fail
    (with_reducible refine C1.out.mono ?_)
    rintro e w1 ⟨rfl, hb1⟩
    have HB : Hid (∀ pos, Below w.heap.size w (w1.iter s pos)) := Lib.hid (fun pos => hb1.alloc hb1.size _)
    clear hb1 C1
    go_wp2
    go_loopw [6] (fun c w' => ∃ (pos b : Nat), w' = w1.iter s pos ∧ Hid (ctF s b pos = ctR s) ∧ s.size ≤ pos + b) (fun _ w' => s.size - w'.iterPos w1.heap.size)
    case atStart => exact ⟨0, s.size, rfl, Lib.hid rfl, by omega⟩
    case round =>
      obtain ⟨pos, b, rfl, HC, hb⟩ := hrel
      by_cases hp : pos < s.size
      · have hnx : ∀ ty, (Instr.next (.pointer (some ⟨w1.heap.size, 0, none⟩)) true ty).run Tryd.prog (w1.iter s pos) = _ := fun ty => run_next_any w1 s pos ty hp
        have hwd := rune_wide s pos hp
        obtain ⟨b, rfl⟩ : ∃ b', b = b' + 1 := ⟨b - 1, by omega⟩
        by_cases hr : (Utf8.decode s pos).1 < 32 ∨ (Utf8.decode s pos).1 = 127 ∨ (Utf8.decode s pos).1 = 47
        · have HW : Hid (ctR s = true) := Lib.hid (by rw [← HC.out, ctF, if_pos hp, if_pos hr])
          obtain ⟨r, hrr⟩ : ∃ r, (Utf8.decode s pos).1 = r := ⟨_, rfl⟩
          rw [hrr] at hnx hr
          clear hrr HC
          have hr' : r < 32 ∨ (r = 127) ∨ (r = 47) := hr
          clear hr
          rcases hr' with h | h | h
          · have q1 : decide ((r : Int) < 32) = true := by rw [decide_eq_true_eq]; omega
            clear h
            go_wp2
            go_ret
            exact ⟨by rw [E.out, if_pos HW.out]; rfl, HB.out _⟩
          · subst h
            go_wp2
            go_ret
            exact ⟨by rw [E.out, if_pos HW.out]; rfl, HB.out _⟩
          · subst h
            go_wp2
            go_ret
            exact ⟨by rw [E.out, if_pos HW.out]; rfl, HB.out _⟩
        · have HW : Hid (ctF s b (pos + (Utf8.decode s pos).2) = ctR s) := Lib.hid (by rw [← HC.out, ctF, if_pos hp, if_neg hr])
          have q1 : decide (((Utf8.decode s pos).1 : Int) < 32) = false := by rw [decide_eq_false_iff_not]; omega
          have q2 : (((Utf8.decode s pos).1 : Int) == 127) = false := by rw [beq_eq_false_iff_ne]; omega
          have q3 : (((Utf8.decode s pos).1 : Int) == 47) = false := by rw [beq_eq_false_iff_ne]; omega
          clear hr HC
          go_wp2
          go_roundw
          case rel => exact ⟨pos + (Utf8.decode s pos).2, b, rfl, HW, by omega⟩
          case measure => simp; omega
      · have hnx : ∀ ty, (Instr.next (.pointer (some ⟨w1.heap.size, 0, none⟩)) true ty).run Tryd.prog (w1.iter s pos) = _ := fun ty => run_next_end w1 s pos ty hp
        have HW : Hid (ctR s = false) := Lib.hid (by rw [← HC.out, ctF_end s b pos hp])
        go_wp2
        go_ret
        exact ⟨by rw [E.out, if_neg (by rw [HW.out]; decide)]; rfl, HB.out _⟩
theorem nameLess_any (a b : ByteArray) (w : World) :
    Calls Tryd.prog 47 #[.string a, .string b] w fun e w' => e = .returned (.bool (Op.bytesLess a.toList b.toList)) ∧ w = w' := by
  go_enter Tryd.func47, Tryd.ntmps47
  go_wp2
  go_ret
  exact ⟨rfl, rfl⟩
end Go.Proofs.YtpfccicahfncbaaDoor
namespace Go.Proofs.YtpfccicahfncbaaDoor
open Go.RowKit Wir
set_option linter.unusedVariables false
/-- A reader with so much left. -/
def Rdr (w : World) (R : Nat) (s : ByteArray) : Prop := Blk w R 89 #[.string s]
theorem newReader_any (s : ByteArray) (w : World) :
    Calls Tryd.prog 30 #[.string s] w fun e w' => e = .returned (.pointer (some ⟨w.heap.size, 0, none⟩)) ∧ Rdr w' w.heap.size s ∧ Below w.heap.size w w' := by
  go_enter Tryd.func30, Tryd.ntmps30
  go_wp2
  go_ret
  exact ⟨rfl, Blk.new _ _ _, (Below.refl _ _).alloc (Nat.le_refl _) _⟩
theorem left_any (s : ByteArray) (R : Nat) (w : World) (h : Rdr w R s) (hs : s.size ≤ 9223372036854775807) :
    Calls Tryd.prog 33 #[.pointer (some ⟨R, 0, none⟩)] w fun e w' => e = .returned (.int .i64 (s.size : Int)) ∧ w = w' := by
  have c0 : w.cell? ⟨R, 0, none⟩ = some (.string s) := h.cell 0
  go_enter Tryd.func33, Tryd.ntmps33
  go_wp2
  go_ret
  exact ⟨rfl, rfl⟩
theorem uintF_any (s : ByteArray) (b : Nat) (v : Value) (w : World) (h : Blk w b 62 #[v]) (hs : s.size ≤ 9223372036854775807) :
    Calls Tryd.prog 51 #[.string s, .pointer (some ⟨b, 0, none⟩)] w fun e w' => e = .returned (.int .i64 (short (byteAt s) s.size).2) ∧ w' = w.setCell ⟨b, 0, none⟩ (.int .u64 ((short (byteAt s) s.size).1 : Int)) := by
  have c0 : w.cell? ⟨b, 0, none⟩ = some v := h.cell 0
  have f0 : w.frozen? ⟨b, 0, none⟩ = false := h.frozen 0
  go_enter Tryd.func51, Tryd.ntmps51
  go_wp2_with fail
  refine (short_any s _ hs).mono ?_; rintro e w' ⟨rfl, rfl⟩
  obtain ⟨q, hq⟩ : ∃ q, short (byteAt s) s.size = q := ⟨_, rfl⟩
  obtain ⟨a, k⟩ := q
  rw [hq]
  have EQ := Lib.hid hq
  clear hq
  go_wp2
  go_ret
  exact ⟨by rw [EQ.out]; rfl, by rw [EQ.out]⟩
/-- What Uint answers, and what is left behind it. -/
def uintE (s : ByteArray) : Int := if (short (byteAt s) s.size).2 < 0 then 4 else 0
def uintS (s : ByteArray) : ByteArray := if (short (byteAt s) s.size).2 < 0 then s else s.extract (short (byteAt s) s.size).2.toNat s.size
theorem withUint_any (s : ByteArray) (R b : Nat) (v : Value) (w : World) (h : Rdr w R s) (hb : Blk w b 62 #[v]) (hs : s.size ≤ 9223372036854775807) :
    Calls Tryd.prog 50 #[.pointer (some ⟨R, 0, none⟩), .func (.func 51) #[] #[.pointer (some ⟨b, 0, none⟩)]] w
      fun e w' => e = .returned (.int .i64 (uintE s)) ∧ Rdr w' R (uintS s) ∧ Blk w' b 62 #[.int .u64 ((short (byteAt s) s.size).1 : Int)] ∧ ∀ B, B ≤ R → B ≤ b → Below B w w' := by
  have c0 : w.cell? ⟨R, 0, none⟩ = some (.string s) := h.cell 0
  have hne : R ≠ b := Blk.ne_ h hb (by decide)
  have H := Lib.hid h
  have HB := Lib.hid hb
  have SB := shG_bound (byteAt s) s.size 11 0 0 (by decide) (by omega)
  have S1 : -1 ≤ (short (byteAt s) s.size).2 := SB.2.1
  have S2 : (short (byteAt s) s.size).2 ≤ s.size := SB.2.2
  clear SB h hb
  go_enter Tryd.func50, Tryd.ntmps50
  go_wp2_with fail
  refine (uintF_any s b v _ HB.out hs).mono ?_
  obtain ⟨q, hq⟩ : ∃ q, short (byteAt s) s.size = q := ⟨_, rfl⟩
  rw [hq] at S1 S2 ⊢
  have E1 : Hid (uintE s = if q.2 < 0 then 4 else 0) := Lib.hid (by unfold uintE; rw [hq])
  have E2 : Hid (uintS s = if q.2 < 0 then s else s.extract q.2.toNat s.size) := Lib.hid (by unfold uintS; rw [hq])
  have EQ := Lib.hid hq
  clear hq
  obtain ⟨a, k⟩ := q
  rintro e w1 ⟨rfl, hw1⟩
  have R1 : Hid (Rdr w1 R s) := Lib.hid (by rw [hw1]; exact H.out.far (p := ⟨b, 0, none⟩) (by show R ≠ b; exact hne) _)
  have B1 : Hid (Blk w1 b 62 #[.int .u64 (a : Int)]) := Lib.hid (by rw [hw1]; exact HB.out.set_ 0 _)
  have L1 : Hid (∀ B, B ≤ R → B ≤ b → Below B w w1) := Lib.hid (fun B h1 h2 => by rw [hw1]; exact (Below.refl _ _).setCell h2 _)
  clear hw1
  have c1 : w1.cell? ⟨R, 0, none⟩ = some (.string s) := R1.out.cell 0
  have f1 : w1.frozen? ⟨R, 0, none⟩ = false := R1.out.frozen 0
  by_cases hk : k < 0
  · have E1' : Hid (uintE s = 4) := Lib.hid (by rw [E1.out, if_pos hk])
    have E2' : Hid (uintS s = s) := Lib.hid (by rw [E2.out, if_pos hk])
    go_wp2
    go_ret
    exact ⟨by rw [E1'.out]; rfl, by rw [E2'.out]; exact R1.out, by rw [EQ.out]; exact B1.out, L1.out⟩
  · obtain ⟨m, rfl⟩ : ∃ m : Nat, k = m := ⟨k.toNat, by omega⟩
    have E1' : Hid (uintE s = 0) := Lib.hid (by rw [E1.out, if_neg hk])
    have E2' : Hid (uintS s = s.extract m s.size) := Lib.hid (by rw [E2.out, if_neg hk]; rfl)
    have hms : m ≤ s.size := by omega
    clear hk
    go_wp2
    go_ret
    exact ⟨by rw [E1'.out]; rfl, by rw [E2'.out]; exact R1.out.set_ 0 _, by rw [EQ.out]; exact B1.out.far (p := ⟨R, 0, none⟩) (by show b ≠ R; omega) _, fun B h1 h2 => (L1.out B h1 h2).setCell h1 _⟩
theorem uint_any (s : ByteArray) (R : Nat) (w : World) (h : Rdr w R s) (hs : s.size ≤ 9223372036854775807) :
    Calls Tryd.prog 31 #[.pointer (some ⟨R, 0, none⟩)] w
      fun e w' => e = .returned (.tuple #[.int .u64 ((short (byteAt s) s.size).1 : Int), .int .i64 (uintE s)]) ∧ Rdr w' R (uintS s) ∧ ∀ B, B ≤ R → Below B w w' := by
  have hlt := h.lt
  have H : Hid (Rdr (w.alloc (.cells #[.int .u64 0] 62)) R s) := Lib.hid (Blk.alloc h _)
  have hmf : ∀ (fn : Fn) (first cap : Array Value) (w : World), (Instr.makeFunc fn first cap).run Tryd.prog w = .ok (.func fn first cap) w := fun _ _ _ _ => rfl
  have HB := Lib.hid (Blk.new w 62 #[.int .u64 0])
  clear h
  go_enter Tryd.func31, Tryd.ntmps31
  go_wp2_with fail
  refine (withUint_any s R w.heap.size _ _ H.out HB.out hs).mono ?_
  rintro e w1 ⟨rfl, hr1, hb1, hl1⟩
  have R1 := Lib.hid hr1
  have L1 : Hid (∀ B, B ≤ R → Below B w w1) := Lib.hid (fun B hB => (((Below.refl _ _).alloc (by omega) _)).trans (hl1 B hB (by omega)))
  have c1 : w1.cell? ⟨w.heap.size, 0, none⟩ = some (.int .u64 ((short (byteAt s) s.size).1 : Int)) := hb1.cell 0
  clear hr1 hl1 hb1
  go_wp2
  go_ret2
  exact ⟨rfl, R1.out, L1.out⟩
end Go.Proofs.YtpfccicahfncbaaDoor
namespace Go.Proofs.YtpfccicahfncbaaDoor
open Go.RowKit Wir
set_option linter.unusedVariables false
/-- The first n bytes, if there are so many. -/
def tk (s : ByteArray) (n : Nat) : ByteArray := s.extract 0 (min n s.size)
theorem tk_le (s : ByteArray) (n : Nat) (h : n ≤ s.size) : tk s n = s.extract 0 n := by unfold tk; rw [Nat.min_eq_left h]
theorem tk_ge (s : ByteArray) (n : Nat) (h : s.size ≤ n) : tk s n = s := by
  unfold tk; rw [Nat.min_eq_right h]
  simp
/-- What Take tells. -/
def tkR (s : ByteArray) (n : Nat) : ByteArray := if s.size < n then ⟨#[]⟩ else s.extract 0 n
def takeE (s : ByteArray) (n : Nat) : Int := if s.size < n then 4 else 0
def takeS (s : ByteArray) (n : Nat) : ByteArray := if s.size < n then s else s.extract n s.size
end Go.Proofs.YtpfccicahfncbaaDoor
namespace Go.Proofs.YtpfccicahfncbaaDoor
open Go.RowKit Wir
set_option linter.unusedVariables false
set_option linter.unusedSimpArgs false
/-- Is a text with its length ahead of it at the front, of at most so many bytes? -/
def txB (s : ByteArray) (m : Nat) : Bool := decide (0 ≤ (short (byteAt s) s.size).2 ∧ (short (byteAt s) s.size).1 ≤ m ∧ (short (byteAt s) s.size).1 + (short (byteAt s) s.size).2.toNat ≤ s.size)
def txT (s : ByteArray) (m : Nat) : ByteArray := if txB s m = true then s.extract (short (byteAt s) s.size).2.toNat ((short (byteAt s) s.size).2.toNat + (short (byteAt s) s.size).1) else ByteArray.empty
def txE (s : ByteArray) (m : Nat) : Int := if txB s m = true then 0 else 4
def txS (s : ByteArray) (m : Nat) : ByteArray := if txB s m = true then s.extract ((short (byteAt s) s.size).2.toNat + (short (byteAt s) s.size).1) s.size else s
/-- What the closure tells: how many bytes are taken. -/
def txN (s : ByteArray) (m : Nat) : Int := if txB s m = true then (((short (byteAt s) s.size).2.toNat + (short (byteAt s) s.size).1 : Nat) : Int) else -1
theorem textF_no (s : ByteArray) (mb tb m : Nat) (w : World) (hm : Blk w mb 3 #[.int .i64 (m : Int)]) (hs : s.size ≤ 9223372036854775807) (hm2 : m ≤ 9223372036854775807) (hb : txB s m = false) :
    Calls Tryd.prog 53 #[.string s, .pointer (some ⟨mb, 0, none⟩), .pointer (some ⟨tb, 0, none⟩)] w fun e w' => e = .returned (.int .i64 (-1)) ∧ w = w' := by
  have c1 : w.cell? ⟨mb, 0, none⟩ = some (.int .i64 (m : Int)) := hm.cell 0
  have C := Lib.hid (short_any s w hs)
  obtain ⟨b1, b2, b3⟩ := shG_bound (byteAt s) s.size 11 0 0 (by decide) (by omega)
  have hb' : ¬ (0 ≤ (short (byteAt s) s.size).2 ∧ (short (byteAt s) s.size).1 ≤ m ∧ (short (byteAt s) s.size).1 + (short (byteAt s) s.size).2.toNat ≤ s.size) := of_decide_eq_false hb
  change (short (byteAt s) s.size).1 < 2 ^ 64 at b1
  change -1 ≤ (short (byteAt s) s.size).2 at b2
  change (short (byteAt s) s.size).2 ≤ s.size at b3
  generalize short (byteAt s) s.size = p at *
  obtain ⟨n, z⟩ := p
  dsimp only at b1 b2 b3 hb' C
  clear hb hm
  by_cases hz : z < 0
  · obtain rfl : z = -1 := by omega
    clear hb' b1
    go_enter Tryd.func53, Tryd.ntmps53
    go_wp2_with fail
    (with_reducible refine C.out.mono ?_)
    rintro e w' ⟨rfl, rfl⟩
    go_wp2
    go_ret
    exact ⟨rfl, rfl⟩
  · obtain ⟨k, rfl⟩ : ∃ k : Nat, z = (k : Int) := ⟨z.toNat, by omega⟩
    rw [Int.toNat_natCast] at hb'
    have hn64 : n ≤ 18446744073709551615 := by
      have : (2 : Nat) ^ 64 = 18446744073709551616 := by decide
      omega
    clear b1
    by_cases hnm : n ≤ m
    · have hle : s.size < n + k := by omega
      have hks : k ≤ s.size := by omega
      have d1 : decide ((m : Int) < (n : Int)) = false := by rw [decide_eq_false_iff_not]; omega
      have d2 : decide ((s.size : Int) - (k : Int) < (n : Int)) = true := by rw [decide_eq_true_eq]; omega
      clear hb' hz b2 b3
      go_enter Tryd.func53, Tryd.ntmps53
      go_wp2_with fail
      (with_reducible refine C.out.mono ?_)
      rintro e w' ⟨rfl, rfl⟩
      go_wp2
      go_ret
      exact ⟨rfl, rfl⟩
    · have d1 : decide ((m : Int) < (n : Int)) = true := by rw [decide_eq_true_eq]; omega
      clear hb' hz b2 b3
      go_enter Tryd.func53, Tryd.ntmps53
      go_wp2_with fail
      (with_reducible refine C.out.mono ?_)
      rintro e w' ⟨rfl, rfl⟩
      go_wp2
      go_ret
      exact ⟨rfl, rfl⟩
theorem textF_yes (s : ByteArray) (mb tb m : Nat) (v : Value) (w : World) (hm : Blk w mb 3 #[.int .i64 (m : Int)]) (h : Blk w tb 9 #[v]) (hs : s.size ≤ 9223372036854775807) (hm2 : m ≤ 9223372036854775807) (hb : txB s m = true) :
    Calls Tryd.prog 53 #[.string s, .pointer (some ⟨mb, 0, none⟩), .pointer (some ⟨tb, 0, none⟩)] w fun e w' => e = .returned (.int .i64 (txN s m)) ∧ w' = w.setCell ⟨tb, 0, none⟩ (.string (txT s m)) := by
  have c0 : w.cell? ⟨tb, 0, none⟩ = some v := h.cell 0
  have f0 : w.frozen? ⟨tb, 0, none⟩ = false := h.frozen 0
  have c1 : w.cell? ⟨mb, 0, none⟩ = some (.int .i64 (m : Int)) := hm.cell 0
  have C := Lib.hid (short_any s w hs)
  obtain ⟨b1, b2, b3⟩ : 0 ≤ (short (byteAt s) s.size).2 ∧ (short (byteAt s) s.size).1 ≤ m ∧ (short (byteAt s) s.size).1 + (short (byteAt s) s.size).2.toNat ≤ s.size := of_decide_eq_true hb
  rw [txN, if_pos hb, txT, if_pos hb]
  generalize short (byteAt s) s.size = p at *
  obtain ⟨n, z⟩ := p
  dsimp only at b1 b2 b3 C ⊢
  obtain ⟨k, rfl⟩ : ∃ k : Nat, z = (k : Int) := ⟨z.toNat, by omega⟩
  rw [Int.toNat_natCast] at b3 ⊢
  have d0 : decide ((k : Int) < 0) = false := by rw [decide_eq_false_iff_not]; omega
  have d1 : decide ((m : Int) < (n : Int)) = false := by rw [decide_eq_false_iff_not]; omega
  have d2 : decide ((s.size : Int) - (k : Int) < (n : Int)) = false := by rw [decide_eq_false_iff_not]; omega
  clear hb hm h b1
  go_enter Tryd.func53, Tryd.ntmps53
  go_wp2_with fail
  (with_reducible refine C.out.mono ?_)
  rintro e w' ⟨rfl, rfl⟩
  go_wp2
  go_ret
  exact ⟨rfl, rfl⟩
theorem withText_any (s : ByteArray) (R mb tb m : Nat) (w : World) (h : Rdr w R s) (hmb : Blk w mb 3 #[.int .i64 (m : Int)]) (htb : Blk w tb 9 #[.string ⟨#[]⟩]) (hs : s.size ≤ 9223372036854775807) (hm2 : m ≤ 9223372036854775807) :
    Calls Tryd.prog 50 #[.pointer (some ⟨R, 0, none⟩), .func (.func 53) #[] #[.pointer (some ⟨mb, 0, none⟩), .pointer (some ⟨tb, 0, none⟩)]] w
      fun e w' => e = .returned (.int .i64 (txE s m)) ∧ Rdr w' R (txS s m) ∧ Blk w' tb 9 #[.string (txT s m)] ∧ ∀ B, B ≤ R → B ≤ tb → Below B w w' := by
  have c0 : w.cell? ⟨R, 0, none⟩ = some (.string s) := h.cell 0
  have hne : R ≠ tb := Blk.ne_ h htb (by decide)
  have H := Lib.hid h
  have HB := Lib.hid htb
  cases hb : txB s m with
  | false =>
    have F := Lib.hid (textF_no s mb tb m w hmb hs hm2 hb)
    have E1' : Hid (txE s m = 4) := Lib.hid (by rw [txE, if_neg (by rw [hb]; decide)])
    have E2' : Hid (txS s m = s) := Lib.hid (by rw [txS, if_neg (by rw [hb]; decide)])
    have E3' : Hid (txT s m = ⟨#[]⟩) := Lib.hid (by rw [txT, if_neg (by rw [hb]; decide)]; rfl)
    clear h hmb htb hb
    go_enter Tryd.func50, Tryd.ntmps50
    go_wp2_with fail
    (with_reducible refine F.out.mono ?_)
    rintro e w1 ⟨rfl, rfl⟩
    go_wp2
    go_ret
    exact ⟨by rw [E1'.out]; rfl, by rw [E2'.out]; exact H.out, by rw [E3'.out]; exact HB.out, fun B _ _ => Below.refl _ _⟩
  | true =>
    have F := Lib.hid (textF_yes s mb tb m _ w hmb htb hs hm2 hb)
    have E1' : Hid (txE s m = 0) := Lib.hid (by rw [txE, if_pos hb])
    have E2' : Hid (txS s m = s.extract ((short (byteAt s) s.size).2.toNat + (short (byteAt s) s.size).1) s.size) := Lib.hid (by rw [txS, if_pos hb])
    obtain ⟨b1, b2, b3⟩ : 0 ≤ (short (byteAt s) s.size).2 ∧ (short (byteAt s) s.size).1 ≤ m ∧ (short (byteAt s) s.size).1 + (short (byteAt s) s.size).2.toNat ≤ s.size := of_decide_eq_true hb
    rw [txN, if_pos hb] at F
    obtain ⟨k, hk⟩ : ∃ k, (short (byteAt s) s.size).2.toNat + (short (byteAt s) s.size).1 = k := ⟨_, rfl⟩
    rw [hk] at F E2'
    have hks : k ≤ s.size := by omega
    clear h hmb htb hb hk b1 b2 b3
    go_enter Tryd.func50, Tryd.ntmps50
    go_wp2_with fail
    (with_reducible refine F.out.mono ?_)
    rintro e w1 ⟨rfl, hw1⟩
    have R1 : Hid (Rdr w1 R s) := Lib.hid (by rw [hw1]; exact H.out.far (p := ⟨tb, 0, none⟩) (by show R ≠ tb; exact hne) _)
    have B1 : Hid (Blk w1 tb 9 #[.string (txT s m)]) := Lib.hid (by rw [hw1]; exact HB.out.set_ 0 _)
    have L1 : Hid (∀ B, B ≤ R → B ≤ tb → Below B w w1) := Lib.hid (fun B h1 h2 => by rw [hw1]; exact (Below.refl _ _).setCell h2 _)
    clear hw1
    have c1 : w1.cell? ⟨R, 0, none⟩ = some (.string s) := R1.out.cell 0
    have f1 : w1.frozen? ⟨R, 0, none⟩ = false := R1.out.frozen 0
    go_wp2
    go_ret
    exact ⟨by rw [E1'.out]; rfl, by rw [E2'.out]; exact R1.out.set_ 0 _, B1.out.far (p := ⟨R, 0, none⟩) (by show tb ≠ R; omega) _, fun B h1 h2 => (L1.out B h1 h2).setCell h1 _⟩
theorem rtxt_any (s : ByteArray) (R m : Nat) (w : World) (h : Rdr w R s) (hs : s.size ≤ 9223372036854775807) (hm : m ≤ 9223372036854775807) :
    Calls Tryd.prog 32 #[.pointer (some ⟨R, 0, none⟩), .int .i64 (m : Int)] w
      fun e w' => e = .returned (.tuple #[.string (txT s m), .int .i64 (txE s m)]) ∧ Rdr w' R (txS s m) ∧ ∀ B, B ≤ R → Below B w w' := by
  have hlt := h.lt
  have hmf : ∀ (fn : Fn) (first cap : Array Value) (w : World), (Instr.makeFunc fn first cap).run Tryd.prog w = .ok (.func fn first cap) w := fun _ _ _ _ => rfl
  have HN0 := Blk.new w 3 #[.int .i64 (m : Int)]
  have HN := Lib.hid (HN0.alloc (.cells #[.string ⟨#[]⟩] 9))
  have HT0 := Blk.new (w.alloc (.cells #[.int .i64 (m : Int)] 3)) 9 #[.string ⟨#[]⟩]
  rw [show (w.alloc (.cells #[.int .i64 (m : Int)] 3)).heap.size = w.heap.size + 1 from by simp] at HT0
  have HT := Lib.hid HT0
  have H : Hid (Rdr ((w.alloc (.cells #[.int .i64 (m : Int)] 3)).alloc (.cells #[.string ⟨#[]⟩] 9)) R s) := Lib.hid ((Blk.alloc h _).alloc _)
  have B0 : Hid (∀ B, B ≤ R → Below B w ((w.alloc (.cells #[.int .i64 (m : Int)] 3)).alloc (.cells #[.string ⟨#[]⟩] 9))) := Lib.hid (fun B hB => ((Below.refl _ _).alloc (by omega) _).alloc (by simp; omega) _)
  have c0 : (w.alloc (.cells #[.int .i64 (m : Int)] 3)).cell? ⟨w.heap.size, 0, none⟩ = some (.int .i64 (m : Int)) := HN0.cell 0
  clear h HN0 HT0
  go_enter Tryd.func32, Tryd.ntmps32
  go_wp2_with fail
  refine (withText_any s R w.heap.size (w.heap.size + 1) m _ H.out HN.out HT.out hs hm).mono ?_
  rintro e w1 ⟨rfl, hr1, hb1, hl1⟩
  have R1 := Lib.hid hr1
  have L1 : Hid (∀ B, B ≤ R → Below B w w1) := Lib.hid (fun B hB => (B0.out B hB).trans (hl1 B hB (by omega)))
  have c1 : w1.cell? ⟨w.heap.size + 1, 0, none⟩ = some (.string (txT s m)) := hb1.cell 0
  clear hr1 hl1 hb1 c0
  go_wp2
  go_ret2
  exact ⟨rfl, R1.out, L1.out⟩
def endE (s : ByteArray) : Int := if s.size = 0 then 0 else 4
theorem rend_any (s : ByteArray) (R : Nat) (w : World) (h : Rdr w R s) :
    Calls Tryd.prog 34 #[.pointer (some ⟨R, 0, none⟩)] w fun e w' => e = .returned (.int .i64 (endE s)) ∧ w = w' := by
  have c0 : w.cell? ⟨R, 0, none⟩ = some (.string s) := h.cell 0
  by_cases h0 : s.size = 0
  · have E : Hid (endE s = 0) := Lib.hid (if_pos h0)
    have ht : s.toList = [] := by rw [ByteArray.toList_eq, List.eq_nil_iff_length_eq_zero]; simpa using h0
    have ht2 : (!s.toList.isEmpty) = false := by rw [ht]; rfl
    go_enter Tryd.func34, Tryd.ntmps34
    go_wp2
    go_ret
    exact ⟨by rw [E.out]; rfl, rfl⟩
  · have E : Hid (endE s = 4) := Lib.hid (if_neg h0)
    have ht2 : s.toList.isEmpty = false := by
      rw [ByteArray.toList_eq, List.isEmpty_eq_false_iff, ne_eq, List.eq_nil_iff_length_eq_zero]; simpa using h0
    go_enter Tryd.func34, Tryd.ntmps34
    go_wp2
    go_ret
    exact ⟨by rw [E.out]; rfl, rfl⟩
def txL (t : ByteArray) : ByteArray := bs (putL t.size) ++ t
theorem putText_any (s t : ByteArray) (w : World) (hs : s.size ≤ 2305843009213693952) (ht : t.size ≤ 2305843009213693952) :
    Calls Tryd.prog 26 #[.string s, .string t] w fun e w' => e = .returned (.string (s ++ txL t)) ∧ Below w.heap.size w w' := by
  have C := Lib.hid (put_any s t.size w (by omega) (by omega))
  have E : Hid (s ++ txL t = s ++ bs (putL t.size) ++ t) := Lib.hid (by rw [txL, ByteArray.append_assoc])
  have hl := putN_length 9 t.size
  have hz : (s ++ bs (putL t.size)).size ≤ 2305843009213693962 := by rw [ByteArray.size_append, bs_size]; show _ + (putN 9 t.size).length ≤ _; omega
  generalize s ++ bs (putL t.size) = u at *
  clear hl
  go_enter Tryd.func26, Tryd.ntmps26
  go_wp2_with fail
  (with_reducible refine C.out.mono ?_)
  rintro e w1 ⟨rfl, hb⟩
  have HB := Lib.hid hb
  clear hb C
  go_wp2
  go_ret
  exact ⟨by rw [E.out]; rfl, HB.out⟩
end Go.Proofs.YtpfccicahfncbaaDoor
namespace Go.Proofs.YtpfccicahfncbaaDoor
open Go.RowKit
/-- What the table says of a slice type and its element type. -/
structure ElemN (P : Program) (t e : TypeId) (z : Value) (size bytes : Nat) : Prop where
  ht : P.underlying t = some (.slice e)
  info : ∃ i, P.info? e = some i ∧ i.zero = some z ∧ i.size = size ∧ i.bytes = bytes
  hz : z.cells.size = size
  pos : 0 < size
theorem ElemN.of {P : Program} {t e : TypeId} {z : Value} {size bytes : Nat} (ht : P.underlying t = some (.slice e))
    (hi : (P.info? e).map (fun i => (i.zero, i.size, i.bytes)) = some (some z, size, bytes)) (hz : z.cells.size = size) (hp : 0 < size) : ElemN P t e z size bytes := by
  obtain ⟨i, h1, h2, h3, h4⟩ := info_parts hi
  exact ⟨ht, ⟨i, h1, h2, h3, h4⟩, hz, hp⟩
theorem reads_new (w : World) (cs : Array Value) (e : TypeId) (size : Nat) (h : cs.size = size) : Reads (w.alloc (.cells cs e)) (w.heap.size + 1) size (some ⟨w.heap.size, 0, none⟩) 1 cs.toList := by
  refine ⟨by rw [Array.length_toList, h, Nat.one_mul], fun _ => ⟨_, rfl, by simp, fun j u hj => ?_⟩⟩
  have hb : (w.alloc (.cells cs e)).heap[w.heap.size]? = some (.cells cs e (0, 0)) := heap_alloc_new w _
  have ea : ({ block := w.heap.size, off := 0, spot := none } : Addr).add j = ⟨w.heap.size, j, none⟩ := by unfold Addr.add; split <;> simp_all
  rw [ea, cell_of_row _ _ j cs e (0, 0) hb, ← hj, Array.getElem?_toList]
theorem grown_alloc {w w' : World} {o : Obj} {row : Option Nat} (h : (w.alloc o).grownBy w' row) : w.grownBy w' row :=
  ⟨h.os, h.tape, h.output, Nat.le_trans (by simp) h.size, fun k hk hne => (h.block k (by simp; omega) hne).trans (Below.heap_alloc w _ k hk)⟩
section
variable {P : Program} {w : World} {t e : TypeId} {z : Value} {size bytes : Nat}
theorem appendN_new (E : ElemN P t e z size bytes) {ops : Array Oper} {rest : List Oper} {o : Oper} {a : Act} {Q : Exit → Act → World → Prop} (hgd : o.guard = none) (s x : Operand)
    (ho : o.op = .call { callee := .builtin .append, args := #[s, x], argTypes := #[t, t] })
    (base : Nat) (v : Value) (n : Nat) (xs : List Value) (hs : a.eval s = v) (hown : w.ownsRow base e size v n xs) (cs : Array Value) (hcs : cs.size = size) (hx : a.eval x = .slice (some ⟨w.heap.size, 0, none⟩) 1 1)
    (h1 : ∀ u ∈ cs.toList, u.oneCell' = true) (hn : n ≤ 4611686018427387904) (hbytes : (n + 1) * bytes ≤ 140737488355328) (hbase : base ≤ w.heap.size)
    (h : ∀ v' w', w'.ownsRow base e size v' (n + 1) (xs ++ cs.toList) → w.grownBy w' v.ownBlock → (v'.ownBlock = v.ownBlock ∨ v'.ownBlock = some (w.heap.size + 1)) → wpList P ops Q rest (a.put o.dst v') w') : wpList P ops Q (o :: rest) a (w.alloc (.cells cs e)) := by
  obtain ⟨i, hi, hz0, hz1, hz2⟩ := E.info
  exact wpList_append_any (w.alloc (.cells cs e)) hgd s x t ho base e i z size bytes E.ht hi hz0 hz1 hz2 E.hz E.pos v n xs hs (hown.alloc _) (w.heap.size + 1) (some ⟨w.heap.size, 0, none⟩) 1 1 cs.toList hx
    (reads_new w cs e size hcs) h1 (by unfold maxLen; omega) hbytes (by simp; omega) (fun v' w' h2 h3 h4 => h v' w' h2 (grown_alloc h3) (by simp at h4; exact h4))
theorem step_appendN (E : ElemN P t e z size bytes) {ops : Array Oper} {o : Oper} {a : Act} {K : Act → World → Prop} {Q : Exit → Act → World → Prop} {F : Prop} (hgd : o.guard = none) (s x : Operand)
    (ho : o.op = .call { callee := .builtin .append, args := #[s, x], argTypes := #[t, t] })
    (base : Nat) (v : Value) (n : Nat) (xs : List Value) (hs : a.eval s = v) (hown : w.ownsRow base e size v n xs) (cs : Array Value) (hcs : cs.size = size) (hx : a.eval x = .slice (some ⟨w.heap.size, 0, none⟩) 1 1)
    (h1 : ∀ u ∈ cs.toList, u.oneCell' = true) (hn : n ≤ 4611686018427387904) (hbytes : (n + 1) * bytes ≤ 140737488355328) (hbase : base ≤ w.heap.size)
    (h : ∀ v' w', w'.ownsRow base e size v' (n + 1) (xs ++ cs.toList) → w.grownBy w' v.ownBlock → K (a.put o.dst v') w') :
    if Region.wanted o (yielded ops a.tmps) = true then Oper.wp P o a (w.alloc (.cells cs e)).drew K Q else F := by
  obtain ⟨i, hi, hz0, hz1, hz2⟩ := E.info
  exact step_append_any (w.alloc (.cells cs e)).drew hgd s x t ho base e i z size bytes E.ht hi hz0 hz1 hz2 E.hz E.pos v n xs hs (hown.alloc _) (w.heap.size + 1) (some ⟨w.heap.size, 0, none⟩) 1 1 cs.toList hx
    (reads_new w cs e size hcs) h1 (by unfold maxLen; omega) hbytes (by simp; omega) (fun v' w' h2 h3 h4 => h v' w' h2 (grown_alloc (w' := w') (o := .cells cs e) ⟨h3.os, h3.tape, h3.output, h3.size, h3.block⟩))
theorem wp_appendN (E : ElemN P t e z size bytes) {o : Oper} {a : Act} {K : Act → World → Prop} {Q : Exit → Act → World → Prop} (s x : Operand)
    (ho : o.op = .call { callee := .builtin .append, args := #[s, x], argTypes := #[t, t] })
    (base : Nat) (v : Value) (n : Nat) (xs : List Value) (hs : a.eval s = v) (hown : w.ownsRow base e size v n xs) (cs : Array Value) (hcs : cs.size = size) (hx : a.eval x = .slice (some ⟨w.heap.size, 0, none⟩) 1 1)
    (h1 : ∀ u ∈ cs.toList, u.oneCell' = true) (hn : n ≤ 4611686018427387904) (hbytes : (n + 1) * bytes ≤ 140737488355328) (hbase : base ≤ w.heap.size)
    (h : ∀ v' w', w'.ownsRow base e size v' (n + 1) (xs ++ cs.toList) → w.grownBy w' v.ownBlock → (v'.ownBlock = v.ownBlock ∨ v'.ownBlock = some (w.heap.size + 1)) → K (a.put o.dst v') w') : Oper.wp P o a (w.alloc (.cells cs e)) K Q := by
  obtain ⟨i, hi, hz0, hz1, hz2⟩ := E.info
  exact wp_append_any (w.alloc (.cells cs e)) s x t ho base e i z size bytes E.ht hi hz0 hz1 hz2 E.hz E.pos v n xs hs (hown.alloc _) (w.heap.size + 1) (some ⟨w.heap.size, 0, none⟩) 1 1 cs.toList hx
    (reads_new w cs e size hcs) h1 (by unfold maxLen; omega) hbytes (by simp; omega) (fun v' w' h2 h3 h4 => h v' w' h2 (grown_alloc h3) (by simp at h4; exact h4))
end
/-- Of a row of the call's own the first k elements alone. -/
theorem own_shorter {w : World} {base : Nat} {e : TypeId} {size n k g c : Nat} {xs : List Value} (h : w.ownsRow base e size (.slice (some ⟨g, 0, none⟩) n c) n xs) (hk : k ≤ n) : w.ownsRow base e size (.slice (some ⟨g, 0, none⟩) k c) k (xs.take (k * size)) := by
  have hl := h.1
  rcases h.2 with ⟨h', _⟩ | ⟨g', cap, cur, h', a1, a2, a3, a4, a5, a6⟩
  · cases h'
  · simp only [Value.slice.injEq, Option.some.injEq, Addr.mk.injEq, and_true, true_and] at h'
    obtain ⟨rfl, rfl⟩ := h'
    have hm : k * size ≤ n * size := Nat.mul_le_mul_right _ hk
    refine ⟨by rw [List.length_take, hl]; omega, .inr ⟨g, c, cur, rfl, a1, a2, by omega, a4, a5, ?_⟩⟩
    rw [← a6, List.take_take, Nat.min_eq_left hm]
end Go.Proofs.YtpfccicahfncbaaDoor
namespace Go.Proofs.YtpfccicahfncbaaDoor
open Go.RowKit Wir
set_option linter.unusedVariables false
/-- What is known of a file. -/
structure Att where
  nd : UInt8
  md : UInt32
  ui : UInt32
  gi : UInt32
  mt : Int
  tg : ByteArray
  xs : List (ByteArray × ByteArray)
def Att.fit (a : Att) : Prop := -9223372036854775808 ≤ a.mt ∧ a.mt ≤ 9223372036854775807
def xtC (p : ByteArray × ByteArray) : List Value := [.string p.1, .string p.2]
def xtV (l : List (ByteArray × ByteArray)) : List Value := l.flatMap xtC
theorem xtV_length (l : List (ByteArray × ByteArray)) : (xtV l).length = l.length * 2 := by
  induction l with
  | nil => rfl
  | cons o l ih =>
    show (xtC o ++ xtV l).length = _
    rw [List.length_append, ih, List.length_cons]
    show 2 + _ = _
    omega
theorem xtV_app (a b : List (ByteArray × ByteArray)) : xtV (a ++ b) = xtV a ++ xtV b := by unfold xtV; rw [List.flatMap_append]
theorem xtV_get (l : List (ByteArray × ByteArray)) (i : Nat) (h : i < l.length) : (xtV l)[i * 2]? = some (.string (l[i]).1) ∧ (xtV l)[i * 2 + 1]? = some (.string (l[i]).2) := by
  induction l generalizing i with
  | nil => simp at h
  | cons o l ih =>
    have e : xtV (o :: l) = .string o.1 :: .string o.2 :: xtV l := rfl
    rw [e]
    cases i with
    | zero => exact ⟨rfl, rfl⟩
    | succ i =>
      have := ih i (by simpa using h)
      rw [show (i + 1) * 2 = i * 2 + 1 + 1 by omega]
      simpa using this
theorem xtV_one (l : List (ByteArray × ByteArray)) : ∀ u ∈ xtV l, u.oneCell' = true := fun u hu => by
  obtain ⟨o, _, ho⟩ := List.mem_flatMap.1 hu
  simp only [xtC, List.mem_cons, List.not_mem_nil, or_false] at ho
  rcases ho with rfl | rfl <;> rfl
theorem xt_cells {w : World} {B n : Nat} {A : Option Addr} {l : List (ByteArray × ByteArray)} (h : Reads w B 2 A n (xtV l)) (i : Nat) (hi : i < n) :
    ∃ (ad : Addr) (hl : i < l.length), A = some ad ∧ ad.block < B ∧ w.cell? (ad.add (i * 2)) = some (.string (l[i]).1) ∧ w.cell? ((ad.add (i * 2)).add 1) = some (.string (l[i]).2) := by
  obtain ⟨ad, e, hb, hc⟩ := h.2 (by omega)
  have hl : i < l.length := by have := h.1; rw [xtV_length] at this; omega
  obtain ⟨g1, g2⟩ := xtV_get l i hl
  exact ⟨ad, hl, e, hb, hc _ _ g1, by rw [add_of_add]; exact hc _ _ g2⟩
theorem Reads.xtLen {w : World} {B n : Nat} {A : Option Addr} {l : List (ByteArray × ByteArray)} (h : Reads w B 2 A n (xtV l)) : l.length = n := by
  have := h.1; rw [xtV_length] at this; omega
theorem xtV_take (l : List (ByteArray × ByteArray)) (k : Nat) (hk : k < l.length) : xtV (l.take (k + 1)) = xtV (l.take k) ++ [.string (l[k]).1, .string (l[k]).2] := by
  rw [List.take_add_one, List.getElem?_eq_getElem hk, xtV_app]; rfl
/-- A set of attributes as a value: its list lies at A. -/
def attV (a : Att) (A : Option Addr) (n c : Nat) : Array Value := #[.int .u8 (a.nd.toNat : Int), .int .u32 (a.md.toNat : Int), .int .u32 (a.ui.toNat : Int), .int .u32 (a.gi.toNat : Int), .int .i64 a.mt, .string a.tg, .slice A n c]
/-- May the list be, behind a name? -/
def chkX : ByteArray → List (ByteArray × ByteArray) → Bool
  | _, [] => true
  | last, p :: xs => decide (nmE p.1 = 0) && decide (p.2.size ≤ 4096) && Op.bytesLess last.toList p.1.toList && chkX p.1 xs
def nul (s : ByteArray) : Bool := decide (0 ≤ Lib.indexByte s.data.toList 0)
/-- What Check says first .. -/
def chk1 (a : Att) : Bool := decide (a.nd.toNat < 1) || decide (3 < a.nd.toNat) || decide (4095 < a.md.toNat) || decide (a.mt < 0) || decide (1099511627776 < a.mt)
def chk2 (a : Att) : Bool := (decide (a.nd.toNat = 3) != !a.tg.toList.isEmpty) || decide (1024 < a.tg.size) || nul a.tg || decide (16 < a.xs.length)
def chkA (a : Att) : Int := if chk1 a = true ∨ chk2 a = true ∨ chkX ByteArray.empty a.xs = false then 1 else 0
theorem chkA_bad1 {a : Att} (h : chk1 a = true) : chkA a = 1 := by rw [chkA, if_pos (.inl h)]
theorem chkA_bad2 {a : Att} (h : chk2 a = true) : chkA a = 1 := by rw [chkA, if_pos (.inr (.inl h))]
theorem chkA_bad3 {a : Att} (h : chkX ByteArray.empty a.xs = false) : chkA a = 1 := by rw [chkA, if_pos (.inr (.inr h))]
theorem chkA_ok {a : Att} (h1 : chk1 a = false) (h2 : chk2 a = false) (h3 : chkX ByteArray.empty a.xs = true) : chkA a = 0 := by
  rw [chkA, if_neg]
  rintro (h | h | h)
  · rw [h1] at h; cases h
  · rw [h2] at h; cases h
  · rw [h3] at h; cases h
theorem chkX_step (last : ByteArray) (l : List (ByteArray × ByteArray)) (k : Nat) (h : k < l.length) : chkX last (l.drop k) = (decide (nmE (l[k]).1 = 0) && decide ((l[k]).2.size ≤ 4096) && Op.bytesLess last.toList (l[k]).1.toList && chkX (l[k]).1 (l.drop (k + 1))) := by
  rw [List.drop_eq_getElem_cons h, chkX]
theorem nmE_or (s : ByteArray) : nmE s = 0 ∨ nmE s = 10 := by
  unfold nmE
  split
  · exact .inr rfl
  · split
    · exact .inr rfl
    · exact .inl rfl
end Go.Proofs.YtpfccicahfncbaaDoor
namespace Go.Proofs.YtpfccicahfncbaaDoor
open Go.RowKit Wir
set_option linter.unusedVariables false
set_option linter.unusedSimpArgs false
theorem att_cells (a : Att) (A : Option Addr) (n c : Nat) (w : World) (g : Nat) (h : Blk w g 27 (attV a A n c)) :
    w.cell? ⟨g, 0, none⟩ = some (.int .u8 (a.nd.toNat : Int)) ∧ w.cell? ⟨g, 1, none⟩ = some (.int .u32 (a.md.toNat : Int)) ∧ w.cell? ⟨g, 2, none⟩ = some (.int .u32 (a.ui.toNat : Int)) ∧ w.cell? ⟨g, 3, none⟩ = some (.int .u32 (a.gi.toNat : Int)) ∧ w.cell? ⟨g, 4, none⟩ = some (.int .i64 a.mt) ∧ w.cell? ⟨g, 5, none⟩ = some (.string a.tg) ∧ w.cell? ⟨g, 6, none⟩ = some (.slice A n c) :=
  ⟨h.cell 0, h.cell 1, h.cell 2, h.cell 3, h.cell 4, h.cell 5, h.cell 6⟩
set_option maxRecDepth 100000 in
set_option maxHeartbeats 1000000 in
theorem attChk_any (a : Att) (A : Option Addr) (n c : Nat) (w : World) (B : Nat) (hr : Reads w B 2 A n (xtV a.xs)) (hB : B ≤ w.heap.size) (hf : a.fit) (hn : n ≤ 4611686018427387904) (ht : a.tg.size ≤ 4611686018427387904) (hz : ∀ p ∈ a.xs, p.1.size ≤ 4611686018427387904 ∧ p.2.size ≤ 4611686018427387904) :
    Calls Tryd.prog 22 #[.agg (attV a A n c)] w fun e w' => e = .returned (.int .i64 (chkA a)) ∧ Below w.heap.size w w' := by
  have HR := Lib.hid hr
  have HZ := Lib.hid hz
  have HL := Lib.hid hr.xtLen
  have HB0 : Hid (Blk (w.alloc (.cells (attV a A n c) 27)) w.heap.size 27 (attV a A n c) ∧ Below w.heap.size w (w.alloc (.cells (attV a A n c) 27))) := Lib.hid ⟨Blk.new _ _ _, (Below.refl _ _).alloc (Nat.le_refl _) _⟩
  have b1 := a.nd.toNat_lt
  have b2 := a.md.toNat_lt
  obtain ⟨f1, f2⟩ := hf
  clear hr hz
  have hf7 := fun (w : World) (g : Nat) (h : Blk w g 27 (attV a A n c)) => att_cells a A n c w g h
  by_cases h1 : chk1 a = true
  · have E := Lib.hid (chkA_bad1 h1)
    have h1' : a.nd.toNat < 1 ∨ (1 ≤ a.nd.toNat ∧ 3 < a.nd.toNat) ∨ (1 ≤ a.nd.toNat ∧ a.nd.toNat ≤ 3 ∧ 4095 < a.md.toNat) ∨ (1 ≤ a.nd.toNat ∧ a.nd.toNat ≤ 3 ∧ a.md.toNat ≤ 4095 ∧ a.mt < 0) ∨ (1 ≤ a.nd.toNat ∧ a.nd.toNat ≤ 3 ∧ a.md.toNat ≤ 4095 ∧ 0 ≤ a.mt ∧ 1099511627776 < a.mt) := by
      simp only [chk1, Bool.or_eq_true, decide_eq_true_eq] at h1; omega
    clear h1
    go_enter Tryd.func22, Tryd.ntmps22
    go_upto_region 1 with fail
    generalize w.alloc (.cells (attV a A n c) 27) = w1 at HB0 ⊢
    obtain ⟨c0, c1, c2, c3, c4, c5, c6⟩ := hf7 w1 _ HB0.out.1
    clear hf7
    rcases h1' with h | ⟨h, h'⟩ | ⟨h, h', h''⟩ | ⟨h, h', h'', h3⟩ | ⟨h, h', h'', h3, h4⟩
    all_goals
      go_wp2
      go_ret
      exact ⟨by rw [E.out]; rfl, HB0.out.2⟩
  · have h1f : chk1 a = false := by simpa using h1
    have h1' : 1 ≤ a.nd.toNat ∧ a.nd.toNat ≤ 3 ∧ a.md.toNat ≤ 4095 ∧ 0 ≤ a.mt ∧ a.mt ≤ 1099511627776 := by
      simp only [chk1, Bool.or_eq_true, decide_eq_true_eq] at h1; omega
    obtain ⟨k1, k2, k3, k4, k5⟩ := h1'
    have CT : Hid (∀ W, Calls Tryd.prog 45 #[.string a.tg, .string ⟨#[0]⟩] W fun e w' => e = .returned (.bool (nul a.tg)) ∧ w' = W) := Lib.hid (fun W => Tryd.strings_Contains_one a.tg 0 W)
    clear h1
    have hsp : ∃ lb tb : Bool, ((a.nd.toNat : Int) == 3) = lb ∧ a.tg.toList.isEmpty = tb ∧ decide (a.nd.toNat = 3) = lb := ⟨_, _, rfl, rfl, by
      by_cases h : a.nd.toNat = 3
      · rw [h]; rfl
      · rw [decide_eq_false h]; symm; rw [beq_eq_false_iff_ne]; omega⟩
    obtain ⟨lb, tb, hlb, htb, hlb2⟩ := hsp
    by_cases h2 : chk2 a = true
    · have E := Lib.hid (chkA_bad2 h2)
      have h2' : (lb != !tb) = true ∨ ((lb != !tb) = false ∧ 1024 < a.tg.size) ∨ ((lb != !tb) = false ∧ a.tg.size ≤ 1024 ∧ nul a.tg = true) ∨ ((lb != !tb) = false ∧ a.tg.size ≤ 1024 ∧ nul a.tg = false ∧ 16 < n) := by
        unfold chk2 at h2
        rw [hlb2, htb, HL.out] at h2
        simp only [Bool.or_eq_true, decide_eq_true_eq] at h2
        cases h5 : (lb != !tb) with
        | true => exact .inl rfl
        | false =>
          rw [h5] at h2
          rcases Nat.lt_or_ge 1024 a.tg.size with h6 | h6
          · exact .inr (.inl ⟨rfl, h6⟩)
          · cases h7 : nul a.tg with
            | true => exact .inr (.inr (.inl ⟨rfl, h6, rfl⟩))
            | false =>
              rw [h7] at h2
              refine .inr (.inr (.inr ⟨rfl, h6, rfl, ?_⟩))
              rcases h2 with ((h | h) | h) | h
              · cases h
              · omega
              · cases h
              · exact h
      clear h2 hlb2
      generalize nul a.tg = nb at *
      go_enter Tryd.func22, Tryd.ntmps22
      go_upto_region 1 with fail
      generalize w.alloc (.cells (attV a A n c) 27) = w1 at HB0 ⊢
      obtain ⟨c0, c1, c2, c3, c4, c5, c6⟩ := hf7 w1 _ HB0.out.1
      clear hf7
      rcases h2' with h | ⟨h, h'⟩ | ⟨h, h', rfl⟩ | ⟨h, h', rfl, h3⟩
      · cases lb <;> cases tb
        · go_wp2
          go_ret
          exact ⟨by rw [E.out]; rfl, HB0.out.2⟩
        · cases h
        · cases h
        · go_wp2
          go_ret
          exact ⟨by rw [E.out]; rfl, HB0.out.2⟩
      · cases lb <;> cases tb
        · cases h
        · go_wp2
          go_ret
          exact ⟨by rw [E.out]; rfl, HB0.out.2⟩
        · go_wp2
          go_ret
          exact ⟨by rw [E.out]; rfl, HB0.out.2⟩
        · cases h
      · cases lb <;> cases tb
        · cases h
        · clear h
          go_wp2_with fail
          (with_reducible refine (CT.out _).mono ?_)
          rintro e w2 ⟨rfl, rfl⟩
          go_wp2
          go_ret
          exact ⟨by rw [E.out]; rfl, HB0.out.2⟩
        · clear h
          go_wp2_with fail
          (with_reducible refine (CT.out _).mono ?_)
          rintro e w2 ⟨rfl, rfl⟩
          go_wp2
          go_ret
          exact ⟨by rw [E.out]; rfl, HB0.out.2⟩
        · cases h
      · cases lb <;> cases tb
        · cases h
        · clear h
          go_wp2_with fail
          (with_reducible refine (CT.out _).mono ?_)
          rintro e w2 ⟨rfl, rfl⟩
          go_wp2
          go_ret
          exact ⟨by rw [E.out]; rfl, HB0.out.2⟩
        · clear h
          go_wp2_with fail
          (with_reducible refine (CT.out _).mono ?_)
          rintro e w2 ⟨rfl, rfl⟩
          go_wp2
          go_ret
          exact ⟨by rw [E.out]; rfl, HB0.out.2⟩
        · cases h
    · have h2f : chk2 a = false := by simpa using h2
      have h2' : (lb != !tb) = false ∧ a.tg.size ≤ 1024 ∧ nul a.tg = false ∧ n ≤ 16 := by
        have h3 := h2f
        unfold chk2 at h3
        rw [hlb2, htb, HL.out] at h3
        simp only [Bool.or_eq_false_iff, decide_eq_false_iff_not] at h3
        obtain ⟨⟨⟨q1, q2⟩, q3⟩, q4⟩ := h3
        exact ⟨q1, by omega, q3, by omega⟩
      obtain ⟨h, h', hnb, h3⟩ := h2'
      obtain rfl : lb = !tb := by cases lb <;> cases tb <;> first | rfl | cases h
      clear h
      have tf : ((!tb) != !tb) = false := by simp
      have g1 : decide ((a.nd.toNat : Int) < 1) = false := by rw [decide_eq_false_iff_not]; omega
      have g2 : decide (3 < (a.nd.toNat : Int)) = false := by rw [decide_eq_false_iff_not]; omega
      have g3 : decide (4095 < (a.md.toNat : Int)) = false := by rw [decide_eq_false_iff_not]; omega
      have g4 : decide (a.mt < 0) = false := by rw [decide_eq_false_iff_not]; omega
      have g5 : decide (1099511627776 < a.mt) = false := by rw [decide_eq_false_iff_not]; omega
      have g6 : decide (16 < (n : Int)) = false := by rw [decide_eq_false_iff_not]; omega
      have g7 : decide (1024 < (a.tg.size : Int)) = false := by rw [decide_eq_false_iff_not]; omega
      rw [hnb] at CT
      clear h2 hlb2 hnb
      have E3 := Lib.hid (fun h => chkA_bad3 (a := a) h)
      have E4 := Lib.hid (fun h => chkA_ok (a := a) h1f h2f h)
      clear h1f h2f
      go_enter Tryd.func22, Tryd.ntmps22
      go_upto_region 1 with fail
      have hW0 := Lib.hid (rfl : w.alloc (.cells (attV a A n c) 27) = w.alloc (.cells (attV a A n c) 27))
      generalize w.alloc (.cells (attV a A n c) 27) = w1 at HB0 ⊢
      clear hW0
      obtain ⟨c0, c1, c2, c3, c4, c5, c6⟩ := hf7 w1 _ HB0.out.1
      clear hf7
      go_upto_region 12 with ((go_at_call 45; refine (CT.out _).mono ?_; rintro e w2 ⟨rfl, rfl⟩))
      clear c0 c1 c2 c3 c4 c5 g1 g2 g3 g4 g5 g6 g7 k1 k2 k3 k4 k5 f1 f2 b1 b2 CT tf
      have HBz : Hid (Below w.heap.size w w2) := Lib.hid HB0.out.2
      go_wp2_with fail
      go_loopw [4, 48] (fun v i wr => ∃ (k : Nat) (last : ByteArray), k ≤ n ∧ i = .int .i64 k ∧ v = .string last ∧ Hid (chkX ByteArray.empty a.xs = chkX last (a.xs.drop k)) ∧ Hid (Below w.heap.size w wr)) (fun _ i _ => n - (intOf i).toNat)
      case atStart => exact ⟨0, ByteArray.empty, by omega, rfl, rfl, Lib.hid (by rw [List.drop_zero]), HBz⟩
      case round =>
        obtain ⟨k, last, hk, rfl, rfl, HC, HK⟩ := hrel
        by_cases hlt : k < n
        · obtain ⟨ad, hkl, rfl, hbl, x0, x1⟩ := xt_cells HR.out k hlt
          have HS := Lib.hid (chkX_step last a.xs k hkl)
          obtain ⟨z1, z2⟩ := HZ.out _ (List.getElem_mem hkl)
          have hcell : Hid (∀ W, Below w.heap.size w W → W.cell? (ad.add (k * 2)) = some (.string (a.xs[k]).1) ∧ W.cell? ⟨(ad.add (k * 2)).block, (ad.add (k * 2)).off + 1, none⟩ = some (.string (a.xs[k]).2)) := Lib.hid (fun W hW => by
            show _ ∧ W.cell? ((ad.add (k * 2)).add 1) = _
            rw [hW.cell (by rw [block_of_add]; omega), hW.cell (by rw [block_of_add, block_of_add]; omega)]; exact ⟨x0, x1⟩)
          obtain ⟨x, hx⟩ : ∃ x, a.xs[k] = x := ⟨_, rfl⟩
          rw [hx] at HS z1 z2 hcell
          clear hx x0 x1 c6
          obtain ⟨y0, y1⟩ := hcell.out wr HK.out
          have hki : (k : Int) < (n : Int) := by omega
          have NC := Lib.hid (fun W => nameChk_any x.1 W z1)
          have NL := Lib.hid (fun W => nameLess_any last x.1 W)
          have hHS : Hid (chkX ByteArray.empty a.xs = (decide (nmE x.1 = 0) && decide (x.2.size ≤ 4096) && Op.bytesLess last.toList x.1.toList && chkX x.1 (a.xs.drop (k + 1)))) := Lib.hid (HC.out.trans HS.out)
          clear HS HC
          go_upto_region 16 with fail
          have BN : Hid (Blk (wr.alloc (.cells #[.string x.1, .string x.2] 43)) wr.heap.size 43 #[.string x.1, .string x.2] ∧ Below w.heap.size w (wr.alloc (.cells #[.string x.1, .string x.2] 43))) := Lib.hid ⟨Blk.new _ _ _, HK.out.alloc HK.out.size _⟩
          generalize wr.alloc (.cells #[.string x.1, .string x.2] 43) = w3 at BN ⊢
          have e0 : w3.cell? ⟨wr.heap.size, 0, none⟩ = some (.string x.1) := BN.out.1.cell 0
          have e1 : w3.cell? ⟨wr.heap.size, 1, none⟩ = some (.string x.2) := BN.out.1.cell 1
          clear y0 y1 hcell
          go_wp2_with fail
          (with_reducible refine (NC.out _).mono ?_)
          rintro e w4 ⟨rfl, hb4⟩
          have BN4 : Hid (Blk w4 wr.heap.size 43 #[.string x.1, .string x.2] ∧ Below w.heap.size w w4) := Lib.hid ⟨BN.out.1.below hb4 BN.out.1.lt, BN.out.2.trans (hb4.mono BN.out.2.size)⟩
          clear hb4 NC e0 e1
          have e0 : w4.cell? ⟨wr.heap.size, 0, none⟩ = some (.string x.1) := BN4.out.1.cell 0
          have e1 : w4.cell? ⟨wr.heap.size, 1, none⟩ = some (.string x.2) := BN4.out.1.cell 1
          rcases nmE_or x.1 with hn0 | hn0
          · rw [hn0] at hHS ⊢
            by_cases hv : x.2.size ≤ 4096
            · cases hl : Op.bytesLess last.toList x.1.toList with
              | true =>
                rw [hl] at NL
                have HN : Hid (chkX ByteArray.empty a.xs = chkX x.1 (a.xs.drop (k + 1))) := Lib.hid (by rw [hHS.out, hl, decide_eq_true hv]; rfl)
                clear hl hHS hn0
                have hv2 : decide (4096 < (x.2.size : Int)) = false := by rw [decide_eq_false_iff_not]; omega
                go_wp2_with fail
                (with_reducible refine (NL.out _).mono ?_)
                rintro e w5 ⟨rfl, rfl⟩
                go_wp2
                go_roundw
                case rel => exact ⟨k + 1, x.1, by omega, by go_num, rfl, HN, Lib.hid BN4.out.2⟩
                case measure => simp [intOf]; omega
              | false =>
                rw [hl] at NL
                have HN : Hid (chkA a = 1) := Lib.hid (E3.out (by rw [hHS.out, hl]; simp))
                clear hl hHS hn0
                have hv2 : decide (4096 < (x.2.size : Int)) = false := by rw [decide_eq_false_iff_not]; omega
                go_wp2_with fail
                (with_reducible refine (NL.out _).mono ?_)
                rintro e w5 ⟨rfl, rfl⟩
                go_wp2
                go_ret
                exact ⟨by rw [HN.out]; rfl, BN4.out.2⟩
            · have HN : Hid (chkA a = 1) := Lib.hid (E3.out (by rw [hHS.out, decide_eq_false hv]; simp))
              have hv2 : decide (4096 < (x.2.size : Int)) = true := by rw [decide_eq_true_eq]; omega
              clear hHS hn0
              go_wp2
              go_ret
              exact ⟨by rw [HN.out]; rfl, BN4.out.2⟩
          · rw [hn0] at hHS ⊢
            have HN : Hid (chkA a = 1) := Lib.hid (E3.out (by rw [hHS.out]; simp))
            clear hHS hn0
            go_wp2
            go_ret
            exact ⟨by rw [HN.out]; rfl, BN4.out.2⟩
        · obtain rfl : k = n := by omega
          have HT : Hid (chkX ByteArray.empty a.xs = true) := Lib.hid (by rw [HC.out, List.drop_of_length_le (by rw [HL.out]; exact Nat.le_refl _)]; rfl)
          go_wp2
          go_ret
          exact ⟨by rw [E4.out HT.out]; rfl, HK.out⟩
end Go.Proofs.YtpfccicahfncbaaDoor
