/- Walks: names.whole, names.Check, names.Less. -/
import Derived.Test.YtpfccicahfncbaaDoorShl
import Derived.Test.YtpfccicahfncbaaDoorMem
import Derived.Laws.RangeAny
import Derived.LoopTactic
import Derived.Deep.DeepCutAuto
import Derived.Lib.Hide
import Derived.BigQuiet
namespace Go.Proofs.YtpfccicahfncbaaDoor
open Go.RowKit
set_option linter.unusedVariables false
set_option linter.unusedSimpArgs false
theorem rune_wide (s : ByteArray) (pos : Nat) (h : pos < s.size) : 1 ≤ (Utf8.decode s pos).2 := by
  by_cases ha : (s[pos]'h).toNat < 128
  · rw [decode_ascii s pos h ha]
    exact Nat.le_refl _
  · exact (decode_high s pos h (by omega)).2
def fffd (s : ByteArray) (pos : Nat) : Bool := Lib.hasPrefix (s.extract pos s.size).data.toList [239, 191, 189]
/-- Do the bytes from pos on begin with bytes that are no rune? -/
def noRune (s : ByteArray) (pos : Nat) : Bool := decide ((Utf8.decode s pos).1 = 65533) && !fffd s pos
/-- How many runes there are from pos on, c being counted; false: they are not all whole. -/
def whF (s : ByteArray) : Nat → Nat → Nat → Nat × Bool
  | 0, _, c => (c, true)
  | b + 1, pos, c => if pos < s.size then (if noRune s pos = true then (0, false) else whF s b (pos + (Utf8.decode s pos).2) (c + 1)) else (c, true)
def whR (s : ByteArray) : Nat × Bool := whF s s.size 0 0
theorem whF_end (s : ByteArray) (b pos c : Nat) (h : ¬ pos < s.size) : whF s b pos c = (c, true) := by
  cases b with
  | zero => rfl
  | succ b => rw [whF, if_neg h]
/-- Is there a rune that no name has from pos on? -/
def ctF (s : ByteArray) : Nat → Nat → Bool
  | 0, _ => false
  | b + 1, pos => if pos < s.size then (if (Utf8.decode s pos).1 < 32 ∨ (Utf8.decode s pos).1 = 127 ∨ (Utf8.decode s pos).1 = 47 then true else ctF s b (pos + (Utf8.decode s pos).2)) else false
def ctR (s : ByteArray) : Bool := ctF s s.size 0
theorem ctF_end (s : ByteArray) (b pos : Nat) (h : ¬ pos < s.size) : ctF s b pos = false := by
  cases b with
  | zero => rfl
  | succ b => rw [ctF, if_neg h]
def dots (s : ByteArray) : Bool := (s.toList == [46]) || (s.toList == [46, 46])
/-- What Check says of a name. -/
def nmE (s : ByteArray) : Int := if (whR s).2 = false ∨ (whR s).1 < 1 ∨ 64 < (whR s).1 ∨ 255 < s.size ∨ dots s = true then 10 else if ctR s = true then 10 else 0
set_option maxRecDepth 100000 in
theorem whole_runes (s : ByteArray) (w : World) (hs : s.size ≤ 4611686018427387904) :
    Calls Tryd.prog 63 #[.string s] w fun e w' => e = .returned (.tuple #[.int .i64 ((whR s).1 : Int), .bool (whR s).2]) ∧ Below w.heap.size w w' := by
  have HP : Hid (∀ pos W, Calls Tryd.prog 73 #[.string (s.extract pos s.size), .string ⟨#[239, 191, 189]⟩] W fun e w' => e = .returned (.bool (fffd s pos)) ∧ w' = W) := Lib.hid (fun pos W => Tryd.strings_HasPrefix (s.extract pos s.size) ⟨#[239, 191, 189]⟩ W)
  have HB : Hid (∀ pos, Below w.heap.size w (w.iter s pos)) := Lib.hid (fun pos => (Below.refl _ _).alloc (Nat.le_refl _) _)
  have hut := Tryd.underlying9
  go_enter Tryd.func63, Tryd.ntmps63
  go_wp2
  go_loopw [2] (fun c w' => ∃ (pos b k : Nat), w' = w.iter s pos ∧ c = .int .i64 k ∧ Hid (whF s b pos k = whR s) ∧ s.size ≤ pos + b ∧ k ≤ pos) (fun _ w' => s.size - w'.iterPos w.heap.size)
  case atStart => exact ⟨0, s.size, 0, rfl, rfl, Lib.hid rfl, by omega, by omega⟩
  case round =>
    obtain ⟨pos, b, k, rfl, rfl, HC, hb, hk⟩ := hrel
    by_cases hp : pos < s.size
    · have hnx : ∀ ty, (Instr.next (.pointer (some ⟨w.heap.size, 0, none⟩)) true ty).run Tryd.prog (w.iter s pos) = _ := fun ty => run_next_any w s pos ty hp
      have hwd := rune_wide s pos hp
      obtain ⟨b, rfl⟩ : ∃ b', b = b' + 1 := ⟨b - 1, by omega⟩
      have hps : (pos : Int) ≤ (s.size : Int) := by omega
      by_cases hr : (Utf8.decode s pos).1 = 65533
      · have hrb : (((Utf8.decode s pos).1 : Int) == 65533) = true := by rw [beq_iff_eq]; omega
        cases hf : fffd s pos with
        | true =>
          have HQ : Hid (∀ W, Calls Tryd.prog 73 #[.string (s.extract pos s.size), .string ⟨#[239, 191, 189]⟩] W fun e w' => e = .returned (.bool true) ∧ w' = W) := Lib.hid (fun W => by rw [← hf]; exact HP.out pos W)
          have HW : Hid (whF s b (pos + (Utf8.decode s pos).2) (k + 1) = whR s) := Lib.hid (by rw [← HC.out, whF, if_pos hp, if_neg (by simp [noRune, hf])])
          clear hf hr HC
          go_wp2_with fail
          (with_reducible refine (HQ.out _).mono ?_)
          rintro e w' ⟨rfl, rfl⟩
          go_wp2
          go_roundw
          case rel => exact ⟨pos + (Utf8.decode s pos).2, b, k + 1, rfl, by go_num, HW, by omega, by omega⟩
          case measure => simp; omega
        | false =>
          have HQ : Hid (∀ W, Calls Tryd.prog 73 #[.string (s.extract pos s.size), .string ⟨#[239, 191, 189]⟩] W fun e w' => e = .returned (.bool false) ∧ w' = W) := Lib.hid (fun W => by rw [← hf]; exact HP.out pos W)
          have HW : Hid (whR s = (0, false)) := Lib.hid (by rw [← HC.out, whF, if_pos hp, if_pos (by simp [noRune, hf, hr])])
          clear hf hr HC
          go_wp2_with fail
          (with_reducible refine (HQ.out _).mono ?_)
          rintro e w' ⟨rfl, rfl⟩
          go_wp2
          go_ret2
          exact ⟨by rw [HW.out]; rfl, HB.out _⟩
      · have hrb : (((Utf8.decode s pos).1 : Int) == 65533) = false := by rw [beq_eq_false_iff_ne]; omega
        have HW : Hid (whF s b (pos + (Utf8.decode s pos).2) (k + 1) = whR s) := Lib.hid (by rw [← HC.out, whF, if_pos hp, if_neg (by simp [noRune, hr])])
        clear hr HC
        go_wp2
        go_roundw
        case rel => exact ⟨pos + (Utf8.decode s pos).2, b, k + 1, rfl, by go_num, HW, by omega, by omega⟩
        case measure => simp; omega
    · have hnx : ∀ ty, (Instr.next (.pointer (some ⟨w.heap.size, 0, none⟩)) true ty).run Tryd.prog (w.iter s pos) = _ := fun ty => run_next_end w s pos ty hp
      have HW : Hid (whR s = (k, true)) := Lib.hid (by rw [← HC.out, whF_end s b pos k hp])
      go_wp2
      go_ret2
      exact ⟨by rw [HW.out]; rfl, HB.out _⟩
theorem dots_of (s : ByteArray) (h : dots s = false) : (s.toList == [46]) = false ∧ (s.toList == [46, 46]) = false := by
  unfold dots at h
  rw [Bool.or_eq_false_iff] at h
  exact h
set_option maxRecDepth 100000 in
theorem nameChk_any (s : ByteArray) (w : World) (hs : s.size ≤ 4611686018427387904) :
    Calls Tryd.prog 46 #[.string s] w fun e w' => e = .returned (.int .i64 (nmE s)) ∧ Below w.heap.size w w' := by
  have C1 := Lib.hid (whole_runes s w hs)
  have hut := Tryd.underlying9
  by_cases h1 : (whR s).2 = false ∨ (whR s).1 < 1 ∨ 64 < (whR s).1 ∨ 255 < s.size ∨ dots s = true
  · have E : Hid (nmE s = 10) := Lib.hid (by rw [nmE, if_pos h1])
    obtain ⟨p, hp⟩ : ∃ p, whR s = p := ⟨_, rfl⟩
    rw [hp] at C1 h1
    obtain ⟨n, ok⟩ := p
    dsimp only at h1 C1
    clear hp
    cases ok with
    | false =>
      clear h1
      go_enter Tryd.func46, Tryd.ntmps46
      go_wp2_with fail
      (with_reducible refine C1.out.mono ?_)
      rintro e w1 ⟨rfl, hb1⟩
      have HB1 := Lib.hid hb1
      clear hb1 C1
      go_wp2
      go_ret
      exact ⟨by rw [E.out]; rfl, HB1.out⟩
    | true =>
      by_cases hn : n < 1 ∨ 64 < n ∨ 255 < s.size
      · go_enter Tryd.func46, Tryd.ntmps46
        go_wp2_with fail
        (with_reducible refine C1.out.mono ?_)
        rintro e w1 ⟨rfl, hb1⟩
        have HB1 := Lib.hid hb1
        clear hb1 C1 h1
        have hn' : n < 1 ∨ (1 ≤ n ∧ 64 < n) ∨ (1 ≤ n ∧ n ≤ 64 ∧ 255 < s.size) := by omega
        clear hn
        rcases hn' with h | ⟨h, h'⟩ | ⟨h, h', h''⟩
        all_goals
          go_wp2
          go_ret
          exact ⟨by rw [E.out]; rfl, HB1.out⟩
      · have hd : dots s = true := by
          rcases h1 with h | h | h | h | h
          · cases h
          · exact absurd (.inl h) hn
          · exact absurd (.inr (.inl h)) hn
          · exact absurd (.inr (.inr h)) hn
          · exact h
        have hn1 : 1 ≤ n := by omega
        have hn2 : n ≤ 64 := by omega
        have hn3 : s.size ≤ 255 := by omega
        unfold dots at hd
        clear h1 hn
        cases ha : (s.toList == [46]) with
        | true =>
          clear hd
          go_enter Tryd.func46, Tryd.ntmps46
          go_wp2_with fail
          (with_reducible refine C1.out.mono ?_)
          rintro e w1 ⟨rfl, hb1⟩
          have HB1 := Lib.hid hb1
          clear hb1 C1
          go_wp2
          go_ret
          exact ⟨by rw [E.out]; rfl, HB1.out⟩
        | false =>
          rw [ha, Bool.false_or] at hd
          go_enter Tryd.func46, Tryd.ntmps46
          go_wp2_with fail
          (with_reducible refine C1.out.mono ?_)
          rintro e w1 ⟨rfl, hb1⟩
          have HB1 := Lib.hid hb1
          clear hb1 C1
          go_wp2
          go_ret
          exact ⟨by rw [E.out]; rfl, HB1.out⟩
  · have E : Hid (nmE s = if ctR s = true then 10 else 0) := Lib.hid (by rw [nmE, if_neg h1])
    have hd : dots s = false := by
      cases h : dots s with
      | false => rfl
      | true => exact absurd (.inr (.inr (.inr (.inr h)))) h1
    obtain ⟨d1, d2⟩ := dots_of s hd
    obtain ⟨p, hp⟩ : ∃ p, whR s = p := ⟨_, rfl⟩
    rw [hp] at C1 h1
    obtain ⟨n, ok⟩ := p
    dsimp only at h1 C1
    have hok : ok = true := by
      cases ok with
      | true => rfl
      | false => exact absurd (.inl rfl) h1
    subst hok
    have hn1 : 1 ≤ n := by
      rcases Nat.lt_or_ge n 1 with h | h
      · exact absurd (.inr (.inl h)) h1
      · exact h
    have hn2 : n ≤ 64 := by
      rcases Nat.lt_or_ge 64 n with h | h
      · exact absurd (.inr (.inr (.inl h))) h1
      · exact h
    have hn3 : s.size ≤ 255 := by
      rcases Nat.lt_or_ge 255 s.size with h | h
      · exact absurd (.inr (.inr (.inr (.inl h)))) h1
      · exact h
    clear h1 hd hp
    go_enter Tryd.func46, Tryd.ntmps46
    go_wp2_with fail
    (with_reducible refine C1.out.mono ?_)
    rintro e w1 ⟨rfl, hb1⟩
    have HB : Hid (∀ pos, Below w.heap.size w (w1.iter s pos)) := Lib.hid (fun pos => hb1.alloc hb1.size _)
    clear hb1 C1
    go_wp2
    go_loopw [6] (fun c w' => ∃ (pos b : Nat), w' = w1.iter s pos ∧ Hid (ctF s b pos = ctR s) ∧ s.size ≤ pos + b) (fun _ w' => s.size - w'.iterPos w1.heap.size)
    case atStart => exact ⟨0, s.size, rfl, Lib.hid rfl, by omega⟩
    case round =>
      obtain ⟨pos, b, rfl, HC, hb⟩ := hrel
      by_cases hp : pos < s.size
      · have hnx : ∀ ty, (Instr.next (.pointer (some ⟨w1.heap.size, 0, none⟩)) true ty).run Tryd.prog (w1.iter s pos) = _ := fun ty => run_next_any w1 s pos ty hp
        have hwd := rune_wide s pos hp
        obtain ⟨b, rfl⟩ : ∃ b', b = b' + 1 := ⟨b - 1, by omega⟩
        by_cases hr : (Utf8.decode s pos).1 < 32 ∨ (Utf8.decode s pos).1 = 127 ∨ (Utf8.decode s pos).1 = 47
        · have HW : Hid (ctR s = true) := Lib.hid (by rw [← HC.out, ctF, if_pos hp, if_pos hr])
          obtain ⟨r, hrr⟩ : ∃ r, (Utf8.decode s pos).1 = r := ⟨_, rfl⟩
          rw [hrr] at hnx hr
          clear hrr HC
          have hr' : r < 32 ∨ (r = 127) ∨ (r = 47) := hr
          clear hr
          rcases hr' with h | h | h
          · have q1 : decide ((r : Int) < 32) = true := by rw [decide_eq_true_eq]; omega
            clear h
            go_wp2
            go_ret
            exact ⟨by rw [E.out, if_pos HW.out]; rfl, HB.out _⟩
          · subst h
            go_wp2
            go_ret
            exact ⟨by rw [E.out, if_pos HW.out]; rfl, HB.out _⟩
          · subst h
            go_wp2
            go_ret
            exact ⟨by rw [E.out, if_pos HW.out]; rfl, HB.out _⟩
        · have HW : Hid (ctF s b (pos + (Utf8.decode s pos).2) = ctR s) := Lib.hid (by rw [← HC.out, ctF, if_pos hp, if_neg hr])
          have q1 : decide (((Utf8.decode s pos).1 : Int) < 32) = false := by rw [decide_eq_false_iff_not]; omega
          have q2 : (((Utf8.decode s pos).1 : Int) == 127) = false := by rw [beq_eq_false_iff_ne]; omega
          have q3 : (((Utf8.decode s pos).1 : Int) == 47) = false := by rw [beq_eq_false_iff_ne]; omega
          clear hr HC
          go_wp2
          go_roundw
          case rel => exact ⟨pos + (Utf8.decode s pos).2, b, rfl, HW, by omega⟩
          case measure => simp; omega
      · have hnx : ∀ ty, (Instr.next (.pointer (some ⟨w1.heap.size, 0, none⟩)) true ty).run Tryd.prog (w1.iter s pos) = _ := fun ty => run_next_end w1 s pos ty hp
        have HW : Hid (ctR s = false) := Lib.hid (by rw [← HC.out, ctF_end s b pos hp])
        go_wp2
        go_ret
        exact ⟨by rw [E.out, if_neg (by rw [HW.out]; decide)]; rfl, HB.out _⟩
theorem nameLess_any (a b : ByteArray) (w : World) :
    Calls Tryd.prog 47 #[.string a, .string b] w fun e w' => e = .returned (.bool (Op.bytesLess a.toList b.toList)) ∧ w = w' := by
  go_enter Tryd.func47, Tryd.ntmps47
  go_wp2
  go_ret
  exact ⟨rfl, rfl⟩
end Go.Proofs.YtpfccicahfncbaaDoor
