/- Plain: a text's runes one by one, and what the program's own walk over a name counts. No conditions but a place within the text. -/
import Derived.Test.YtpfccicahfncbaaDoorName
import Derived.Test.YtpfccicahfncbaaDoorUnfP
import Derived.Lib.MapLaws
import Derived.Shelf.Unicode.DecodeAny
namespace Go.Proofs.YtpfccicahfncbaaDoor
open Go.RowKit Wir
set_option linter.unusedVariables false
theorem get_part (s : ByteArray) (p k : Nat) (h : p + k < s.size) : (s.extract p s.size).get! k = s.get! (p + k) := by
  have h1 : k < (s.extract p s.size).size := by rw [ByteArray.size_extract]; omega
  rw [Utf8W.get!_of_lt _ _ h1, Utf8W.get!_of_lt _ _ h, ByteArray.getElem_extract]
theorem get_off (s : ByteArray) (k : Nat) (h : s.size ≤ k) : s.get! k = 0 := by
  cases s with
  | mk d => exact getElem!_neg d k (by show ¬ k < d.size; exact Nat.not_lt.2 h)
/-- A text's rune at a place is the first one of what follows. -/
theorem decode_part (s : ByteArray) (p : Nat) (h : p < s.size) : Lib.decodeGo (s.extract p s.size) = Utf8.decode s p := by
  have hz : (s.extract p s.size).size = s.size - p := by rw [ByteArray.size_extract]; omega
  have e (k : Nat) : (s.extract p s.size).get! (0 + k) = s.get! (p + k) := by
    rw [Nat.zero_add]
    rcases Nat.lt_or_ge (p + k) s.size with h1 | h1
    · exact get_part s p k h1
    · rw [get_off _ _ (by rw [hz]; omega), get_off _ _ h1]
  have e0 : (s.extract p s.size).get! 0 = s.get! p := e 0
  unfold Lib.decodeGo
  rw [if_neg (by rw [hz]; omega), Lib.decode_at, Lib.decode_at, e0, e 1, e 2, e 3, hz, Nat.sub_zero]
theorem fffd_iff (s : ByteArray) (p : Nat) (h : p < s.size) : fffd s p = true ↔ 2 < s.size - p ∧ (s.get! p).toNat = 239 ∧ (s.get! (p + 1)).toNat = 191 ∧ (s.get! (p + 2)).toNat = 189 := by
  have hz : (s.extract p s.size).size = s.size - p := by rw [ByteArray.size_extract]; omega
  have hl : (s.extract p s.size).data.toList.length = s.size - p := by rw [← hz]; rfl
  have g (k : Nat) (hk : k < s.size - p) : (s.extract p s.size).data.toList[k]? = some (s.get! (p + k)) := by
    have e := get_part s p k (by omega)
    have h1 : k < (s.extract p s.size).size := by omega
    rw [← e, Utf8W.get!_of_lt _ _ h1]
    rw [Array.getElem?_toList, Array.getElem?_eq_getElem (by exact h1)]
    rfl
  have u (x : UInt8) (n : Nat) (hn : n < 256) : x = UInt8.ofNat n ↔ x.toNat = n := by
    constructor
    · rintro rfl; simp; omega
    · intro h; rw [← h]; simp
  unfold fffd Lib.hasPrefix
  generalize (s.extract p s.size).data.toList = l at hl g
  constructor
  · intro hp
    match l, hp, hl, g with
    | a :: b :: c :: r, hp, hl, g =>
      simp only [List.isPrefixOf, Bool.and_eq_true, beq_iff_eq, and_true] at hp
      have hl' : 2 < s.size - p := by rw [← hl]; simp
      have g0 := g 0 (by omega); have g1 := g 1 (by omega); have g2 := g 2 (by omega)
      simp only [List.getElem?_cons_zero, List.getElem?_cons_succ, Option.some.injEq, Nat.add_zero] at g0 g1 g2
      rw [← g0, ← g1, ← g2, ← hp.1, ← hp.2.1, ← hp.2.2]
      exact ⟨hl', rfl, rfl, rfl⟩
    | [], hp, _, _ => cases hp
    | [a], hp, _, _ => simp [List.isPrefixOf] at hp
    | [a, b], hp, _, _ => simp [List.isPrefixOf] at hp
  · rintro ⟨h2, a0, a1, a2⟩
    match l, hl, g with
    | a :: b :: c :: r, hl, g =>
      have g0 := g 0 (by omega); have g1 := g 1 (by omega); have g2 := g 2 (by omega)
      simp only [List.getElem?_cons_zero, List.getElem?_cons_succ, Option.some.injEq, Nat.add_zero] at g0 g1 g2
      have e0 : a = 239 := (u a 239 (by omega)).2 (by rw [g0]; exact a0)
      have e1 : b = 191 := (u b 191 (by omega)).2 (by rw [g1]; exact a1)
      have e2 : c = 189 := (u c 189 (by omega)).2 (by rw [g2]; exact a2)
      subst e0 e1 e2
      rfl
    | [], hl, _ => simp at hl; omega
    | [a], hl, _ => simp at hl; omega
    | [a, b], hl, _ => simp at hl; omega
/-- No whole rune stands there: the decoder's own sign is one byte wide. -/
theorem noRune_iff (s : ByteArray) (p : Nat) (h : p < s.size) : noRune s p = true ↔ (Utf8.decode s p).1 = 65533 ∧ (Utf8.decode s p).2 ≤ 1 := by
  have hf := fffd_iff s p h
  have b0 := (s.get! p).toNat_lt; have b1 := (s.get! (p + 1)).toNat_lt; have b2 := (s.get! (p + 2)).toNat_lt; have b3 := (s.get! (p + 3)).toNat_lt
  unfold noRune
  rw [Bool.and_eq_true, decide_eq_true_eq, Bool.not_eq_true', ← Bool.not_eq_true, hf, Lib.decode_at]
  generalize (s.get! p).toNat = x0 at *
  generalize (s.get! (p + 1)).toNat = x1 at *
  generalize (s.get! (p + 2)).toNat = x2 at *
  generalize (s.get! (p + 3)).toNat = x3 at *
  generalize s.size - p = n at *
  have hD : n > 2 → x0 = 239 → x1 = 191 → x2 = 189 → Lib.decodeN n x0 x1 x2 x3 = (65533, 3) := by
    rintro hn rfl rfl rfl
    unfold Lib.decodeN
    rw [if_neg (by omega), if_neg (by omega), if_pos (by omega), if_pos (by omega)]
  rcases Lib.decodeN_shape n x0 x1 x2 x3 with ⟨c, e⟩ | ⟨c1, c2, c3, cv, e⟩ | ⟨c1, c2, c3, c4, cv, cs, e⟩ | ⟨c1, c2, c3, c4, c5, cv, cs, e⟩ | e
  all_goals rw [e]
  · constructor <;> rintro ⟨h1, h2⟩ <;> (dsimp only at h1 h2; omega)
  · constructor <;> rintro ⟨h1, h2⟩ <;> (dsimp only at h1 h2; omega)
  · constructor <;> rintro ⟨h1, h2⟩ <;> (dsimp only at h1 h2; omega)
  · constructor <;> rintro ⟨h1, h2⟩ <;> (dsimp only at h1 h2; omega)
  · refine ⟨fun _ => ⟨rfl, Nat.le_refl _⟩, fun _ => ⟨rfl, fun ⟨h1, h2, h3, h4⟩ => ?_⟩⟩
    rw [hD h1 h2 h3 h4] at e
    exact absurd (congrArg Prod.snd e) (by decide)
/-- The runes from a place on, as far as they are whole. -/
def rnF (s : ByteArray) : Nat → Nat → List Nat
  | 0, _ => []
  | b + 1, p => if p < s.size then (if noRune s p = true then [] else (Utf8.decode s p).1 :: rnF s b (p + (Utf8.decode s p).2)) else []
def badRune (r : Nat) : Bool := decide (r < 32 ∨ r = 127 ∨ r = 47)
theorem whF_runes (s : ByteArray) (b : Nat) : ∀ p c, (whF s b p c).2 = true → (whF s b p c).1 = c + (rnF s b p).length ∧ ctF s b p = (rnF s b p).any badRune := by
  induction b with
  | zero => intro p c _; exact ⟨rfl, rfl⟩
  | succ b ih =>
    intro p c h
    unfold whF at h ⊢
    unfold ctF rnF
    by_cases hp : p < s.size
    · rw [if_pos hp] at h ⊢
      rw [if_pos hp, if_pos hp]
      by_cases hn : noRune s p = true
      · rw [if_pos hn] at h; cases h
      · rw [if_neg hn] at h ⊢
        rw [if_neg hn]
        obtain ⟨i1, i2⟩ := ih _ _ h
        refine ⟨by rw [i1, List.length_cons]; omega, ?_⟩
        rw [List.any_cons, ← i2]
        unfold badRune
        split <;> rename_i hq
        · rw [decide_eq_true hq, Bool.true_or]
        · rw [decide_eq_false hq, Bool.false_or]
    · rw [if_neg hp, if_neg hp, if_neg hp]
      exact ⟨rfl, rfl⟩
end Go.Proofs.YtpfccicahfncbaaDoor
