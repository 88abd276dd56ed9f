/- Walks: the filter's closures: a place asked, a place set. -/
import Derived.Test.YtbfmdingbgdflaaRow32
import Derived.Test.YtbfmdingbgdflaaBlo
namespace Go.Proofs.Ytbfmdingbgdflaa
open Go.RowKit Blo
set_option linter.unusedVariables false
/-- A filter: n bytes F in block g, H hashes. -/
structure Flt (w : World) (P g n cap H : Nat) (F : Nat → UInt8) : Prop where
  blk : Blk w P 86 #[.slice (some ⟨g, 0, none⟩) n cap, .int .i64 (H : Int)]
  buf : bufIs w 5 g n cap (u8V F)
theorem blk_buf_ne {w : World} {P g n cap : Nat} {t u : TypeId} {cs : Array Value} {f : Nat → Value} (h : Blk w P t cs) (hb : bufIs w u g n cap f) (hne : t ≠ u) : P ≠ g := by
  rintro rfl
  obtain ⟨c, fr, hh, _⟩ := hb
  unfold Blk at h
  rw [h] at hh
  injection hh with hh
  injection hh with _ ht
  exact hne ht
theorem Flt.ne {w : World} {P g n cap H : Nat} {F : Nat → UInt8} (h : Flt w P g n cap H F) : P ≠ g := blk_buf_ne h.blk h.buf (by decide)
theorem Flt.below {w w' : World} {P g n cap H : Nat} {F : Nat → UInt8} (h : Flt w P g n cap H F) (hb : Below w.heap.size w w') : Flt w' P g n cap H F := ⟨h.blk.below hb h.blk.lt, h.buf.below hb h.buf.lt⟩
theorem Flt.congr {w : World} {P g n cap H : Nat} {F G : Nat → UInt8} (h : Flt w P g n cap H F) (e : ∀ j, j < n → F j = G j) : Flt w P g n cap H G := ⟨h.blk, h.buf.congr fun j hj => by simp only [u8V]; rw [e j hj]⟩
theorem and_bits (a b : UInt8) : bits .and .u8 (a.toNat : Int) (b.toNat : Int) = ((a &&& b).toNat : Int) := by
  rw [u8_and_nat _ _ a.toNat_lt b.toNat_lt, UInt8.toNat_and]
theorem or_bits (a b : UInt8) : bits .or .u8 (a.toNat : Int) (b.toNat : Int) = ((a ||| b).toNat : Int) := by
  rw [u8_or_nat _ _ a.toNat_lt b.toNat_lt, UInt8.toNat_or]
theorem shr_bits (a : UInt8) (k : Nat) (hk : k < 8) : bits .and .u8 ((a.toNat : Int) / 2 ^ k) 1 = ((a >>> UInt8.ofNat k &&& 1).toNat : Int) := by
  have e1 : (a.toNat : Int) / 2 ^ k = (((a >>> UInt8.ofNat k).toNat : Nat) : Int) := by
    rw [UInt8.toNat_shiftRight, UInt8.toNat_ofNat', Nat.shiftRight_eq_div_pow, Nat.mod_eq_of_lt (by omega : k % 2 ^ 8 < 8), Nat.mod_eq_of_lt (by omega : k < 2 ^ 8)]
    simp
  rw [e1]
  exact and_bits _ 1
theorem shl_bits (a : UInt8) (k : Nat) (hk : k < 8) : bits .or .u8 (a.toNat : Int) (2 ^ k % 256) = ((a ||| ((1 : UInt8) <<< UInt8.ofNat k)).toNat : Int) := by
  have e1 : (2 : Int) ^ k % 256 = ((((1 : UInt8) <<< UInt8.ofNat k).toNat : Nat) : Int) := by
    have : k = 0 ∨ k = 1 ∨ k = 2 ∨ k = 3 ∨ k = 4 ∨ k = 5 ∨ k = 6 ∨ k = 7 := by omega
    rcases this with h | h | h | h | h | h | h | h <;> subst h <;> rfl
  rw [e1]
  exact or_bits _ _
theorem one_iff (a : UInt8) : (((a &&& 1).toNat : Int) == 1) = (a &&& 1 == 1) := by
  rw [Bool.eq_iff_iff, beq_iff_eq, beq_iff_eq]
  constructor
  · intro h
    have : (a &&& 1).toNat = (1 : UInt8).toNat := by show _ = 1; omega
    exact UInt8.toNat_inj.1 this
  · intro h; rw [h]; rfl
set_option maxRecDepth 100000 in
theorem hasAt_any (w : World) (b P g n cap H : Nat) (F : Nat → UInt8) (i : Nat) (hb : w.cell? ⟨b, 0, none⟩ = some (.pointer (some ⟨P, 0, none⟩))) (h : Flt w P g n cap H F) (hi : i < 8 * n) (hn : n ≤ 4294967296) :
    Calls Try.prog 55 #[.int .i64 (i : Int), .pointer (some ⟨b, 0, none⟩)] w fun e w' => e = .returned (.bool (bitF F i)) ∧ w = w' := by
  have c1 : w.cell? ⟨P, 0, none⟩ = some (.slice (some ⟨g, 0, none⟩) n cap) := h.blk.cell 0
  have hi8 : i / 8 < n := by omega
  have c2 : w.cell? ⟨g, i / 8, none⟩ = some (.int .u8 ((F (i / 8)).toNat : Int)) := h.buf.cell hi8
  have c3 : (F (i / 8)).toNat < 256 := (F (i / 8)).toNat_lt
  have hi8i : ((i / 8 : Nat) : Int) < (n : Int) := by omega
  have hm8 : i % 8 < 8 := Nat.mod_lt _ (by omega)
  have SB := Lib.hid (shr_bits (F (i / 8)) (i % 8) hm8)
  clear h
  go_enter Try.func55, Try.ntmps55
  go_wp2
  go_ret
  exact ⟨by rw [SB.out, one_iff]; rfl, rfl⟩
set_option maxRecDepth 100000 in
theorem addAt_any (w : World) (b P g n cap H : Nat) (F : Nat → UInt8) (i : Nat) (hb : w.cell? ⟨b, 0, none⟩ = some (.pointer (some ⟨P, 0, none⟩))) (h : Flt w P g n cap H F) (hi : i < 8 * n) (hn : n ≤ 4294967296) :
    Calls Try.prog 70 #[.int .i64 (i : Int), .pointer (some ⟨b, 0, none⟩)] w fun e w' => e = .returned (.bool true) ∧ Flt w' P g n cap H (setF F i) ∧ w.grownBy w' (some g) := by
  have c1 : w.cell? ⟨P, 0, none⟩ = some (.slice (some ⟨g, 0, none⟩) n cap) := h.blk.cell 0
  have hi8 : i / 8 < n := by omega
  have c2 : w.cell? ⟨g, i / 8, none⟩ = some (.int .u8 ((F (i / 8)).toNat : Int)) := h.buf.cell hi8
  have c3 : (F (i / 8)).toNat < 256 := (F (i / 8)).toNat_lt
  have c4 : w.frozen? ⟨g, i / 8, none⟩ = false := h.buf.frozen (by have := h.buf.le; omega)
  have hi8i : ((i / 8 : Nat) : Int) < (n : Int) := by omega
  have hm8 : i % 8 < 8 := Nat.mod_lt _ (by omega)
  have X := Lib.hid h
  have SB := Lib.hid (shl_bits (F (i / 8)) (i % 8) hm8)
  clear h
  have q0 : 0 ≤ (i : Int) / 8 := by omega
  have q1 : (i : Int) / 8 < (n : Int) := by omega
  have q2 : ((i : Int) / 8).toNat = i / 8 := by omega
  have hw1 : IntKind.i64.wrap ((i : Int) / 8) = (i : Int) / 8 := IntWalk.i64_in _ (by omega)
  have hw2 : (i : Int).tmod 8 = (i : Int) % 8 := Int.tmod_eq_emod_of_nonneg (by omega)
  have hw3 : IntKind.i64.wrap ((i : Int) % 8) = (i : Int) % 8 := IntWalk.i64_in _ (by omega)
  have r0 : 0 ≤ (i : Int) % 8 := by omega
  have r2 : ((i : Int) % 8).toNat = i % 8 := by omega
  go_enter Try.func70, Try.ntmps70
  go_wp2
  refine wp_region_still_tail 13 (by kernel_rfl) (by kernel_rfl) ?_
  simp only [List.take_succ_cons, List.take_zero, List.drop_succ_cons, List.drop_zero]
  repeat still_step
  try refine wpStill_nil ?_
  go_wp2
  go_ret
  refine ⟨rfl, ?_, only_drew (only_setCell (World.grownBy.refl _ _) (.inl rfl) _)⟩
  rw [SB.out]
  refine ⟨(X.out.blk.far (by show P ≠ g; exact X.out.ne) _).drew, ((X.out.buf.set (i / 8) _).drew).congr fun j hj => ?_⟩
  simp only [u8V, setF]
  by_cases e : j = i / 8
  · rw [if_pos e, if_pos e, e]
  · rw [if_neg e, if_neg e]
end Go.Proofs.Ytbfmdingbgdflaa
