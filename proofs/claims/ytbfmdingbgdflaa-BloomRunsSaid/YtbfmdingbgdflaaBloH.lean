/- Walk: the filter's Decode. -/
import Derived.Test.YtbfmdingbgdflaaBloF
import Derived.Laws.Cover3
import Derived.Stop.BytesEq
import Derived.Deep.DeepCutAuto
namespace Go.Proofs.Ytbfmdingbgdflaa
open Go.RowKit Blo Wir
set_option linter.unusedVariables false
theorem bytes_below (W : World) (t : ByteArray) : Below W.heap.size W (Lib.bytesWorld W 5 t) := by
  refine ⟨?_, ?_, ?_, ?_, fun k hk => Lib.bytesWorld_at_old W _ t k hk⟩
  · simp [Lib.bytesWorld, World.freeze, World.alloc, World.drew, -World.alloc_eq, -World.drew_eq]
  · simp [Lib.bytesWorld, World.freeze, World.alloc, World.drew, -World.alloc_eq, -World.drew_eq]
  · simp [Lib.bytesWorld, World.freeze, World.alloc, World.drew, -World.alloc_eq, -World.drew_eq]
  · rw [Lib.bytesWorld_size]; omega
theorem bcell {W w1 : World} (hb : Below W.heap.size W w1) : (∀ b o, b < W.heap.size → w1.cell? ⟨b, o, none⟩ = W.cell? ⟨b, o, none⟩) := fun b o h => hb.cell (p := ⟨b, o, none⟩) h
/-- The first four bytes of a text, as a walk meets them. -/
structure Four (t : ByteArray) (x0 x1 x2 x3 : Int) (m : Bool) : Prop where
  eq : ∀ W, (Op.equalIn 10000 100 (.agg #[.int .u8 x0, .int .u8 x1, .int .u8 x2, .int .u8 x3]) (.agg #[.int .u8 77, .int .u8 66, .int .u8 70, .int .u8 49])).run Try.prog W = .ok m W
  conv : ∀ W, (convert 9 48 (.string t)).run Try.prog W = .ok (.slice (some ⟨W.heap.size, 0, none⟩) 4 (grownCap W 4 0 5)) (Lib.bytesWorld W 5 t)
  c0 : ∀ W, (Lib.bytesWorld W 5 t).cell? ⟨W.heap.size, 0, none⟩ = some (.int .u8 x0)
  c1 : ∀ W, (Lib.bytesWorld W 5 t).cell? ⟨W.heap.size, 1, none⟩ = some (.int .u8 x1)
  c2 : ∀ W, (Lib.bytesWorld W 5 t).cell? ⟨W.heap.size, 2, none⟩ = some (.int .u8 x2)
  c3 : ∀ W, (Lib.bytesWorld W 5 t).cell? ⟨W.heap.size, 3, none⟩ = some (.int .u8 x3)
theorem extract_byte (s : ByteArray) (j : Nat) (hj : j < 4) (h : 4 ≤ s.size) : (s.extract 0 4).data.toList.getD j 0 = byteAt s j := by
  unfold byteAt
  rw [ByteArray.data_extract, Array.toList_extract]
  have : s.data.size = s.size := rfl
  rw [List.getD_eq_getElem?_getD, List.getD_eq_getElem?_getD]
  simp [List.extract, hj]
def magicB (s : ByteArray) : Bool := [byteAt s 0, byteAt s 1, byteAt s 2, byteAt s 3] == [77, 66, 70, 49]
theorem four_of (s : ByteArray) (h : 4 ≤ s.size) : Four (s.extract 0 4) ((byteAt s 0).toNat : Int) ((byteAt s 1).toNat : Int) ((byteAt s 2).toNat : Int) ((byteAt s 3).toNat : Int) (magicB s) := by
  have hsz : (s.extract 0 4).size = 4 := by rw [ByteArray.size_extract]; omega
  refine ⟨fun W => ?_, fun W => ?_, fun W => ?_, fun W => ?_, fun W => ?_, fun W => ?_⟩
  · exact run_equalIn_bytes W 9998 _ 5 4 (by kernel_rfl) (by kernel_rfl) (fun w => by kernel_rfl) [byteAt s 0, byteAt s 1, byteAt s 2, byteAt s 3] [77, 66, 70, 49] rfl rfl
  · have := Lib.run_convert_string_bytes (P := Try.prog) W 9 48 5 (s.extract 0 4) (show Try.prog.underlying 9 = some .string by kernel_rfl) (show Try.prog.underlying 48 = some (.slice 5) by kernel_rfl) (show Try.prog.underlying 5 = some (.int .u8) by kernel_rfl)
    rw [hsz] at this
    exact this
  · rw [Lib.bytesWorld_cell W _ _ 0 (by omega), extract_byte s 0 (by omega) h]
  · rw [Lib.bytesWorld_cell W _ _ 1 (by omega), extract_byte s 1 (by omega) h]
  · rw [Lib.bytesWorld_cell W _ _ 2 (by omega), extract_byte s 2 (by omega) h]
  · rw [Lib.bytesWorld_cell W _ _ 3 (by omega), extract_byte s 3 (by omega) h]
theorem uintE_or (s : ByteArray) : uintE s = 0 ∨ uintE s = 4 := by
  unfold uintE; split
  · exact .inr rfl
  · exact .inl rfl
theorem uintS_le (s : ByteArray) : (uintS s).size ≤ s.size := by
  unfold uintS; split
  · exact Nat.le_refl _
  · rw [ByteArray.size_extract]; omega
theorem fin1 {w a b : World} {t : ByteArray} (h1 : Below w.drew.heap.size w.drew a) (h2 : Below (Lib.bytesWorld a 5 t).heap.size (Lib.bytesWorld a 5 t) b) : Hid (Below w.heap.size w b) := Lib.hid (by
  have h := (below_drewN (Below.refl w.heap.size w) 1).trans h1
  exact h.trans (((bytes_below a t).trans (h2.mono (bytes_below a t).size)).mono h.size))
theorem fin3 {w a b : World} {t : ByteArray} (h1 : Below w.drew.heap.size w.drew a) (h2 : Below a.heap.size a b) : Hid (Below w.heap.size w (Lib.bytesWorld b 5 t)) := Lib.hid (by
  have h := (below_drewN (Below.refl w.heap.size w) 1).trans h1
  have h' := h.trans (h2.mono h.size)
  exact h'.trans ((bytes_below b t).mono h'.size))
/-- Is the mark at the front missing? -/
def badM (s : ByteArray) : Bool := decide (s.size < 4) || !magicB s
def decO (s : ByteArray) : Option (Nat × Nat × ByteArray) :=
  if badM s = true then none else
  if uintE (s.extract 4 s.size) ≠ 0 then none else
  if uintE (uintS (s.extract 4 s.size)) ≠ 0 then none else
  if 16777216 < (short (byteAt (s.extract 4 s.size)) (s.extract 4 s.size).size).1 ∨ 8 < (short (byteAt (uintS (s.extract 4 s.size))) (uintS (s.extract 4 s.size)).size).1 ∨
    szB ((short (byteAt (s.extract 4 s.size)) (s.extract 4 s.size).size).1 : Int) ((short (byteAt (uintS (s.extract 4 s.size))) (uintS (s.extract 4 s.size)).size).1 : Int) = false ∨
    (uintS (uintS (s.extract 4 s.size))).size ≠ (short (byteAt (s.extract 4 s.size)) (s.extract 4 s.size).size).1 / 8 then none
  else some ((short (byteAt (s.extract 4 s.size)) (s.extract 4 s.size).size).1 / 8, (short (byteAt (uintS (s.extract 4 s.size))) (uintS (s.extract 4 s.size)).size).1, uintS (uintS (s.extract 4 s.size)))
def DecR (w w' : World) (e : Ending) (s : ByteArray) : Prop := match decO s with
  | none => e = .returned (.tuple #[.pointer none, .int .i64 4]) ∧ Below w.heap.size w w'
  | some (n, H, t) => ∃ P g cap, e = .returned (.tuple #[.pointer (some ⟨P, 0, none⟩), .int .i64 0]) ∧ w.heap.size ≤ P ∧ w.heap.size ≤ g ∧ Flt w' P g n cap H (byteAt t) ∧ Below w.heap.size w w'
theorem dec_none {w w' : World} {s : ByteArray} (h : decO s = none) (hb : Below w.heap.size w w') : DecR w w' (.returned (.tuple #[.pointer none, .int .i64 4])) s := by
  unfold DecR; rw [h]; exact ⟨rfl, hb⟩
attribute [local go_sem ↓] Go.wp_at_zero Go.wp_at_succ
set_option maxRecDepth 100000 in
set_option maxHeartbeats 1000000 in
theorem decode_any (s : ByteArray) (w : World) (hs : s.size ≤ 140737488351232) :
    Calls Try.prog 27 #[.string s] w fun e w' => DecR w w' e s := by
  go_enter Try.func27, Try.ntmps27
  go_upto_region 1 with fail
  go_cut [22] (fun s22 wx => s22 = .bool (badM s) ∧ Hid (Below w.heap.size w wx))
  case first =>
    by_cases h4 : s.size < 4
    · have hd : decide ((s.size : Int) < 4) = true := decide_eq_true (by omega)
      have BM : Hid (badM s = true) := Lib.hid (by unfold badM; rw [decide_eq_true h4]; rfl)
      first
        | go_region_with (go_at_call 63; refine (magic_any _).mono ?_; rintro e w1 ⟨rfl, hb1⟩)
        | fail "no"
      all_goals
        go_wp2_with fail
        go_meet
        exact ⟨by rw [BM.out], Lib.hid ((below_drewN (Below.refl _ _) 1).trans hb1)⟩
    · have F4 := four_of s (by omega)
      have BM : Hid (badM s = !magicB s) := Lib.hid (by unfold badM; rw [decide_eq_false h4]; rfl)
      have harr : ∀ W a cap, (Instr.arrayAt 100 (.slice a 4 cap)).run Try.prog W = .ok (.pointer a) W := fun W a cap => run_arrayAt (P := Try.prog) (w := W) 100 5 4 a 4 cap (by kernel_rfl) (by omega)
      have hd : decide ((s.size : Int) < 4) = false := decide_eq_false (by omega)
      have h4i : (4 : Int) ≤ (s.size : Int) := by omega
      have hsz : ∀ W, (Lib.bytesWorld W 5 (s.extract 0 4)).heap.size = W.heap.size + 1 := fun W => Lib.bytesWorld_size W _ _
      have BW := Lib.hid (fun W => bytes_below W (s.extract 0 4))
      generalize magicB s = mm at F4 BM
      generalize ((byteAt s 0).toNat : Int) = x0 at F4
      generalize ((byteAt s 1).toNat : Int) = x1 at F4
      generalize ((byteAt s 2).toNat : Int) = x2 at F4
      generalize ((byteAt s 3).toNat : Int) = x3 at F4
      obtain ⟨heq, hconv, k0, k1, k2, k3⟩ := F4
      clear h4
      first
        | go_region_with (go_at_call 63; refine (magic_any _).mono ?_; rintro e w1 ⟨rfl, hb1⟩; have hcc := bcell hb1)
        | fail "no"
      all_goals
        go_wp2_with fail
        go_meet
        refine ⟨by rw [BM.out], ?_⟩
        first
          | (apply fin1; assumption; assumption)
          | (apply fin3; assumption; assumption)
  case rest =>
    obtain ⟨rfl, HBc⟩ := hcut
    by_cases hbad : badM s = true
    · have DN := Lib.hid (show decO s = none by unfold decO; rw [if_pos hbad])
      rw [hbad]
      clear hbad
      go_wp2
      go_ret2
      exact dec_none DN.out HBc.out
    rw [Bool.not_eq_true] at hbad
    have h4 : 4 ≤ s.size := by
      unfold badM at hbad
      rw [Bool.or_eq_false_iff, decide_eq_false_iff_not] at hbad
      omega
    obtain ⟨r, hr⟩ : ∃ r, s.extract 4 s.size = r := ⟨_, rfl⟩
    obtain ⟨q, hq⟩ : ∃ q, short (byteAt r) r.size = q := ⟨_, rfl⟩
    obtain ⟨r2, hr2⟩ : ∃ r2, uintS r = r2 := ⟨_, rfl⟩
    obtain ⟨q2, hq2⟩ : ∃ q, short (byteAt r2) r2.size = q := ⟨_, rfl⟩
    obtain ⟨r3, hr3⟩ : ∃ r3, uintS r2 = r3 := ⟨_, rfl⟩
    obtain ⟨e1, he1⟩ : ∃ e, uintE r = e := ⟨_, rfl⟩
    obtain ⟨e2, he2⟩ : ∃ e, uintE r2 = e := ⟨_, rfl⟩
    have DO : Hid (decO s = if e1 ≠ 0 then none else if e2 ≠ 0 then none else if 16777216 < q.1 ∨ 8 < q2.1 ∨ szB (q.1 : Int) (q2.1 : Int) = false ∨ r3.size ≠ q.1 / 8 then none else some (q.1 / 8, q2.1, r3)) := Lib.hid (by
      unfold decO; rw [if_neg (by rw [hbad]; decide)]
      simp only [hr, hq, hr2, hq2, hr3, he1, he2])
    have hrs : r.size ≤ 140737488351232 := by rw [← hr, ByteArray.size_extract]; omega
    have hr2s : r2.size ≤ 140737488351232 := by rw [← hr2]; exact Nat.le_trans (uintS_le r) hrs
    have hr3s : r3.size ≤ 140737488351232 := by rw [← hr3]; exact Nat.le_trans (uintS_le r2) hr2s
    have E1 : e1 = 0 ∨ e1 = 4 := by rw [← he1]; exact uintE_or r
    have E2 : e2 = 0 ∨ e2 = 4 := by rw [← he2]; exact uintE_or r2
    have HR := Lib.hid hr
    have HQ := Lib.hid (And.intro hq (And.intro hr2 he1))
    have HQ2 := Lib.hid (And.intro hq2 (And.intro hr3 he2))
    rw [hbad]
    clear hr hq hr2 hq2 hr3 he1 he2 hbad
    go_wp2_with fail
    refine (magic_any _).mono ?_; rintro e w2 ⟨rfl, hb2⟩
    have B2 := Lib.hid (HBc.out.trans (hb2.mono HBc.out.size))
    clear hb2
    go_wp2_with fail
    rw [HR.out]
    refine (newReader_any r _).mono ?_; rintro e w3 ⟨rfl, hr3, hb3⟩
    have B3 := Lib.hid (B2.out.trans (hb3.mono B2.out.size))
    have R3 := Lib.hid hr3
    have s2 := B2.out.size
    clear hr3 hb3
    go_wp2_with fail
    refine (uint_any r _ _ R3.out (by omega)).mono ?_
    rw [HQ.out.1, HQ.out.2.1, HQ.out.2.2]
    rintro e w4 ⟨rfl, hr4, hb4⟩
    have B4 := Lib.hid (B3.out.trans (hb4 _ s2))
    have R4 := Lib.hid hr4
    clear hr4 hb4
    obtain ⟨a, k⟩ := q
    rcases E1 with rfl | rfl
    rotate_left
    · have DN : Hid (decO s = none) := Lib.hid (by rw [DO.out, if_pos (by decide)])
      clear DO
      go_wp2
      go_ret2
      exact dec_none DN.out B4.out
    go_wp2_with fail
    refine (uint_any r2 _ _ R4.out (by omega)).mono ?_
    rw [HQ2.out.1, HQ2.out.2.1, HQ2.out.2.2]
    rintro e w5 ⟨rfl, hr5, hb5⟩
    have B5 := Lib.hid (B4.out.trans (hb5 _ s2))
    have R5 := Lib.hid hr5
    clear hr5 hb5
    obtain ⟨b, k2⟩ := q2
    rcases E2 with rfl | rfl
    rotate_left
    · have DN : Hid (decO s = none) := Lib.hid (by rw [DO.out, if_neg (by decide), if_pos (by decide)])
      clear DO
      go_wp2
      go_ret2
      exact dec_none DN.out B5.out
    have D2 : Hid (decO s = if 16777216 < a ∨ 8 < b ∨ szB (a : Int) (b : Int) = false ∨ r3.size ≠ a / 8 then none else some (a / 8, b, r3)) := Lib.hid (by rw [DO.out, if_neg (by decide), if_neg (by decide)])
    clear DO
    by_cases ha : 16777216 < a
    · have DN : Hid (decO s = none) := Lib.hid (by rw [D2.out, if_pos (.inl ha)])
      go_wp2
      go_ret2
      exact dec_none DN.out B5.out
    by_cases hb : 8 < b
    · have DN : Hid (decO s = none) := Lib.hid (by rw [D2.out, if_pos (.inr (.inl hb))])
      have ha' : a ≤ 16777216 := by omega
      clear ha
      go_wp2
      go_ret2
      exact dec_none DN.out B5.out
    have ha' : a ≤ 16777216 := by omega
    have hb' : b ≤ 8 := by omega
    clear ha hb
    have wa : IntKind.i64.wrap (a : Int) = (a : Int) := IntWalk.i64_in _ (by omega)
    have wb : IntKind.i64.wrap (b : Int) = (b : Int) := IntWalk.i64_in _ (by omega)
    by_cases hz : szB (a : Int) (b : Int) = true
    rotate_left
    · rw [Bool.not_eq_true] at hz
      have DN : Hid (decO s = none) := Lib.hid (by rw [D2.out, if_pos (.inr (.inr (.inl hz)))])
      have HZ := Lib.hid hz
      clear hz
      go_wp2_with fail
      refine (sized_any _ _ _ (by omega) (by omega)).mono ?_; rintro e w' ⟨rfl, rfl⟩
      rw [HZ.out]
      go_wp2
      go_ret2
      exact dec_none DN.out B5.out
    have HZ := Lib.hid hz
    clear hz
    have qa : (a : Int) / 8 = ((a / 8 : Nat) : Int) := by omega
    obtain ⟨n, hn⟩ : ∃ n, a / 8 = n := ⟨_, rfl⟩
    rw [hn] at qa
    have HN := Lib.hid hn
    have hn2 : n ≤ 2097152 := by omega
    clear hn
    by_cases hl : r3.size = n
    rotate_left
    · have DN : Hid (decO s = none) := Lib.hid (by rw [D2.out, if_pos (.inr (.inr (.inr (by rw [HN.out]; exact hl))))])
      have hl1 : ((r3.size : Int) != (n : Int)) = true := by rw [bne_iff_ne]; omega
      clear hl
      go_wp2_with fail
      refine (sized_any _ _ _ (by omega) (by omega)).mono ?_; rintro e w' ⟨rfl, rfl⟩
      rw [HZ.out]
      go_wp2_with fail
      refine (left_any r3 _ _ R5.out (by omega)).mono ?_; rintro e w' ⟨rfl, rfl⟩
      go_wp2
      go_ret2
      exact dec_none DN.out B5.out
    have DS : Hid (decO s = some (n, b, r3)) := Lib.hid (by rw [D2.out, if_neg, HN.out]; rintro (h | h | h | h) <;> first | omega | (rw [HZ.out] at h; cases h) | (rw [HN.out] at h; exact h hl))
    have HL := Lib.hid hl
    have hl1 : ((r3.size : Int) != (n : Int)) = false := by rw [bne_eq_false_iff_eq]; omega
    clear hl
    go_wp2_with fail
    refine (sized_any _ _ _ (by omega) (by omega)).mono ?_; rintro e w' ⟨rfl, rfl⟩
    rw [HZ.out]
    go_wp2_with fail
    refine (left_any r3 _ _ R5.out (by omega)).mono ?_; rintro e w' ⟨rfl, rfl⟩
    go_wp2_with fail
    have TE : Hid (takeE r3 n = 0 ∧ tkR r3 n = r3) := Lib.hid (by
      refine ⟨by unfold takeE; rw [if_neg (by rw [HL.out]; omega)], ?_⟩
      unfold tkR; rw [if_neg (by rw [HL.out]; omega), ← HL.out]; simp)
    refine (take_any' r3 _ n _ R5.out (by omega) (by omega)).mono ?_
    rw [TE.out.1, TE.out.2]
    rintro e w6 ⟨rfl, hr6, hb6⟩
    have B6 := Lib.hid (B5.out.trans (hb6 _ s2))
    have s6 := B6.out.size
    clear hr6 hb6
    go_wp2_with (with_reducible refine conv_bytes_wp (e := 5) (by kernel_rfl) (by kernel_rfl) (by kernel_rfl) rfl _ rfl r3 rfl ?_; intro cap w7 hc7 hg7)
    have C7 : Hid (bufIs w7 5 w6.heap.size n cap (u8V (byteAt r3)) ∧ Below w.heap.size w w7) := Lib.hid ⟨by rw [← HL.out]; exact hc7, below_grown B6.out hg7 (by intro g e; cases e)⟩
    have s7 := hg7.size
    clear hc7 hg7
    go_ret2
    unfold DecR
    rw [DS.out]
    exact ⟨w7.heap.size, w6.heap.size, cap, by rw [HL.out]; rfl, by omega, s6, ⟨by have := Blk.new w7 86 #[.slice (some ⟨w6.heap.size, 0, none⟩) n cap, .int .i64 (b : Int)]; rw [HL.out]; exact this, C7.out.1.below ((Below.refl _ _).alloc (Nat.le_refl _) _) C7.out.1.lt⟩, C7.out.2.alloc (by omega) _⟩
end Go.Proofs.Ytbfmdingbgdflaa
