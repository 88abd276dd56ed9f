/- Walks: attrs.Read's closures (number, text). -/
import Derived.Test.YtpfccicahfncbaaDoorReadG
import Derived.Test.YtpfccicahfncbaaDoorAtt
namespace Go.Proofs.YtpfccicahfncbaaDoor
open Go.RowKit Wir
set_option linter.unusedVariables false
set_option linter.unusedSimpArgs false
/-- A world that differs from another one in two blocks and in new ones. -/
def Grow2 (w w' : World) (R kb : Nat) : Prop := ∃ w1, w.grownBy w1 (some R) ∧ w1.grownBy w' (some kb)
theorem Grow2.blk {w w' : World} {R kb g : Nat} {t : TypeId} {cs : Array Value} (h : Grow2 w w' R kb) (hb : Blk w g t cs) (h1 : g ≠ R) (h2 : g ≠ kb) : Blk w' g t cs := by
  obtain ⟨w1, g1, g2⟩ := h
  exact (hb.grown g1 (by intro e; injection e with e; exact h1 e)).grown g2 (by intro e; injection e with e; exact h2 e)
theorem Grow2.below {a w w' : World} {B R kb : Nat} (h : Grow2 w w' R kb) (hb : Below B a w) (hs : B ≤ w.heap.size) (h1 : B ≤ R) (h2 : B ≤ kb) : Below B a w' := by
  obtain ⟨w1, g1, g2⟩ := h
  exact (hb.grown g1 hs (fun k e => by injection e with e; omega)).grown g2 (Nat.le_trans hs g1.size) (fun k e => by injection e with e; omega)
theorem Grow2.size {w w' : World} {R kb : Nat} (h : Grow2 w w' R kb) : w.heap.size ≤ w'.heap.size := by
  obtain ⟨w1, g1, g2⟩ := h
  exact Nat.le_trans g1.size g2.size
theorem Grow2.own {w w' : World} {base n size R kb : Nat} {e : TypeId} {v : Value} {xs : List Value} (h : Grow2 w w' R kb) (ho : w.ownsRow base e size v n xs) (h1 : R < base) (h2 : kb < base) : w'.ownsRow base e size v n xs := by
  obtain ⟨w1, g1, g2⟩ := h
  have hne : ∀ g, g < base → v.ownBlock = none ∨ v.ownBlock ≠ some g := fun g hg => by
    rcases ho.2 with ⟨rfl, _⟩ | ⟨g', cap, cur, rfl, hb, _⟩
    · exact .inl rfl
    · right; show some g' ≠ some g; intro e; injection e with e; omega
  exact (ho.kept g1 (hne R h1)).kept g2 (hne kb h2)
/-- The reader's box, the reader, and whether all went well. -/
structure RS (w : World) (rb R kb : Nat) (s : ByteArray) (ok : Bool) : Prop where
  rp : Blk w rb 65 #[.pointer (some ⟨R, 0, none⟩)]
  rd : Rdr w R s
  ok : Blk w kb 4 #[.bool ok]
  n1 : rb ≠ R
  n2 : rb ≠ kb
  n3 : kb ≠ R
set_option maxRecDepth 100000 in
theorem numF_any (m : Nat) (s : ByteArray) (ok : Bool) (rb R kb : Nat) (w : World) (h : RS w rb R kb s ok) (hs : s.size ≤ 9223372036854775807) (hm : m < 18446744073709551616) :
    Calls Tryd.prog 39 #[.int .u64 (m : Int), .pointer (some ⟨rb, 0, none⟩), .pointer (some ⟨kb, 0, none⟩)] w
      fun e w' => e = .returned (.int .u64 ((short (byteAt s) s.size).1 : Int)) ∧ RS w' rb R kb (uintS s) (ok && (decide (uintE s = 0) && decide ((short (byteAt s) s.size).1 ≤ m))) ∧ Grow2 w w' R kb := by
  have c0 : w.cell? ⟨rb, 0, none⟩ = some (.pointer (some ⟨R, 0, none⟩)) := h.rp.cell 0
  have U := Lib.hid (uint_g s R w h.rd hs)
  have H := Lib.hid h
  have h64 := short_64 s
  clear h
  go_enter Tryd.func39, Tryd.ntmps39
  go_wp2_with fail
  (with_reducible refine U.out.mono ?_)
  rintro e w1 ⟨rfl, hr1, hg1⟩
  have H1 : Hid (Blk w1 rb 65 #[.pointer (some ⟨R, 0, none⟩)] ∧ Rdr w1 R (uintS s) ∧ Blk w1 kb 4 #[.bool ok] ∧ w.grownBy w1 (some R)) := Lib.hid ⟨H.out.rp.grown hg1 (by intro e; injection e with e; exact H.out.n1 e), hr1, H.out.ok.grown hg1 (by intro e; injection e with e; exact H.out.n3 e), hg1⟩
  clear hr1 hg1 U c0
  have k0 : w1.cell? ⟨kb, 0, none⟩ = some (.bool ok) := H1.out.2.2.1.cell 0
  have f0 : w1.frozen? ⟨kb, 0, none⟩ = false := H1.out.2.2.1.frozen 0
  have HF : Hid (∀ b : Bool, RS (w1.setCell ⟨kb, 0, none⟩ (.bool b)) rb R kb (uintS s) b ∧ Grow2 w (w1.setCell ⟨kb, 0, none⟩ (.bool b)) R kb) := Lib.hid (fun b => ⟨⟨H1.out.1.far (p := ⟨kb, 0, none⟩) H.out.n2 _, H1.out.2.1.far (p := ⟨kb, 0, none⟩) (fun e => H.out.n3 e.symm) _, H1.out.2.2.1.set_ 0 _, H.out.n1, H.out.n2, H.out.n3⟩, ⟨w1, H1.out.2.2.2, only_setCell (grown_refl w1 (some kb)) (p := ⟨kb, 0, none⟩) (.inl rfl) _⟩⟩)
  obtain ⟨n, hn⟩ : ∃ n, (short (byteAt s) s.size).1 = n := ⟨_, rfl⟩
  rw [hn] at h64 ⊢
  have HN := Lib.hid hn
  clear hn
  cases ok with
  | false =>
    go_wp2
    go_ret
    exact ⟨by rw [HN.out]; rfl, by rw [Bool.false_and]; exact (HF.out false).1, (HF.out false).2⟩
  | true =>
    by_cases he : uintE s = 0
    · have E : Hid ((true && (decide (uintE s = 0) && decide (n ≤ m))) = decide (n ≤ m)) := Lib.hid (by rw [decide_eq_true he]; rfl)
      rw [he]
      clear he
      go_wp2
      go_ret
      exact ⟨by rw [HN.out]; rfl, by rw [HN.out, E.out]; exact (HF.out _).1, (HF.out _).2⟩
    · have d1 : (uintE s == 0) = false := by rw [beq_eq_false_iff_ne]; exact he
      have E : Hid ((true && (decide (uintE s = 0) && decide (n ≤ m))) = false) := Lib.hid (by rw [decide_eq_false he]; rfl)
      clear he
      go_wp2
      go_ret
      exact ⟨by rw [HN.out]; rfl, by rw [HN.out, E.out]; exact (HF.out false).1, (HF.out false).2⟩
set_option maxRecDepth 100000 in
theorem txtF_any (m : Nat) (s : ByteArray) (ok : Bool) (rb R kb : Nat) (w : World) (h : RS w rb R kb s ok) (hs : s.size ≤ 9223372036854775807) (hm : m ≤ 9223372036854775807) :
    Calls Tryd.prog 40 #[.int .i64 (m : Int), .pointer (some ⟨rb, 0, none⟩), .pointer (some ⟨kb, 0, none⟩)] w
      fun e w' => e = .returned (.string (txT s m)) ∧ RS w' rb R kb (txS s m) (ok && txB s m) ∧ Grow2 w w' R kb := by
  have c0 : w.cell? ⟨rb, 0, none⟩ = some (.pointer (some ⟨R, 0, none⟩)) := h.rp.cell 0
  have U := Lib.hid (text_g s R m w h.rd hs hm)
  have H := Lib.hid h
  clear h
  go_enter Tryd.func40, Tryd.ntmps40
  go_wp2_with fail
  (with_reducible refine U.out.mono ?_)
  rintro e w1 ⟨rfl, hr1, hg1⟩
  have H1 : Hid (Blk w1 rb 65 #[.pointer (some ⟨R, 0, none⟩)] ∧ Rdr w1 R (txS s m) ∧ Blk w1 kb 4 #[.bool ok] ∧ w.grownBy w1 (some R)) := Lib.hid ⟨H.out.rp.grown hg1 (by intro e; injection e with e; exact H.out.n1 e), hr1, H.out.ok.grown hg1 (by intro e; injection e with e; exact H.out.n3 e), hg1⟩
  clear hr1 hg1 U c0
  have k0 : w1.cell? ⟨kb, 0, none⟩ = some (.bool ok) := H1.out.2.2.1.cell 0
  have f0 : w1.frozen? ⟨kb, 0, none⟩ = false := H1.out.2.2.1.frozen 0
  have HF : Hid (∀ b : Bool, RS (w1.setCell ⟨kb, 0, none⟩ (.bool b)) rb R kb (txS s m) b ∧ Grow2 w (w1.setCell ⟨kb, 0, none⟩ (.bool b)) R kb) := Lib.hid (fun b => ⟨⟨H1.out.1.far (p := ⟨kb, 0, none⟩) H.out.n2 _, H1.out.2.1.far (p := ⟨kb, 0, none⟩) (fun e => H.out.n3 e.symm) _, H1.out.2.2.1.set_ 0 _, H.out.n1, H.out.n2, H.out.n3⟩, ⟨w1, H1.out.2.2.2, only_setCell (grown_refl w1 (some kb)) (p := ⟨kb, 0, none⟩) (.inl rfl) _⟩⟩)
  cases ok with
  | false =>
    go_wp2
    go_ret
    exact ⟨rfl, by rw [Bool.false_and]; exact (HF.out false).1, (HF.out false).2⟩
  | true =>
    cases hb : txB s m with
    | true =>
      have E : Hid (txE s m = 0) := Lib.hid (by rw [txE, if_pos hb])
      have EB := Lib.hid hb
      clear hb
      rw [E.out]
      go_wp2
      go_ret
      exact ⟨rfl, by rw [EB.out]; exact (HF.out true).1, (HF.out true).2⟩
    | false =>
      have E : Hid (txE s m = 4) := Lib.hid (by rw [txE, if_neg (by rw [hb]; decide)])
      have EB := Lib.hid hb
      clear hb
      rw [E.out]
      go_wp2
      go_ret
      exact ⟨rfl, by rw [EB.out]; exact (HF.out false).1, (HF.out false).2⟩
end Go.Proofs.YtpfccicahfncbaaDoor
