/- Walk: field.Inverse. -/
import Derived.Test.YthlnnclpfgokjaaElimW
import Derived.Test.YthlnnclpfgokjaaProd
namespace Go.Proofs.Ythlnnclpfgokjaa
open Go.RowKit Gf
set_option linter.unusedVariables false
/-- A square matrix, the unit beside it. -/
def augM (ss : List ByteArray) (n : Nat) : Mat := fun i j => if j < n then ent ss i j else if j = n + i then 1 else 0
def invE (ss : List ByteArray) : Mat × Nat := esteps ss.length (augM ss ss.length) ss.length
def invR (ss : List ByteArray) : List ByteArray × Int :=
  if okM ss = true ∧ ss.length = col ss then
    (if (invE ss).2 < ss.length then ([], 60) else (mat ss.length ss.length (fun i j => (invE ss).1 i (ss.length + j)), 0))
  else ([], 1)
theorem aug_flat (ss : List ByteArray) (n : Nat) (hl : ss.length = n) (ho : okM ss = true) (hs : ss.length = col ss) (x : Nat) (hx : x < n * 128) :
    (if x / 128 < n ∧ x % 128 = n + x / 128 then 1 else gridG ss n x) = flat (augM ss n) x := by
  have h := (okM_iff ss).1 ho
  unfold col at hs
  have hi : x / 128 < n := by omega
  have hsz : (sAt ss (x / 128)).size = n := by rw [h.2.2.2.2 _ (by omega)]; omega
  unfold flat augM gridG
  by_cases h1 : x % 128 < n
  · rw [if_neg (by omega), if_pos ⟨hi, by omega⟩, if_pos h1]; rfl
  · rw [if_neg h1]
    by_cases h2 : x % 128 = n + x / 128
    · rw [if_pos ⟨hi, h2⟩, if_pos h2]
    · rw [if_neg (fun h => h2 h.2), if_neg h2, if_neg (by omega)]
def augG (ss : List ByteArray) (n k : Nat) : Nat → UInt8 := fun x => if x / 128 < k ∧ x % 128 = n + x / 128 then 1 else gridG ss n x

set_option maxRecDepth 100000 in
set_option maxHeartbeats 400000 in
theorem inverseM_bad (A : Option Addr) (n c : Nat) (a : List ByteArray) (w : World) (B : Nat) (h : Reads w B 1 A n (strV a)) (hn : n ≤ 9223372036854775807) (hz : ∀ s ∈ a, s.size ≤ 9223372036854775807)
    (hbad : ¬ (okM a = true ∧ a.length = col a)) :
    Calls Try.prog 31 #[.slice A n c] w fun e w' => RetStrs w w' e (invR a) := by
  have X : Hid (invR a = ([], 1)) := Lib.hid (by unfold invR; rw [if_neg hbad])
  have H := Lib.hid h
  have HZ := Lib.hid hz
  clear h hz
  by_cases ha : okM a = true
  · have Ca := Lib.hid (chk_yes ha)
    have hne : ((a.length : Int) != (col a : Int)) = true := by rw [bne_iff_ne]; intro e; exact hbad ⟨ha, by omega⟩
    clear hbad ha
    go_enter Try.func31, Try.ntmps31
    go_wp2_with fail
    refine (check_any A n c a _ B (H.out.drewN 0) hn HZ.out).mono ?_
    rintro e w' ⟨rfl, m, rfl⟩
    rw [Ca.out]
    go_wp2
    go_ret2
    exact retNil w 1 _ X.out (below_drewN (Below.refl _ _) _)
  · have Ca := Lib.hid (chk_no ha)
    clear hbad ha
    go_enter Try.func31, Try.ntmps31
    go_wp2_with fail
    refine (check_any A n c a _ B (H.out.drewN 0) hn HZ.out).mono ?_
    rintro e w' ⟨rfl, m, rfl⟩
    rw [Ca.out]
    go_wp2
    go_ret2
    exact retNil w 1 _ X.out (below_drewN (Below.refl _ _) _)

set_option maxRecDepth 100000 in
set_option maxHeartbeats 1000000 in
theorem inverseM_any (A : Option Addr) (n c : Nat) (a : List ByteArray) (w : World) (B : Nat) (h : Reads w B 1 A n (strV a)) (hB : B ≤ w.heap.size) (hn : n ≤ 9223372036854775807) (hz : ∀ s ∈ a, s.size ≤ 9223372036854775807) :
    Calls Try.prog 31 #[.slice A n c] w fun e w' => RetStrs w w' e (invR a) := by
  by_cases hbad : ¬ (okM a = true ∧ a.length = col a)
  · exact inverseM_bad A n c a w B h hn hz hbad
  obtain ⟨ha, hsq⟩ := Classical.not_not.1 hbad
  clear hbad
  have hoa := (okM_iff a).1 ha
  have hl := h.len
  have hn1 : n ≤ 64 := by omega
  have hn0 : 1 ≤ n := by omega
  have Ca : Hid (chkV a = .tuple #[.int .i64 (n : Int), .int .i64 (n : Int), .int .i64 0]) := Lib.hid (by rw [chk_yes ha, ← hsq, hl])
  obtain ⟨E, hE⟩ : ∃ E, E = invE a := ⟨_, rfl⟩
  have X : Hid (invR a = if E.2 < n then ([], 60) else (mat n n (fun i j => E.1 i (n + j)), 0)) := Lib.hid (by
    unfold invR; rw [if_pos ⟨ha, hsq⟩, ← hE, hl])
  have HE : Hid (esteps n (augM a n) n = E) := Lib.hid (by rw [hE, invE, hl])
  have AF : Hid (∀ x, x < n * 128 → augG a n n x = flat (augM a n) x) := Lib.hid (fun x hx => aug_flat a n hl ha hsq x hx)
  have HOA := Lib.hid hoa
  have HL := Lib.hid hl
  have H := Lib.hid h
  have HZ := Lib.hid hz
  clear h hz ha hoa hl hsq hE
  obtain ⟨EM, ea⟩ := E
  go_enter Try.func31, Try.ntmps31
  go_wp2_with fail
  refine (check_any A n c a _ B (H.out.drewN 0) hn HZ.out).mono ?_
  rintro e w' ⟨rfl, m, rfl⟩
  rw [Ca.out]
  go_wp2_with fail
  refine (grid_any _ B A n c a (H.out.drewN _) hB hn1 (fun s hs => by
    obtain ⟨j, hj, rfl⟩ := List.getElem_of_mem hs
    rw [← sAt_get hj, HOA.out.2.2.2.2 j hj]; have := HOA.out.2.2.2.1; omega)).mono ?_
  rintro e w2 ⟨rfl, hr2, hb2⟩
  have HR2 : Hid (w2.rowIs w.heap.size 72 (n * 128) (u8V (gridG a n))) := Lib.hid hr2
  have HB2 : Hid (Below w.heap.size w w2) := Lib.hid (Below.trans (below_drewN (Below.refl w.heap.size w) m) hb2)
  clear hr2 hb2
  go_wp2
  go_loopw [8, 26] (fun _ i wr => ∃ k : Nat, k ≤ n ∧ i = .int .i64 k ∧ Hid (wr.rowIs w.heap.size 72 (n * 128) (u8V (augG a n k)) ∧ Below w.heap.size w wr)) (fun _ i _ => n - (intOf i).toNat)
  case atStart =>
    refine ⟨0, by omega, rfl, Lib.hid ⟨HR2.out.congr fun x hx => ?_, HB2.out⟩⟩
    simp only [u8V, augG]; rw [if_neg (by omega)]
  case round =>
    obtain ⟨k, hk, rfl, HK⟩ := hrel
    by_cases hlt : k < n
    · obtain ⟨v1, hc1⟩ : ∃ v, wr.cell? ⟨w.heap.size, k * 128 + (n + k), none⟩ = some v := ⟨_, HK.out.1.cell (by omega)⟩
      have hf1 : wr.frozen? ⟨w.heap.size, k * 128 + (n + k), none⟩ = false := HK.out.1.frozen _
      go_wp2
      go_roundw
      case rel =>
        refine ⟨k + 1, by omega, by go_num, Lib.hid ⟨(HK.out.1.set (k * 128 + (n + k)) _).congr fun i hi => ?_, HK.out.2.setCell (Nat.le_refl _) _⟩⟩
        simp only [u8V, augG]
        by_cases e : i = k * 128 + (n + k)
        · rw [if_pos e, if_pos (by omega)]; rfl
        · rw [if_neg e]
          by_cases h3 : i / 128 < k ∧ i % 128 = n + i / 128
          · rw [if_pos h3, if_pos (by omega)]
          · rw [if_neg h3, if_neg (by omega)]
      case measure => simp [intOf]; omega
    · obtain rfl : k = n := by omega
      have HF : Hid (wr.rowIs w.heap.size 72 (k * 128) (u8V (flat (augM a k))) ∧ Below w.heap.size w wr) := Lib.hid ⟨HK.out.1.congr fun x hx => by simp only [u8V, AF.out x hx], HK.out.2⟩
      clear HK
      go_wp2_with fail
      refine (eliminate_any wr w.heap.size k k k _ HF.out.1 hn1 hn1).mono ?_
      rw [HE.out]
      rintro e w3 ⟨rfl, hr3, hg3⟩
      have HR3 := Lib.hid hr3
      have HB3 := Lib.hid (below_grown HF.out.2 hg3 (by intro g h; injection h with h; omega))
      clear hr3 hg3
      by_cases hlow : ea < k
      · have X' : Hid (invR a = ([], 60)) := Lib.hid (by rw [X.out, if_pos hlow])
        go_wp2
        go_ret2
        exact retNil w 60 _ X'.out HB3.out
      · have X' : Hid (invR a = (mat k k (fun i j => EM i (k + j)), 0)) := Lib.hid (by rw [X.out, if_neg hlow])
        go_wp2_with (go_at_call 57; refine (texts_any _ w.heap.size (k * 128) k k _ k k HR3.out (by omega) (by omega) (by omega) (by omega) (by omega)).mono ?_; rintro e w4 ⟨v2, rfl, ho2, hb4⟩)
        go_ret2
        refine ⟨v2, by rw [X'.out]; rfl, ?_, HB3.out.trans (hb4.mono HB3.out.size)⟩
        rw [X'.out]
        have e1 : textsL (flat EM) k k k = mat k k (fun i j => EM i (k + j)) := by
          rw [textsL_mat]
          refine mat_congr fun i j hi hj => ?_
          rw [Nat.add_assoc, flat_at _ _ _ (by omega)]
        rw [e1] at ho2
        show w4.ownsRow w.heap.size _ 1 v2 (mat k k _).length _
        rw [mat_length]
        exact own_base ho2 HB3.out.size
end Go.Proofs.Ythlnnclpfgokjaa
