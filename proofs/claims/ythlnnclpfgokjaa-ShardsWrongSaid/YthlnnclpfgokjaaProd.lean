/- Walk: field.Product. -/
import Derived.Test.YthlnnclpfgokjaaMade
namespace Go.Proofs.Ythlnnclpfgokjaa
open Go.RowKit Gf
def byteAt (s : ByteArray) (k : Nat) : UInt8 := s.data.toList.getD k 0
theorem byteAt_get (s : ByteArray) (k : Nat) (h : k < s.size) : s[k] = byteAt s k := by
  unfold byteAt
  rw [List.getD_eq_getElem?_getD, List.getElem?_eq_getElem (by rw [data_length]; exact h)]
  rfl
/-- The number at row i, column j. -/
def ent (ss : List ByteArray) (i j : Nat) : UInt8 := byteAt (sAt ss i) j
/-- The sum of the first k. -/
def dotX (f : Nat → UInt8) : Nat → UInt8
  | 0 => 0
  | k + 1 => dotX f k ^^^ f k
def prodF (A B : Nat → Nat → UInt8) (c i j : Nat) : UInt8 := dotX (fun k => gm (A i k) (B k j)) c
def prodR (a b : List ByteArray) : List ByteArray × Int :=
  if okM a = true ∧ okM b = true ∧ col a = b.length then (mat a.length (col b) (prodF (ent a) (ent b) (col a)), 0) else ([], 1)
theorem chk_yes {ss : List ByteArray} (h : okM ss = true) : chkV ss = .tuple #[.int .i64 (ss.length : Int), .int .i64 (col ss : Int), .int .i64 0] := by unfold chkV; rw [if_pos h]
theorem chk_no {ss : List ByteArray} (h : ¬ okM ss = true) : chkV ss = .tuple #[.int .i64 0, .int .i64 0, .int .i64 1] := by unfold chkV; rw [if_neg h]

/-- What stands in the product's grid: rows before i are whole, row i has k parts. -/
def prodG (a b : List ByteArray) (c i k : Nat) : Nat → UInt8 := fun x =>
  if x / 128 < i then prodF (ent a) (fun k j => gridG b b.length (k * 128 + j)) c (x / 128) (x % 128)
  else if x / 128 = i then dotX (fun k => gm (ent a i k) (gridG b b.length (k * 128 + x % 128))) k else 0
theorem prod_step (a b : List ByteArray) (c i k : Nat) (x : Nat) (f : UInt8) (hf : f = ent a i k) :
    takeG (prodG a b c i k) (i * 128) f (fun j => gridG b b.length (k * 128 + j)) 128 x = prodG a b c i (k + 1) x := by
  subst hf
  simp only [takeG, prodG]
  by_cases h : i * 128 ≤ x ∧ x < i * 128 + 128
  · have e1 : x / 128 = i := by omega
    have e2 : x - i * 128 = x % 128 := by omega
    rw [if_pos h, e1, if_neg (Nat.lt_irrefl i), if_neg (Nat.lt_irrefl i), if_pos rfl, if_pos rfl, e2]; rfl
  · have : ¬ x / 128 = i := by omega
    rw [if_neg h, if_neg this, if_neg this]
theorem grid_ent (b : List ByteArray) (k j : Nat) (hj : j < 128) (hk : k < b.length) (hc : j < (sAt b k).size) : gridG b b.length (k * 128 + j) = ent b k j := by
  have e1 : (k * 128 + j) / 128 = k := by omega
  have e2 : (k * 128 + j) % 128 = j := by omega
  unfold gridG; rw [e1, e2, if_pos ⟨hk, hc⟩]; rfl
theorem dotX_congr {f g : Nat → UInt8} {n : Nat} (h : ∀ k, k < n → f k = g k) : dotX f n = dotX g n := by
  induction n with
  | zero => rfl
  | succ n ih => rw [dotX, dotX, ih (fun k hk => h k (by omega)), h n (by omega)]
theorem prod_end (a b : List ByteArray) (hb : okM b = true) (n : Nat) (hn : n = b.length) : textsL (prodG a b n a.length 0) 0 (col b) a.length = mat a.length (col b) (prodF (ent a) (ent b) n) := by
  rw [textsL_mat]
  have ho := (okM_iff b).1 hb
  refine mat_congr fun i j hi hj => ?_
  unfold col at hj
  have e1 : (i * 128 + 0 + j) / 128 = i := by omega
  have e2 : (i * 128 + 0 + j) % 128 = j := by omega
  simp only [prodG]
  rw [e1, e2, if_pos hi]
  unfold prodF
  refine dotX_congr fun k hk => ?_
  show gm _ (gridG b b.length (k * 128 + j)) = _
  rw [grid_ent b k j (by omega) (by omega) (by rw [ho.2.2.2.2 k (by omega)]; exact hj)]

set_option maxRecDepth 100000 in
theorem product_bad (A A' : Option Addr) (n c n' c' : Nat) (a b : List ByteArray) (w : World) (B B' : Nat) (h : Reads w B 1 A n (strV a)) (h' : Reads w B' 1 A' n' (strV b))
    (hn : n ≤ 9223372036854775807) (hn' : n' ≤ 9223372036854775807) (hz : ∀ s ∈ a, s.size ≤ 9223372036854775807) (hz' : ∀ s ∈ b, s.size ≤ 9223372036854775807)
    (hbad : ¬ (okM a = true ∧ okM b = true ∧ col a = b.length)) :
    Calls Try.prog 34 #[.slice A n c, .slice A' n' c'] w fun e w' => RetStrs w w' e (prodR a b) := by
  have X : Hid (prodR a b = ([], 1)) := Lib.hid (by unfold prodR; rw [if_neg hbad])
  have H := Lib.hid h
  have H' := Lib.hid h'
  have HZ := Lib.hid hz
  have HZ' := Lib.hid hz'
  clear h h' hz hz'
  by_cases ha : okM a = true
  · have Ca := Lib.hid (chk_yes ha)
    by_cases hb : okM b = true
    · have Cb := Lib.hid (chk_yes hb)
      have hne : ((col a : Int) != (b.length : Int)) = true := by rw [bne_iff_ne]; intro e; exact hbad ⟨ha, hb, by omega⟩
      clear hbad ha hb
      go_enter Try.func34, Try.ntmps34
      go_wp2_with fail
      refine (check_any A n c a _ B (H.out.drewN 0) hn HZ.out).mono ?_
      rintro e w' ⟨rfl, m, rfl⟩
      rw [Ca.out]
      go_wp2_with fail
      refine (check_any A' n' c' b _ B' (H'.out.drewN _) hn' HZ'.out).mono ?_
      rintro e w' ⟨rfl, m', rfl⟩
      rw [Cb.out]
      go_wp2
      go_ret2
      exact retNil w 1 _ X.out (below_drewN (Below.refl _ _) _)
    · have Cb := Lib.hid (chk_no hb)
      clear hbad ha hb
      go_enter Try.func34, Try.ntmps34
      go_wp2_with fail
      refine (check_any A n c a _ B (H.out.drewN 0) hn HZ.out).mono ?_
      rintro e w' ⟨rfl, m, rfl⟩
      rw [Ca.out]
      go_wp2_with fail
      refine (check_any A' n' c' b _ B' (H'.out.drewN _) hn' HZ'.out).mono ?_
      rintro e w' ⟨rfl, m', rfl⟩
      rw [Cb.out]
      go_wp2
      go_ret2
      exact retNil w 1 _ X.out (below_drewN (Below.refl _ _) _)
  · have Ca := Lib.hid (chk_no ha)
    obtain ⟨x, y, z, hc⟩ : ∃ x y z : Int, chkV b = .tuple #[.int .i64 x, .int .i64 y, .int .i64 z] := by
      by_cases hb : okM b = true
      · exact ⟨_, _, _, chk_yes hb⟩
      · exact ⟨_, _, _, chk_no hb⟩
    have Cb := Lib.hid hc
    clear hbad ha hc
    go_enter Try.func34, Try.ntmps34
    go_wp2_with fail
    refine (check_any A n c a _ B (H.out.drewN 0) hn HZ.out).mono ?_
    rintro e w' ⟨rfl, m, rfl⟩
    rw [Ca.out]
    go_wp2_with fail
    refine (check_any A' n' c' b _ B' (H'.out.drewN _) hn' HZ'.out).mono ?_
    rintro e w' ⟨rfl, m', rfl⟩
    rw [Cb.out]
    go_wp2
    go_ret2
    exact retNil w 1 _ X.out (below_drewN (Below.refl _ _) _)

set_option maxRecDepth 100000 in
set_option maxHeartbeats 400000 in
theorem product_any (A A' : Option Addr) (n c n' c' : Nat) (a b : List ByteArray) (w : World) (B B' : Nat) (h : Reads w B 1 A n (strV a)) (h' : Reads w B' 1 A' n' (strV b)) (hB : B ≤ w.heap.size) (hB' : B' ≤ w.heap.size)
    (hn : n ≤ 9223372036854775807) (hn' : n' ≤ 9223372036854775807) (hz : ∀ s ∈ a, s.size ≤ 9223372036854775807) (hz' : ∀ s ∈ b, s.size ≤ 9223372036854775807) :
    Calls Try.prog 34 #[.slice A n c, .slice A' n' c'] w fun e w' => RetStrs w w' e (prodR a b) := by
  by_cases hbad : ¬ (okM a = true ∧ okM b = true ∧ col a = b.length)
  · exact product_bad A A' n c n' c' a b w B B' h h' hn hn' hz hz' hbad
  obtain ⟨ha, hb, hab⟩ := Classical.not_not.1 hbad
  clear hbad
  have X : Hid (prodR a b = (mat a.length (col b) (prodF (ent a) (ent b) (col a)), 0)) := Lib.hid (by unfold prodR; rw [if_pos ⟨ha, hb, hab⟩])
  have hoa := (okM_iff a).1 ha
  have hob := (okM_iff b).1 hb
  have hl := h.len
  have hl' := h'.len
  have hn1 : n ≤ 64 := by omega
  have hn1' : n' ≤ 64 := by omega
  have hcb : col b ≤ 64 := hob.2.2.2.1
  have Ca : Hid (chkV a = .tuple #[.int .i64 (n : Int), .int .i64 (n' : Int), .int .i64 0]) := Lib.hid (by rw [chk_yes ha, hl, hab, hl'])
  have Cb : Hid (chkV b = .tuple #[.int .i64 (n' : Int), .int .i64 (col b : Int), .int .i64 0]) := Lib.hid (by rw [chk_yes hb, hl'])
  have HA := Lib.hid ha
  have HOA := Lib.hid hoa
  have HOB := Lib.hid hob
  have HB := Lib.hid hb
  have HL := Lib.hid hl
  have HL' := Lib.hid hl'
  have HAB := Lib.hid hab
  have H := Lib.hid h
  have H' := Lib.hid h'
  have HZ := Lib.hid hz
  have HZ' := Lib.hid hz'
  clear h h' hz hz' ha hb hoa hob hl hl' hab
  have hmk := fun W => rows_made W n hn1
  go_enter Try.func34, Try.ntmps34
  go_wp2_with fail
  refine (check_any A n c a _ B (H.out.drewN 0) hn HZ.out).mono ?_
  rintro e w' ⟨rfl, m, rfl⟩
  rw [Ca.out]
  go_wp2_with fail
  refine (check_any A' n' c' b _ B' (H'.out.drewN _) hn' HZ'.out).mono ?_
  rintro e w' ⟨rfl, m', rfl⟩
  rw [Cb.out]
  go_wp2_with fail
  refine (grid_any _ B' A' n' c' b (H'.out.drewN _) hB' hn1' (fun s hs => by
    obtain ⟨j, hj, rfl⟩ := List.getElem_of_mem hs
    rw [← sAt_get hj, HOB.out.2.2.2.2 j hj]; have := HOB.out.2.2.2.1; omega)).mono ?_
  rintro e w2 ⟨rfl, hr2, hb2⟩
  have HR2 := Lib.hid hr2
  have HB2 := Lib.hid (Below.trans (below_drewN (Below.refl w.heap.size w) (m + m')) hb2)
  have hlt2 : w.heap.size < w2.heap.size := hr2.lt
  clear hr2 hb2
  go_wp2
  clear hmk
  go_loopw [14, 15, 16, 47, 53] (fun _ _ _ i _ wr => ∃ k : Nat, k ≤ n ∧ i = .int .i64 k ∧ Hid (wr.rowIs w2.heap.size 72 (n * 128) (u8V (prodG a b n' k 0)) ∧ wr.rowIs w.heap.size 72 (n' * 128) (u8V (gridG b b.length)) ∧ Below w.heap.size w wr)) (fun _ _ _ i _ _ => n - (intOf i).toNat)
  case atStart =>
    refine ⟨0, by omega, rfl, Lib.hid ⟨(rows_new w2 n).congr fun i hi => ?_, ?_, HB2.out.alloc (by omega) _⟩⟩
    · simp only [u8V, prodG]; rw [if_neg (by omega)]
      by_cases e : i / 128 = 0
      · rw [if_pos e]; rfl
      · rw [if_neg e]
    · have := HR2.out.alloc (.cells (madeCells (Value.agg (Array.replicate 128 (.int .u8 0))).cells (n * 128)) 72)
      rw [← HL'.out] at this ⊢
      exact this
  case round =>
    obtain ⟨i, hi, rfl, HR⟩ := hrel
    by_cases hlt : i < n
    · obtain ⟨ad, rfl, hb, hc⟩ := ((H.out.below (HR.out.2.2.mono hB)).str hlt)
      have hci := hc i hlt
      clear hc
      have hsz : Hid ((sAt a i).size = n') := Lib.hid (by rw [HOA.out.2.2.2.2 i (by rw [HL.out]; exact hlt)]; exact HAB.out.trans HL'.out)
      go_wp2
      obtain ⟨wo, rfl⟩ : ∃ wo : World, wo = wr := ⟨_, rfl⟩
      clear hci
      go_loopw [16, 53] (fun _ i' wr => ∃ k : Nat, k ≤ n' ∧ i' = .int .i64 k ∧ Hid (wr.rowIs w2.heap.size 72 (n * 128) (u8V (prodG a b n' i k)) ∧ wr.rowIs w.heap.size 72 (n' * 128) (u8V (gridG b b.length)) ∧ Below w.heap.size w wr)) (fun _ i _ => n' - (intOf i).toNat)
      case atStart => exact ⟨0, by omega, rfl, HR⟩
      case round =>
        obtain ⟨k, hk, rfl, HI⟩ := hrel
        by_cases hkl : k < n'
        · have hks : k < (sAt a i).size := by rw [hsz.out]; exact hkl
          have hks' : (k : Int) < ((sAt a i).size : Int) := by omega
          have E := Lib.hid (byteAt_get _ _ hks)
          go_wp2
          refine wp_region_still_tail 9 (by kernel_rfl) (by kernel_rfl) ?_
          simp only [List.take_succ_cons, List.take_zero, List.drop_succ_cons, List.drop_zero]
          repeat still_step
          try refine wpStill_nil ?_
          go_wp2_with fail
          refine (take_any wr.drew w2.heap.size (n * 128) _ (i * 128) _ w.heap.size (n' * 128) (k * 128) _ HI.out.1.drew (by omega) HI.out.2.1.drew (by omega) (.inl (by omega))).mono ?_
          rintro e w5 ⟨rfl, hr5, hg5⟩
          have HI' : Hid (w5.rowIs w2.heap.size 72 (n * 128) (u8V (prodG a b n' i (k + 1))) ∧ w5.rowIs w.heap.size 72 (n' * 128) (u8V (gridG b b.length)) ∧ Below w.heap.size w w5) :=
            Lib.hid ⟨hr5.congr fun x _ => by
                have := prod_step a b n' i k x _ (E.out.trans (rfl : byteAt (sAt a i) k = ent a i k))
                simp only [u8V, this],
              HI.out.2.1.drew.of_block (hg5.block _ HI.out.2.1.lt (fun e => by injection e with e; omega)),
              below_grown (HI.out.2.2.drew) hg5 (by intro g h; injection h with h; omega)⟩
          clear hr5 hg5
          go_wp2
          go_roundw
          case rel => exact ⟨k + 1, by omega, by go_num, HI'⟩
          case measure => simp [intOf]; omega
        · obtain rfl : k = n' := by omega
          go_wp2
          go_roundw
          case rel =>
            refine ⟨i + 1, by omega, by go_num, Lib.hid ⟨HI.out.1.congr fun x hx => ?_, HI.out.2.1, HI.out.2.2⟩⟩
            simp only [u8V, prodG]
            by_cases h1 : x / 128 < i
            · rw [if_pos h1, if_pos (by omega)]
            · by_cases h2 : x / 128 = i
              · rw [if_neg h1, if_pos h2, if_pos (by omega), h2]; rfl
              · rw [if_neg h1, if_neg h2, if_neg (by omega)]
                by_cases h3 : x / 128 = i + 1
                · rw [if_pos h3]; rfl
                · rw [if_neg h3]
          case measure => simp [intOf]; omega
    · obtain rfl : i = n := by omega
      go_wp2_with (go_at_call 57; refine (texts_any _ w2.heap.size (i * 128) i i _ 0 (col b) HR.out.1 (by omega) (by omega) (by omega) (by omega) (by omega)).mono ?_; rintro e w3 ⟨v2, rfl, ho2, hb3⟩)
      go_ret2
      refine ⟨v2, by rw [X.out]; rfl, ?_, HR.out.2.2.trans (hb3.mono HR.out.2.2.size)⟩
      rw [X.out]
      have e1 : textsL (prodG a b n' i 0) 0 (col b) i = mat a.length (col b) (prodF (ent a) (ent b) (col a)) := by
        have := prod_end a b HB.out n' HL'.out.symm
        rw [HL.out] at this
        rw [HAB.out, HL'.out, HL.out]; exact this
      rw [e1] at ho2
      have e2 : (mat a.length (col b) (prodF (ent a) (ent b) (col a))).length = i := by rw [mat_length, HL.out]
      show w3.ownsRow w.heap.size _ 1 v2 (mat a.length (col b) (prodF (ent a) (ent b) (col a))).length _
      rw [e2]
      exact own_base ho2 HR.out.2.2.size
end Go.Proofs.Ythlnnclpfgokjaa
