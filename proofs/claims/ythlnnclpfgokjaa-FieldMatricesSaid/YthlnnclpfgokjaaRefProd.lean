/- Walk: the reference's Product. -/
import Derived.Test.YthlnnclpfgokjaaRefMade
import Derived.Test.YthlnnclpfgokjaaProd
namespace Go.Proofs.Ythlnnclpfgokjaa
open Go.RowKit Gf
set_option linter.unusedVariables false
def pG (a b : List ByteArray) (c i j k : Nat) : Nat → UInt8 := fun j' => if j' < j then prodF (ent a) (ent b) c i j' else if j' = j then dotX (fun k => gm (ent a i k) (ent b k j)) k else 0
theorem pG_step (a b : List ByteArray) (c i j k x : Nat) (v : UInt8) (hv : v = dotX (fun k => gm (ent a i k) (ent b k j)) k ^^^ gm (ent a i k) (ent b k j)) :
    (if x = j then (.int .u8 (v.toNat : Int)) else u8V (pG a b c i j k) x) = u8V (pG a b c i j (k + 1)) x := by
  unfold u8V pG
  by_cases e : x = j
  · subst e; rw [if_pos rfl, if_neg (Nat.lt_irrefl _), if_pos rfl, hv]; rfl
  · rw [if_neg e]
    by_cases h : x < j
    · rw [if_pos h, if_pos h]
    · rw [if_neg h, if_neg h, if_neg e, if_neg e]
theorem pG_next (a b : List ByteArray) (c i j x : Nat) : u8V (pG a b c i j c) x = u8V (pG a b c i (j + 1) 0) x := by
  unfold u8V pG
  by_cases h : x < j
  · rw [if_pos h, if_pos (by omega)]
  · by_cases e : x = j
    · rw [if_neg h, if_pos e, if_pos (by omega), e]; rfl
    · rw [if_neg h, if_neg e, if_neg (by omega)]
      by_cases e2 : x = j + 1
      · rw [if_pos e2]; rfl
      · rw [if_neg e2]
theorem pG_at (a b : List ByteArray) (c i j k : Nat) : pG a b c i j k j = dotX (fun k => gm (ent a i k) (ent b k j)) k := by
  unfold pG; rw [if_neg (Nat.lt_irrefl _), if_pos rfl]

set_option maxRecDepth 100000 in
theorem rproduct_bad (A A' : Option Addr) (n c n' c' : Nat) (a b : List ByteArray) (w : World) (B B' : Nat) (h : Reads w B 1 A n (strV a)) (h' : Reads w B' 1 A' n' (strV b))
    (hn : n ≤ 9223372036854775807) (hn' : n' ≤ 9223372036854775807) (hz : ∀ s ∈ a, s.size ≤ 9223372036854775807) (hz' : ∀ s ∈ b, s.size ≤ 9223372036854775807)
    (hbad : ¬ (okM a = true ∧ okM b = true ∧ col a = b.length)) :
    Calls Try.prog 33 #[.slice A n c, .slice A' n' c'] w fun e w' => RetStrs w w' e (prodR a b) := by
  have X : Hid (prodR a b = ([], 1)) := Lib.hid (by unfold prodR; rw [if_neg hbad])
  have H := Lib.hid h
  have H' := Lib.hid h'
  have HZ := Lib.hid hz
  have HZ' := Lib.hid hz'
  clear h h' hz hz'
  obtain ⟨x, y, z, hca, hxa⟩ : ∃ x y z : Int, chkV a = .tuple #[.int .i64 x, .int .i64 y, .int .i64 z] ∧ (z = 0 → okM a = true ∧ y = col a) := by
    by_cases hb : okM a = true
    · exact ⟨_, _, _, chk_yes hb, fun _ => ⟨hb, rfl⟩⟩
    · exact ⟨_, _, _, chk_no hb, fun h => by cases h⟩
  obtain ⟨x', y', z', hcb, hxb⟩ : ∃ x y z : Int, chkV b = .tuple #[.int .i64 x, .int .i64 y, .int .i64 z] ∧ (z = 0 → okM b = true ∧ x = b.length) := by
    by_cases hb : okM b = true
    · exact ⟨_, _, _, chk_yes hb, fun _ => ⟨hb, rfl⟩⟩
    · exact ⟨_, _, _, chk_no hb, fun h => by cases h⟩
  have Ca := Lib.hid hca
  have Cb := Lib.hid hcb
  have hor : z ≠ 0 ∨ z' ≠ 0 ∨ y ≠ x' := by
    by_cases h1 : z = 0
    · by_cases h2 : z' = 0
      · right; right; intro e
        obtain ⟨q1, q2⟩ := hxa h1
        obtain ⟨q3, q4⟩ := hxb h2
        exact hbad ⟨q1, q3, by omega⟩
      · exact .inr (.inl h2)
    · exact .inl h1
  clear hbad hca hcb hxa hxb
  by_cases h1 : z = 0
  · by_cases h2 : z' = 0
    · subst h1 h2
      have h3 : y ≠ x' := by omega
      have hne : (y != x') = true := by rw [bne_iff_ne]; exact h3
      clear hor h3
      go_enter Try.func33, Try.ntmps33
      go_wp2_with fail
      refine (rcheck_any A n c a _ B H.out hn HZ.out).mono ?_
      rintro e w' ⟨rfl, rfl⟩
      rw [Ca.out]
      go_wp2_with fail
      refine (rcheck_any A' n' c' b _ B' H'.out hn' HZ'.out).mono ?_
      rintro e w' ⟨rfl, rfl⟩
      rw [Cb.out]
      go_wp2
      go_ret2
      exact retNil w 1 _ X.out (Below.refl _ _)
    · subst h1
      have hne : (z' != 0) = true := by rw [bne_iff_ne]; exact h2
      clear hor h2
      go_enter Try.func33, Try.ntmps33
      go_wp2_with fail
      refine (rcheck_any A n c a _ B H.out hn HZ.out).mono ?_
      rintro e w' ⟨rfl, rfl⟩
      rw [Ca.out]
      go_wp2_with fail
      refine (rcheck_any A' n' c' b _ B' H'.out hn' HZ'.out).mono ?_
      rintro e w' ⟨rfl, rfl⟩
      rw [Cb.out]
      go_wp2
      go_ret2
      exact retNil w 1 _ X.out (Below.refl _ _)
  · have hne : (z != 0) = true := by rw [bne_iff_ne]; exact h1
    clear hor h1
    go_enter Try.func33, Try.ntmps33
    go_wp2_with fail
    refine (rcheck_any A n c a _ B H.out hn HZ.out).mono ?_
    rintro e w' ⟨rfl, rfl⟩
    rw [Ca.out]
    go_wp2_with fail
    refine (rcheck_any A' n' c' b _ B' H'.out hn' HZ'.out).mono ?_
    rintro e w' ⟨rfl, rfl⟩
    rw [Cb.out]
    go_wp2
    go_ret2
    exact retNil w 1 _ X.out (Below.refl _ _)

set_option maxRecDepth 100000 in
set_option maxHeartbeats 2000000 in
theorem rproduct_any (A A' : Option Addr) (n c n' c' : Nat) (a b : List ByteArray) (w : World) (B B' : Nat) (h : Reads w B 1 A n (strV a)) (h' : Reads w B' 1 A' n' (strV b)) (hB : B ≤ w.heap.size) (hB' : B' ≤ w.heap.size)
    (hn : n ≤ 9223372036854775807) (hn' : n' ≤ 9223372036854775807) (hz : ∀ s ∈ a, s.size ≤ 9223372036854775807) (hz' : ∀ s ∈ b, s.size ≤ 9223372036854775807) :
    Calls Try.prog 33 #[.slice A n c, .slice A' n' c'] w fun e w' => RetStrs w w' e (prodR a b) := by
  by_cases hbad : ¬ (okM a = true ∧ okM b = true ∧ col a = b.length)
  · exact rproduct_bad A A' n c n' c' a b w B B' h h' hn hn' hz hz' hbad
  obtain ⟨ha, hb, hab⟩ := Classical.not_not.1 hbad
  clear hbad
  have X : Hid (prodR a b = (mat a.length (col b) (prodF (ent a) (ent b) (col a)), 0)) := Lib.hid (by unfold prodR; rw [if_pos ⟨ha, hb, hab⟩])
  have hoa := (okM_iff a).1 ha
  have hob := (okM_iff b).1 hb
  have hl := h.len
  have hl' := h'.len
  have hn1 : n ≤ 64 := by omega
  have hn1' : n' ≤ 64 := by omega
  have hcb : col b ≤ 64 := hob.2.2.2.1
  have hcb1 : 1 ≤ col b := hob.2.2.1
  have Ca : Hid (chkV a = .tuple #[.int .i64 (n : Int), .int .i64 (n' : Int), .int .i64 0]) := Lib.hid (by rw [chk_yes ha, hl, hab, hl'])
  have Cb : Hid (chkV b = .tuple #[.int .i64 (n' : Int), .int .i64 (col b : Int), .int .i64 0]) := Lib.hid (by rw [chk_yes hb, hl'])
  have SA : Hid (∀ i, i < n → (sAt a i).size = n') := Lib.hid (fun i hi => by rw [hoa.2.2.2.2 i (by omega)]; unfold col at hab; omega)
  have SB : Hid (∀ i, i < n' → (sAt b i).size = col b) := Lib.hid (fun i hi => by rw [hob.2.2.2.2 i (by omega)]; rfl)
  have X' : Hid (prodR a b = (mat n (col b) (prodF (ent a) (ent b) n'), 0)) := Lib.hid (by rw [X.out, hl, hab, hl'])
  have H := Lib.hid h
  have H' := Lib.hid h'
  have HZ := Lib.hid hz
  have HZ' := Lib.hid hz'
  clear h h' hz hz' ha hb hoa hob hl hl' hab X
  obtain ⟨nb, hnb⟩ : ∃ q, q = col b := ⟨_, rfl⟩
  rw [← hnb] at X' Cb SB hcb hcb1
  clear hnb
  go_enter Try.func33, Try.ntmps33
  go_wp2_with fail
  refine (rcheck_any A n c a _ B H.out hn HZ.out).mono ?_
  rintro e w' ⟨rfl, rfl⟩
  rw [Ca.out]
  go_wp2_with fail
  refine (rcheck_any A' n' c' b _ B' H'.out hn' HZ'.out).mono ?_
  rintro e w' ⟨rfl, rfl⟩
  rw [Cb.out]
  go_wp2
  go_loopw [12, 13, 14, 15, 16] (fun v i _ _ _ wr => ∃ i' : Nat, i' ≤ n ∧ i = .int .i64 i' ∧ Hid (wr.ownsRow w.heap.size 9 1 v i' (strV (mat i' nb (prodF (ent a) (ent b) n'))) ∧ Below w.heap.size w wr)) (fun _ i _ _ _ _ => n - (intOf i).toNat)
  case atStart => exact ⟨0, by omega, rfl, Lib.hid ⟨World.ownsRow_nil _ _ _ _, Below.refl _ _⟩⟩
  case round =>
    obtain ⟨i, hi, rfl, HR⟩ := hrel
    by_cases hin : i < n
    · have hmk := fun W => bytes_made W nb (by omega)
      have hle := HR.out.2.size
      go_wp2
      clear hmk
      obtain ⟨wo, rfl⟩ : ∃ wo : World, wo = wr := ⟨_, rfl⟩
      have Z0 : Hid ((wo.alloc (.cells (madeCells #[.int .u8 0] nb) 5)).rowIs wo.heap.size 5 nb (u8V (pG a b n' i 0 0))) := Lib.hid ((World.rowIs_made wo (.int .u8 0) nb 5).congr fun x _ => by
        unfold u8V pG; rw [if_neg (by omega)]
        by_cases e : x = 0
        · rw [if_pos e]; rfl
        · rw [if_neg e]; rfl)
      have O0 := Lib.hid (And.intro (HR.out.1.alloc (.cells (madeCells #[.int .u8 0] nb) 5)) (HR.out.2.alloc hle (.cells (madeCells #[.int .u8 0] nb) 5)))
      go_loopw [15, 16] (fun j _ wr => ∃ j' : Nat, j' ≤ nb ∧ j = .int .i64 j' ∧ Hid (wr.rowIs wo.heap.size 5 nb (u8V (pG a b n' i j' 0)) ∧ wr.ownsRow w.heap.size 9 1 u12 i (strV (mat i nb (prodF (ent a) (ent b) n'))) ∧ Below w.heap.size w wr)) (fun j _ _ => nb - (intOf j).toNat)
      case atStart => exact ⟨0, by omega, rfl, Lib.hid ⟨Z0.out, O0.out.1, O0.out.2⟩⟩
      case round =>
        obtain ⟨j, hj, rfl, HJ⟩ := hrel
        by_cases hjn : j < nb
        · go_wp2
          obtain ⟨wp, rfl⟩ : ∃ wp : World, wp = wr := ⟨_, rfl⟩
          go_loopw [16] (fun k wr => ∃ k' : Nat, k' ≤ n' ∧ k = .int .i64 k' ∧ Hid (wr.rowIs wo.heap.size 5 nb (u8V (pG a b n' i j k')) ∧ wr.ownsRow w.heap.size 9 1 u12 i (strV (mat i nb (prodF (ent a) (ent b) n'))) ∧ Below w.heap.size w wr)) (fun k _ => n' - (intOf k).toNat)
          case atStart => exact ⟨0, by omega, rfl, HJ⟩
          case round =>
            obtain ⟨k, hk, rfl, HK⟩ := hrel
            by_cases hkn : k < n'
            · obtain ⟨ad, rfl, hb1, hc⟩ := ((H.out.below (HK.out.2.2.mono hB)).str hin)
              obtain ⟨ad', rfl, hb2, hc'⟩ := ((H'.out.below (HK.out.2.2.mono hB')).str hkn)
              have hca := hc i hin
              have hcb := hc' k hkn
              have hcr : wr.cell? ⟨wo.heap.size, j, none⟩ = some (.int .u8 ((dotX (fun k => gm (ent a i k) (ent b k j)) k).toNat : Int)) := by
                rw [HK.out.1.cell hjn]; unfold u8V; rw [pG_at]
              have hf1 : wr.frozen? ⟨wo.heap.size, j, none⟩ = false := HK.out.1.frozen _
              have hka : k < (sAt a i).size := by rw [SA.out i hin]; exact hkn
              have hjb : j < (sAt b k).size := by rw [SB.out k hkn]; exact hjn
              have hka' : (k : Int) < ((sAt a i).size : Int) := by omega
              have hjb' : (j : Int) < ((sAt b k).size : Int) := by omega
              have hjn' : (j : Int) < (nb : Int) := by omega
              have E1 := Lib.hid (byteAt_get _ _ hka)
              have E2 := Lib.hid (byteAt_get _ _ hjb)
              have XB := Lib.hid (xor_bits (dotX (fun k => gm (ent a i k) (ent b k j)) k) (gm (sAt a i)[k] (sAt b k)[j]))
              have hlt := HK.out.1.lt
              clear hc hc'
              go_wp2
              refine wp_region_still_tail 21 (by kernel_rfl) (by kernel_rfl) ?_
              simp only [List.take_succ_cons, List.take_zero, List.drop_succ_cons, List.drop_zero]
              repeat still_step
              still_call (swapW (rtimes_any _ _ _))
              repeat still_step
              try refine wpStill_nil ?_
              go_wp2
              go_roundw
              case rel =>
                refine ⟨k + 1, by omega, by go_num, Lib.hid ⟨?_, ?_, (HK.out.2.2.drew).setCell hle _⟩⟩
                · rw [XB.out]
                  exact (HK.out.1.drew.set j _).congr fun x _ => pG_step a b n' i j k x _ (by rw [E1.out, E2.out]; rfl)
                · exact own_keep' HK.out.2.1.drew HK.out.1.drew (by decide) _
              case measure => simp [intOf]; omega
            · obtain rfl : k = n' := by omega
              have HK' : Hid (wr.rowIs wo.heap.size 5 nb (u8V (pG a b k i (j + 1) 0)) ∧ wr.ownsRow w.heap.size 9 1 u12 i (strV (mat i nb (prodF (ent a) (ent b) k))) ∧ Below w.heap.size w wr) := Lib.hid ⟨HK.out.1.congr fun x _ => pG_next a b k i j x, HK.out.2⟩
              go_wp2
              go_roundw
              case rel => exact ⟨j + 1, by omega, by go_num, HK'⟩
              case measure => simp [intOf]; omega
        · obtain rfl : j = nb := by omega
          have HC : Hid (∀ x, x < j → wr.cell? (({ block := wo.heap.size, off := 0, spot := none } : Addr).add x) = some (.int .u8 ((((List.range j).map fun x => prodF (ent a) (ent b) n' i x).getD x 0).toNat : Int))) := Lib.hid (fun x hx => by
            rw [add0, HJ.out.1.cell hx]
            unfold u8V pG
            rw [if_pos hx]
            simp [List.getD, hx])
          have hk1 : i ≤ 4611686018427387904 := by omega
          have hk2 : (i + 1) * 16 ≤ 140737488355328 := by omega
          have hle2 := HJ.out.2.2.size
          go_wp2_with (first
            | (with_reducible refine conv_str_wp (e := 5) (by kernel_rfl) (by kernel_rfl) (by kernel_rfl) rfl _ rfl ⟨wo.heap.size, 0, none⟩ j j rfl ((List.range j).map fun x => prodF (ent a) (ent b) n' i x) (by simp) HC.out ?_)
            | (at_builtin; refine append1_new elemStr rfl _ _ rfl w.heap.size _ i _ rfl HJ.out.2.1 _ rfl rfl hk1 hk2 hle2 ?_; intro v' w' ho hg))
          have HI' := Lib.hid (And.intro (show w'.ownsRow w.heap.size 9 1 v' (i + 1) (strV (mat (i + 1) j (prodF (ent a) (ent b) n'))) from by rw [mat_succ]; simpa [strV] using ho) (below_own HJ.out.2.2 HJ.out.2.1 hg))
          clear ho hg
          go_roundw
          case rel => exact ⟨i + 1, by omega, by go_num, HI'⟩
          case measure => simp [intOf]; omega
    · obtain rfl : i = n := by omega
      go_wp2
      go_ret2
      refine ⟨_, by rw [X'.out]; rfl, ?_, HR.out.2⟩
      rw [X'.out]
      show wr.ownsRow w.heap.size _ 1 _ (mat i nb _).length _
      rw [mat_length]
      exact HR.out.1
end Go.Proofs.Ythlnnclpfgokjaa
