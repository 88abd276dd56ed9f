/- Several texts of the claim joined into one (part 10): plain facts and walks. No conditions but those that each theorem tells. -/
import Derived.Test.YtpfccicahfncbaaDoorMgAttrsOne9
import Derived.Test.YtpfccicahfncbaaDoorMgAttrsOne5
import Derived.Test.YtpfccicahfncbaaDoorMgAttrsOne6
import Derived.Test.YtpfccicahfncbaaDoorMem
import Derived.Test.YtpfccicahfncbaaDoorMgAttrsOne2
import Derived.BigQuiet
namespace Go.Proofs.YtpfccicahfncbaaDoor
open Go.RowKit Wir
set_option linter.unusedVariables false
set_option linter.unusedSimpArgs false
/-- So many sets are read, L being read already. -/
def rsF : Nat → ByteArray → List Att → Option (List Att × ByteArray)
  | 0, r, L => some (L, r)
  | k + 1, r, L => if txB r r.size = true ∧ (rdR (txT r r.size)).2 = 0 then rsF k (txS r r.size) (L ++ [(rdR (txT r r.size)).1]) else none
def rsE : Option (List Att × ByteArray) → List Att × Int
  | some (L, r) => if r.size = 0 then (L, 0) else ([], 4)
  | none => ([], 4)
def rsR (s : ByteArray) : List Att × Int :=
  if uintE s = 0 ∧ 1 ≤ (short (byteAt s) s.size).1 ∧ (short (byteAt s) s.size).1 ≤ 257 then rsE (rsF (short (byteAt s) s.size).1 (uintS s) []) else ([], 4)
theorem rdR_or (s : ByteArray) : (rdOK s = true ∧ rdR s = (rdA s, 0)) ∨ (rdOK s = false ∧ rdR s = (zAtt, 4)) := by
  cases h : rdOK s with
  | true => exact .inl ⟨rfl, if_pos h⟩
  | false => exact .inr ⟨rfl, if_neg (by rw [h]; decide)⟩
theorem rdOK_chk {s : ByteArray} (h : rdOK s = true) : chkA (rdA s) = 0 := by
  rw [rdOK] at h
  simp only [Bool.and_eq_true, decide_eq_true_eq] at h
  exact h.2.2.2
theorem chk_sized {a : Att} (h : chkA a = 0) : a.sized := by
  obtain ⟨h1, h2, h3⟩ := chkA_zero h
  obtain ⟨_, _, _, q1, q2⟩ := chk1_false h1
  obtain ⟨_, q3, _, _⟩ := chk2_false h2
  refine ⟨⟨by omega, by omega⟩, by omega, fun p hp => ?_⟩
  have := chkX_sizes a.xs _ h3 p hp
  omega
theorem chk_len {a : Att} (h : chkA a = 0) : a.xs.length ≤ 16 := (chk2_false (chkA_zero h).2.1).2.2.2
theorem zAtt_sized : zAtt.sized := ⟨⟨by decide, by decide⟩, by decide, fun p hp => by cases hp⟩
theorem rdR_sized (s : ByteArray) : (rdR s).1.sized := by
  rcases rdR_or s with ⟨h, e⟩ | ⟨h, e⟩
  · rw [e]; exact chk_sized (rdOK_chk h)
  · rw [e]; exact zAtt_sized
/-- The lists of all of them are rows of the call's own. -/
def AllOwn (w : World) (base : Nat) (M : List AttM) : Prop := ∀ q ∈ M, w.ownsRow base 43 2 (.slice q.A q.n q.c) q.n (xtV q.a.xs)
theorem AllOwn.rd {w : World} {base : Nat} {M : List AttM} (h : AllOwn w base M) : AllRd w w.heap.size M := fun q hq => Reads.of_own (h q hq)
theorem AllOwn.below {w w' : World} {base : Nat} {M : List AttM} (h : AllOwn w base M) (hb : Below w.heap.size w w') : AllOwn w' base M := fun q hq => own_below (h q hq) hb
theorem AllOwn.push {w : World} {base : Nat} {M : List AttM} {q : AttM} (h : AllOwn w base M) (hq : w.ownsRow base 43 2 (.slice q.A q.n q.c) q.n (xtV q.a.xs)) : AllOwn w base (M ++ [q]) := fun x hx => by
  rcases List.mem_append.1 hx with h' | h'
  · exact h x h'
  · rw [List.mem_singleton] at h'; subst h'; exact hq
theorem elemAt : ElemN Tryd.prog 23 27 (.agg (attV zAtt none 0 0)) 7 64 := ElemN.of (by kernel_rfl) (by kernel_rfl) rfl (by omega)
/-- What holds at the head of the loop. -/
structure RsI (w wr : World) (R : Nat) (r : ByteArray) (v : Value) (M : List AttM) : Prop where
  rd : Rdr wr R r
  row : wr.ownsRow w.heap.size 27 7 v M.length (attsV M)
  all : AllOwn wr w.heap.size M
  below : Below w.heap.size w wr
  lo : w.heap.size ≤ R
theorem RsI.text {w wr w' : World} {R : Nat} {r r' : ByteArray} {v : Value} {M : List AttM} (h : RsI w wr R r v M) (hr : Rdr w' R r') (hg : wr.grownBy w' (some R)) : RsI w w' R r' v M :=
  ⟨hr, h.row.kept hg (.inr (own_blk_ne h.row h.rd (by decide))), fun q hq => (h.all q hq).kept hg (.inr (own_blk_ne (h.all q hq) h.rd (by decide))), h.below.grown hg h.below.size (fun k e => by injection e with e; rw [← e]; exact h.lo), h.lo⟩
theorem RsI.mono {w wr w' : World} {R : Nat} {r : ByteArray} {v : Value} {M : List AttM} (h : RsI w wr R r v M) (hb : Below wr.heap.size wr w') : RsI w w' R r v M :=
  ⟨Blk.below h.rd hb h.rd.lt, own_below h.row hb, h.all.below hb, h.below.trans (hb.mono h.below.size), h.lo⟩
theorem RsI.push {w wr w' : World} {R : Nat} {r : ByteArray} {v v' : Value} {M : List AttM} {q : AttM} (h : RsI w wr R r v M) (hq : wr.ownsRow w.heap.size 43 2 (.slice q.A q.n q.c) q.n (xtV q.a.xs))
    (ho : w'.ownsRow w.heap.size 27 7 v' (M.length + 1) (attsV M ++ q.v)) (hg : wr.grownBy w' v.ownBlock) : RsI w w' R r v' (M ++ [q]) := by
  have hne : ∀ b, v.ownBlock = some b → w.heap.size ≤ b := fun b e => (h.row.lt b e).1
  refine ⟨Blk.grown h.rd hg (fun e => own_blk_ne h.row h.rd (by decide) e.symm), ?_, fun x hx => ?_, h.below.grown hg h.below.size hne, h.lo⟩
  · rw [List.length_append, attsV_app]
    show w'.ownsRow _ _ _ _ _ (attsV M ++ (q.v ++ []))
    rw [List.append_nil]; exact ho
  · exact own_keep (AllOwn.push h.all hq x hx) h.row (by decide) hg
set_option maxRecDepth 100000 in
set_option maxHeartbeats 1000000 in
theorem attRStr_any (s : ByteArray) (w : World) (hs : s.size ≤ 140737488355328) :
    Calls Tryd.prog 9 #[.string s] w fun e w' => ∃ v M, e = .returned (.tuple #[v, .int .i64 (rsR s).2]) ∧ M.map (·.a) = (rsR s).1 ∧ w'.ownsRow w.heap.size 27 7 v M.length (attsV M) ∧ AllOwn w' w.heap.size M ∧ (∀ q ∈ M, chkA q.a = 0 ∧ q.n ≤ 16) ∧ Below w.heap.size w w' := by
  obtain ⟨nn, hnn⟩ : ∃ nn, (short (byteAt s) s.size).1 = nn := ⟨_, rfl⟩
  have h64 := short_64 s
  rw [hnn] at h64
  have HN := Lib.hid hnn
  have HU := Lib.hid (uintS_size s)
  go_enter Tryd.func9, Tryd.ntmps9
  clear hnn
  go_wp2_with fail
  (with_reducible refine (newReader_any s _).mono ?_)
  rintro e w1 ⟨rfl, hr1, hb1⟩
  have H1 : Hid (Rdr w1 w.heap.size s ∧ Below w.heap.size w w1) := Lib.hid ⟨hr1, hb1⟩
  have U := Lib.hid (uint_g s w.heap.size w1 hr1 (by omega))
  rw [HN.out] at U
  clear hr1 hb1
  go_wp2_with fail
  (with_reducible refine U.out.mono ?_)
  rintro e w2 ⟨rfl, hr2, hg2⟩
  have HB2 : Hid (Below w.heap.size w w2) := Lib.hid (H1.out.2.grown hg2 H1.out.2.size (fun k e => by injection e with e; omega))
  have HI2 : Hid (RsI w w2 w.heap.size (uintS s) (.slice none 0 0) []) := Lib.hid ⟨hr2, World.ownsRow_nil _ _ _ _, (fun q hq => by cases hq), HB2.out, Nat.le_refl _⟩
  clear hr2 hg2 U H1
  obtain ⟨ue, hue⟩ : ∃ ue, uintE s = ue := ⟨_, rfl⟩
  have HR0 : Hid (rsR s = if ue = 0 ∧ 1 ≤ nn ∧ nn ≤ 257 then rsE (rsF nn (uintS s) []) else ([], 4)) := Lib.hid (by rw [rsR, hue, HN.out])
  rw [hue]
  clear hue
  by_cases hok : ue = 0 ∧ 1 ≤ nn ∧ nn ≤ 257
  · obtain ⟨rfl, h1, h2⟩ := hok
    have HR1 : Hid (rsR s = rsE (rsF nn (uintS s) [])) := Lib.hid (by rw [HR0.out, if_pos ⟨rfl, h1, h2⟩])
    have g1 : decide ((nn : Int) < 1) = false := by rw [decide_eq_false_iff_not]; omega
    have g2 : decide (257 < (nn : Int)) = false := by rw [decide_eq_false_iff_not]; omega
    clear HR0
    go_wp2_with fail
    go_loopw [7, 30] (fun v i wr => ∃ (k : Nat) (r : ByteArray) (M : List AttM), k ≤ nn ∧ i = .int .u64 k ∧ M.length = k ∧ Hid (rsR s = rsE (rsF (nn - k) r (M.map (·.a)))) ∧ r.size ≤ s.size ∧ Hid (∀ q ∈ M, chkA q.a = 0 ∧ q.n ≤ 16) ∧ Hid (RsI w wr w.heap.size r v M)) (fun _ i _ => nn - (intOf i).toNat)
    case atStart => exact ⟨0, uintS s, [], by omega, rfl, rfl, HR1, HU.out, Lib.hid (fun q hq => by cases hq), HI2⟩
    case round =>
      obtain ⟨k, r, M, hk, rfl, hML, HX, hrs, HQ, HI⟩ := hrel
      have HML := Lib.hid hML
      clear hML
      by_cases hlt : k < nn
      · have LF := Lib.hid (left_any r w.heap.size wr HI.out.rd (by omega))
        have TX := Lib.hid (text_g r w.heap.size r.size wr HI.out.rd (by omega) (by omega))
        have HXn : Hid (¬ (txB r r.size = true ∧ (rdR (txT r r.size)).2 = 0) → rsR s = ([], 4)) := Lib.hid (fun h => by rw [HX.out, show nn - k = (nn - (k + 1)) + 1 from by omega, rsF, if_neg h]; rfl)
        have HXy : Hid (txB r r.size = true ∧ (rdR (txT r r.size)).2 = 0 → rsR s = rsE (rsF (nn - (k + 1)) (txS r r.size) (M.map (·.a) ++ [(rdR (txT r r.size)).1]))) := Lib.hid (fun h => by rw [HX.out, show nn - k = (nn - (k + 1)) + 1 from by omega, rsF, if_pos h])
        have hts := txT_size r r.size
        have hss := txS_size r r.size
        have ET : Hid (txE r r.size = if txB r r.size = true then 0 else 4) := Lib.hid rfl
        obtain ⟨t, htt⟩ : ∃ t, txT r r.size = t := ⟨_, rfl⟩
        obtain ⟨r', hrr⟩ : ∃ r', txS r r.size = r' := ⟨_, rfl⟩
        obtain ⟨tb, htb⟩ : ∃ tb, txB r r.size = tb := ⟨_, rfl⟩
        obtain ⟨te, hte⟩ : ∃ te, txE r r.size = te := ⟨_, rfl⟩
        rw [htt, hte, hrr] at TX
        rw [htt, htb] at HXn HXy
        rw [hrr] at HXy
        rw [htb, hte] at ET
        rw [htt] at hts
        rw [hrr] at hss
        clear htt hrr htb hte HX
        have hki : (k : Int) < (nn : Int) := by omega
        go_wp2_with fail
        (with_reducible refine LF.out.mono ?_)
        rintro e w3 ⟨rfl, rfl⟩
        go_wp2_with fail
        (with_reducible refine TX.out.mono ?_)
        rintro e w4 ⟨rfl, hr4, hg4⟩
        have HI4 := Lib.hid (HI.out.text hr4 hg4)
        clear hr4 hg4 TX LF HI
        have RD := Lib.hid (attRead_any t w4 (by omega))
        have HQA : Hid ((rdR t).2 = 0 → chkA (rdR t).1 = 0) := Lib.hid (fun h => by
          rcases rdR_or t with ⟨h1, e⟩ | ⟨h1, e⟩
          · rw [e]; exact rdOK_chk h1
          · rw [e] at h; cases h)
        generalize rdR t = p at RD HQA HXn HXy
        obtain ⟨qa, f⟩ := p
        dsimp only at RD HQA HXn HXy
        go_wp2_with fail
        (with_reducible refine RD.out.mono ?_)
        rintro e w5 ⟨A5, n5, c5, rfl, ho5, hb5⟩
        have HO5 : Hid (w5.ownsRow w.heap.size 43 2 (.slice A5 n5 c5) n5 (xtV qa.xs)) := Lib.hid (own_base ho5 HI4.out.below.size)
        have HI5 : Hid (RsI w w5 w.heap.size r' u7 M) := Lib.hid (HI4.out.mono hb5)
        have BN : Hid (Blk (w5.alloc (.cells (attV qa A5 n5 c5) 27)) w5.heap.size 27 (attV qa A5 n5 c5) ∧ RsI w (w5.alloc (.cells (attV qa A5 n5 c5) 27)) w.heap.size r' u7 M ∧ (w5.alloc (.cells (attV qa A5 n5 c5) 27)).ownsRow w.heap.size 43 2 (.slice A5 n5 c5) n5 (xtV qa.xs)) := Lib.hid ⟨Blk.new _ _ _, HI5.out.mono ((Below.refl _ _).alloc (Nat.le_refl _) _), HO5.out.alloc _⟩
        clear ho5 hb5 RD HI4 HO5 HI5
        unfold attV
        go_upto_region 10 with fail
        change Code.wp _ _ _ _ (w5.alloc (.cells (attV qa A5 n5 c5) 27))
        generalize w5.alloc (.cells (attV qa A5 n5 c5) 27) = w6 at BN ⊢
        generalize w5.heap.size = ab at BN ⊢
        by_cases hgood : tb = true ∧ f = 0
        · obtain ⟨rfl, rfl⟩ := hgood
          have HXs := Lib.hid (HXy.out ⟨rfl, rfl⟩)
          have HQs := Lib.hid (HQA.out rfl)
          have hte0 : te = 0 := ET.out
          subst hte0
          clear HXn HXy HQA ET
          obtain ⟨c0, c1, c2, c3, c4, c5', c6⟩ := att_cells qa A5 n5 c5 w6 _ BN.out.1
          have hle := BN.out.2.1.below.size
          go_wp2_with (at_builtin; refine appendN_new elemAt rfl _ _ rfl w.heap.size u7 M.length _ (by rfl) BN.out.2.1.row (attV qa A5 n5 c5) rfl (by rfl) (by intro u hu; exact attsV_one [⟨qa, A5, n5, c5⟩] u (by simpa [attsV, AttM.v] using hu)) (by rw [HML.out]; omega) (by rw [HML.out]; omega) hle ?_; intro v' w' ho hg hd; clear hd; have HK' := Lib.hid (BN.out.2.1.push (q := ⟨qa, A5, n5, c5⟩) BN.out.2.2 ho hg); clear ho hg)
          go_roundw
          case rel => exact ⟨k + 1, r', M ++ [⟨qa, A5, n5, c5⟩], by omega, by go_num, by rw [List.length_append, HML.out]; rfl, Lib.hid (by rw [HXs.out, List.map_append]; rfl), by omega, Lib.hid (fun q hq => by
            rcases List.mem_append.1 hq with h | h
            · exact HQ.out q h
            · rw [List.mem_singleton] at h
              subst h
              have h1 := chk_len HQs.out
              have h2 := (Reads.of_own BN.out.2.2).xtLen
              exact ⟨HQs.out, by show n5 ≤ 16; omega⟩), HK'⟩
          case measure => simp [intOf]; omega
        · have HXs := Lib.hid (HXn.out hgood)
          have hbad : te = 4 ∨ (te = 0 ∧ f ≠ 0) := by
            have := ET.out
            cases tb with
            | false => exact .inl this
            | true => exact .inr ⟨this, fun h => hgood ⟨rfl, h⟩⟩
          clear hgood HXn HXy HQA ET
          rcases hbad with rfl | ⟨rfl, hf⟩
          · go_wp2
            go_ret2
            exact ⟨.slice none 0 0, [], by rw [HXs.out]; rfl, by rw [HXs.out]; rfl, World.ownsRow_nil _ _ _ _, (fun q hq => by cases hq), (fun q hq => by cases hq), BN.out.2.1.below⟩
          · have hfb : (f != 0) = true := by rw [bne_iff_ne]; exact hf
            clear hf
            go_wp2
            go_ret2
            exact ⟨.slice none 0 0, [], by rw [HXs.out]; rfl, by rw [HXs.out]; rfl, World.ownsRow_nil _ _ _ _, (fun q hq => by cases hq), (fun q hq => by cases hq), BN.out.2.1.below⟩
      · obtain rfl : k = nn := by omega
        have HXe : Hid (rsR s = rsE (some (M.map (·.a), r))) := Lib.hid (by rw [HX.out, Nat.sub_self]; rfl)
        have EN := Lib.hid (rend_any r w.heap.size wr HI.out.rd)
        clear HX
        by_cases hr0 : r.size = 0
        · have hen : endE r = 0 := if_pos hr0
          have HXs : Hid (rsR s = (M.map (·.a), 0)) := Lib.hid (by rw [HXe.out, rsE, if_pos hr0])
          rw [hen] at EN
          clear hen hr0 HXe
          go_wp2_with fail
          (with_reducible refine EN.out.mono ?_)
          rintro e w3 ⟨rfl, rfl⟩
          go_wp2
          go_ret2
          exact ⟨u7, M, by rw [HXs.out]; rfl, by rw [HXs.out], HI.out.row, HI.out.all, HQ.out, HI.out.below⟩
        · have hen : endE r = 4 := if_neg hr0
          have HXs : Hid (rsR s = ([], 4)) := Lib.hid (by rw [HXe.out, rsE, if_neg hr0])
          rw [hen] at EN
          clear hen hr0 HXe
          go_wp2_with fail
          (with_reducible refine EN.out.mono ?_)
          rintro e w3 ⟨rfl, rfl⟩
          go_wp2
          go_ret2
          exact ⟨.slice none 0 0, [], by rw [HXs.out]; rfl, by rw [HXs.out]; rfl, World.ownsRow_nil _ _ _ _, (fun q hq => by cases hq), (fun q hq => by cases hq), HI.out.below⟩
  · have HR1 : Hid (rsR s = ([], 4)) := Lib.hid (by rw [HR0.out, if_neg hok])
    clear HR0
    have hue : ue = 0 ∨ ue ≠ 0 := by omega
    rcases hue with rfl | hue
    · have hb : nn < 1 ∨ (1 ≤ nn ∧ 257 < nn) := by omega
      clear hok
      rcases hb with h | ⟨h, h'⟩
      · have g1 : decide ((nn : Int) < 1) = true := by rw [decide_eq_true_eq]; omega
        go_wp2
        go_ret2
        exact ⟨.slice none 0 0, [], by rw [HR1.out]; rfl, by rw [HR1.out]; rfl, World.ownsRow_nil _ _ _ _, (fun q hq => by cases hq), (fun q hq => by cases hq), HB2.out⟩
      · have g1 : decide ((nn : Int) < 1) = false := by rw [decide_eq_false_iff_not]; omega
        have g2 : decide (257 < (nn : Int)) = true := by rw [decide_eq_true_eq]; omega
        go_wp2
        go_ret2
        exact ⟨.slice none 0 0, [], by rw [HR1.out]; rfl, by rw [HR1.out]; rfl, World.ownsRow_nil _ _ _ _, (fun q hq => by cases hq), (fun q hq => by cases hq), HB2.out⟩
    · have hub : (ue != 0) = true := by rw [bne_iff_ne]; exact hue
      clear hue hok
      go_wp2
      go_ret2
      exact ⟨.slice none 0 0, [], by rw [HR1.out]; rfl, by rw [HR1.out]; rfl, World.ownsRow_nil _ _ _ _, (fun q hq => by cases hq), (fun q hq => by cases hq), HB2.out⟩
end Go.Proofs.YtpfccicahfncbaaDoor
namespace Go.Proofs.YtpfccicahfncbaaDoor
open Go.RowKit Wir
set_option linter.unusedVariables false
theorem ex_right (a b : ByteArray) (n : Nat) (h : n = a.size) : (a ++ b).extract n (a ++ b).size = b := by
  subst h
  have e : ((a ++ b).extract a.size (a ++ b).size).size = b.size := by rw [ByteArray.size_extract, ByteArray.size_append]; omega
  refine ext_byteAt e fun i hi => ?_
  rw [e] at hi
  rw [byteAt_part _ _ _ _ (by rw [ByteArray.size_append]; omega) (Nat.le_refl _), byteAt_app, if_neg (by omega)]
  congr 1; omega
theorem ex_left (a b : ByteArray) (n : Nat) (h : n = a.size) : (a ++ b).extract 0 n = a := by
  subst h
  have e : ((a ++ b).extract 0 a.size).size = a.size := by rw [ByteArray.size_extract, ByteArray.size_append]; omega
  refine ext_byteAt e fun i hi => ?_
  rw [e] at hi
  rw [byteAt_part _ _ _ _ (by omega) (by rw [ByteArray.size_append]; omega), Nat.zero_add, byteAt_app, if_pos hi]
theorem byteAt_list (l : List UInt8) (j : Nat) : byteAt (bs l) j = l.getD j 0 := by unfold byteAt; rw [bs_data]
end Go.Proofs.YtpfccicahfncbaaDoor
namespace Go.Proofs.YtpfccicahfncbaaDoor
open Go.RowKit Wir
set_option linter.unusedVariables false
theorem short_at (n : Nat) (hn : n < 18446744073709551616) (r : ByteArray) : short (byteAt (bs (putL n) ++ r)) (bs (putL n) ++ r).size = (n, ((putL n).length : Int)) := by
  have h64 : (2 : Nat) ^ 64 = 18446744073709551616 := by decide
  have h := short_put (byteAt (bs (putL n) ++ r)) (bs (putL n) ++ r).size 9 11 0 0 n (by rw [Nat.mul_zero, Nat.pow_zero, Nat.mul_one, h64]; exact hn) (by omega) (by omega) (fun _ => rfl) (fun j hj => by
    have hz : (bs (putL n)).size = (putN 9 n).length := bs_size _
    refine ⟨by rw [ByteArray.size_append]; omega, ?_⟩
    rw [Nat.zero_add, byteAt_app, if_pos (by omega)]
    exact byteAt_list _ _)
  rw [Nat.mul_zero, Nat.pow_zero, Nat.mul_one, Nat.zero_add] at h
  refine h.trans ?_
  show (n, ((0 : Nat) : Int) + ((putN 9 n).length : Nat)) = (n, ((putN 9 n).length : Int))
  congr 1; omega
theorem uint_at (n : Nat) (hn : n < 18446744073709551616) (r : ByteArray) : uintE (bs (putL n) ++ r) = 0 ∧ uintS (bs (putL n) ++ r) = r := by
  have h := short_at n hn r
  unfold uintE uintS
  rw [h]
  have hl : ¬ ((putL n).length : Int) < 0 := by omega
  dsimp only
  rw [if_neg hl, if_neg hl, Int.toNat_natCast]
  exact ⟨rfl, ex_right _ _ _ (bs_size _).symm⟩
theorem text_at (t r : ByteArray) (m : Nat) (ht : t.size < 18446744073709551616) (hm : t.size ≤ m) : txB (txL t ++ r) m = true ∧ txT (txL t ++ r) m = t ∧ txS (txL t ++ r) m = r := by
  have e : txL t ++ r = bs (putL t.size) ++ (t ++ r) := by rw [txL, ByteArray.append_assoc]
  have h := short_at t.size ht (t ++ r)
  have hz : (bs (putL t.size)).size = (putL t.size).length := bs_size _
  have h1 := ByteArray.size_append (a := bs (putL t.size)) (b := t ++ r)
  have h2 := ByteArray.size_append (a := t) (b := r)
  rw [e]
  have hb : txB (bs (putL t.size) ++ (t ++ r)) m = true := by
    unfold txB
    rw [h]
    dsimp only
    rw [decide_eq_true_eq, Int.toNat_natCast]
    exact ⟨by omega, hm, by omega⟩
  refine ⟨hb, ?_, ?_⟩
  · rw [txT, if_pos hb, h]
    dsimp only
    rw [Int.toNat_natCast]
    have := ex_left t r t.size rfl
    have hx : (bs (putL t.size) ++ (t ++ r)).extract (putL t.size).length ((putL t.size).length + t.size) = t := by
      refine ext_byteAt (by rw [ByteArray.size_extract]; omega) fun i hi => ?_
      rw [ByteArray.size_extract] at hi
      rw [byteAt_part _ _ _ _ (by omega) (by omega), byteAt_app, if_neg (by omega), byteAt_app, if_pos (by omega)]
      congr 1; omega
    exact hx
  · rw [txS, if_pos hb, h]
    dsimp only
    rw [Int.toNat_natCast]
    refine ext_byteAt (by rw [ByteArray.size_extract]; omega) fun i hi => ?_
    rw [ByteArray.size_extract] at hi
    rw [byteAt_part _ _ _ _ (by omega) (by omega), byteAt_app, if_neg (by omega), byteAt_app, if_neg (by omega)]
    congr 1; omega
theorem num_at (n m : Nat) (r : ByteArray) (hn : n ≤ m) (hm : m < 18446744073709551616) : numS (bs (putL n) ++ r, true) m = (r, true) ∧ numN (bs (putL n) ++ r, true) = n := by
  obtain ⟨h1, h2⟩ := uint_at n (by omega) r
  have h3 := short_at n (by omega) r
  unfold numS numN
  dsimp only
  rw [h1, h2, h3]
  dsimp only
  rw [decide_eq_true hn]
  exact ⟨rfl, rfl⟩
theorem tk_at (t r : ByteArray) (m : Nat) (ht : t.size ≤ m) (hm : m < 18446744073709551616) : tkS (txL t ++ r, true) m = (r, true) ∧ txT (txL t ++ r) m = t ∧ txS (txL t ++ r) m = r := by
  obtain ⟨h1, h2, h3⟩ := text_at t r m (by omega) ht
  unfold tkS
  dsimp only
  rw [h1, h3]
  exact ⟨rfl, h2, rfl⟩
theorem rdXs_lay : ∀ (l : List (ByteArray × ByteArray)) (r : ByteArray) (L : List (ByteArray × ByteArray)), (∀ p ∈ l, p.1.size ≤ 255 ∧ p.2.size ≤ 4096) → rdXs l.length (layX l ++ r, true) L = (L ++ l, (r, true))
  | [], r, L, _ => by rw [layX, ByteArray.empty_append, List.append_nil]; rfl
  | p :: l, r, L, h => by
    obtain ⟨h1, h2⟩ := h p (List.mem_cons_self ..)
    have e : layX (p :: l) ++ r = txL p.1 ++ (txL p.2 ++ (layX l ++ r)) := by rw [layX]; simp only [ByteArray.append_assoc]
    obtain ⟨a1, a2, a3⟩ := tk_at p.1 (txL p.2 ++ (layX l ++ r)) 255 h1 (by omega)
    obtain ⟨b1, b2, b3⟩ := tk_at p.2 (layX l ++ r) 4096 h2 (by omega)
    rw [e, List.length_cons, rdXs, if_pos rfl]
    dsimp only
    rw [a1, b1, a2, a3, b2, rdXs_lay l r _ (fun q hq => h q (List.mem_cons_of_mem _ hq)), List.append_assoc]
    rfl
theorem one_at (b : UInt8) (r : ByteArray) : takeE (⟨#[b]⟩ ++ r) 1 = 0 ∧ takeS (⟨#[b]⟩ ++ r) 1 = r ∧ fixV (⟨#[b]⟩ ++ r) 1 = b.toNat := by
  have hz : (⟨#[b]⟩ : ByteArray).size = 1 := rfl
  have hs := ByteArray.size_append (a := (⟨#[b]⟩ : ByteArray)) (b := r)
  have h1 : ¬ (⟨#[b]⟩ ++ r : ByteArray).size < 1 := by omega
  refine ⟨if_neg h1, (if_neg h1).trans (ex_right _ _ _ hz.symm), (if_neg h1).trans ?_⟩
  have h0 : byteAt (⟨#[b]⟩ ++ r) 0 = b := by
    rw [byteAt_app, if_pos (by omega)]; rfl
  rw [beN, beN, h0]; omega
theorem layA_form (a : Att) : layA a = ⟨#[a.nd]⟩ ++ (bs (putL a.md.toNat) ++ (bs (putL a.ui.toNat) ++ (bs (putL a.gi.toNat) ++ (bs (putL a.mt.toNat) ++ ((if a.nd.toNat = 3 then txL a.tg else ByteArray.empty) ++ (bs (putL a.xs.length) ++ (layX a.xs ++ ByteArray.empty))))))) := by
  unfold layA
  simp only [numsB, ByteArray.append_assoc, ByteArray.append_empty]
theorem rdR_lay {a : Att} (h : chkA a = 0) : rdR (layA a) = (a, 0) := by
  obtain ⟨h1, h2, h3⟩ := chkA_zero h
  obtain ⟨q1, q2, q3, q4, q5⟩ := chk1_false h1
  obtain ⟨s1, s2, s3, s4⟩ := chk2_false h2
  have hX := chkX_sizes a.xs _ h3
  have hui := a.ui.toNat_lt
  have hgi := a.gi.toNat_lt
  have hf := layA_form a
  obtain ⟨o1, o2, o3⟩ := one_at a.nd (bs (putL a.md.toNat) ++ (bs (putL a.ui.toNat) ++ (bs (putL a.gi.toNat) ++ (bs (putL a.mt.toNat) ++ ((if a.nd.toNat = 3 then txL a.tg else ByteArray.empty) ++ (bs (putL a.xs.length) ++ (layX a.xs ++ ByteArray.empty)))))))
  rw [← hf] at o1 o2 o3
  obtain ⟨m1, n1⟩ := num_at a.md.toNat 4095 (bs (putL a.ui.toNat) ++ (bs (putL a.gi.toNat) ++ (bs (putL a.mt.toNat) ++ ((if a.nd.toNat = 3 then txL a.tg else ByteArray.empty) ++ (bs (putL a.xs.length) ++ (layX a.xs ++ ByteArray.empty)))))) q3 (by omega)
  obtain ⟨m2, n2⟩ := num_at a.ui.toNat 4294967295 (bs (putL a.gi.toNat) ++ (bs (putL a.mt.toNat) ++ ((if a.nd.toNat = 3 then txL a.tg else ByteArray.empty) ++ (bs (putL a.xs.length) ++ (layX a.xs ++ ByteArray.empty))))) (by omega) (by omega)
  obtain ⟨m3, n3⟩ := num_at a.gi.toNat 4294967295 (bs (putL a.mt.toNat) ++ ((if a.nd.toNat = 3 then txL a.tg else ByteArray.empty) ++ (bs (putL a.xs.length) ++ (layX a.xs ++ ByteArray.empty)))) (by omega) (by omega)
  obtain ⟨m4, n4⟩ := num_at a.mt.toNat 1099511627776 ((if a.nd.toNat = 3 then txL a.tg else ByteArray.empty) ++ (bs (putL a.xs.length) ++ (layX a.xs ++ ByteArray.empty))) (by omega) (by omega)
  obtain ⟨m6, n6⟩ := num_at a.xs.length 16 (layX a.xs ++ ByteArray.empty) s4 (by omega)
  have e1 : p1 (layA a) = (_, true) := congrArg (fun x => (x, true)) o2
  have e2 : p2 (layA a) = _ := (congrArg (fun q => numS q 4095) e1).trans m1
  have e3 : p3 (layA a) = _ := (congrArg (fun q => numS q 4294967295) e2).trans m2
  have e4 : p4 (layA a) = _ := (congrArg (fun q => numS q 4294967295) e3).trans m3
  have e5 : p5 (layA a) = _ := (congrArg (fun q => numS q 1099511627776) e4).trans m4
  have e6 : p6 (layA a) = (bs (putL a.xs.length) ++ (layX a.xs ++ ByteArray.empty), true) := by
    by_cases hn : a.nd.toNat = 3
    · rw [p6, o3, if_pos hn, e5, if_pos hn]
      exact (tk_at a.tg _ 1024 s2 (by omega)).1
    · rw [p6, o3, if_neg hn, e5, if_neg hn, ByteArray.empty_append]
  have et : rdT (layA a) = a.tg := by
    by_cases hn : a.nd.toNat = 3
    · rw [rdT, o3, if_pos hn, e5, if_pos hn]
      exact (tk_at a.tg _ 1024 s2 (by omega)).2.1
    · rw [rdT, o3, if_neg hn]
      rw [decide_eq_false hn] at s1
      have : a.tg.toList.isEmpty = true := by
        cases hx : a.tg.toList.isEmpty with
        | true => rfl
        | false => rw [hx] at s1; cases s1
      rw [ByteArray.toList_eq, List.isEmpty_iff] at this
      exact (ByteArray.ext (Array.ext' this)).symm
  have e7 : p7 (layA a) = (layX a.xs ++ ByteArray.empty, true) := (congrArg (fun q => numS q 16) e6).trans m6
  have eL : rdL (layA a) = (a.xs, (ByteArray.empty, true)) := by
    rw [rdL, e6, e7, n6]
    exact rdXs_lay a.xs ByteArray.empty [] hX
  have eA : rdA (layA a) = a := by
    rw [rdA, et, eL, rdA0, o3, e1, e2, e3, e4, n1, n2, n3, n4]
    obtain ⟨x1, x2, x3, x4, x5, x6, x7⟩ := a
    dsimp only at *
    have w1 : wrap64 ((x5.toNat : Nat) : Int) = x5 := by unfold wrap64; omega
    rw [w1, UInt8.ofNat_toNat, UInt32.ofNat_toNat, UInt32.ofNat_toNat, UInt32.ofNat_toNat]
  have eO : rdOK (layA a) = true := by
    rw [rdOK, o1, eL, eA, h]
    rfl
  rw [rdR, if_pos eO, eA]
theorem layA_inj {a b : Att} (ha : chkA a = 0) (hb : chkA b = 0) (h : layA a = layA b) : a = b := by
  have h1 := rdR_lay ha
  rw [h, rdR_lay hb] at h1
  exact (congrArg Prod.fst h1).symm
/-- The bytes of sets one behind the other, each with its length ahead. -/
def catL : List Att → ByteArray
  | [] => ByteArray.empty
  | a :: l => txL (layA a) ++ catL l
theorem strF_ok : ∀ (l : List Att) (s : ByteArray), (∀ a ∈ l, chkA a = 0) → strF s l = (s ++ catL l, 0)
  | [], s, _ => by rw [strF, catL, ByteArray.append_empty]
  | a :: l, s, h => by
    rw [strF, if_pos (h a (List.mem_cons_self ..)), strF_ok l _ (fun x hx => h x (List.mem_cons_of_mem _ hx)), catL, ByteArray.append_assoc]
theorem rsF_cat : ∀ (l : List Att) (r : ByteArray) (L : List Att), (∀ a ∈ l, chkA a = 0) → rsF l.length (catL l ++ r) L = some (L ++ l, r)
  | [], r, L, _ => by rw [catL, ByteArray.empty_append, List.append_nil]; rfl
  | a :: l, r, L, h => by
    have ha := h a (List.mem_cons_self ..)
    have hz := layA_size ha
    have e : catL (a :: l) ++ r = txL (layA a) ++ (catL l ++ r) := by rw [catL, ByteArray.append_assoc]
    have hs := ByteArray.size_append (a := txL (layA a)) (b := catL l ++ r)
    have ht := txL_size (layA a)
    obtain ⟨t1, t2, t3⟩ := text_at (layA a) (catL l ++ r) (txL (layA a) ++ (catL l ++ r)).size (by omega) (by omega)
    rw [e, List.length_cons, rsF, t2, rdR_lay ha, if_pos ⟨t1, rfl⟩, t3, rsF_cat l r _ (fun x hx => h x (List.mem_cons_of_mem _ hx)), List.append_assoc]
    rfl
theorem rsR_str {l : List Att} (h1 : 1 ≤ l.length) (h2 : l.length ≤ 257) (h : ∀ a ∈ l, chkA a = 0) : (strR l).2 = 0 ∧ rsR (strR l).1 = (l, 0) := by
  have e : strR l = (bs (putL l.length) ++ catL l, 0) := by rw [strR, if_neg (by omega), strF_ok l _ h]
  rw [e]
  refine ⟨rfl, ?_⟩
  dsimp only
  obtain ⟨u1, u2⟩ := uint_at l.length (by omega) (catL l)
  have u3 := short_at l.length (by omega) (catL l)
  have hc := rsF_cat l ByteArray.empty [] h
  rw [ByteArray.append_empty, List.nil_append] at hc
  rw [rsR, u1, u2, u3]
  dsimp only
  rw [if_pos ⟨rfl, h1, h2⟩, hc, rsE]
  exact if_pos rfl
end Go.Proofs.YtpfccicahfncbaaDoor
namespace Go.Proofs.YtpfccicahfncbaaDoor
open Go.RowKit Wir
set_option linter.unusedVariables false
theorem shG_back (F : Nat → UInt8) (L : Nat) : ∀ (f i g acc N : Nat) (z : Int), g + i = 9 → shG F L f i acc = (N, z) → 0 ≤ z →
    ∃ n, N = acc + n * 2 ^ (7 * i) ∧ z = (i : Int) + ((putN g n).length : Nat) ∧ (∀ j, j < (putN g n).length → F (i + j) = (putN g n).getD j 0) ∧ (0 < i → n ≠ 0)
  | 0, i, g, acc, N, z, _, h, hz => by
    rw [shG] at h; injection h with h1 h2; omega
  | f + 1, i, g, acc, N, z, hg, h, hz => by
    rw [shG] at h
    by_cases h1 : i < L ∧ i < 10
    · rw [if_pos h1] at h
      by_cases h2 : (i = 9 ∧ 1 < (F i).toNat) ∨ (0 < i ∧ (F i).toNat = 0)
      · rw [if_pos h2] at h; injection h with h3 h4; omega
      · rw [if_neg h2] at h
        have hF := (F i).toNat_lt
        by_cases h3 : (F i).toNat < 128
        · rw [if_pos h3] at h
          injection h with h4 h5
          refine ⟨(F i).toNat, ?_, ?_, ?_, fun hi => by omega⟩
          · rw [← h4, Nat.mod_eq_of_lt h3]
          · rw [putN_small g _ h3, ← h5]; rfl
          · intro j hj
            rw [putN_small g _ h3] at hj ⊢
            have : j = 0 := by simpa using hj
            subst this
            exact UInt8.ofNat_toNat.symm
        · rw [if_neg h3] at h
          obtain ⟨g', rfl⟩ : ∃ g', g = g' + 1 := ⟨g - 1, by omega⟩
          obtain ⟨n', e1, e2, e3, e4⟩ := shG_back F L f (i + 1) g' _ N z (by omega) h hz
          have hn' : n' ≠ 0 := e4 (by omega)
          have hbig : ¬ ((F i).toNat % 128 + 128 * n') < 128 := by omega
          have hd : ((F i).toNat % 128 + 128 * n') / 128 = n' := by omega
          have hm : ((F i).toNat % 128 + 128 * n') % 128 + 128 = (F i).toNat := by omega
          refine ⟨(F i).toNat % 128 + 128 * n', ?_, ?_, ?_, fun _ => by omega⟩
          · rw [e1, Nat.add_mul, Nat.add_assoc]
            congr 2
            rw [Nat.mul_add, Nat.pow_add, Nat.mul_comm 128 n', Nat.mul_assoc, Nat.mul_comm (2 ^ (7 * i))]
          · rw [putN_big g' _ hbig, hd, e2]; simp; omega
          · intro j hj
            rw [putN_big g' _ hbig, hd, hm] at hj ⊢
            cases j with
            | zero => exact UInt8.ofNat_toNat.symm
            | succ j =>
              have := e3 j (by simpa using hj)
              rw [show i + (j + 1) = i + 1 + j from by omega]
              exact this
    · rw [if_neg h1] at h; injection h with h3 h4; omega
theorem short_back (s : ByteArray) (h : 0 ≤ (short (byteAt s) s.size).2) :
    (short (byteAt s) s.size).2.toNat = (putL (short (byteAt s) s.size).1).length ∧ s = bs (putL (short (byteAt s) s.size).1) ++ s.extract (short (byteAt s) s.size).2.toNat s.size := by
  have hb := (shG_bound (byteAt s) s.size 11 0 0 (by decide) (by omega)).2.2
  change (short (byteAt s) s.size).2 ≤ s.size at hb
  obtain ⟨n, e1, e2, e3, _⟩ := shG_back (byteAt s) s.size 11 0 9 0 (short (byteAt s) s.size).1 (short (byteAt s) s.size).2 rfl rfl h
  rw [Nat.mul_zero, Nat.pow_zero, Nat.mul_one, Nat.zero_add] at e1
  rw [e1]
  generalize (short (byteAt s) s.size).2 = z at *
  have hl : z.toNat = (putL n).length := by show _ = (putN 9 n).length; omega
  refine ⟨hl, ?_⟩
  have hz : (bs (putL n)).size = (putL n).length := bs_size _
  have hx : (s.extract z.toNat s.size).size = s.size - z.toNat := by rw [ByteArray.size_extract]; omega
  have hs := ByteArray.size_append (a := bs (putL n)) (b := s.extract z.toNat s.size)
  refine ext_byteAt (by omega) fun i hi => ?_
  rw [byteAt_app]
  by_cases hlt : i < (bs (putL n)).size
  · rw [if_pos hlt, byteAt_list]
    have := e3 i (by show i < (putL n).length; omega)
    rw [Nat.zero_add] at this
    exact this
  · rw [if_neg hlt, byteAt_part _ _ _ _ (by omega) (Nat.le_refl _)]
    congr 1; omega
theorem uint_back {s : ByteArray} (h : uintE s = 0) : s = bs (putL (short (byteAt s) s.size).1) ++ uintS s := by
  have h0 : ¬ (short (byteAt s) s.size).2 < 0 := by
    intro h1
    rw [uintE, if_pos h1] at h
    cases h
  have := (short_back s (by omega)).2
  rw [uintS, if_neg h0]
  exact this
theorem text_back' {s : ByteArray} {m : Nat} (h : txB s m = true) : s = txL (txT s m) ++ txS s m ∧ (txT s m).size ≤ m := by
  obtain ⟨b1, b2, b3⟩ : 0 ≤ (short (byteAt s) s.size).2 ∧ (short (byteAt s) s.size).1 ≤ m ∧ (short (byteAt s) s.size).1 + (short (byteAt s) s.size).2.toNat ≤ s.size := of_decide_eq_true h
  have hb := (short_back s b1).2
  rw [txT, if_pos h, txS, if_pos h]
  generalize (short (byteAt s) s.size).1 = n at *
  generalize (short (byteAt s) s.size).2.toNat = k at *
  have hz : (s.extract k (k + n)).size = n := by rw [ByteArray.size_extract]; omega
  refine ⟨?_, by omega⟩
  rw [txL, hz, ByteArray.append_assoc]
  have e : s.extract k s.size = s.extract k (k + n) ++ s.extract (k + n) s.size := by
    have h1 : (s.extract k s.size).size = s.size - k := by rw [ByteArray.size_extract]; omega
    have h2 : (s.extract (k + n) s.size).size = s.size - (k + n) := by rw [ByteArray.size_extract]; omega
    have h3 := ByteArray.size_append (a := s.extract k (k + n)) (b := s.extract (k + n) s.size)
    refine ext_byteAt (by omega) fun i hi => ?_
    rw [h1] at hi
    rw [byteAt_part _ _ _ _ hi (Nat.le_refl _), byteAt_app, hz]
    by_cases hlt : i < n
    · rw [if_pos hlt, byteAt_part _ _ _ _ (by omega) (by omega)]
    · rw [if_neg hlt, byteAt_part _ _ _ _ (by omega) (Nat.le_refl _)]
      congr 1; omega
  rw [← e]
  exact hb
theorem num_back {p : ByteArray × Bool} {m : Nat} (h : (numS p m).2 = true) : p.2 = true ∧ numN p ≤ m ∧ p.1 = bs (putL (numN p)) ++ (numS p m).1 := by
  rw [numS] at h
  simp only [Bool.and_eq_true, decide_eq_true_eq] at h
  exact ⟨h.1, h.2.2, uint_back h.2.1⟩
theorem tk_back {p : ByteArray × Bool} {m : Nat} (h : (tkS p m).2 = true) : p.2 = true ∧ p.1 = txL (txT p.1 m) ++ (tkS p m).1 := by
  rw [tkS] at h
  simp only [Bool.and_eq_true] at h
  exact ⟨h.1, (text_back' h.2).1⟩
theorem rdXs_back : ∀ (r : Nat) (p : ByteArray × Bool) (L : List (ByteArray × ByteArray)), (rdXs r p L).2.2 = true → p.2 = true ∧ ∃ M, (rdXs r p L).1 = L ++ M ∧ M.length = r ∧ p.1 = layX M ++ (rdXs r p L).2.1
  | 0, p, L, h => ⟨h, [], by rw [List.append_nil]; rfl, rfl, by rw [layX, ByteArray.empty_append]; rfl⟩
  | r + 1, p, L, h => by
    by_cases hp : p.2 = true
    · rw [rdXs, if_pos hp] at h ⊢
      obtain ⟨h1, M, e1, e2, e3⟩ := rdXs_back r _ _ h
      obtain ⟨h2, f2⟩ := tk_back h1
      obtain ⟨h3, f3⟩ := tk_back h2
      refine ⟨hp, (txT p.1 255, txT (txS p.1 255) 4096) :: M, by rw [e1, List.append_assoc]; rfl, by rw [List.length_cons, e2], ?_⟩
      have f2' : txS p.1 255 = txL (txT (txS p.1 255) 4096) ++ (tkS (tkS p 255) 4096).1 := f2
      have f3' : p.1 = txL (txT p.1 255) ++ txS p.1 255 := f3
      rw [layX]
      dsimp only
      rw [ByteArray.append_assoc, ByteArray.append_assoc, ← e3, ← f2', ← f3']
    · rw [rdXs, if_neg hp] at h
      exact absurd h hp
theorem one_back {s : ByteArray} (h : takeE s 1 = 0) : s = ⟨#[UInt8.ofNat (fixV s 1)]⟩ ++ takeS s 1 := by
  have h1 : ¬ s.size < 1 := by intro h2; rw [takeE, if_pos h2] at h; cases h
  have hf : fixV s 1 = (byteAt s 0).toNat := by rw [fixV, if_neg h1, beN, beN]; omega
  rw [hf, UInt8.ofNat_toNat, takeS, if_neg h1]
  have hx : (s.extract 1 s.size).size = s.size - 1 := by rw [ByteArray.size_extract]; omega
  have hz : (⟨#[byteAt s 0]⟩ : ByteArray).size = 1 := rfl
  have hs := ByteArray.size_append (a := (⟨#[byteAt s 0]⟩ : ByteArray)) (b := s.extract 1 s.size)
  refine ext_byteAt (by omega) fun i hi => ?_
  rw [byteAt_app, hz]
  by_cases h0 : i < 1
  · rw [if_pos h0]
    obtain rfl : i = 0 := by omega
    rfl
  · rw [if_neg h0, byteAt_part _ _ _ _ (by omega) (Nat.le_refl _)]
    congr 1; omega
end Go.Proofs.YtpfccicahfncbaaDoor
namespace Go.Proofs.YtpfccicahfncbaaDoor
open Go.RowKit Wir
set_option linter.unusedVariables false
theorem p6_back {s : ByteArray} (h : (p6 s).2 = true) : (p5 s).2 = true ∧ (p5 s).1 = (if fixV s 1 = 3 then txL (rdT s) else ByteArray.empty) ++ (p6 s).1 := by
  by_cases h3 : fixV s 1 = 3
  · rw [p6, if_pos h3] at h ⊢
    rw [if_pos h3, rdT, if_pos h3]
    exact tk_back h
  · rw [p6, if_neg h3] at h ⊢
    rw [if_neg h3, ByteArray.empty_append]
    exact ⟨h, rfl⟩
theorem u32_small {n : Nat} (h : n ≤ 4294967295) : (UInt32.ofNat n).toNat = n := by rw [UInt32.toNat_ofNat']; omega
theorem wrap64_small {n : Nat} (h : n ≤ 1099511627776) : (wrap64 (n : Int)).toNat = n := by unfold wrap64; omega
theorem ba_nil {t : ByteArray} (h : t.size = 0) : t = ByteArray.empty := ext_byteAt (by rw [h]; rfl) (fun i hi => absurd hi (by omega))
theorem rd_back {s : ByteArray} (h : rdOK s = true) : layA (rdA s) = s := by
  rw [rdOK] at h
  simp only [Bool.and_eq_true, decide_eq_true_eq] at h
  obtain ⟨h0, h1, h2, h3⟩ := h
  obtain ⟨g7, M, eM1, eM2, eM3⟩ := rdXs_back (numN (p6 s)) (p7 s) [] h1
  obtain ⟨g6, l6, f6⟩ := num_back (p := p6 s) (m := 16) g7
  obtain ⟨g5, f5⟩ := p6_back g6
  obtain ⟨g4, l4, f4⟩ := num_back (p := p4 s) (m := 1099511627776) g5
  obtain ⟨g3, l3, f3⟩ := num_back (p := p3 s) (m := 4294967295) g4
  obtain ⟨g2, l2, f2⟩ := num_back (p := p2 s) (m := 4294967295) g3
  obtain ⟨g1, l1, f1⟩ := num_back (p := p1 s) (m := 4095) g2
  have fs := one_back h0
  have hfb := fixV_byte s
  have hnd : (rdA s).nd.toNat = fixV s 1 := rdA0_nd s _ _ hfb
  have hmd : (rdA s).md.toNat = numN (p1 s) := by show (UInt32.ofNat (numN (p1 s))).toNat = _; exact u32_small (Nat.le_trans l1 (by decide))
  have hui : (rdA s).ui.toNat = numN (p2 s) := by show (UInt32.ofNat (numN (p2 s))).toNat = _; exact u32_small l2
  have hgi : (rdA s).gi.toNat = numN (p3 s) := by show (UInt32.ofNat (numN (p3 s))).toNat = _; exact u32_small l3
  have hmt : (rdA s).mt.toNat = numN (p4 s) := by
    show (wrap64 (numN (p4 s) : Int)).toNat = _
    exact wrap64_small l4
  have hxs : (rdA s).xs = M := eM1
  have hend : (rdL s).2.1 = ByteArray.empty := ba_nil h2
  have e7 : (p7 s).1 = layX M ++ ByteArray.empty := by rw [← hend]; exact eM3
  rw [layA_form, hnd, hmd, hui, hgi, hmt, hxs, eM2]
  show (⟨#[UInt8.ofNat (fixV s 1)]⟩ : ByteArray) ++ (bs (putL (numN (p1 s))) ++ (bs (putL (numN (p2 s))) ++ (bs (putL (numN (p3 s))) ++ (bs (putL (numN (p4 s))) ++ ((if fixV s 1 = 3 then txL (rdT s) else ByteArray.empty) ++ (bs (putL (numN (p6 s))) ++ (layX M ++ ByteArray.empty))))))) = s
  rw [← e7]
  have f6' : (p6 s).1 = bs (putL (numN (p6 s))) ++ (p7 s).1 := f6
  have f4' : (p4 s).1 = bs (putL (numN (p4 s))) ++ (p5 s).1 := f4
  have f3' : (p3 s).1 = bs (putL (numN (p3 s))) ++ (p4 s).1 := f3
  have f2' : (p2 s).1 = bs (putL (numN (p2 s))) ++ (p3 s).1 := f2
  have f1' : (p1 s).1 = bs (putL (numN (p1 s))) ++ (p2 s).1 := f1
  rw [← f6', ← f5, ← f4', ← f3', ← f2', ← f1']
  exact fs.symm
theorem rdR_back {s : ByteArray} (h : (rdR s).2 = 0) : chkA (rdR s).1 = 0 ∧ layA (rdR s).1 = s := by
  rcases rdR_or s with ⟨h1, e⟩ | ⟨h1, e⟩
  · rw [e]; exact ⟨rdOK_chk h1, rd_back h1⟩
  · rw [e] at h; cases h
theorem rsF_back : ∀ (k : Nat) (r : ByteArray) (L L' : List Att) (r' : ByteArray), rsF k r L = some (L', r') → ∃ M, L' = L ++ M ∧ M.length = k ∧ (∀ a ∈ M, chkA a = 0) ∧ r = catL M ++ r'
  | 0, r, L, L', r', h => by
    rw [rsF] at h
    injection h with h; injection h with h1 h2
    exact ⟨[], by rw [List.append_nil, h1], rfl, (fun a ha => by cases ha), by rw [catL, ByteArray.empty_append, h2]⟩
  | k + 1, r, L, L', r', h => by
    rw [rsF] at h
    by_cases hc : txB r r.size = true ∧ (rdR (txT r r.size)).2 = 0
    · rw [if_pos hc] at h
      obtain ⟨M, e1, e2, e3, e4⟩ := rsF_back k _ _ _ _ h
      obtain ⟨t1, _⟩ := text_back' hc.1
      obtain ⟨q1, q2⟩ := rdR_back hc.2
      refine ⟨(rdR (txT r r.size)).1 :: M, by rw [e1, List.append_assoc]; rfl, by rw [List.length_cons, e2], fun a ha => ?_, ?_⟩
      · rcases List.mem_cons.1 ha with rfl | ha
        · exact q1
        · exact e3 a ha
      · rw [catL, q2, ByteArray.append_assoc, ← e4]
        exact t1
    · rw [if_neg hc] at h; cases h
theorem rsR_back {s : ByteArray} (h : (rsR s).2 = 0) : strR (rsR s).1 = (s, 0) := by
  by_cases hc : uintE s = 0 ∧ 1 ≤ (short (byteAt s) s.size).1 ∧ (short (byteAt s) s.size).1 ≤ 257
  · have hu := uint_back hc.1
    rw [rsR, if_pos hc] at h ⊢
    cases hF : rsF (short (byteAt s) s.size).1 (uintS s) [] with
    | none => rw [hF] at h; cases h
    | some x =>
      obtain ⟨L, r⟩ := x
      rw [hF, rsE] at h
      rw [rsE]
      by_cases hr : r.size = 0
      · rw [if_pos hr]
        obtain ⟨M, e1, e2, e3, e4⟩ := rsF_back _ _ _ _ _ hF
        rw [List.nil_append] at e1
        subst e1
        rw [ba_nil hr, ByteArray.append_empty] at e4
        dsimp only
        rw [strR, if_neg (by rw [e2]; omega), strF_ok _ _ e3, e2, ← e4, ← hu]
      · rw [if_neg hr] at h; cases h
  · rw [rsR, if_neg hc] at h; cases h
end Go.Proofs.YtpfccicahfncbaaDoor
namespace Go.Proofs.YtpfccicahfncbaaDoor
open Go.RowKit Wir
set_option linter.unusedVariables false
theorem numS_ok (p : ByteArray × Bool) (m : Nat) : (numS p m).2 = true ↔ p.2 = true ∧ uintE p.1 = 0 ∧ numN p ≤ m := by
  unfold numS numN
  simp only [Bool.and_eq_true, decide_eq_true_eq]
theorem tkS_ok (p : ByteArray × Bool) (m : Nat) : (tkS p m).2 = true ↔ p.2 = true ∧ txB p.1 m = true := by
  unfold tkS
  simp only [Bool.and_eq_true]
theorem rdXs_flag : ∀ (r : Nat) (p : ByteArray × Bool) (L : List (ByteArray × ByteArray)), (rdXs r p L).2.2 = true → p.2 = true
  | 0, p, L, h => h
  | r + 1, p, L, h => by
    cases hp : p.2 with
    | true => rfl
    | false => rw [rdXs_bad _ _ _ hp] at h; rw [hp] at h; exact h
/-- The first tests: the numbers. -/
def refB1 (s : ByteArray) : Bool := (takeE s 1 != 0) || ((uintE (p1 s).1 != 0) || ((uintE (p2 s).1 != 0) || ((uintE (p3 s).1 != 0) || ((uintE (p4 s).1 != 0) || (decide (4095 < numN (p1 s)) || (decide (4294967295 < numN (p2 s)) || (decide (4294967295 < numN (p3 s)) || decide (1099511627776 < numN (p4 s)))))))))
def refE2 (s : ByteArray) : Int := if fixV s 1 = 3 then txE (p5 s).1 1024 else 0
def refB2 (s : ByteArray) : Bool := (refE2 s != 0) || ((uintE (p6 s).1 != 0) || decide (16 < numN (p6 s)))
theorem p5_iff (s : ByteArray) : (p5 s).2 = true ↔ (uintE (p1 s).1 = 0 ∧ numN (p1 s) ≤ 4095) ∧ (uintE (p2 s).1 = 0 ∧ numN (p2 s) ≤ 4294967295) ∧ (uintE (p3 s).1 = 0 ∧ numN (p3 s) ≤ 4294967295) ∧ (uintE (p4 s).1 = 0 ∧ numN (p4 s) ≤ 1099511627776) := by
  have h1 : (p1 s).2 = true := rfl
  have h2 : (p2 s).2 = true ↔ _ := numS_ok (p1 s) 4095
  have h3 : (p3 s).2 = true ↔ _ := numS_ok (p2 s) 4294967295
  have h4 : (p4 s).2 = true ↔ _ := numS_ok (p3 s) 4294967295
  have h5 : (p5 s).2 = true ↔ _ := numS_ok (p4 s) 1099511627776
  rw [h5, h4, h3, h2]
  generalize numN (p1 s) = n1 at *
  generalize numN (p2 s) = n2 at *
  generalize numN (p3 s) = n3 at *
  generalize numN (p4 s) = n4 at *
  constructor
  · rintro ⟨⟨⟨⟨_, a, b⟩, c, d⟩, e, f⟩, g, h⟩; exact ⟨⟨a, b⟩, ⟨c, d⟩, ⟨e, f⟩, g, h⟩
  · rintro ⟨⟨a, b⟩, ⟨c, d⟩, ⟨e, f⟩, g, h⟩; exact ⟨⟨⟨⟨h1, a, b⟩, c, d⟩, e, f⟩, g, h⟩
theorem refB1_iff (s : ByteArray) : refB1 s = false ↔ takeE s 1 = 0 ∧ (p5 s).2 = true := by
  rw [p5_iff]
  unfold refB1
  simp only [Bool.or_eq_false_iff, bne_eq_false_iff_eq, decide_eq_false_iff_not, Nat.not_lt]
  constructor
  · rintro ⟨a, b, c, d, e, f, g, h, i⟩; exact ⟨a, ⟨b, f⟩, ⟨c, g⟩, ⟨d, h⟩, e, i⟩
  · rintro ⟨a, ⟨b, f⟩, ⟨c, g⟩, ⟨d, h⟩, e, i⟩; exact ⟨a, b, c, d, e, f, g, h, i⟩
theorem refB2_iff (s : ByteArray) (h5 : (p5 s).2 = true) : refB2 s = false ↔ (p7 s).2 = true := by
  have h7 : (p7 s).2 = true ↔ _ := numS_ok (p6 s) 16
  have h6 : (p6 s).2 = true ↔ refE2 s = 0 := by
    unfold p6 refE2
    by_cases h : fixV s 1 = 3
    · rw [if_pos h, if_pos h, tkS_ok, h5]
      unfold txE
      cases txB (p5 s).1 1024 <;> simp
    · rw [if_neg h, if_neg h, h5]; simp
  rw [h7, h6]
  unfold refB2
  simp only [Bool.or_eq_false_iff, bne_eq_false_iff_eq, decide_eq_false_iff_not, Nat.not_lt]
theorem refB_ok {s : ByteArray} (h : rdOK s = true) : refB1 s = false ∧ refB2 s = false ∧ (rdL s).2.2 = true ∧ chkA (rdA s) = 0 ∧ layA (rdA s) = s := by
  have hb := rd_back h
  have h0 := h
  unfold rdOK at h0
  simp only [Bool.and_eq_true, decide_eq_true_eq] at h0
  obtain ⟨a, b, c, d⟩ := h0
  have h7 := rdXs_flag _ _ _ b
  have h6 := ((numS_ok (p6 s) 16).1 h7).1
  have h5 := (p6_back h6).1
  exact ⟨(refB1_iff s).2 ⟨a, h5⟩, (refB2_iff s h5).2 h7, b, d, hb⟩
theorem rd_no1 {s : ByteArray} (h : refB1 s = true) : rdR s = (zAtt, 4) := by
  rw [rdR, if_neg (fun ho => by rw [(refB_ok ho).1] at h; cases h)]
theorem rd_no2 {s : ByteArray} (h : refB2 s = true) : rdR s = (zAtt, 4) := by
  rw [rdR, if_neg (fun ho => by rw [(refB_ok ho).2.1] at h; cases h)]
theorem rd_no3 {s : ByteArray} (h : (rdL s).2.2 = false) : rdR s = (zAtt, 4) := by
  rw [rdR, if_neg (fun ho => by rw [(refB_ok ho).2.2.1] at h; cases h)]
theorem rd_no4 {s : ByteArray} (h : chkA (rdA s) ≠ 0) : rdR s = (zAtt, 4) := by
  rw [rdR, if_neg (fun ho => h (refB_ok ho).2.2.2.1)]
theorem rd_no5 {s : ByteArray} (h : layA (rdA s) ≠ s) : rdR s = (zAtt, 4) := by
  rw [rdR, if_neg (fun ho => h (refB_ok ho).2.2.2.2)]
theorem rd_yes {s : ByteArray} (h : chkA (rdA s) = 0) (hl : layA (rdA s) = s) : rdR s = (rdA s, 0) := by
  have := rdR_lay h
  rw [hl] at this
  exact this
theorem rdXs_step (r : Nat) (q : ByteArray) (L : List (ByteArray × ByteArray)) : rdXs (r + 1) (q, true) L = rdXs r (tkS (tkS (q, true) 255) 4096) (L ++ [(txT q 255, txT (txS q 255) 4096)]) := by
  rw [rdXs, if_pos rfl]
theorem tk_two (q : ByteArray) : tkS (tkS (q, true) 255) 4096 = (txS (txS q 255) 4096, txB q 255 && txB (txS q 255) 4096) := rfl
end Go.Proofs.YtpfccicahfncbaaDoor
namespace Go.Proofs.YtpfccicahfncbaaDoor
def tailC : Nat → Code → Code
  | 0, c => c
  | k + 1, .seq _ b => tailC k b
  | _ + 1, c => c
/-- The first k statements of a code, and another one behind them. -/
def takeC : Nat → Code → Code → Code
  | 0, _, b => b
  | k + 1, .seq a c, b => .seq a (takeC k c b)
  | _ + 1, c, _ => c
end Go.Proofs.YtpfccicahfncbaaDoor
namespace Go.Proofs.YtpfccicahfncbaaDoor
open Go.RowKit
set_option linter.unusedVariables false
def eqT (d : Nat) (xs ys : Array Value) : List (Bool × TypeId × Nat) → Sem Bool
  | [] => pure true
  | (n, t, off) :: fs =>
    if n = true then do
      let a ← part t xs off
      let b ← part t ys off
      let r ← Op.equalIn d t a b
      if (!r) = true then pure false else eqT d xs ys fs
    else eqT d xs ys fs
theorem eqT_of (d : Nat) (xs ys : Array Value) : ∀ fs : List Field, Op.eqFields d xs ys fs = eqT d xs ys (fs.map fun f => (f.name != "_", f.type, f.offset))
  | [] => rfl
  | f :: fs => by
    rw [Op.eqFields, List.map_cons, eqT, eqT_of d xs ys fs]
    by_cases h : f.name = "_"
    · rw [if_neg (by simp [h]), if_neg (by simp [h])]
    · rw [if_pos h, if_pos (by simp [h])]
theorem eqT_step {P : Program} {d : Nat} {xs ys : Array Value} {t : TypeId} {off : Nat} {fs : List (Bool × TypeId × Nat)} {w : World} {a b : Value} (h1 : (part t xs off).run P w = .ok a w) (h2 : (part t ys off).run P w = .ok b w) (h3 : (Op.equalIn d t a b).run P w = .ok true w) :
    (eqT d xs ys ((true, t, off) :: fs)).run P w = (eqT d xs ys fs).run P w := by
  rw [eqT, if_pos rfl]
  simp only [Sem.run_bind, h1, h2, h3, Result.andThen, Bool.not_true, Bool.false_eq_true, if_false]
theorem eqT_stepB {P : Program} {d : Nat} {xs ys : Array Value} {t : TypeId} {off : Nat} {fs : List (Bool × TypeId × Nat)} {w : World} {a b : Value} {r : Bool} (h1 : (part t xs off).run P w = .ok a w) (h2 : (part t ys off).run P w = .ok b w) (h3 : (Op.equalIn d t a b).run P w = .ok r w) :
    (eqT d xs ys ((true, t, off) :: fs)).run P w = if r = true then (eqT d xs ys fs).run P w else .ok false w := by
  rw [eqT, if_pos rfl, Sem.run_bind, h1, Result.andThen_ok, Sem.run_bind, h2, Result.andThen_ok, Sem.run_bind, h3, Result.andThen_ok]
  cases r with
  | true => rw [if_neg (by decide), if_pos rfl]
  | false => rw [if_pos (by decide), if_neg (by decide), Sem.run_pure]
theorem part_cell {P : Program} (t : TypeId) (cs : Array Value) (k : Nat) (v : Value) (hv : cs[k]? = some v) (ha : ∀ w, (isAgg t).run P w = .ok false w) (w : World) : (part t cs k).run P w = .ok v w := by
  unfold part
  rw [Sem.run_bind, ha, Result.andThen_ok, if_neg (by decide), hv, Sem.run_pure]
end Go.Proofs.YtpfccicahfncbaaDoor
namespace Go.Proofs.YtpfccicahfncbaaDoor
open Go.RowKit Wir
set_option linter.unusedVariables false
set_option linter.unusedSimpArgs false
theorem eqX_fields : (Tryd.prog.fieldsOf 43).toList.map (fun f => (f.name != "_", f.type, f.offset)) = [(true, 9, 0), (true, 9, 1)] := by kernel_rfl
theorem eq_str (n : Nat) (a b : ByteArray) (w : World) : (Op.equalIn (n + 1) 9 (.string a) (.string b)).run Tryd.prog w = .ok (a.toList == b.toList) w := run_equalIn_string w n _ a b Tryd.underlying9
theorem eq_xts (p q r s : ByteArray) (w : World) : (Op.equalIn 10000 43 (.agg #[.string p, .string q]) (.agg #[.string r, .string s])).run Tryd.prog w = .ok ((p.toList == r.toList) && (q.toList == s.toList)) w := by
  refine (run_equalIn_struct w 9999 _ _ _ (by kernel_rfl) (by kernel_rfl)).trans ?_
  rw [eqT_of, eqX_fields]
  have a0 := part_cell (P := Tryd.prog) 9 #[.string p, .string q] 0 _ rfl (fun w => by kernel_rfl) w
  have a1 := part_cell (P := Tryd.prog) 9 #[.string p, .string q] 1 _ rfl (fun w => by kernel_rfl) w
  have b0 := part_cell (P := Tryd.prog) 9 #[.string r, .string s] 0 _ rfl (fun w => by kernel_rfl) w
  have b1 := part_cell (P := Tryd.prog) 9 #[.string r, .string s] 1 _ rfl (fun w => by kernel_rfl) w
  rw [eqT_stepB a0 b0 (eq_str 9998 p r w), eqT_stepB a1 b1 (eq_str 9998 q s w), eqT, Sem.run_pure]
  cases (p.toList == r.toList) <;> cases (q.toList == s.toList) <;> rfl
def neqX (x y : Operand) (a b : Value) : Sem Next := do
  let v ← (do eqGuard .neq 43 x y a b; binOp .neq 43 a b)
  pure (.value v)
theorem execOp_neqX (ρ : Operand → Value) (dst : Option Tmp) (x y : Operand) (yt ty : TypeId) (pos : String) (after : Array Edge) (guard : Option (Nat × Bool)) :
    execOp ρ { dst, op := .binOp .neq 43 x y yt, type := ty, pos, after, guard } = neqX x y (ρ x) (ρ y) := rfl
theorem run_neqX (x y : Operand) (p q r s : ByteArray) (w : World) : (neqX x y (.agg #[.string p, .string q]) (.agg #[.string r, .string s])).run Tryd.prog w = .ok (.value (.bool (!((p.toList == r.toList) && (q.toList == s.toList))))) w := by
  unfold neqX
  have h1 := run_eqGuard_agg (P := Tryd.prog) w .neq 43 x y #[.string p, .string q] #[.string r, .string s] (by kernel_rfl)
  have h2 : (binOp .neq 43 (.agg #[.string p, .string q]) (.agg #[.string r, .string s])).run Tryd.prog w = .ok (.bool (!((p.toList == r.toList) && (q.toList == s.toList)))) w := by
    refine (run_neq_struct (P := Tryd.prog) w 43 _ _).trans ?_
    rw [eq_xts p q r s w, Result.andThen_ok]
  generalize (!((p.toList == r.toList) && (q.toList == s.toList))) = b at *
  generalize #[Value.string p, Value.string q] = N at *
  generalize #[Value.string r, Value.string s] = M at *
  rw [Sem.run_bind, Sem.run_bind, h1, Result.andThen_ok, h2, Result.andThen_ok, Sem.run_pure]
attribute [local go_sem ↓] execOp_neqX
attribute [local go_sem] run_neqX
/-- Are two the same? -/
def sameP (p q : ByteArray × ByteArray) : Bool := (p.1.toList == q.1.toList) && (p.2.toList == q.2.toList)
theorem toList_inj {a b : ByteArray} (h : a.toList = b.toList) : a = b := by
  rw [ByteArray.toList_eq, ByteArray.toList_eq] at h
  exact ByteArray.ext (Array.ext' h)
theorem sameP_iff (p q : ByteArray × ByteArray) : sameP p q = true ↔ p = q := by
  unfold sameP
  rw [Bool.and_eq_true, beq_iff_eq, beq_iff_eq]
  constructor
  · rintro ⟨h1, h2⟩; exact Prod.ext (toList_inj h1) (toList_inj h2)
  · rintro rfl; exact ⟨rfl, rfl⟩
def sameX (xs ys : List (ByteArray × ByteArray)) : Bool := decide (xs = ys)
set_option maxRecDepth 100000 in
theorem eqXs_any (A A' : Option Addr) (n c n' c' : Nat) (xs ys : List (ByteArray × ByteArray)) (w : World) (B : Nat) (hr : Reads w B 2 A n (xtV xs)) (hr' : Reads w B 2 A' n' (xtV ys)) (hn : n ≤ 4611686018427387904) (hn' : n' ≤ 4611686018427387904) :
    Calls Tryd.prog 49 #[.slice A n c, .slice A' n' c'] w fun e w' => e = .returned (.bool (sameX xs ys)) ∧ Below w.heap.size w w' := by
  have HR := Lib.hid hr
  have HR' := Lib.hid hr'
  have HL := Lib.hid hr.xtLen
  have HL' := Lib.hid hr'.xtLen
  clear hr hr'
  by_cases hnn : n = n'
  · subst hnn
    go_enter Tryd.func49, Tryd.ntmps49
    have t0 : ((n : Int) != (n : Int)) = false := by simp
    go_wp2
    go_loopw [13] (fun i wr => ∃ k : Nat, k ≤ n ∧ i = .int .i64 k ∧ Hid (xs.take k = ys.take k) ∧ Hid (∃ q, wr = w.drewN q)) (fun i _ => n - (intOf i).toNat)
    case atStart => exact ⟨0, by omega, rfl, Lib.hid rfl, Lib.hid ⟨0, rfl⟩⟩
    case round =>
      obtain ⟨k, hk, rfl, HT, HQ⟩ := hrel
      obtain ⟨q, rfl⟩ := HQ.out
      by_cases hlt : k < n
      · obtain ⟨ad, hkl, rfl, hbl, x0, x1⟩ := xt_cells HR.out k hlt
        obtain ⟨ad', hkl', rfl, hbl', y0, y1⟩ := xt_cells HR'.out k hlt
        have HS : Hid (sameP xs[k] ys[k] = true → xs.take (k + 1) = ys.take (k + 1)) := Lib.hid (fun h => by
          rw [List.take_add_one, List.take_add_one, HT.out, List.getElem?_eq_getElem hkl, List.getElem?_eq_getElem hkl', (sameP_iff _ _).1 h])
        have HN : Hid (sameP xs[k] ys[k] = false → sameX xs ys = false) := Lib.hid (fun h => by
          rw [sameX, decide_eq_false_iff_not]
          rintro rfl
          rw [(sameP_iff _ _).2 rfl] at h; cases h)
        obtain ⟨x, hx⟩ : ∃ x, xs[k] = x := ⟨_, rfl⟩
        obtain ⟨y, hy⟩ : ∃ y, ys[k] = y := ⟨_, rfl⟩
        rw [hx] at HS HN x0 x1
        rw [hy] at HS HN y0 y1
        change w.cell? ⟨(ad.add (k * 2)).block, (ad.add (k * 2)).off + 1, none⟩ = _ at x1
        change w.cell? ⟨(ad'.add (k * 2)).block, (ad'.add (k * 2)).off + 1, none⟩ = _ at y1
        clear hx hy hkl hkl' HQ
        have hki : (k : Int) < (n : Int) := by omega
        have hk0 : (0 : Int) ≤ (k : Int) := by omega
        cases hsm : sameP x y with
        | true =>
          have hs2 : ((x.1.toList == y.1.toList) && (x.2.toList == y.2.toList)) = true := hsm
          have HT2 : Hid (xs.take (k + 1) = ys.take (k + 1)) := Lib.hid (HS.out hsm)
          rw [Bool.and_eq_true] at hs2
          obtain ⟨hs3, hs4⟩ := hs2
          clear HS HN hsm
          go_wp2
          go_quiet (fail)
          go_wp2
          go_roundw
          case rel => exact ⟨k + 1, by omega, by go_num, HT2, Lib.hid ⟨_, rfl⟩⟩
          case measure => simp [intOf]; omega
        | false =>
          have hs2 : ((x.1.toList == y.1.toList) && (x.2.toList == y.2.toList)) = false := hsm
          have HT2 : Hid (sameX xs ys = false) := Lib.hid (HN.out hsm)
          clear HS HN hsm
          go_wp2
          go_quiet (fail)
          go_wp2
          go_ret
          exact ⟨by rw [HT2.out]; rfl, below_drewN (below_drewN (Below.refl _ _) _) _⟩
      · obtain rfl : k = n := by omega
        have HT2 : Hid (sameX xs ys = true) := Lib.hid (by
          have := HT.out
          rw [List.take_of_length_le (by rw [HL.out]; omega), List.take_of_length_le (by rw [HL'.out]; omega)] at this
          rw [sameX, decide_eq_true_eq]; exact this)
        go_wp2
        go_ret
        exact ⟨by rw [HT2.out]; rfl, below_drewN (Below.refl _ _) _⟩
  · have t0 : ((n : Int) != (n' : Int)) = true := by rw [bne_iff_ne]; omega
    have HT2 : Hid (sameX xs ys = false) := Lib.hid (by
      rw [sameX, decide_eq_false_iff_not]
      rintro rfl
      exact hnn (HL.out.symm.trans HL'.out))
    clear hnn
    go_enter Tryd.func49, Tryd.ntmps49
    go_wp2
    go_ret
    exact ⟨by rw [HT2.out]; rfl, Below.refl _ _⟩
end Go.Proofs.YtpfccicahfncbaaDoor
