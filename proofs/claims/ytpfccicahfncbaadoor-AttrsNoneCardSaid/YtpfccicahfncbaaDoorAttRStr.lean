/- Walk: attrs.ReadStream. -/
import Derived.Test.YtpfccicahfncbaaDoorAttStrm
import Derived.Test.YtpfccicahfncbaaDoorAttRd
namespace Go.Proofs.YtpfccicahfncbaaDoor
open Go.RowKit Wir
set_option linter.unusedVariables false
set_option linter.unusedSimpArgs false
/-- So many sets are read, L being read already. -/
def rsF : Nat → ByteArray → List Att → Option (List Att × ByteArray)
  | 0, r, L => some (L, r)
  | k + 1, r, L => if txB r r.size = true ∧ (rdR (txT r r.size)).2 = 0 then rsF k (txS r r.size) (L ++ [(rdR (txT r r.size)).1]) else none
def rsE : Option (List Att × ByteArray) → List Att × Int
  | some (L, r) => if r.size = 0 then (L, 0) else ([], 4)
  | none => ([], 4)
def rsR (s : ByteArray) : List Att × Int :=
  if uintE s = 0 ∧ 1 ≤ (short (byteAt s) s.size).1 ∧ (short (byteAt s) s.size).1 ≤ 257 then rsE (rsF (short (byteAt s) s.size).1 (uintS s) []) else ([], 4)
theorem rdR_or (s : ByteArray) : (rdOK s = true ∧ rdR s = (rdA s, 0)) ∨ (rdOK s = false ∧ rdR s = (zAtt, 4)) := by
  cases h : rdOK s with
  | true => exact .inl ⟨rfl, if_pos h⟩
  | false => exact .inr ⟨rfl, if_neg (by rw [h]; decide)⟩
theorem rdOK_chk {s : ByteArray} (h : rdOK s = true) : chkA (rdA s) = 0 := by
  rw [rdOK] at h
  simp only [Bool.and_eq_true, decide_eq_true_eq] at h
  exact h.2.2.2
theorem chk_sized {a : Att} (h : chkA a = 0) : a.sized := by
  obtain ⟨h1, h2, h3⟩ := chkA_zero h
  obtain ⟨_, _, _, q1, q2⟩ := chk1_false h1
  obtain ⟨_, q3, _, _⟩ := chk2_false h2
  refine ⟨⟨by omega, by omega⟩, by omega, fun p hp => ?_⟩
  have := chkX_sizes a.xs _ h3 p hp
  omega
theorem chk_len {a : Att} (h : chkA a = 0) : a.xs.length ≤ 16 := (chk2_false (chkA_zero h).2.1).2.2.2
theorem zAtt_sized : zAtt.sized := ⟨⟨by decide, by decide⟩, by decide, fun p hp => by cases hp⟩
theorem rdR_sized (s : ByteArray) : (rdR s).1.sized := by
  rcases rdR_or s with ⟨h, e⟩ | ⟨h, e⟩
  · rw [e]; exact chk_sized (rdOK_chk h)
  · rw [e]; exact zAtt_sized
/-- The lists of all of them are rows of the call's own. -/
def AllOwn (w : World) (base : Nat) (M : List AttM) : Prop := ∀ q ∈ M, w.ownsRow base 43 2 (.slice q.A q.n q.c) q.n (xtV q.a.xs)
theorem AllOwn.rd {w : World} {base : Nat} {M : List AttM} (h : AllOwn w base M) : AllRd w w.heap.size M := fun q hq => Reads.of_own (h q hq)
theorem AllOwn.below {w w' : World} {base : Nat} {M : List AttM} (h : AllOwn w base M) (hb : Below w.heap.size w w') : AllOwn w' base M := fun q hq => own_below (h q hq) hb
theorem AllOwn.push {w : World} {base : Nat} {M : List AttM} {q : AttM} (h : AllOwn w base M) (hq : w.ownsRow base 43 2 (.slice q.A q.n q.c) q.n (xtV q.a.xs)) : AllOwn w base (M ++ [q]) := fun x hx => by
  rcases List.mem_append.1 hx with h' | h'
  · exact h x h'
  · rw [List.mem_singleton] at h'; subst h'; exact hq
theorem elemAt : ElemN Tryd.prog 23 27 (.agg (attV zAtt none 0 0)) 7 64 := ElemN.of (by kernel_rfl) (by kernel_rfl) rfl (by omega)
/-- What holds at the head of the loop. -/
structure RsI (w wr : World) (R : Nat) (r : ByteArray) (v : Value) (M : List AttM) : Prop where
  rd : Rdr wr R r
  row : wr.ownsRow w.heap.size 27 7 v M.length (attsV M)
  all : AllOwn wr w.heap.size M
  below : Below w.heap.size w wr
  lo : w.heap.size ≤ R
theorem RsI.text {w wr w' : World} {R : Nat} {r r' : ByteArray} {v : Value} {M : List AttM} (h : RsI w wr R r v M) (hr : Rdr w' R r') (hg : wr.grownBy w' (some R)) : RsI w w' R r' v M :=
  ⟨hr, h.row.kept hg (.inr (own_blk_ne h.row h.rd (by decide))), fun q hq => (h.all q hq).kept hg (.inr (own_blk_ne (h.all q hq) h.rd (by decide))), h.below.grown hg h.below.size (fun k e => by injection e with e; rw [← e]; exact h.lo), h.lo⟩
theorem RsI.mono {w wr w' : World} {R : Nat} {r : ByteArray} {v : Value} {M : List AttM} (h : RsI w wr R r v M) (hb : Below wr.heap.size wr w') : RsI w w' R r v M :=
  ⟨Blk.below h.rd hb h.rd.lt, own_below h.row hb, h.all.below hb, h.below.trans (hb.mono h.below.size), h.lo⟩
theorem RsI.push {w wr w' : World} {R : Nat} {r : ByteArray} {v v' : Value} {M : List AttM} {q : AttM} (h : RsI w wr R r v M) (hq : wr.ownsRow w.heap.size 43 2 (.slice q.A q.n q.c) q.n (xtV q.a.xs))
    (ho : w'.ownsRow w.heap.size 27 7 v' (M.length + 1) (attsV M ++ q.v)) (hg : wr.grownBy w' v.ownBlock) : RsI w w' R r v' (M ++ [q]) := by
  have hne : ∀ b, v.ownBlock = some b → w.heap.size ≤ b := fun b e => (h.row.lt b e).1
  refine ⟨Blk.grown h.rd hg (fun e => own_blk_ne h.row h.rd (by decide) e.symm), ?_, fun x hx => ?_, h.below.grown hg h.below.size hne, h.lo⟩
  · rw [List.length_append, attsV_app]
    show w'.ownsRow _ _ _ _ _ (attsV M ++ (q.v ++ []))
    rw [List.append_nil]; exact ho
  · exact own_keep (AllOwn.push h.all hq x hx) h.row (by decide) hg
set_option maxRecDepth 100000 in
set_option maxHeartbeats 1000000 in
theorem attRStr_any (s : ByteArray) (w : World) (hs : s.size ≤ 140737488355328) :
    Calls Tryd.prog 9 #[.string s] w fun e w' => ∃ v M, e = .returned (.tuple #[v, .int .i64 (rsR s).2]) ∧ M.map (·.a) = (rsR s).1 ∧ w'.ownsRow w.heap.size 27 7 v M.length (attsV M) ∧ AllOwn w' w.heap.size M ∧ (∀ q ∈ M, chkA q.a = 0 ∧ q.n ≤ 16) ∧ Below w.heap.size w w' := by
  obtain ⟨nn, hnn⟩ : ∃ nn, (short (byteAt s) s.size).1 = nn := ⟨_, rfl⟩
  have h64 := short_64 s
  rw [hnn] at h64
  have HN := Lib.hid hnn
  have HU := Lib.hid (uintS_size s)
  go_enter Tryd.func9, Tryd.ntmps9
  clear hnn
  go_wp2_with fail
  (with_reducible refine (newReader_any s _).mono ?_)
  rintro e w1 ⟨rfl, hr1, hb1⟩
  have H1 : Hid (Rdr w1 w.heap.size s ∧ Below w.heap.size w w1) := Lib.hid ⟨hr1, hb1⟩
  have U := Lib.hid (uint_g s w.heap.size w1 hr1 (by omega))
  rw [HN.out] at U
  clear hr1 hb1
  go_wp2_with fail
  (with_reducible refine U.out.mono ?_)
  rintro e w2 ⟨rfl, hr2, hg2⟩
  have HB2 : Hid (Below w.heap.size w w2) := Lib.hid (H1.out.2.grown hg2 H1.out.2.size (fun k e => by injection e with e; omega))
  have HI2 : Hid (RsI w w2 w.heap.size (uintS s) (.slice none 0 0) []) := Lib.hid ⟨hr2, World.ownsRow_nil _ _ _ _, (fun q hq => by cases hq), HB2.out, Nat.le_refl _⟩
  clear hr2 hg2 U H1
  obtain ⟨ue, hue⟩ : ∃ ue, uintE s = ue := ⟨_, rfl⟩
  have HR0 : Hid (rsR s = if ue = 0 ∧ 1 ≤ nn ∧ nn ≤ 257 then rsE (rsF nn (uintS s) []) else ([], 4)) := Lib.hid (by rw [rsR, hue, HN.out])
  rw [hue]
  clear hue
  by_cases hok : ue = 0 ∧ 1 ≤ nn ∧ nn ≤ 257
  · obtain ⟨rfl, h1, h2⟩ := hok
    have HR1 : Hid (rsR s = rsE (rsF nn (uintS s) [])) := Lib.hid (by rw [HR0.out, if_pos ⟨rfl, h1, h2⟩])
    have g1 : decide ((nn : Int) < 1) = false := by rw [decide_eq_false_iff_not]; omega
    have g2 : decide (257 < (nn : Int)) = false := by rw [decide_eq_false_iff_not]; omega
    clear HR0
    go_wp2_with fail
    go_loopw [7, 30] (fun v i wr => ∃ (k : Nat) (r : ByteArray) (M : List AttM), k ≤ nn ∧ i = .int .u64 k ∧ M.length = k ∧ Hid (rsR s = rsE (rsF (nn - k) r (M.map (·.a)))) ∧ r.size ≤ s.size ∧ Hid (∀ q ∈ M, chkA q.a = 0 ∧ q.n ≤ 16) ∧ Hid (RsI w wr w.heap.size r v M)) (fun _ i _ => nn - (intOf i).toNat)
    case atStart => exact ⟨0, uintS s, [], by omega, rfl, rfl, HR1, HU.out, Lib.hid (fun q hq => by cases hq), HI2⟩
    case round =>
      obtain ⟨k, r, M, hk, rfl, hML, HX, hrs, HQ, HI⟩ := hrel
      have HML := Lib.hid hML
      clear hML
      by_cases hlt : k < nn
      · have LF := Lib.hid (left_any r w.heap.size wr HI.out.rd (by omega))
        have TX := Lib.hid (text_g r w.heap.size r.size wr HI.out.rd (by omega) (by omega))
        have HXn : Hid (¬ (txB r r.size = true ∧ (rdR (txT r r.size)).2 = 0) → rsR s = ([], 4)) := Lib.hid (fun h => by rw [HX.out, show nn - k = (nn - (k + 1)) + 1 from by omega, rsF, if_neg h]; rfl)
        have HXy : Hid (txB r r.size = true ∧ (rdR (txT r r.size)).2 = 0 → rsR s = rsE (rsF (nn - (k + 1)) (txS r r.size) (M.map (·.a) ++ [(rdR (txT r r.size)).1]))) := Lib.hid (fun h => by rw [HX.out, show nn - k = (nn - (k + 1)) + 1 from by omega, rsF, if_pos h])
        have hts := txT_size r r.size
        have hss := txS_size r r.size
        have ET : Hid (txE r r.size = if txB r r.size = true then 0 else 4) := Lib.hid rfl
        obtain ⟨t, htt⟩ : ∃ t, txT r r.size = t := ⟨_, rfl⟩
        obtain ⟨r', hrr⟩ : ∃ r', txS r r.size = r' := ⟨_, rfl⟩
        obtain ⟨tb, htb⟩ : ∃ tb, txB r r.size = tb := ⟨_, rfl⟩
        obtain ⟨te, hte⟩ : ∃ te, txE r r.size = te := ⟨_, rfl⟩
        rw [htt, hte, hrr] at TX
        rw [htt, htb] at HXn HXy
        rw [hrr] at HXy
        rw [htb, hte] at ET
        rw [htt] at hts
        rw [hrr] at hss
        clear htt hrr htb hte HX
        have hki : (k : Int) < (nn : Int) := by omega
        go_wp2_with fail
        (with_reducible refine LF.out.mono ?_)
        rintro e w3 ⟨rfl, rfl⟩
        go_wp2_with fail
        (with_reducible refine TX.out.mono ?_)
        rintro e w4 ⟨rfl, hr4, hg4⟩
        have HI4 := Lib.hid (HI.out.text hr4 hg4)
        clear hr4 hg4 TX LF HI
        have RD := Lib.hid (attRead_any t w4 (by omega))
        have HQA : Hid ((rdR t).2 = 0 → chkA (rdR t).1 = 0) := Lib.hid (fun h => by
          rcases rdR_or t with ⟨h1, e⟩ | ⟨h1, e⟩
          · rw [e]; exact rdOK_chk h1
          · rw [e] at h; cases h)
        generalize rdR t = p at RD HQA HXn HXy
        obtain ⟨qa, f⟩ := p
        dsimp only at RD HQA HXn HXy
        go_wp2_with fail
        (with_reducible refine RD.out.mono ?_)
        rintro e w5 ⟨A5, n5, c5, rfl, ho5, hb5⟩
        have HO5 : Hid (w5.ownsRow w.heap.size 43 2 (.slice A5 n5 c5) n5 (xtV qa.xs)) := Lib.hid (own_base ho5 HI4.out.below.size)
        have HI5 : Hid (RsI w w5 w.heap.size r' u7 M) := Lib.hid (HI4.out.mono hb5)
        have BN : Hid (Blk (w5.alloc (.cells (attV qa A5 n5 c5) 27)) w5.heap.size 27 (attV qa A5 n5 c5) ∧ RsI w (w5.alloc (.cells (attV qa A5 n5 c5) 27)) w.heap.size r' u7 M ∧ (w5.alloc (.cells (attV qa A5 n5 c5) 27)).ownsRow w.heap.size 43 2 (.slice A5 n5 c5) n5 (xtV qa.xs)) := Lib.hid ⟨Blk.new _ _ _, HI5.out.mono ((Below.refl _ _).alloc (Nat.le_refl _) _), HO5.out.alloc _⟩
        clear ho5 hb5 RD HI4 HO5 HI5
        unfold attV
        go_upto_region 10 with fail
        change Code.wp _ _ _ _ (w5.alloc (.cells (attV qa A5 n5 c5) 27))
        generalize w5.alloc (.cells (attV qa A5 n5 c5) 27) = w6 at BN ⊢
        generalize w5.heap.size = ab at BN ⊢
        by_cases hgood : tb = true ∧ f = 0
        · obtain ⟨rfl, rfl⟩ := hgood
          have HXs := Lib.hid (HXy.out ⟨rfl, rfl⟩)
          have HQs := Lib.hid (HQA.out rfl)
          have hte0 : te = 0 := ET.out
          subst hte0
          clear HXn HXy HQA ET
          obtain ⟨c0, c1, c2, c3, c4, c5', c6⟩ := att_cells qa A5 n5 c5 w6 _ BN.out.1
          have hle := BN.out.2.1.below.size
          go_wp2_with (at_builtin; refine appendN_new elemAt rfl _ _ rfl w.heap.size u7 M.length _ (by rfl) BN.out.2.1.row (attV qa A5 n5 c5) rfl (by rfl) (by intro u hu; exact attsV_one [⟨qa, A5, n5, c5⟩] u (by simpa [attsV, AttM.v] using hu)) (by rw [HML.out]; omega) (by rw [HML.out]; omega) hle ?_; intro v' w' ho hg hd; clear hd; have HK' := Lib.hid (BN.out.2.1.push (q := ⟨qa, A5, n5, c5⟩) BN.out.2.2 ho hg); clear ho hg)
          go_roundw
          case rel => exact ⟨k + 1, r', M ++ [⟨qa, A5, n5, c5⟩], by omega, by go_num, by rw [List.length_append, HML.out]; rfl, Lib.hid (by rw [HXs.out, List.map_append]; rfl), by omega, Lib.hid (fun q hq => by
            rcases List.mem_append.1 hq with h | h
            · exact HQ.out q h
            · rw [List.mem_singleton] at h
              subst h
              have h1 := chk_len HQs.out
              have h2 := (Reads.of_own BN.out.2.2).xtLen
              exact ⟨HQs.out, by show n5 ≤ 16; omega⟩), HK'⟩
          case measure => simp [intOf]; omega
        · have HXs := Lib.hid (HXn.out hgood)
          have hbad : te = 4 ∨ (te = 0 ∧ f ≠ 0) := by
            have := ET.out
            cases tb with
            | false => exact .inl this
            | true => exact .inr ⟨this, fun h => hgood ⟨rfl, h⟩⟩
          clear hgood HXn HXy HQA ET
          rcases hbad with rfl | ⟨rfl, hf⟩
          · go_wp2
            go_ret2
            exact ⟨.slice none 0 0, [], by rw [HXs.out]; rfl, by rw [HXs.out]; rfl, World.ownsRow_nil _ _ _ _, (fun q hq => by cases hq), (fun q hq => by cases hq), BN.out.2.1.below⟩
          · have hfb : (f != 0) = true := by rw [bne_iff_ne]; exact hf
            clear hf
            go_wp2
            go_ret2
            exact ⟨.slice none 0 0, [], by rw [HXs.out]; rfl, by rw [HXs.out]; rfl, World.ownsRow_nil _ _ _ _, (fun q hq => by cases hq), (fun q hq => by cases hq), BN.out.2.1.below⟩
      · obtain rfl : k = nn := by omega
        have HXe : Hid (rsR s = rsE (some (M.map (·.a), r))) := Lib.hid (by rw [HX.out, Nat.sub_self]; rfl)
        have EN := Lib.hid (rend_any r w.heap.size wr HI.out.rd)
        clear HX
        by_cases hr0 : r.size = 0
        · have hen : endE r = 0 := if_pos hr0
          have HXs : Hid (rsR s = (M.map (·.a), 0)) := Lib.hid (by rw [HXe.out, rsE, if_pos hr0])
          rw [hen] at EN
          clear hen hr0 HXe
          go_wp2_with fail
          (with_reducible refine EN.out.mono ?_)
          rintro e w3 ⟨rfl, rfl⟩
          go_wp2
          go_ret2
          exact ⟨u7, M, by rw [HXs.out]; rfl, by rw [HXs.out], HI.out.row, HI.out.all, HQ.out, HI.out.below⟩
        · have hen : endE r = 4 := if_neg hr0
          have HXs : Hid (rsR s = ([], 4)) := Lib.hid (by rw [HXe.out, rsE, if_neg hr0])
          rw [hen] at EN
          clear hen hr0 HXe
          go_wp2_with fail
          (with_reducible refine EN.out.mono ?_)
          rintro e w3 ⟨rfl, rfl⟩
          go_wp2
          go_ret2
          exact ⟨.slice none 0 0, [], by rw [HXs.out]; rfl, by rw [HXs.out]; rfl, World.ownsRow_nil _ _ _ _, (fun q hq => by cases hq), (fun q hq => by cases hq), HI.out.below⟩
  · have HR1 : Hid (rsR s = ([], 4)) := Lib.hid (by rw [HR0.out, if_neg hok])
    clear HR0
    have hue : ue = 0 ∨ ue ≠ 0 := by omega
    rcases hue with rfl | hue
    · have hb : nn < 1 ∨ (1 ≤ nn ∧ 257 < nn) := by omega
      clear hok
      rcases hb with h | ⟨h, h'⟩
      · have g1 : decide ((nn : Int) < 1) = true := by rw [decide_eq_true_eq]; omega
        go_wp2
        go_ret2
        exact ⟨.slice none 0 0, [], by rw [HR1.out]; rfl, by rw [HR1.out]; rfl, World.ownsRow_nil _ _ _ _, (fun q hq => by cases hq), (fun q hq => by cases hq), HB2.out⟩
      · have g1 : decide ((nn : Int) < 1) = false := by rw [decide_eq_false_iff_not]; omega
        have g2 : decide (257 < (nn : Int)) = true := by rw [decide_eq_true_eq]; omega
        go_wp2
        go_ret2
        exact ⟨.slice none 0 0, [], by rw [HR1.out]; rfl, by rw [HR1.out]; rfl, World.ownsRow_nil _ _ _ _, (fun q hq => by cases hq), (fun q hq => by cases hq), HB2.out⟩
    · have hub : (ue != 0) = true := by rw [bne_iff_ne]; exact hue
      clear hue hok
      go_wp2
      go_ret2
      exact ⟨.slice none 0 0, [], by rw [HR1.out]; rfl, by rw [HR1.out]; rfl, World.ownsRow_nil _ _ _ _, (fun q hq => by cases hq), (fun q hq => by cases hq), HB2.out⟩
end Go.Proofs.YtpfccicahfncbaaDoor
