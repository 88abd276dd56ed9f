/- Walk: the law PackSpans, of lists that are no greater than the Upto form says. -/
import Derived.Test.YtpfccicahfncbaaPackBuildsWMPackBack
import Derived.Test.YtpfccicahfncbaaMgPackBack7
namespace Go.Proofs.Ytpfccicahfncbaa
open Go.RowKit Wir Dig
set_option linter.unusedVariables false
set_option linter.unusedSimpArgs false
attribute [local go_sem ↓] execOp_ld35
attribute [local go_sem] run_ld35
theorem bldF_err : ∀ (l : List PObj) (i : Nat) (s : ByteArray) (S : List (Array Value)), ¬ (bldF i s S l).2 = 0 → (bldF i s S l).1 = ByteArray.empty
  | [], i, s, S, h => absurd (by rw [bldF]) h
  | o :: l, i, s, S, h => by
    cases hb : badO i s o with
    | true => rw [bldF_bad hb]
    | false =>
      by_cases hm : nmA o ∈ S
      · rw [bldF_there hb hm]
      · rw [bldF_on hb hm] at h ⊢
        exact bldF_err l _ _ _ h
theorem bldR_err {l : List PObj} (h : ¬ (bldR l).2 = 0) : (bldR l).1.toList.isEmpty = true := by
  rw [show (bldR l).1 = ByteArray.empty from bldF_err l 0 markPk [] h, ByteArray.toList_eq]; rfl
theorem bld_bytes {l : List PObj} (h : (bldR l).2 = 0) : (bldR l).1 = markPk ++ (recsB l ++ trlB l.length) ∧ (∀ o ∈ l, okO o = true) ∧ l.length ≤ 65536 ∧ (bldR l).1.size ≤ 67108864 := by
  obtain ⟨h1, h2, h3, h4, h5⟩ := bld_ok l 0 markPk [] h
  have hs : (bldR l).1 = markPk ++ (recsB l ++ trlB l.length) := by
    show (bldF 0 markPk [] l).1 = _
    rw [h1, Nat.zero_add, ByteArray.append_assoc]
  refine ⟨hs, h2, ?_⟩
  cases l with
  | nil =>
    have := trlB_size 0
    refine ⟨by simp, ?_⟩
    rw [hs, recsB, ByteArray.empty_append, ByteArray.size_append]
    show 4 + (trlB 0).size ≤ _
    omega
  | cons o l => have := h5 (by simp); exact ⟨by omega, this.2⟩
/-- What the law says of two packs, plainly. -/
theorem spans_law {l more : List PObj} (he : (bldR l).2 = 0) (hf : (bldR (l ++ more)).2 = 0) :
    endAt (l ++ more) l.length ≤ (bldR l).1.size ∧ endAt (l ++ more) l.length ≤ (bldR (l ++ more)).1.size ∧ (bldR l).1.extract 0 (endAt (l ++ more) l.length) = (bldR (l ++ more)).1.extract 0 (endAt (l ++ more) l.length) ∧
    endAt (l ++ more) (l ++ more).length < (bldR (l ++ more)).1.size ∧ svR ((bldR (l ++ more)).1.extract 0 (endAt (l ++ more) (l ++ more).length)) = entsAt 4 (l ++ more) := by
  obtain ⟨a1, _, _, _⟩ := bld_bytes he
  obtain ⟨b1, b2, b3, _⟩ := bld_bytes hf
  have e1 : endAt (l ++ more) l.length = (markPk ++ recsB l).size := by
    unfold endAt; rw [List.take_left, ByteArray.size_append]; rfl
  have e2 : endAt (l ++ more) (l ++ more).length = (markPk ++ recsB (l ++ more)).size := by
    unfold endAt; rw [List.take_length, ByteArray.size_append]; rfl
  have a2 : (bldR l).1 = (markPk ++ recsB l) ++ trlB l.length := by rw [a1, ByteArray.append_assoc]
  have b4 : (bldR (l ++ more)).1 = (markPk ++ recsB l) ++ (recsB more ++ trlB (l ++ more).length) := by rw [b1, recsB_app]; simp only [ByteArray.append_assoc]
  have b5 : (bldR (l ++ more)).1 = (markPk ++ recsB (l ++ more)) ++ trlB (l ++ more).length := by rw [b1, ByteArray.append_assoc]
  have ht := trlB_size (l ++ more).length
  refine ⟨?_, ?_, ?_, ?_, ?_⟩
  · rw [e1, a2]
    have := ByteArray.size_append (a := markPk ++ recsB l) (b := trlB l.length)
    omega
  · rw [e1, b4]
    have := ByteArray.size_append (a := markPk ++ recsB l) (b := recsB more ++ trlB (l ++ more).length)
    omega
  · rw [e1, a2, b4, ex_left _ _ _ rfl, ex_left _ _ _ rfl]
  · rw [e2, b5]
    have := ByteArray.size_append (a := markPk ++ recsB (l ++ more)) (b := trlB (l ++ more).length)
    omega
  · rw [e2, b5, ex_left _ _ _ rfl]
    have := salvage_recs (l ++ more) ByteArray.empty (fst_small (by decide)) b2 b3
    rw [ByteArray.append_empty] at this
    exact this
theorem endAt_le (l : List PObj) (i : Nat) : endAt l i ≤ endAt l l.length := by
  unfold endAt
  have := ByteArray.size_append (a := recsB (l.take i)) (b := recsB (l.drop i))
  rw [← recsB_app, List.take_append_drop] at this
  rw [List.take_length]; omega
theorem ent_at {w : World} {base N : Nat} {A : Option Addr} {c : Nat} {M : List (Nat × PObj)} (h : w.ownsRow base 44 35 (.slice A N c) N (entsV M)) (i : Nat) (hi : i < N) (hM : i < M.length) :
    ∃ g, A = some ⟨g, 0, none⟩ ∧ ∀ W, Below w.heap.size w W → ok35 W g (i * 35) = true ∧ row35 W g (i * 35) = entA (M[i]).1 (M[i]).2 := by
  rcases h.2 with ⟨_, h0⟩ | ⟨g, cap, cur, hv, hb, hc, hn, hm, hz, ht⟩
  · omega
  · simp only [Value.slice.injEq] at hv
    refine ⟨g, hv.1, fun W hW => ?_⟩
    have hg : W.heap[g]? = some (.cells cur 44 (0, 0)) := (hW.block g (Array.getElem?_eq_some_iff.1 hc).1).trans hc
    have hmul : (i + 1) * 35 ≤ N * 35 := Nat.mul_le_mul_right _ hi
    have hmul2 : N * 35 ≤ cap * 35 := Nat.mul_le_mul_right _ hn
    refine ⟨?_, ?_⟩
    · unfold ok35
      rw [hg]
      simp only [decide_eq_true_eq]
      omega
    · apply Array.ext
      · rw [row35_size, entA_size]
      · intro j h1 h2
        rw [row35_size] at h1
        have a : W.cell? ⟨g, i * 35 + j, none⟩ = cur[i * 35 + j]? := cell_of_row W g (i * 35 + j) cur _ (0, 0) hg
        have b : cur[i * 35 + j]? = some ((entA (M[i]).1 (M[i]).2)[j]) := by
          have := entsV_get M i j hM h1
          rw [← ht, List.getElem?_take, if_pos (by omega), Array.getElem?_toList, Array.getElem?_eq_getElem h2] at this
          exact this
        have e : (row35 W g (i * 35))[j]'(by rw [row35_size]; exact h1) = (W.cell? ⟨g, i * 35 + j, none⟩).getD undef := by simp [row35]
        rw [e, a, b]; rfl
set_option maxRecDepth 100000 in
set_option maxHeartbeats 4000000 in
theorem packSpans_walk (A : Option Addr) (n c : Nat) (l : List PObj) (A' : Option Addr) (n' c' : Nat) (more : List PObj) {w : World} (hr : Reads w w.heap.size 2 A n (objV l)) (hn : n * 24 ≤ 70368744177600) (hz : ∀ o ∈ l, o.2.size ≤ 140737488355328) (hc : n ≤ c)
    (hr' : Reads w w.heap.size 2 A' n' (objV more)) (hn' : n' * 24 ≤ 70368744177600) (hz' : ∀ o ∈ more, o.2.size ≤ 140737488355328) (hc' : n' ≤ c') :
    Calls Try.prog 4 #[.slice A n c, .slice A' n' c'] w fun e w' => e = .returned (.bool true) ∧ Below w.heap.size w w' := by
  have HR := Lib.hid hr
  have HR' := Lib.hid hr'
  have HL := Lib.hid hr.objLen
  have HL' := Lib.hid hr'.objLen
  have HZ := Lib.hid hz
  have HZ' := Lib.hid hz'
  have O1 := Lib.hid (own_any A n c l w w.heap.size hr (Nat.le_refl _) (by omega))
  clear hr hz hr' hz'
  go_enter Try.func4, Try.ntmps4
  go_wp2_with fail
  (with_reducible refine O1.out.mono ?_)
  rintro e w1 ⟨g1, cap1, rfl, ho1, hb1⟩
  have hm1 := (own_two ho1 HL.out).1
  have HB1 := Lib.hid hb1
  have B2 := Lib.hid (build_any (some ⟨g1, 0, none⟩) n cap1 l w1 w1.heap.size hm1 (Nat.le_refl _) (by omega) HZ.out)
  clear ho1 hb1 hm1 O1
  go_wp2_with fail
  (with_reducible refine B2.out.mono ?_)
  rintro e w2 ⟨rfl, hb2⟩
  have HB2 : Hid (Below w.heap.size w w2) := Lib.hid (HB1.out.trans (hb2.mono HB1.out.size))
  have O3 := Lib.hid (own_any A n c l w2 w.heap.size (HR.out.below HB2.out) HB2.out.size (by omega))
  clear hb2 B2
  go_wp2_with fail
  (with_reducible refine O3.out.mono ?_)
  rintro e w3 ⟨g3, cap3, rfl, ho3, hb3⟩
  have HB3 : Hid (Below w.heap.size w w3) := Lib.hid (HB2.out.trans (hb3.mono HB2.out.size))
  have HO3 := Lib.hid ho3
  have hle3 := hb3.size
  have O4 := Lib.hid (own_any A' n' c' more w3 w.heap.size (HR'.out.below HB3.out) HB3.out.size (by omega))
  clear ho3 hb3 O3
  go_wp2_with fail
  (with_reducible refine O4.out.mono ?_)
  rintro e w4 ⟨g4, cap4, rfl, ho4, hb4⟩
  have HB4 : Hid (Below w.heap.size w w4) := Lib.hid (HB3.out.trans (hb4.mono HB3.out.size))
  have hm4 := Lib.hid (own_two ho4 HL'.out).1
  have ho5 := own_below HO3.out hb4
  have hs5 := own_shorter ho5 (Nat.le_succ n)
  have e5 : (objV (l ++ [markO])).take (n * 2) = objV l := by rw [objV_app, List.take_left' (by rw [objV_length, HL.out])]
  rw [e5] at hs5
  have HS5 := Lib.hid hs5
  have hle4 : w2.heap.size ≤ w4.heap.size := Nat.le_trans hle3 hb4.size
  have HN5 := Lib.hid (objV_one more)
  clear ho4 hb4 O4 ho5 hs5 e5
  obtain ⟨ie, ii1, ii2, ii3, ii4⟩ := elemObj.info
  have I1 := Lib.hid ii1
  have I2 := Lib.hid ii2
  clear ii1 ii2
  have hsum : (n + n') * 24 ≤ 140737488355328 := by omega
  have hsum2 : n + n' ≤ maxLen := by unfold maxLen; omega
  go_wp2_with (at_builtin; refine wpList_append_any w4 rfl _ _ _ rfl w2.heap.size 30 ie _ 2 24 elemObj.ht I1.out I2.out ii3 ii4 elemObj.hz elemObj.pos _ n (objV l) rfl HS5.out w4.heap.size (some ⟨g4, 0, none⟩) n' cap4 (objV more) rfl hm4.out HN5.out hsum2 hsum hle4 ?_; intro v6 w5 ho6 hg6 hd6; clear hd6; obtain ⟨A6, c6, rfl, hr6⟩ := own_reads ho6; have HR6 : Hid (Reads w5 w5.heap.size 2 A6 (n + n') (objV (l ++ more))) := Lib.hid (by rw [objV_app]; exact hr6); have HB6 := Lib.hid (HB4.out.grown hg6 HB4.out.size (fun k hk => Nat.le_trans HB2.out.size (HS5.out.lt k hk).1)); clear hg6 ho6 hr6)
  have HZZ : Hid (∀ o ∈ l ++ more, o.2.size ≤ 140737488355328) := Lib.hid (fun o ho => by
    rcases List.mem_append.1 ho with h | h
    · exact HZ.out o h
    · exact HZ'.out o h)
  have B6 := Lib.hid (build_any A6 (n + n') c6 (l ++ more) w5 w5.heap.size HR6.out (Nat.le_refl _) (by omega) HZZ.out)
  have LW := Lib.hid (fun he hf => spans_law (l := l) (more := more) he hf)
  have LE1 := Lib.hid (fun h => bldR_err (l := l) h)
  have LE2 := Lib.hid (fun h => bldR_err (l := l ++ more) h)
  have LSC := Lib.hid (fun h => scan_build (l ++ more) h)
  have LB1 := Lib.hid (fun h => (bld_bytes (l := l) h).2.2)
  have LB2 := Lib.hid (fun h => (bld_bytes (l := l ++ more) h).2)
  obtain ⟨P1, hP1⟩ : ∃ P, bldR l = P := ⟨_, rfl⟩
  obtain ⟨P2, hP2⟩ : ∃ P, bldR (l ++ more) = P := ⟨_, rfl⟩
  rw [hP1] at LW LE1 LB1 ⊢
  rw [hP2] at B6 LW LE2 LSC LB2
  clear hP1 hP2
  obtain ⟨a, e⟩ := P1
  obtain ⟨b, f⟩ := P2
  clear HS5 HN5 hm4 I1 I2 HO3 hle3 hle4
  (with_reducible refine B6.out.mono ?_)
  rintro e' w6 ⟨rfl, hb6⟩
  have HB7 : Hid (Below w.heap.size w w6) := Lib.hid (HB6.out.trans (hb6.mono HB6.out.size))
  have AW := Lib.hid (fun W => pkAwake_any W)
  clear hb6 B6
  by_cases he : e = 0
  · subst he
    by_cases hf : f = 0
    · subst hf
      have hscn := LSC.out rfl
      have SC := Lib.hid (fun W => scan_any b W (by have := (LB2.out rfl).2.2; dsimp only at this; omega))
      rw [hscn] at SC
      have hlen : (l ++ more).length = n + n' := by rw [List.length_append, HL.out, HL'.out]
      obtain ⟨q1, q2, q3, q4, q5⟩ := LW.out rfl rfl
      dsimp only at q1 q2 q3 q4 q5
      have hbs := (LB2.out rfl).2.2
      dsimp only at hbs
      have EN := Lib.hid (fun k h => entsAt_get (l ++ more) 4 k h)
      have EX := Lib.hid (fun k h => endAt_next (l ++ more) k h)
      have EL := Lib.hid (fun k => endAt_le (l ++ more) k)
      have HES := Lib.hid (entsAt_length 4 (l ++ more))
      rw [HL.out] at q1 q2 q3
      rw [hlen] at q4 q5
      have Q5 := Lib.hid q5
      have Q3 := Lib.hid q3
      have SV := Lib.hid (fun W => salvage_any (b.extract 0 (endAt (l ++ more) (n + n'))) W (by rw [ByteArray.size_extract]; omega))
      rw [q5] at SV
      clear q5 q3 hscn LE1 LE2 LSC LW LB1 LB2
      go_wp2_with fail
      (with_reducible refine (SC.out _).mono ?_)
      rintro e' w7 ⟨v7, rfl, ho7, hb7⟩
      obtain ⟨nv, cv, Av, rfl⟩ := own_value ho7
      obtain rfl : nv = (entsAt 4 (l ++ more)).length := own_len ho7
      have HB8 : Hid (Below w.heap.size w w7) := Lib.hid (HB7.out.trans (hb7.mono HB7.out.size))
      rw [HES.out] at ho7 ⊢
      have HO7 := Lib.hid ho7
      clear ho7 hb7 SC
      rw [hlen] at HO7 ⊢
      have hz4 : endAt (l ++ more) 0 = 4 := rfl
      go_wp2_with fail
      go_loopw [11, 12] (fun en i wr => ∃ k : Nat, k ≤ n + n' ∧ i = .int .i64 k ∧ en = .int .i64 (endAt (l ++ more) k : Int) ∧ Hid (Below w7.heap.size w7 wr)) (fun _ i _ => n + n' - (intOf i).toNat)
      case atStart => exact ⟨0, by omega, rfl, by rw [hz4]; rfl, Lib.hid (Below.refl _ _)⟩
      case round =>
        obtain ⟨k, hk, rfl, rfl, HK⟩ := hrel
        by_cases hlt : k < n + n'
        · have hkL : k < (l ++ more).length := by omega
          obtain ⟨g, rfl, hrow⟩ := ent_at HO7.out k hlt (by rw [HES.out]; exact hkL)
          have hent : (entsAt 4 (l ++ more))[k]'(by rw [HES.out]; exact hkL) = (endAt (l ++ more) k, (l ++ more)[k]) := Option.some.inj ((List.getElem?_eq_getElem _).symm.trans (EN.out k hkL))
          rw [hent] at hrow
          have hnx := EX.out k hkL
          have hmx := EL.out (k + 1)
          rw [hlen] at hmx
          have HRW := Lib.hid hrow
          have hzo := HZZ.out _ (List.getElem_mem hkL)
          obtain ⟨o, ho⟩ : ∃ o, (l ++ more)[k] = o := ⟨_, rfl⟩
          dsimp only at HRW
          rw [ho] at HRW hnx hzo
          have HNX := Lib.hid hnx
          have SP := Lib.hid (fun W => span_any (endAt (l ++ more) k) o W hzo)
          have Q3k : Hid (k = n → ((a.extract 0 (endAt (l ++ more) k)).toList == (b.extract 0 (endAt (l ++ more) k)).toList) = true) := Lib.hid (fun h => by rw [h, Q3.out]; exact beq_self_eq_true _)
          have q1k : k = n → endAt (l ++ more) k ≤ a.size := fun h => by rw [h]; exact q1
          obtain ⟨en, hen⟩ : ∃ en, endAt (l ++ more) k = en := ⟨_, rfl⟩
          rw [hen] at HRW hnx SP Q3k q1k ⊢
          have HEN := Lib.hid hen
          clear ho hen hent hrow hkL
          have hki : (k : Int) < ((n + n' : Nat) : Int) := by omega
          go_upto_region 12 with fail
          go_cut [100] (fun v100 wx => v100 = .bool false ∧ Hid (Below w7.heap.size w7 wx))
          case first =>
            by_cases hkn : k = n
            · have kb : ((k : Int) == (n : Int)) = true := by rw [beq_iff_eq]; omega
              have hq := Q3k.out hkn
              have hqa := q1k hkn
              have hj2 : en ≤ b.size := by omega
              have hd1 : decide (a.size < en) = false := by rw [decide_eq_false_iff_not]; omega
              have hd2 : decide (b.size < en) = false := by rw [decide_eq_false_iff_not]; omega
              have hi1 : (en : Int) ≤ (a.size : Int) := by omega
              have hi2 : (en : Int) ≤ (b.size : Int) := by omega
              clear hkn q1k
              go_quiet (fail)
              go_wp2
              go_meet
              exact ⟨rfl, Lib.hid (below_drewN HK.out _)⟩
            · have kb : ((k : Int) == (n : Int)) = false := by rw [beq_eq_false_iff_ne]; omega
              clear hkn q1k
              go_quiet (fail)
              go_wp2
              go_meet
              exact ⟨rfl, Lib.hid (below_drewN HK.out _)⟩
          case rest =>
            obtain ⟨rfl, HKc⟩ := hcut
            obtain ⟨r1, r2⟩ := HRW.out wc HKc.out
            have hes := entA_size en o
            go_wp2_with fail
            (with_reducible refine (SP.out _).mono ?_)
            rintro e' w8 ⟨rfl, hb8⟩
            have HK8 := Lib.hid (HKc.out.trans (hb8.mono HKc.out.size))
            clear hb8 SP r1 r2 hes
            have t1 : ((en : Int) != (en : Int)) = false := by simp
            have t2 : decide (9 + (o.2.size : Int) < 1) = false := by rw [decide_eq_false_iff_not]; omega
            go_wp2
            go_roundw
            case rel => exact ⟨k + 1, by omega, by go_num, by rw [HNX.out, HEN.out]; go_num, HK8⟩
            case measure => simp [intOf]; omega
        · obtain rfl : k = n + n' := by omega
          have HBk : Hid (Below w.heap.size w wr) := Lib.hid (HB8.out.trans (HK.out.mono HB8.out.size))
          obtain ⟨en, hen⟩ : ∃ en, endAt (l ++ more) (n + n') = en := ⟨_, rfl⟩
          rw [hen] at SV q4 ⊢
          clear hen
          have hi2 : (en : Int) ≤ (b.size : Int) := by omega
          have hd2 : decide ((en : Int) < (b.size : Int)) = true := by rw [decide_eq_true_eq]; omega
          go_wp2_with fail
          (with_reducible refine (SV.out _).mono ?_)
          rintro e' w8 ⟨v8, rfl, ho8, hb8⟩
          obtain ⟨nv, cv8, Av8, rfl⟩ := own_value ho8
          obtain rfl : nv = (entsAt 4 (l ++ more)).length := own_len ho8
          have HB9 := Lib.hid (HBk.out.trans (hb8.mono HBk.out.size))
          clear ho8 hb8 SV
          rw [HES.out, hlen]
          go_wp2_with fail
          (with_reducible refine (AW.out _).mono ?_)
          rintro e' w9 ⟨rfl, hb9⟩
          have HB10 := Lib.hid (HB9.out.trans (hb9.mono HB9.out.size))
          clear hb9 AW
          go_wp2
          go_ret
          exact ⟨rfl, HB10.out⟩
    · have f1 : (f != 0) = true := by rw [bne_iff_ne]; exact hf
      have f2 : (f == 0) = false := by rw [beq_eq_false_iff_ne]; exact hf
      have fb : b.toList.isEmpty = true := LE2.out hf
      clear hf
      go_wp2_with fail
      (with_reducible refine (AW.out _).mono ?_)
      rintro e' w7 ⟨rfl, hb7⟩
      have HB8 := Lib.hid (HB7.out.trans (hb7.mono HB7.out.size))
      clear hb7 AW
      go_wp2
      go_ret
      exact ⟨rfl, HB8.out⟩
  · have e1 : (e != 0) = true := by rw [bne_iff_ne]; exact he
    have e2 : (e == 0) = false := by rw [beq_eq_false_iff_ne]; exact he
    have ea : a.toList.isEmpty = true := LE1.out he
    clear he
    by_cases hf : f = 0
    · subst hf
      go_wp2_with fail
      (with_reducible refine (AW.out _).mono ?_)
      rintro e' w7 ⟨rfl, hb7⟩
      have HB8 := Lib.hid (HB7.out.trans (hb7.mono HB7.out.size))
      clear hb7 AW
      go_wp2
      go_ret
      exact ⟨rfl, HB8.out⟩
    · have f1 : (f != 0) = true := by rw [bne_iff_ne]; exact hf
      have f2 : (f == 0) = false := by rw [beq_eq_false_iff_ne]; exact hf
      have fb : b.toList.isEmpty = true := LE2.out hf
      clear hf
      go_wp2_with fail
      (with_reducible refine (AW.out _).mono ?_)
      rintro e' w7 ⟨rfl, hb7⟩
      have HB8 := Lib.hid (HB7.out.trans (hb7.mono HB7.out.size))
      clear hb7 AW
      go_wp2
      go_ret
      exact ⟨rfl, HB8.out⟩
end Go.Proofs.Ytpfccicahfncbaa
