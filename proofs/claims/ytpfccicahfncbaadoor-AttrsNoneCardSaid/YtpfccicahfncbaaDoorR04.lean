/- Walks: the reference's Rune, runes, Check (seat pa.D: the tables of utf8 lie at the variables 2 and 3). Conditions: the tables are there. -/
import Derived.Test.YtpfccicahfncbaaDoorR04P
import Derived.Lib.QuoteLoop
namespace Go.Proofs.YtpfccicahfncbaaDoor
open Go.RowKit Wir
set_option linter.unusedVariables false
set_option linter.unusedSimpArgs false
abbrev Tabs (w : World) : Prop := Lib.Utf8Tabs 2 3 w
theorem elemRune : Elem1 Tryd.prog 109 21 (.int .i32 0) 4 := Elem1.of (by kernel_rfl) (by kernel_rfl) rfl
def rnV (L : List Nat) : List Value := L.map fun (r : Nat) => Value.int .i32 (r : Int)
def rnS (s : ByteArray) : Nat × Nat := if (Lib.decodeGo s).1 = 65533 ∧ (Lib.decodeGo s).2 ≤ 1 then (0, 0) else Lib.decodeGo s
set_option maxRecDepth 100000 in
theorem rune_any (s : ByteArray) (w : World) (hT : Tabs w) :
    Calls Tryd.prog 74 #[.string s] w fun e w' => e = .returned (.tuple #[.int .i32 ((rnS s).1 : Int), .int .i64 ((rnS s).2 : Int)]) ∧ Below w.heap.size w w' := by
  have C := Lib.hid (Tryd.utf8_DecodeRuneInString s w hT)
  have E : Hid (rnS s = if (Lib.decodeGo s).1 = 65533 ∧ (Lib.decodeGo s).2 ≤ 1 then (0, 0) else Lib.decodeGo s) := Lib.hid rfl
  obtain ⟨r, n, hd⟩ : ∃ r n, Lib.decodeGo s = (r, n) := ⟨_, _, rfl⟩
  rw [hd] at C E
  clear hd
  generalize rnS s = Z at E ⊢
  by_cases h1 : r = 65533
  · by_cases h2 : n ≤ 1
    · obtain rfl : Z = (0, 0) := E.out.trans (if_pos ⟨h1, h2⟩)
      have b1 : ((r : Int) == 65533) = true := by rw [beq_iff_eq]; omega
      have b2 : (n : Int) ≤ 1 := by omega
      clear h1 E
      go_enter Tryd.func74, Tryd.ntmps74
      go_wp2_with fail
      (with_reducible refine C.out.mono ?_)
      rintro e w1 ⟨rfl, hb⟩
      go_wp2
      go_ret2
      exact ⟨rfl, hb⟩
    · obtain rfl : Z = (r, n) := E.out.trans (if_neg (fun h => h2 h.2))
      have b1 : ((r : Int) == 65533) = true := by rw [beq_iff_eq]; omega
      have b2 : ¬ (n : Int) ≤ 1 := by omega
      clear h1 E
      go_enter Tryd.func74, Tryd.ntmps74
      go_wp2_with fail
      (with_reducible refine C.out.mono ?_)
      rintro e w1 ⟨rfl, hb⟩
      go_wp2
      go_ret2
      exact ⟨rfl, hb⟩
  · obtain rfl : Z = (r, n) := E.out.trans (if_neg (fun h => h1 h.1))
    have b1 : ((r : Int) == 65533) = false := by rw [beq_eq_false_iff_ne]; omega
    clear h1 E
    go_enter Tryd.func74, Tryd.ntmps74
    go_wp2_with fail
    (with_reducible refine C.out.mono ?_)
    rintro e w1 ⟨rfl, hb⟩
    go_wp2
    go_ret2
    exact ⟨rfl, hb⟩
theorem decode_fits (s : ByteArray) (p : Nat) (h : p < s.size) : p + (Utf8.decode s p).2 ≤ s.size := by
  have hz : (s.extract p s.size).size = s.size - p := by rw [ByteArray.size_extract]; omega
  rw [← decode_part s p h]
  unfold Lib.decodeGo
  rw [if_neg (by rw [hz]; omega)]
  have := Lib.width_le (s.extract p s.size) (by rw [hz]; omega)
  omega
theorem ext_from (s : ByteArray) (p n : Nat) : (s.extract p s.size).extract n (s.extract p s.size).size = s.extract (p + n) s.size := by
  rw [ByteArray.extract_extract]
  congr 1
  rw [ByteArray.size_extract]; omega
/-- The runes of a name. -/
def rnL (s : ByteArray) : List Nat := rnF s s.size 0
theorem rnS_part (s : ByteArray) (p : Nat) (h : p < s.size) : rnS (s.extract p s.size) = if noRune s p = true then (0, 0) else Utf8.decode s p := by
  have hn := noRune_iff s p h
  unfold rnS
  rw [decode_part s p h]
  by_cases hb : noRune s p = true
  · rw [if_pos hb, if_pos (hn.1 hb)]
  · rw [if_neg hb, if_neg (fun hh => hb (hn.2 hh))]
set_option maxRecDepth 100000 in
set_option maxHeartbeats 1000000 in
theorem runes_any (s : ByteArray) (w : World) (hT : Tabs w) (hs : s.size ≤ 255) :
    Calls Tryd.prog 64 #[.string s] w fun e w' => ∃ v, e = .returned (.tuple #[v, .bool (whR s).2]) ∧ ((whR s).2 = true → w'.ownsRow w.heap.size 21 1 v (rnL s).length (rnV (rnL s))) ∧ Below w.heap.size w w' := by
  have HT := Lib.hid hT
  clear hT
  have hx0 : s.extract 0 s.size = s := by simp
  go_enter Tryd.func64, Tryd.ntmps64
  go_wp2
  go_loopw [0, 4] (fun t v wr => ∃ (p b : Nat) (L : List Nat), p ≤ s.size ∧ t = .string (s.extract p s.size) ∧ L.length ≤ p ∧ s.size ≤ p + b ∧ Hid (wr.ownsRow w.heap.size 21 1 v L.length (rnV L) ∧ Below w.heap.size w wr ∧ whF s b p L.length = whR s ∧ L ++ rnF s b p = rnL s)) (fun t _ _ => match t with | .string x => x.size | _ => 0)
  case atStart => exact ⟨0, s.size, [], by omega, by rw [hx0], by simp, by omega, Lib.hid ⟨World.ownsRow_nil _ _ _ _, Below.refl _ _, rfl, rfl⟩⟩
  case round =>
    obtain ⟨p, b, L, hp, rfl, hL, hb, HI⟩ := hrel
    have hz : (s.extract p s.size).size = s.size - p := by rw [ByteArray.size_extract]; omega
    by_cases hlt : p < s.size
    · have RP := rnS_part s p hlt
      have C := Lib.hid (rune_any (s.extract p s.size) wr (Utf8Tabs_below HT.out (HI.out.2.1)))
      obtain ⟨b, rfl⟩ : ∃ b', b = b' + 1 := ⟨b - 1, by omega⟩
      have hz0 : (0 : Int) < ((s.extract p s.size).size : Int) := by omega
      by_cases hn : noRune s p = true
      · rw [RP, if_pos hn] at C
        have HF : Hid ((whR s).2 = false) := Lib.hid (by rw [← HI.out.2.2.1, whF, if_pos hlt, if_pos hn])
        clear RP hn hz
        generalize s.extract p s.size = t at *
        go_wp2_with fail
        (with_reducible refine C.out.mono ?_)
        rintro e w1 ⟨rfl, hb1⟩
        have HB := Lib.hid (HI.out.2.1.trans (hb1.mono HI.out.2.1.size))
        clear hb1 C
        go_wp2
        go_ret2
        exact ⟨.slice none 0 0, by rw [HF.out]; rfl, (fun h => absurd (HF.out.symm.trans h) (by decide)), HB.out⟩
      · rw [RP, if_neg hn] at C
        have hw := rune_wide s p hlt
        have hq := decode_fits s p hlt
        have HS : Hid (whF s b (p + (Utf8.decode s p).2) (L.length + 1) = whR s ∧ (L ++ [(Utf8.decode s p).1]) ++ rnF s b (p + (Utf8.decode s p).2) = rnL s) := Lib.hid (by
          obtain ⟨_, _, h3, h4⟩ := HI.out
          rw [whF, if_pos hlt, if_neg hn] at h3
          rw [rnF, if_pos hlt, if_neg hn] at h4
          exact ⟨h3, by rw [List.append_assoc]; exact h4⟩)
        clear RP hn
        have HX : Hid ((s.extract p s.size).extract (Utf8.decode s p).2 (s.extract p s.size).size = s.extract (p + (Utf8.decode s p).2) s.size) := Lib.hid (ext_from s p _)
        generalize (Utf8.decode s p).1 = r at *
        generalize (Utf8.decode s p).2 = n at *
        generalize s.extract p s.size = t at *
        have hn0 : ((n : Int) == 0) = false := by rw [beq_eq_false_iff_ne]; omega
        go_wp2_with fail
        (with_reducible refine C.out.mono ?_)
        rintro e w1 ⟨rfl, hb1⟩
        have HO : Hid (w1.ownsRow w.heap.size 21 1 u4 L.length (rnV L) ∧ Below w.heap.size w w1) := Lib.hid ⟨own_below HI.out.1 hb1, HI.out.2.1.trans (hb1.mono HI.out.2.1.size)⟩
        have hle := HO.out.2.size
        clear hb1 C HI
        have hl1 : L.length ≤ 4611686018427387904 := by omega
        have hl2 : (L.length + 1) * 4 ≤ 140737488355328 := by omega
        go_wp2_with (at_builtin; refine append1_new elemRune rfl _ _ rfl w.heap.size _ L.length _ rfl HO.out.1 _ rfl rfl hl1 hl2 hle ?_; intro v' w' ho' hg')
        have HR' : Hid (w'.ownsRow w.heap.size 21 1 v' (L ++ [r]).length (rnV (L ++ [r])) ∧ Below w.heap.size w w') := Lib.hid (by
          obtain ⟨r1, r4⟩ := HO.out
          exact ⟨by rw [List.length_append, List.length_singleton]; unfold rnV; rw [List.map_append]; exact ho', below_grown r4 hg' (fun x hx => own_ge r1 _ hx)⟩)
        clear ho' hg' HO hle
        go_wp2
        go_roundw
        case rel => exact ⟨p + n, b, L ++ [r], by omega, by rw [← HX.out, hz], by simp; omega, by omega, Lib.hid ⟨HR'.out.1, HR'.out.2, by rw [List.length_append]; exact HS.out.1, HS.out.2⟩⟩
        case measure => simp; omega
    · obtain rfl : p = s.size := by omega
      have HE : Hid (whR s = (L.length, true) ∧ rnL s = L) := Lib.hid (by
        obtain ⟨_, _, h3, h4⟩ := HI.out
        refine ⟨by rw [← h3, whF_end _ _ _ _ (Nat.lt_irrefl _)], ?_⟩
        rw [← h4]
        cases b with
        | zero => unfold rnF; rw [List.append_nil]
        | succ b => unfold rnF; rw [if_neg (Nat.lt_irrefl _), List.append_nil])
      have hz0 : ((s.extract s.size s.size).size : Int) = 0 := by omega
      clear hz
      generalize s.extract s.size s.size = t at *
      go_wp2
      go_ret2
      exact ⟨_, by rw [HE.out.1]; rfl, fun _ => by rw [HE.out.2]; exact HI.out.1, HI.out.2.1⟩
theorem rnF_none (s : ByteArray) (b p : Nat) (h : ¬ p < s.size) : rnF s b p = [] := by
  cases b with
  | zero => rfl
  | succ b => rw [rnF, if_neg h]
theorem rnL_nil (s : ByteArray) (h : s.size = 0) : rnL s = [] := rnF_none _ _ _ (by omega)
/-- What Check says, by the runes. -/
theorem nmE_runes (s : ByteArray) : nmE s = if s.size < 1 ∨ 255 < s.size ∨ dots s = true then 10 else if (whR s).2 = false ∨ 64 < (rnL s).length then 10 else if (rnL s).any badRune = true then 10 else 0 := by
  unfold nmE
  cases hw : (whR s).2 with
  | false => simp
  | true =>
    obtain ⟨h1, h2⟩ := whF_runes s s.size 0 0 hw
    have e1 : (whR s).1 = (rnL s).length := by unfold whR rnL; omega
    have e2 : ctR s = (rnL s).any badRune := h2
    rw [e1, e2]
    have h0 : (rnL s).length < 1 ↔ s.size < 1 := by
      constructor
      · intro h
        rcases Nat.lt_or_ge s.size 1 with hh | hh
        · exact hh
        · exfalso
          have : rnL s = (Utf8.decode s 0).1 :: rnF s (s.size - 1) (0 + (Utf8.decode s 0).2) := by
            unfold rnL
            obtain ⟨b, hb⟩ : ∃ b, s.size = b + 1 := ⟨s.size - 1, by omega⟩
            have hnr : noRune s 0 ≠ true := by
              intro hn
              unfold whR at hw
              rw [hb, whF, if_pos (by omega), if_pos hn] at hw
              cases hw
            rw [hb, rnF, if_pos (by omega), if_neg hnr]; rfl
          rw [this] at h; simp at h
      · intro h; rw [rnL_nil s (by omega)]; simp
    simp only [h0, Bool.true_eq_false, false_or]
    by_cases a1 : s.size < 1 <;> by_cases a2 : 255 < s.size <;> by_cases a3 : dots s = true <;> by_cases a4 : 64 < (rnL s).length <;> simp [a1, a2, a3, a4]
set_option maxRecDepth 100000 in
set_option maxHeartbeats 1000000 in
theorem rncheck_any (s : ByteArray) (w : World) (hT : Tabs w) (hs : s.size ≤ 4611686018427387904) :
    Calls Tryd.prog 48 #[.string s] w fun e w' => e = .returned (.int .i64 (nmE s)) ∧ Below w.heap.size w w' := by
  have E := Lib.hid (nmE_runes s)
  by_cases h0 : s.size < 1
  · have Z : Hid (nmE s = 10) := Lib.hid (by rw [E.out, if_pos (.inl h0)])
    go_enter Tryd.func48, Tryd.ntmps48
    go_wp2
    go_ret
    exact ⟨by rw [Z.out]; rfl, Below.refl _ _⟩
  · by_cases h1 : 255 < s.size
    · have Z : Hid (nmE s = 10) := Lib.hid (by rw [E.out, if_pos (.inr (.inl h1))])
      go_enter Tryd.func48, Tryd.ntmps48
      go_wp2
      go_ret
      exact ⟨by rw [Z.out]; rfl, Below.refl _ _⟩
    · cases hd : dots s with
      | true =>
        have Z : Hid (nmE s = 10) := Lib.hid (by rw [E.out, if_pos (.inr (.inr hd))])
        unfold dots at hd
        rw [Bool.or_eq_true] at hd
        cases d1 : (s.toList == [46]) with
        | true =>
          clear hd
          go_enter Tryd.func48, Tryd.ntmps48
          go_wp2
          go_ret
          exact ⟨by rw [Z.out]; rfl, Below.refl _ _⟩
        | false =>
          have d2 : (s.toList == [46, 46]) = true := by
            rcases hd with h | h
            · rw [d1] at h; cases h
            · exact h
          clear hd
          go_enter Tryd.func48, Tryd.ntmps48
          go_wp2
          go_ret
          exact ⟨by rw [Z.out]; rfl, Below.refl _ _⟩
      | false =>
        obtain ⟨d1, d2⟩ := dots_of s hd
        have hs2 : s.size ≤ 255 := by omega
        have C := Lib.hid (runes_any s w hT hs2)
        have E2 : Hid (nmE s = if (whR s).2 = false ∨ 64 < (rnL s).length then 10 else if (rnL s).any badRune = true then 10 else 0) := Lib.hid (by rw [E.out, if_neg (by rw [hd]; rintro (h | h | h) <;> first | omega | cases h)])
        clear hd E
        go_enter Tryd.func48, Tryd.ntmps48
        go_wp2_with fail
        (with_reducible refine C.out.mono ?_)
        rintro e w1 ⟨v, rfl, hv, hb⟩
        have HV := Lib.hid hv
        have HB := Lib.hid hb
        clear hv hb C
        cases hw : (whR s).2 with
        | false =>
          have Z : Hid (nmE s = 10) := Lib.hid (by rw [E2.out, if_pos (.inl hw)])
          clear E2
          go_wp2
          go_ret
          exact ⟨by rw [Z.out]; rfl, HB.out⟩
        | true =>
          have HO := Lib.hid (HV.out hw)
          by_cases hl : 64 < (rnL s).length
          · have Z : Hid (nmE s = 10) := Lib.hid (by rw [E2.out, if_pos (.inr hl)])
            obtain ⟨A, c, rfl, hrd⟩ := own_reads HO.out
            clear E2
            go_wp2
            go_ret
            exact ⟨by rw [Z.out]; rfl, HB.out⟩
          · have hle : (rnL s).length ≤ 64 := by omega
            have E3 : Hid (nmE s = if (rnL s).any badRune = true then 10 else 0) := Lib.hid (by rw [E2.out, if_neg (by rw [hw]; rintro (h | h) <;> first | omega | cases h)])
            clear E2 hl
            obtain ⟨A, c, rfl, hrd⟩ := own_reads HO.out
            have HR := Lib.hid hrd
            clear hrd
            go_wp2
            go_loopw [5] (fun i wr => ∃ k : Nat, k ≤ (rnL s).length ∧ i = .int .i64 (k : Int) ∧ wr = w1 ∧ Hid (((rnL s).take k).any badRune = false)) (fun i _ => (rnL s).length - (intOf i).toNat)
            case atStart => exact ⟨0, by omega, rfl, rfl, Lib.hid rfl⟩
            case round =>
              obtain ⟨k, hk, rfl, rfl, HK⟩ := hrel
              by_cases hlt : k < (rnL s).length
              · obtain ⟨ad, rfl, _, hcell⟩ := HR.out.2 (by omega)
                have hc : wr.cell? (ad.add k) = some (.int .i32 (((rnL s)[k]'hlt : Nat) : Int)) := by
                  refine hcell k _ ?_
                  unfold rnV
                  simp [hlt]
                have hki : (k : Int) < ((rnL s).length : Int) := by omega
                have HS : Hid (((rnL s).take (k + 1)).any badRune = badRune ((rnL s)[k]'hlt)) := Lib.hid (by rw [List.take_add_one, List.getElem?_eq_getElem hlt, List.any_append, HK.out]; simp)
                have HA : Hid (badRune ((rnL s)[k]'hlt) = true → nmE s = 10) := Lib.hid (fun h => by rw [E3.out, if_pos (List.any_eq_true.2 ⟨_, List.getElem_mem hlt, h⟩)])
                have HD : Hid (badRune ((rnL s)[k]'hlt) = decide ((rnL s)[k]'hlt < 32 ∨ (rnL s)[k]'hlt = 127 ∨ (rnL s)[k]'hlt = 47)) := Lib.hid rfl
                generalize (rnL s)[k]'hlt = r at *
                by_cases g1 : r < 32
                · have Z := Lib.hid (HA.out (by rw [HD.out]; exact decide_eq_true (.inl g1)))
                  have p1 : (r : Int) < 32 := by omega
                  clear HA HD g1 E3
                  go_wp2
                  go_ret
                  exact ⟨by rw [Z.out]; rfl, HB.out⟩
                · have p1 : ¬ (r : Int) < 32 := by omega
                  by_cases g2 : r = 127
                  · have Z := Lib.hid (HA.out (by rw [HD.out]; exact decide_eq_true (.inr (.inl g2))))
                    have p2 : ((r : Int) == 127) = true := by rw [beq_iff_eq]; omega
                    clear HA HD g1 g2 E3
                    go_wp2
                    go_ret
                    exact ⟨by rw [Z.out]; rfl, HB.out⟩
                  · have p2 : ((r : Int) == 127) = false := by rw [beq_eq_false_iff_ne]; omega
                    by_cases g3 : r = 47
                    · have Z := Lib.hid (HA.out (by rw [HD.out]; exact decide_eq_true (.inr (.inr g3))))
                      have p3 : ((r : Int) == 47) = true := by rw [beq_iff_eq]; omega
                      clear HA HD g1 g2 g3 E3
                      go_wp2
                      go_ret
                      exact ⟨by rw [Z.out]; rfl, HB.out⟩
                    · have p3 : ((r : Int) == 47) = false := by rw [beq_eq_false_iff_ne]; omega
                      have Z : Hid (((rnL s).take (k + 1)).any badRune = false) := Lib.hid (by rw [HS.out, HD.out]; exact decide_eq_false (by omega))
                      clear HA HD HS g1 g2 g3
                      go_wp2
                      go_roundw
                      case rel => exact ⟨k + 1, by omega, by go_num, trivial, Z⟩
                      case measure => simp [intOf]; omega
              · obtain rfl : k = (rnL s).length := by omega
                have Z : Hid (nmE s = 0) := Lib.hid (by rw [E3.out, if_neg (by have := HK.out; rw [List.take_length] at this; rw [this]; decide)])
                clear E3
                go_wp2
                go_ret
                exact ⟨by rw [Z.out]; rfl, HB.out⟩
end Go.Proofs.YtpfccicahfncbaaDoor
