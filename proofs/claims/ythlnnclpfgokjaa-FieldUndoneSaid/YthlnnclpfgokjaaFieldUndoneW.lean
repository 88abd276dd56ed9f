/- Walk: the law FieldUndone returns true. -/
import Derived.Test.YthlnnclpfgokjaaUndone
import Derived.Test.YthlnnclpfgokjaaFieldLawsW
namespace Go.Proofs.Ythlnnclpfgokjaa
open Go.RowKit Gf
set_option linter.unusedVariables false
set_option maxRecDepth 100000 in
set_option maxHeartbeats 4000000 in
theorem fieldUndone_walk (n0 : Int) (a b c : ByteArray) (h1 : -9223372036854775808 ≤ n0) (h2 : n0 ≤ 9223372036854775807) (w : World) (ha : a.size ≤ 140737488351232) (hb : b.size ≤ 140737488351232) (hc : c.size ≤ 140737488351232) :
    Calls Try.prog 10 #[.int .i64 n0, .string a, .string b, .string c] w fun e w' => e = .returned (.bool true) ∧ Below w.heap.size w w' := by
  have t1 := tmod_bd n0 8 (by omega)
  obtain ⟨b1, b2⟩ := t1
  obtain ⟨n, hR⟩ : ∃ n : Nat, 1 + n0.tmod 8 % 8 = (n : Int) := ⟨(1 + n0.tmod 8 % 8).toNat, by omega⟩
  have n1 : 1 ≤ n := by omega
  have n8 : n ≤ 8 := by omega
  have n64 : n ≤ 64 := by omega
  have HA := Lib.hid ha
  have HB := Lib.hid hb
  have HC := Lib.hid hc
  clear ha hb hc
  go_enter Try.func10, Try.ntmps10
  go_wp2_with fail
  refine (awake_any _).mono ?_; rintro e w1 ⟨rfl, hb1⟩
  have B := Lib.hid hb1
  clear hb1
  go_wp2_with fail
  clear hR
  refine (square_any a n _ HA.out n1 n8).mono ?_
  rintro e w2 ⟨Ax, cx, X, rfl, hx, hbn⟩
  have Hx := Lib.hid hx
  clear hx
  replace B := Lib.hid (B.out.trans (hbn.mono B.out.size))
  clear hbn
  go_wp2_with fail
  refine (square_any b n _ HB.out n1 n8).mono ?_
  rintro e w3 ⟨Ay, cy, Y, rfl, hy, hbn⟩
  replace Hx := Lib.hid (Hx.out.below hbn)
  have Hy := Lib.hid hy
  clear hy
  replace B := Lib.hid (B.out.trans (hbn.mono B.out.size))
  clear hbn
  go_wp2_with fail
  refine (square_any c n _ HC.out n1 n8).mono ?_
  rintro e w4 ⟨Az, cz, Z, rfl, hz, hbn⟩
  replace Hx := Lib.hid (Hx.out.below hbn)
  replace Hy := Lib.hid (Hy.out.below hbn)
  have Hz := Lib.hid hz
  clear hz
  replace B := Lib.hid (B.out.trans (hbn.mono B.out.size))
  clear hbn
  go_wp2_with fail
  refine (prod_mx _ _ Hx.out Hy.out n1 n64).mono ?_
  rintro e w5 ⟨Ap, cp, rfl, hp, hbn⟩
  replace Hx := Lib.hid (Hx.out.below hbn)
  replace Hy := Lib.hid (Hy.out.below hbn)
  replace Hz := Lib.hid (Hz.out.below hbn)
  have Hp := Lib.hid hp
  clear hp
  replace B := Lib.hid (B.out.trans (hbn.mono B.out.size))
  clear hbn
  go_wp2_with fail
  refine (prod_mx _ _ Hp.out Hz.out n1 n64).mono ?_
  rintro e w6 ⟨Aq, cq, rfl, hq, hbn⟩
  replace Hx := Lib.hid (Hx.out.below hbn)
  replace Hy := Lib.hid (Hy.out.below hbn)
  replace Hz := Lib.hid (Hz.out.below hbn)
  replace Hp := Lib.hid (Hp.out.below hbn)
  have Hq := Lib.hid hq
  clear hq
  replace B := Lib.hid (B.out.trans (hbn.mono B.out.size))
  clear hbn
  go_wp2_with fail
  refine (prod_mx _ _ Hy.out Hz.out n1 n64).mono ?_
  rintro e w7 ⟨Ar, cr, rfl, hr, hbn⟩
  replace Hx := Lib.hid (Hx.out.below hbn)
  replace Hy := Lib.hid (Hy.out.below hbn)
  replace Hz := Lib.hid (Hz.out.below hbn)
  replace Hp := Lib.hid (Hp.out.below hbn)
  replace Hq := Lib.hid (Hq.out.below hbn)
  have Hr := Lib.hid hr
  clear hr
  replace B := Lib.hid (B.out.trans (hbn.mono B.out.size))
  clear hbn
  go_wp2_with fail
  refine (prod_mx _ _ Hx.out Hr.out n1 n64).mono ?_
  rintro e w8 ⟨As, cs, rfl, hs, hbn⟩
  replace Hx := Lib.hid (Hx.out.below hbn)
  replace Hy := Lib.hid (Hy.out.below hbn)
  replace Hz := Lib.hid (Hz.out.below hbn)
  replace Hp := Lib.hid (Hp.out.below hbn)
  replace Hq := Lib.hid (Hq.out.below hbn)
  replace Hr := Lib.hid (Hr.out.below hbn)
  have Hs := Lib.hid hs
  clear hs
  replace B := Lib.hid (B.out.trans (hbn.mono B.out.size))
  clear hbn
  go_wp2_with fail
  refine (same_mx _ _ Hq.out Hs.out n64 (pm_assoc n X Y Z)).mono ?_
  rintro e w9 ⟨rfl, hbn⟩
  replace Hx := Lib.hid (Hx.out.below hbn)
  replace Hy := Lib.hid (Hy.out.below hbn)
  replace Hz := Lib.hid (Hz.out.below hbn)
  replace Hp := Lib.hid (Hp.out.below hbn)
  replace Hq := Lib.hid (Hq.out.below hbn)
  replace Hr := Lib.hid (Hr.out.below hbn)
  replace Hs := Lib.hid (Hs.out.below hbn)
  replace B := Lib.hid (B.out.trans (hbn.mono B.out.size))
  clear hbn
  go_wp2_with fail
  refine (unit_mx n _ n1 n64).mono ?_
  rintro e w10 ⟨Ao, co, rfl, ho, hbn⟩
  replace Hx := Lib.hid (Hx.out.below hbn)
  replace Hy := Lib.hid (Hy.out.below hbn)
  replace Hp := Lib.hid (Hp.out.below hbn)
  have Ho := Lib.hid ho
  clear ho
  replace B := Lib.hid (B.out.trans (hbn.mono B.out.size))
  clear hbn
  obtain ⟨U, hU⟩ : ∃ U, rk n X = U := ⟨_, rfl⟩
  obtain ⟨V, hV⟩ : ∃ V, rk n Y = V := ⟨_, rfl⟩
  obtain ⟨W, hW⟩ : ∃ W, rk n (pm n X Y) = W := ⟨_, rfl⟩
  have hUn : U ≤ n := by rw [← hU]; exact rk_le n X
  have hVn : V ≤ n := by rw [← hV]; exact rk_le n Y
  have hWU : W ≤ U := by rw [← hU, ← hW]; exact rk_prod_left n X Y
  have hWV : W ≤ V := by rw [← hV, ← hW]; exact rk_prod_right n X Y
  have EU := Lib.hid hU
  have EV := Lib.hid hV
  have EW := Lib.hid hW
  clear hU hV hW
  go_wp2_with fail
  refine (rank_mx _ Hx.out n1 n64).mono ?_
  rintro e w11 ⟨rfl, hbn⟩
  rw [EU.out]
  replace Hx := Lib.hid (Hx.out.below hbn)
  replace Hy := Lib.hid (Hy.out.below hbn)
  replace Hp := Lib.hid (Hp.out.below hbn)
  replace Ho := Lib.hid (Ho.out.below hbn)
  replace B := Lib.hid (B.out.trans (hbn.mono B.out.size))
  clear hbn
  go_wp2_with fail
  refine (rank_mx _ Hy.out n1 n64).mono ?_
  rintro e w12 ⟨rfl, hbn⟩
  rw [EV.out]
  replace Hx := Lib.hid (Hx.out.below hbn)
  replace Hy := Lib.hid (Hy.out.below hbn)
  replace Hp := Lib.hid (Hp.out.below hbn)
  replace Ho := Lib.hid (Ho.out.below hbn)
  replace B := Lib.hid (B.out.trans (hbn.mono B.out.size))
  clear hbn
  go_wp2_with fail
  refine (rank_mx _ Hp.out n1 n64).mono ?_
  rintro e w13 ⟨rfl, hbn⟩
  rw [EW.out]
  replace Hx := Lib.hid (Hx.out.below hbn)
  replace Hy := Lib.hid (Hy.out.below hbn)
  replace Hp := Lib.hid (Hp.out.below hbn)
  replace Ho := Lib.hid (Ho.out.below hbn)
  replace B := Lib.hid (B.out.trans (hbn.mono B.out.size))
  clear hbn
  by_cases hf : U < n
  · have hf2 : U < n := hf
    go_wp2_with fail
    refine (inv_no _ Hx.out n1 n64 (by rw [EU.out]; exact hf)).mono ?_
    rintro e w14 ⟨vi, rfl, hbn⟩
    replace Hx := Lib.hid (Hx.out.below hbn)
    replace Ho := Lib.hid (Ho.out.below hbn)
    replace B := Lib.hid (B.out.trans (hbn.mono B.out.size))
    clear hbn
    have hUB : ((U : Int) == (n : Int)) = false := by rw [beq_eq_false_iff_ne]; omega
    clear hf
    by_cases hUV : U ≤ V
    all_goals
      have hd1 : decide (U < W) = false := by rw [decide_eq_false_iff_not]; omega
      have hd2 : decide (V < W) = false := by rw [decide_eq_false_iff_not]; omega
      go_wp2
      clear hUB hd1 hd2
      go_loopw [30, 31] (fun v i wr => ∃ (r : Nat) (x : Int), r ≤ n ∧ x + 1 = r ∧ i = .int .i64 x ∧ Hid (wr.ownsRow w14.heap.size 9 1 v (n - r) (strV (mat (n - r) n (turned n X))) ∧ Below w14.heap.size w14 wr)) (fun _ i _ => (intOf i + 1).toNat)
      case atStart => exact ⟨n, (n : Int) - 1, by omega, by omega, rfl, Lib.hid ⟨by rw [Nat.sub_self]; exact World.ownsRow_nil _ _ _ _, Below.refl _ _⟩⟩
      case round =>
        obtain ⟨r, x, hr, hx, rfl, HR⟩ := hrel
        by_cases hr0 : 0 < r
        · obtain ⟨k, rfl⟩ : ∃ k : Nat, x = k := ⟨x.toNat, by omega⟩
          obtain rfl : r = k + 1 := by omega
          clear hx
          obtain ⟨ad, rfl, hbk, hck⟩ := (Reads.below Hx.out HR.out.2).str (k := k) (by omega)
          have hck1 := hck k (by omega)
          have hkn : (k : Int) < (n : Int) := by omega
          have hkn2 : k < n := by omega
          have hle := HR.out.2.size
          have hj1 : n - (k + 1) ≤ 4611686018427387904 := by omega
          have hj2 : (n - (k + 1) + 1) * 16 ≤ 140737488355328 := by omega
          have SE : Hid (strV (mat (n - (k + 1)) n (turned n X)) ++ [.string (sAt (mat n n X) k)] = strV (mat (n - k) n (turned n X))) := Lib.hid (turn_step n k X (by omega))
          clear hck
          generalize sAt (mat n n X) k = sk at *
          go_wp2_with (at_builtin; refine append1_new elemStr rfl _ _ rfl w14.heap.size _ _ _ rfl HR.out.1 _ rfl rfl hj1 hj2 hle ?_; intro v' w' ho' hg)
          have HR' : Hid (w'.ownsRow w14.heap.size 9 1 v' (n - k) (strV (mat (n - k) n (turned n X))) ∧ Below w14.heap.size w14 w') := Lib.hid ⟨by
            rw [SE.out, show n - (k + 1) + 1 = n - k from by omega] at ho'; exact ho', below_own HR.out.2 HR.out.1 hg⟩
          clear ho' hg
          go_roundw
          case rel => exact ⟨k, (k : Int) - 1, by omega, by omega, by first | rfl | go_num, HR'⟩
          case measure => simp [intOf]
        · obtain rfl : x = -1 := by omega
          obtain rfl : r = 0 := by omega
          have HR2 : Hid (wr.ownsRow w14.heap.size 9 1 u30 n (strV (mat n n (turned n X))) ∧ Below w14.heap.size w14 wr) := Lib.hid HR.out
          obtain ⟨At, ct, rfl, hrt⟩ := own_reads HR2.out.1
          have Ht : Hid (Mx wr At n (turned n X)) := Lib.hid hrt
          have hbn := HR2.out.2
          clear hx hr hr0 HR hrt
          replace Hx := Lib.hid (Hx.out.below hbn)
          replace Ho := Lib.hid (Ho.out.below hbn)
          replace B := Lib.hid (B.out.trans (hbn.mono B.out.size))
          clear hbn HR2
          go_wp2_with fail
          refine (rank_mx _ Ht.out n1 n64).mono ?_
          rintro e w15 ⟨rfl, hbn⟩
          rw [rk_turned, EU.out]
          replace Hx := Lib.hid (Hx.out.below hbn)
          replace Ho := Lib.hid (Ho.out.below hbn)
          replace B := Lib.hid (B.out.trans (hbn.mono B.out.size))
          clear hbn
          go_wp2
          go_ret
          exact ⟨rfl, B.out⟩
  · have hf2 : n ≤ U := by omega
    go_wp2_with fail
    refine (inv_mx _ Hx.out n1 n64 (by rw [EU.out]; exact hf)).mono ?_
    rintro e w14 ⟨Ai, ci, rfl, hi, hbn⟩
    replace Hx := Lib.hid (Hx.out.below hbn)
    replace Ho := Lib.hid (Ho.out.below hbn)
    have Hi := Lib.hid hi
    clear hi
    replace B := Lib.hid (B.out.trans (hbn.mono B.out.size))
    clear hbn
    have hUB : ((U : Int) == (n : Int)) = true := by rw [beq_iff_eq]; omega
    clear hf
    by_cases hUV : U ≤ V
    all_goals
      have hd1 : decide (U < W) = false := by rw [decide_eq_false_iff_not]; omega
      have hd2 : decide (V < W) = false := by rw [decide_eq_false_iff_not]; omega
      go_wp2
      clear hUB hd1 hd2
      go_loopw [30, 31] (fun v i wr => ∃ (r : Nat) (x : Int), r ≤ n ∧ x + 1 = r ∧ i = .int .i64 x ∧ Hid (wr.ownsRow w14.heap.size 9 1 v (n - r) (strV (mat (n - r) n (turned n X))) ∧ Below w14.heap.size w14 wr)) (fun _ i _ => (intOf i + 1).toNat)
      case atStart => exact ⟨n, (n : Int) - 1, by omega, by omega, rfl, Lib.hid ⟨by rw [Nat.sub_self]; exact World.ownsRow_nil _ _ _ _, Below.refl _ _⟩⟩
      case round =>
        obtain ⟨r, x, hr, hx, rfl, HR⟩ := hrel
        by_cases hr0 : 0 < r
        · obtain ⟨k, rfl⟩ : ∃ k : Nat, x = k := ⟨x.toNat, by omega⟩
          obtain rfl : r = k + 1 := by omega
          clear hx
          obtain ⟨ad, rfl, hbk, hck⟩ := (Reads.below Hx.out HR.out.2).str (k := k) (by omega)
          have hck1 := hck k (by omega)
          have hkn : (k : Int) < (n : Int) := by omega
          have hkn2 : k < n := by omega
          have hle := HR.out.2.size
          have hj1 : n - (k + 1) ≤ 4611686018427387904 := by omega
          have hj2 : (n - (k + 1) + 1) * 16 ≤ 140737488355328 := by omega
          have SE : Hid (strV (mat (n - (k + 1)) n (turned n X)) ++ [.string (sAt (mat n n X) k)] = strV (mat (n - k) n (turned n X))) := Lib.hid (turn_step n k X (by omega))
          clear hck
          generalize sAt (mat n n X) k = sk at *
          go_wp2_with (at_builtin; refine append1_new elemStr rfl _ _ rfl w14.heap.size _ _ _ rfl HR.out.1 _ rfl rfl hj1 hj2 hle ?_; intro v' w' ho' hg)
          have HR' : Hid (w'.ownsRow w14.heap.size 9 1 v' (n - k) (strV (mat (n - k) n (turned n X))) ∧ Below w14.heap.size w14 w') := Lib.hid ⟨by
            rw [SE.out, show n - (k + 1) + 1 = n - k from by omega] at ho'; exact ho', below_own HR.out.2 HR.out.1 hg⟩
          clear ho' hg
          go_roundw
          case rel => exact ⟨k, (k : Int) - 1, by omega, by omega, by first | rfl | go_num, HR'⟩
          case measure => simp [intOf]
        · obtain rfl : x = -1 := by omega
          obtain rfl : r = 0 := by omega
          have HR2 : Hid (wr.ownsRow w14.heap.size 9 1 u30 n (strV (mat n n (turned n X))) ∧ Below w14.heap.size w14 wr) := Lib.hid HR.out
          obtain ⟨At, ct, rfl, hrt⟩ := own_reads HR2.out.1
          have Ht : Hid (Mx wr At n (turned n X)) := Lib.hid hrt
          have hbn := HR2.out.2
          clear hx hr hr0 HR hrt
          replace Hx := Lib.hid (Hx.out.below hbn)
          replace Ho := Lib.hid (Ho.out.below hbn)
          replace Hi := Lib.hid (Hi.out.below hbn)
          replace B := Lib.hid (B.out.trans (hbn.mono B.out.size))
          clear hbn HR2
          go_wp2_with fail
          refine (rank_mx _ Ht.out n1 n64).mono ?_
          rintro e w15 ⟨rfl, hbn⟩
          rw [rk_turned, EU.out]
          replace Hx := Lib.hid (Hx.out.below hbn)
          replace Ho := Lib.hid (Ho.out.below hbn)
          replace Hi := Lib.hid (Hi.out.below hbn)
          replace B := Lib.hid (B.out.trans (hbn.mono B.out.size))
          clear hbn
          go_wp2_with fail
          refine (prod_mx _ _ Hi.out Hx.out n1 n64).mono ?_
          rintro e w16 ⟨Al, cl, rfl, hl, hbn⟩
          replace Hx := Lib.hid (Hx.out.below hbn)
          replace Ho := Lib.hid (Ho.out.below hbn)
          replace Hi := Lib.hid (Hi.out.below hbn)
          have Hl := Lib.hid hl
          clear hl
          replace B := Lib.hid (B.out.trans (hbn.mono B.out.size))
          clear hbn
          go_wp2_with fail
          refine (prod_mx _ _ Hx.out Hi.out n1 n64).mono ?_
          rintro e w17 ⟨Am, cm, rfl, hm, hbn⟩
          replace Hx := Lib.hid (Hx.out.below hbn)
          replace Ho := Lib.hid (Ho.out.below hbn)
          replace Hi := Lib.hid (Hi.out.below hbn)
          replace Hl := Lib.hid (Hl.out.below hbn)
          have Hm := Lib.hid hm
          clear hm
          replace B := Lib.hid (B.out.trans (hbn.mono B.out.size))
          clear hbn
          have IS := Lib.hid (inv_sides n X (by rw [EU.out]; omega))
          go_wp2_with fail
          refine (same_mx _ _ Hl.out Ho.out n64 IS.out.1).mono ?_
          rintro e w18 ⟨rfl, hbn⟩
          replace Hx := Lib.hid (Hx.out.below hbn)
          replace Ho := Lib.hid (Ho.out.below hbn)
          replace Hi := Lib.hid (Hi.out.below hbn)
          replace Hl := Lib.hid (Hl.out.below hbn)
          replace Hm := Lib.hid (Hm.out.below hbn)
          replace B := Lib.hid (B.out.trans (hbn.mono B.out.size))
          clear hbn
          go_wp2_with fail
          refine (same_mx _ _ Hm.out Ho.out n64 IS.out.2).mono ?_
          rintro e w19 ⟨rfl, hbn⟩
          replace Hx := Lib.hid (Hx.out.below hbn)
          replace Ho := Lib.hid (Ho.out.below hbn)
          replace Hi := Lib.hid (Hi.out.below hbn)
          replace Hl := Lib.hid (Hl.out.below hbn)
          replace Hm := Lib.hid (Hm.out.below hbn)
          replace B := Lib.hid (B.out.trans (hbn.mono B.out.size))
          clear hbn
          go_wp2
          go_ret
          exact ⟨rfl, B.out⟩
end Go.Proofs.Ythlnnclpfgokjaa
