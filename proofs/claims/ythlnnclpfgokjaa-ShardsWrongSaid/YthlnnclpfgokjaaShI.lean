/- Walk: shards.Rebuild. -/
import Derived.Test.YthlnnclpfgokjaaShH
namespace Go.Proofs.Ythlnnclpfgokjaa
open Go.RowKit Gf
set_option linter.unusedVariables false
theorem rebR_no {a : List ByteArray} {t : List Bool} {k : Int} (h : ¬ rebOk a t k) : rebR a t k = ([], 1) := by unfold rebR; rw [if_neg h]
set_option maxRecDepth 100000 in
theorem rebuild_bad (A : Option Addr) (n c : Nat) (ss : List ByteArray) (A' : Option Addr) (n' c' : Nat) (tt : List Bool) (k : Int) (w : World) (B B' : Nat) (h : Reads w B 1 A n (strV ss)) (h' : Reads w B' 1 A' n' (boolV tt))
    (hn : n ≤ 9223372036854775807) (hn' : n' ≤ 9223372036854775807) (hbad : ¬ rebOk ss tt k) :
    Calls Try.prog 49 #[.slice A n c, .slice A' n' c', .int .i64 k] w fun e w' => RetStrs w w' e (rebR ss tt k) := by
  have hl := h.len
  have hl' := h'.boolLen
  have X := Lib.hid (rebR_no hbad)
  have hcases : k < 1 ∨ 32 < k ∨ (1 ≤ k ∧ k ≤ 32 ∧ (n : Int) < k) ∨ (1 ≤ k ∧ k ≤ 32 ∧ k ≤ (n : Int) ∧ 64 < n) ∨ (1 ≤ k ∧ k ≤ 32 ∧ k ≤ (n : Int) ∧ n ≤ 64 ∧ n' ≠ n) := by
    unfold rebOk at hbad; omega
  clear hbad hl hl' h h'
  have HB := Lib.hid ((Below.refl w.heap.size w).alloc (Nat.le_refl _) (.cells #[.int .i64 k] 3))
  rcases hcases with h | h | ⟨h1, h2, h⟩ | ⟨h1, h2, h3, h⟩ | ⟨h1, h2, h3, h4, h⟩
  · go_enter Try.func49, Try.ntmps49
    go_wp2
    go_ret2
    exact retNil w 1 _ X.out HB.out
  · go_enter Try.func49, Try.ntmps49
    go_wp2
    go_ret2
    exact retNil w 1 _ X.out HB.out
  · go_enter Try.func49, Try.ntmps49
    go_wp2
    go_ret2
    exact retNil w 1 _ X.out HB.out
  · go_enter Try.func49, Try.ntmps49
    go_wp2
    go_ret2
    exact retNil w 1 _ X.out HB.out
  · have hne : ((n' : Int) != (n : Int)) = true := by rw [bne_iff_ne]; omega
    clear h
    go_enter Try.func49, Try.ntmps49
    go_wp2
    go_ret2
    exact retNil w 1 _ X.out HB.out
theorem strV_one (l : List ByteArray) : ∀ u ∈ strV l, u.oneCell' = true := by
  intro u hu; simp only [strV, List.mem_map] at hu; obtain ⟨b, _, rfl⟩ := hu; rfl
theorem pick_yes (ss : List ByteArray) (K : Nat) {tt : List Bool} {k : Nat} (h : tt.getD k false = true) :
    (pickL tt (k + 1)).length = (pickL tt k).length + 1 ∧ strV (someL ss tt (k + 1)) = strV (someL ss tt k) ++ [.string (sAt ss k)] ∧ strV (rowsL K tt (k + 1)) = strV (rowsL K tt k) ++ [.string (genRow K k)] := by
  unfold someL rowsL strV
  rw [pickL_succ, if_pos h]; simp
theorem pick_no (ss : List ByteArray) (K : Nat) {tt : List Bool} {k : Nat} (h : tt.getD k false = false) :
    pickL tt (k + 1) = pickL tt k ∧ someL ss tt (k + 1) = someL ss tt k ∧ rowsL K tt (k + 1) = rowsL K tt k := by
  have e : pickL tt (k + 1) = pickL tt k := by rw [pickL_succ, if_neg (by rw [h]; simp), List.append_nil]
  unfold someL rowsL
  rw [e]; exact ⟨rfl, rfl, rfl⟩
theorem cauchy_x (x : Int) (m : Nat) (c : Int) (hx : x = (m : Int)) (w : World) :
    Calls Try.prog 27 #[.int .i64 x, .int .i64 c] w fun e w' => RetStrs w w' e (cauR (m : Int) c) := by subst hx; exact cauchy_any _ _ _
set_option maxRecDepth 100000 in
set_option maxHeartbeats 4000000 in
theorem rebuild_any (A : Option Addr) (n c : Nat) (ss : List ByteArray) (A' : Option Addr) (n' c' : Nat) (tt : List Bool) (k : Int) (w : World) (B B' : Nat) (h : Reads w B 1 A n (strV ss)) (hB : B ≤ w.heap.size) (h' : Reads w B' 1 A' n' (boolV tt)) (hB' : B' ≤ w.heap.size)
    (hn : n ≤ 9223372036854775807) (hn' : n' ≤ 9223372036854775807) (hs : ∀ s ∈ ss, s.size ≤ 140737488355328) :
    Calls Try.prog 49 #[.slice A n c, .slice A' n' c', .int .i64 k] w fun e w' => RetStrs w w' e (rebR ss tt k) := by
  by_cases hok : ¬ rebOk ss tt k
  · exact rebuild_bad A n c ss A' n' c' tt k w B B' h h' hn hn' hok
  have hok := Classical.not_not.1 hok
  have hl := h.len
  have hl' := h'.boolLen
  obtain ⟨a1, a2, a3, a4, a5⟩ := id hok
  have X : Hid (rebR ss tt k = if alikeB (someL ss tt n) = false then ([], 1) else if (pickL tt n).length < k.toNat then ([], 70) else (rebL ss tt k.toNat, 0)) := Lib.hid (by
    unfold rebR; rw [if_pos hok, hl])
  obtain ⟨K, rfl⟩ : ∃ m : Nat, k = m := ⟨k.toNat, by omega⟩
  rw [hl] at a3 a4
  obtain rfl : n' = n := by omega
  rw [Int.toNat_natCast] at X
  have HL := Lib.hid hl
  have HL' := Lib.hid hl'
  have HS := Lib.hid h
  have HT := Lib.hid h'
  have HZ := Lib.hid hs
  clear hok hl hl' h h' hs a5
  have b1 : 1 ≤ K := by omega
  have b2 : K ≤ 32 := by omega
  have b3 : K ≤ n' := by omega
  clear a1 a2 a3
  have XU : Hid (unitR (K : Int) = (mat K K (fun i j => if i = j then 1 else 0), 0)) := Lib.hid (by unfold unitR; rw [if_pos (by omega)]; rfl)
  obtain ⟨m, q, hq, hm1, hm2, hmq⟩ : ∃ m q : Nat, (n' : Int) - (K : Int) = (q : Int) ∧ 1 ≤ m ∧ m ≤ 64 ∧ ((q < 1 ∧ m = 1) ∨ (1 ≤ q ∧ m = q)) := by
    by_cases h : K < n'
    · exact ⟨n' - K, n' - K, by omega, by omega, by omega, .inr ⟨by omega, rfl⟩⟩
    · exact ⟨1, 0, by omega, by omega, by omega, .inl ⟨by omega, rfl⟩⟩
  have hqn : q = n' - K := by omega
  have XC : Hid (cauR (m : Int) (K : Int) = (mat m K cauF, 0)) := Lib.hid (by unfold cauR; rw [if_pos (by omega)]; rfl)
  have HQN := Lib.hid hqn
  have hnm : n' ≤ K + m := by omega
  clear hqn
  have hmf : ∀ (fn : Fn) (first cap : Array Value) (w : World), (Instr.makeFunc fn first cap).run Try.prog w = .ok (.func fn first cap) w := fun _ _ _ _ => rfl
  by_cases hq1 : q < 1
  all_goals
    first
      | (have hx1 : m ≤ 1 := by omega)
      | (have hx1 : m ≤ q := by omega
         have hx2 : q ≤ m := by omega)
    clear hmq
    go_enter Try.func49, Try.ntmps49
    go_wp2_with fail
    refine (unit_any _ _).mono ?_
    rintro e w1 ⟨v1, rfl, ho1, hb1⟩
    rw [XU.out] at ho1 ⊢
    rw [show (mat K K (fun i j => if i = j then (1 : UInt8) else 0), (0 : Int)).1.length = K from mat_length _ _ _] at ho1
    obtain ⟨A1, c1, rfl, _, hr1⟩ := own_readsC ho1
    have h5 : w1.cell? ⟨w.heap.size, 0, none⟩ = some (.int .i64 (K : Int)) := by
      have := hb1.cell (p := ⟨w.heap.size, 0, none⟩) (by simp)
      rw [this]; simp
    have f5 : w.heap.size < w1.heap.size := by have := hb1.size; simp at this; omega
    have HB1 : Hid (Below w.heap.size w w1) := Lib.hid (((Below.refl w.heap.size w).alloc (Nat.le_refl _) _).trans (hb1.mono (by simp)))
    have HR1 := Lib.hid hr1
    clear ho1 hb1 hr1
    go_wp2_with fail
    refine (cauchy_x _ m _ (by omega) _).mono ?_
    rintro e w2 ⟨v2, rfl, ho2, hb2⟩
    rw [XC.out] at ho2 ⊢
    rw [show (mat m K cauF, (0 : Int)).1.length = m from mat_length _ _ _] at ho2
    obtain ⟨A2, c2, rfl, _, hr2⟩ := own_readsC ho2
    have hlt2 : w1.heap.size < w2.heap.size := by have := hb2.size; simp at this; omega
    have h5 : w2.cell? ⟨w.heap.size, 0, none⟩ = some (.int .i64 (K : Int)) := by
      rw [hb2.cell (p := ⟨w.heap.size, 0, none⟩) (by simp; omega), World.cell?_alloc_lt _ _ _ (by simpa using f5), h5]
    have h8 : w2.cell? ⟨w1.heap.size, 0, none⟩ = some (.slice A1 K c1) := by
      rw [hb2.cell (p := ⟨w1.heap.size, 0, none⟩) (by simp)]; simp
    have HB2 : Hid (Below w.heap.size w w2) := Lib.hid ((HB1.out.alloc HB1.out.size _).trans (hb2.mono (by have := HB1.out.size; simp; omega)))
    have HR2 := Lib.hid hr2
    have HR12 : Hid (Reads w2 w2.heap.size 1 A1 K (strV (mat K K fun i j => if i = j then 1 else 0))) := Lib.hid (((HR1.out.alloc (Nat.le_refl _) _).below (hb2.mono (by simp))).more (by omega))
    clear ho2 hb2 hr2 HR1
    go_wp2
    generalize hW : w2.alloc (.cells #[.slice A2 m c2] 28) = W
    have hWs : W.heap.size = w2.heap.size + 1 := by rw [← hW]; simp
    have C5 : W.cell? ⟨w.heap.size, 0, none⟩ = some (.int .i64 (K : Int)) := by rw [← hW, World.cell?_alloc_lt _ _ _ (by simp; omega), h5]
    have C8 : W.cell? ⟨w1.heap.size, 0, none⟩ = some (.slice A1 K c1) := by rw [← hW, World.cell?_alloc_lt _ _ _ (by simp; omega), h8]
    have C10 : W.cell? ⟨w2.heap.size, 0, none⟩ = some (.slice A2 m c2) := by rw [← hW]; simp
    have HBW : Hid (Below w.heap.size w W) := Lib.hid (by rw [← hW]; exact HB2.out.alloc HB2.out.size _)
    have HRU : Hid (Reads W W.heap.size 1 A1 K (strV (mat K K fun i j => if i = j then 1 else 0))) := Lib.hid (by rw [← hW]; exact (HR12.out.alloc (Nat.le_refl _) _).more (by simp))
    have HRP : Hid (Reads W W.heap.size 1 A2 m (strV (mat m K cauF))) := Lib.hid (by rw [← hW]; exact (HR2.out.alloc (Nat.le_refl _) _).more (by simp))
    have P5 : w.heap.size < W.heap.size := by omega
    have P8 : w1.heap.size < W.heap.size := by omega
    have P10 : w2.heap.size < W.heap.size := by omega
    have HC : Hid (W.cell? ⟨w.heap.size, 0, none⟩ = some (.int .i64 (K : Int)) ∧ W.cell? ⟨w1.heap.size, 0, none⟩ = some (.slice A1 K c1) ∧ W.cell? ⟨w2.heap.size, 0, none⟩ = some (.slice A2 m c2)) := Lib.hid ⟨C5, C8, C10⟩
    clear hW hWs C5 C8 C10 h5 h8 HR2 HR12 HB2 HB1
    go_loopw [13, 14, 15, 16, 65] (fun va vb _ _ i wr => ∃ k : Nat, k ≤ n' ∧ i = .int .i64 k ∧ Hid (Two wr W.heap.size 9 va (pickL tt k).length (strV (someL ss tt k)) vb (pickL tt k).length (strV (rowsL K tt k)) ∧ Below W.heap.size W wr)) (fun _ _ _ _ i _ => n' - (intOf i).toNat)
    case atStart => exact ⟨0, by omega, rfl, Lib.hid ⟨Two.nil _ _ _, Below.refl _ _⟩⟩
    case round =>
      obtain ⟨k, hk, rfl, HK⟩ := hrel
      by_cases hlt : k < n'
      · obtain ⟨ad, rfl, hba, hca⟩ := HS.out.str hlt
        obtain ⟨at_, rfl, hbt, hct⟩ := HT.out.bool hlt
        have hS := HBW.out.size
        have hcs : wr.cell? (ad.add k) = some (.string (sAt ss k)) := (HK.out.2.cell (by rw [block_of_add]; omega)).trans ((HBW.out.cell (by rw [block_of_add]; omega)).trans (hca k hlt))
        have hcb : wr.cell? (at_.add k) = some (.bool (tt.getD k false)) := (HK.out.2.cell (by rw [block_of_add]; omega)).trans ((HBW.out.cell (by rw [block_of_add]; omega)).trans (hct k hlt))
        clear hca hct
        by_cases hb : tt.getD k false = true
        · rw [hb] at hcb
          obtain ⟨e1, e2, e3⟩ := pick_yes ss K hb
          have E1 := Lib.hid e1
          have E2 := Lib.hid e2
          have E3 := Lib.hid e3
          have hN := pickL_len tt k
          have hle := HK.out.2.size
          have hk1 : (pickL tt k).length ≤ 4611686018427387904 := by omega
          have hk2 : ((pickL tt k).length + 1) * 16 ≤ 140737488355328 := by omega
          clear hb e1 e2 e3
          generalize pickL tt k = pk at *
          have hki : k < K + m := by omega
          go_wp2_with (first
            | (at_builtin; refine append1_blk elemStr rfl _ _ rfl W.heap.size u13 _ _ (by rfl) HK.out.1.o1 (.string (sAt ss k)) (by rfl) (by rfl) hk1 hk2 hle ?_; intro v13 w13 ho13 hg13 hd13; have H13 := Lib.hid (HK.out.1.push ho13 hg13 hd13); have HB13 := Lib.hid (below_own HK.out.2 HK.out.1.o1 hg13); have hs13 := HB13.out.size; clear ho13 hg13 hd13)
            | (go_at_call 68; refine (row_any k K m _ _ _ A1 A2 c1 c2 _ _ _ ((HB13.out.cell P5).trans HC.out.1) ((HB13.out.cell P8).trans HC.out.2.1) ((HB13.out.cell P10).trans HC.out.2.2) (HRU.out.below HB13.out) (HRP.out.below HB13.out) hki (by omega) (by omega)).mono ?_; rintro e w' ⟨rfl, rfl⟩)
            | (at_builtin; refine append1_blk elemStr rfl _ _ rfl W.heap.size u14 _ _ (by rfl) H13.out.o2 (.string (genRow K k)) (by rfl) (by rfl) hk1 hk2 hs13 ?_; intro v14 w14 ho14 hg14 hd14; have H14 := Lib.hid (H13.out.symm.push ho14 hg14 hd14).symm; have HB14 := Lib.hid (below_own HB13.out H13.out.o2 hg14); clear ho14 hg14 hd14))
          go_roundw
          case rel => exact ⟨k + 1, by omega, by go_num, Lib.hid (by rw [E1.out, E2.out, E3.out]; exact ⟨H14.out, HB14.out⟩)⟩
          case measure => simp [intOf]; omega
        · have hbf : tt.getD k false = false := by simpa using hb
          rw [hbf] at hcb
          obtain ⟨e1, e2⟩ := pick_no ss K hbf
          have E1 := Lib.hid e1
          have E2 := Lib.hid e2
          clear hb hbf e1 e2
          go_wp2
          go_roundw
          case rel => exact ⟨k + 1, by omega, by go_num, Lib.hid (by rw [E1.out, E2.out.1, E2.out.2]; exact HK.out)⟩
          case measure => simp [intOf]; omega
      · obtain rfl : k = n' := by omega
        obtain ⟨A13, c13, rfl, hcap13, hr13⟩ := own_readsC HK.out.1.o1
        obtain ⟨A14, c14, rfl, hcap14, hr14⟩ := own_readsC HK.out.1.o2
        obtain ⟨N, hN⟩ : ∃ N, (pickL tt k).length = N := ⟨_, rfl⟩
        have hNk : N ≤ k := by rw [← hN]; exact pickL_len tt k
        rw [hN] at hcap13 hr13 hcap14 hr14 X
        rw [hN]
        have HN := Lib.hid hN
        have HS13 := Lib.hid hr13
        have HS14 := Lib.hid hr14
        have hs3 := HK.out.2.size
        have h5 : wr.cell? ⟨w.heap.size, 0, none⟩ = some (.int .i64 (K : Int)) := (HK.out.2.cell P5).trans HC.out.1
        have HBR : Hid (Below w.heap.size w wr) := Lib.hid (HBW.out.trans (HK.out.2.mono HBW.out.size))
        clear hN hr13 hr14 HK HC HRU HRP HBW P8 P10
        go_wp2_with fail
        refine (alike_any A13 N c13 _ _ _ HS13.out (by omega)).mono ?_; rintro e w3 ⟨rfl, rfl⟩
        by_cases hal : alikeB (someL ss tt k) = false
        · have X' : Hid (rebR ss tt (K : Int) = ([], 1)) := Lib.hid (by rw [X.out, if_pos hal])
          rw [hal]
          go_wp2
          go_ret2
          exact retNil w 1 _ X'.out HBR.out
        · have hal' : alikeB (someL ss tt k) = true := by simpa using hal
          rw [if_neg hal] at X
          have HAL := Lib.hid hal'
          rw [hal']
          clear hal hal'
          by_cases hNK : N < K
          · have X' : Hid (rebR ss tt (K : Int) = ([], 70)) := Lib.hid (by rw [X.out, if_pos hNK])
            go_wp2
            go_ret2
            exact retNil w 70 _ X'.out HBR.out
          · have X' : Hid (rebR ss tt (K : Int) = (rebL ss tt K, 0)) := Lib.hid (by rw [X.out, if_neg hNK])
            clear X
            have hNK : K ≤ N := by omega
            obtain ⟨Bm, hinv, hbm⟩ := back_is K tt k b1 b2 (by omega) (by rw [HN.out]; exact hNK)
            have XB := Lib.hid hinv
            have HBK : Hid (backL K tt k = mat K K Bm) := Lib.hid (by unfold backL; rw [hinv])
            have HS14K := Lib.hid (reads_takeS HS14.out hNK)
            have HS13K := Lib.hid (reads_takeS HS13.out hNK)
            have SZ14 : Hid (∀ s ∈ (rowsL K tt k).take K, s.size ≤ 9223372036854775807) := Lib.hid (fun s hs => by
              rw [rowsL_take K tt k (by rw [HN.out]; exact hNK)] at hs
              obtain ⟨i, hi, rfl⟩ := List.getElem_of_mem hs
              rw [mat_length] at hi
              have := col_mat K K (fun i j => genF K ((pickL tt k).getD i 0) j) i hi
              rw [sAt_get (by rw [mat_length]; exact hi)] at this
              omega)
            obtain ⟨S, hS⟩ : ∃ S, S = (someL ss tt k).take K := ⟨_, rfl⟩
            have HSE := Lib.hid hS
            have hSl : S.length = K := by rw [hS, List.length_take, someL_length, HN.out]; omega
            have hS0 : (sAt S 0) = sAt (someL ss tt k) 0 := by
              rw [hS, sAt_get (by rw [List.length_take, someL_length, HN.out]; omega), sAt_get (by rw [someL_length, HN.out]; omega), List.getElem_take]
            have hSA : alikeB S = true := (alikeB_iff S).2 (fun j hj => by
              rw [hS0]
              have e : sAt S j = sAt (someL ss tt k) j := by
                subst hS
                rw [sAt_get hj, sAt_get (by rw [someL_length, HN.out]; omega), List.getElem_take]
              rw [e]
              exact (alikeB_iff _).1 HAL.out j (by rw [someL_length, HN.out]; omega))
            have hSz : (sAt S 0).size ≤ 140737488355328 := by
              rw [hS0, someL_at _ _ _ _ (by rw [HN.out]; omega)]
              refine HZ.out _ (sAt_mem ?_)
              rw [HL.out]
              exact (filter_at _ k 0 (by have := HN.out; unfold pickL at this; omega)).1
            rw [← hS] at HS13K
            have HSL := Lib.hid hSl
            have HSA := Lib.hid hSA
            clear hinv hbm hS hSl hS0 hSA HAL
            go_wp2_with fail
            refine (inverseM_any A14 K c14 ((rowsL K tt k).take K) _ _ HS14K.out (Nat.le_refl _) (by omega) SZ14.out).mono ?_
            rintro e w6 ⟨v6, rfl, ho6, hb6⟩
            rw [XB.out] at ho6 ⊢
            rw [show (mat K K Bm, (0 : Int)).1.length = K from mat_length _ _ _] at ho6
            obtain ⟨A6, c6, rfl, _, hr6⟩ := own_readsC ho6
            obtain ⟨a6, hA6, hb6s, hc6⟩ := hr6.str (k := 0) (by omega)
            subst hA6
            have HC6 := Lib.hid hc6
            have h56 : w6.cell? ⟨w.heap.size, 0, none⟩ = some (.int .i64 (K : Int)) := (hb6.cell (p := ⟨w.heap.size, 0, none⟩) (by show w.heap.size < wr.heap.size; omega)).trans h5
            have HB6 : Hid (Below w.heap.size w w6) := Lib.hid (HBR.out.trans (hb6.mono HBR.out.size))
            have HS6 : Hid (Reads w6 w6.heap.size 1 A13 K (strV S)) := Lib.hid ((HS13K.out.below hb6).more hb6.size)
            have P56 : w.heap.size < w6.heap.size := by have := hb6.size; omega
            clear ho6 hr6 hc6 hb6 h5 HS13 HS14 HS13K HS14K SZ14 HBR
            go_wp2_with (at_make; refine make0_wp elemStr rfl _ _ rfl w6.heap.size _ _ _ k rfl rfl rfl (by omega) (by omega) (Nat.le_refl _) ?_; intro v0 w7 hown0 hg7)
            have HR0 : Hid (w7.ownsRow w6.heap.size 9 1 v0 0 (strV []) ∧ Below w6.heap.size w6 w7) := Lib.hid ⟨hown0, below_grown (Below.refl _ _) hg7 (by intro _ h; cases h)⟩
            have H56 := Lib.hid h56
            clear hown0 hg7 h56
            go_loopw [19, 21, 109] (fun v _ i wr => ∃ j : Nat, j ≤ K ∧ i = .int .i64 j ∧ Hid (wr.ownsRow w6.heap.size 9 1 v j (strV ((List.range j).map fun i => sumL (sAt (mat K K Bm) i) S)) ∧ Below w6.heap.size w6 wr)) (fun _ _ i _ => K - (intOf i).toNat)
            case atStart => exact ⟨0, by omega, rfl, HR0⟩
            case round =>
              obtain ⟨j, hj, rfl, HJ⟩ := hrel
              clear HR0
              have h5r : wr.cell? ⟨w.heap.size, 0, none⟩ = some (.int .i64 (K : Int)) := (HJ.out.2.cell P56).trans H56.out
              have hle := HJ.out.2.size
              have HSr : Hid (Reads wr w6.heap.size 1 A13 K (strV S)) := Lib.hid (HS6.out.below HJ.out.2)
              by_cases hjl : j < K
              · have hck : wr.cell? (a6.add j) = some (.string (sAt (mat K K Bm) j)) := (HJ.out.2.cell (by rw [block_of_add]; omega)).trans (HC6.out j hjl)
                have SZ : Hid (K ≤ (sAt (mat K K Bm) j).size) := Lib.hid (by rw [col_mat K K Bm j hjl]; omega)
                have hk1 : j ≤ 4611686018427387904 := by omega
                have hk2 : (j + 1) * 16 ≤ 140737488355328 := by omega
                go_wp2_with (first
                  | (go_at_call 67; refine (sum_any _ A13 K c13 S _ _ HSr.out hle b1 (by omega) HSA.out (by omega) SZ.out).mono ?_; rintro e w8 ⟨rfl, hb8⟩; have HB8 := Lib.hid hb8; have HO8 := Lib.hid (own_below HJ.out.1 hb8); have hs8 := hb8.size; clear hb8)
                  | (at_builtin; refine append1_new elemStr rfl _ _ rfl w6.heap.size _ j _ rfl HO8.out _ rfl rfl hk1 hk2 (Nat.le_trans hle hs8) ?_; intro v' w' ho hg))
                have HK' : Hid (w'.ownsRow w6.heap.size 9 1 v' (j + 1) (strV ((List.range (j + 1)).map fun i => sumL (sAt (mat K K Bm) i) S)) ∧ Below w6.heap.size w6 w') :=
                  Lib.hid ⟨by rw [map_succ]; simpa [strV] using ho, below_own (HJ.out.2.trans (HB8.out.mono hle)) HO8.out hg⟩
                clear ho hg
                go_roundw
                case rel => exact ⟨j + 1, by omega, by go_num, HK'⟩
                case measure => simp [intOf]; omega
              · obtain rfl : j = K := by omega
                obtain ⟨O, hO⟩ : ∃ O, O = (List.range j).map fun i => sumL (sAt (mat j j Bm) i) S := ⟨_, rfl⟩
                have hOl : O.length = j := by rw [hO]; simp
                have hO0 : (sAt O 0).size = (sAt S 0).size := by rw [hO, sAt_map _ _ _ (by omega), sumL_size]
                have hOA : alikeB O = true := (alikeB_iff O).2 (fun i hi => by rw [hO0]; rw [hOl] at hi; rw [hO, sAt_map _ _ _ hi, sumL_size])
                have HOE : Hid (outL ss tt j = O) := Lib.hid (by unfold outL; rw [HL.out, HBK.out, ← HSE.out, hO])
                have XE : Hid (encR O (q : Int) = (parL O q, 0)) := Lib.hid (by
                  rw [encR_yes ⟨by omega, by omega, hOA, by omega, by omega⟩, Int.toNat_natCast])
                have HOl := Lib.hid hOl
                have HO0 := Lib.hid hO0
                have HJ1 := HJ.out.1
                rw [← hO] at HJ1
                have HJO := Lib.hid HJ1
                have HB9 : Hid (Below w.heap.size w wr) := Lib.hid (HB6.out.trans (HJ.out.2.mono (by omega)))
                clear HJ1 HJ hO hOl hO0 hOA
                obtain ⟨A19, c19, rfl, hcap19, hr19⟩ := own_readsC HJO.out
                have HR19 := Lib.hid hr19
                clear hr19
                go_wp2_with fail
                refine (encode_any A19 j c19 O (q : Int) _ _ HR19.out (Nat.le_refl _) (by omega) (by omega) (by omega) (by rw [HO0.out]; omega)).mono ?_
                rintro e w9 ⟨v9, rfl, ho9, hb9⟩
                rw [XE.out] at ho9 ⊢
                rw [show (parL O q, (0 : Int)).1.length = q from parL_length _ _] at ho9
                obtain ⟨A9, c9, rfl, _, hr9⟩ := own_readsC ho9
                have HR9 := Lib.hid hr9
                have HJ9 := Lib.hid (own_below HJO.out hb9)
                have HB10 := Lib.hid (HB9.out.trans (hb9.mono HB9.out.size))
                have hs9 := hb9.size
                clear ho9 hr9 hb9
                obtain ⟨ii, hii, hz0, hz1, hz2⟩ := elemStr.info
                have HI := Lib.hid hii
                have HZ0 := Lib.hid hz0
                have HZ1 := Lib.hid hz1
                have HZ2 := Lib.hid hz2
                clear hii hz0 hz1 hz2
                go_wp2_with (at_builtin; refine wpList_append_any _ rfl _ _ _ rfl w6.heap.size 9 ii _ 1 16 elemStr.ht HI.out HZ0.out HZ1.out HZ2.out elemStr.hz (by decide) _ j (strV O) rfl HJ9.out _ A9 q c9 (strV (parL O q)) rfl HR9.out (strV_one _) (by unfold maxLen; omega) (by omega) (Nat.le_trans hle hs9) ?_; intro v' w' ho hg _)
                have HF : Hid (w'.ownsRow w.heap.size 9 1 v' (rebL ss tt j).length (strV (rebL ss tt j)) ∧ Below w.heap.size w w') := Lib.hid (by
                  have e : rebL ss tt j = O ++ parL O q := by unfold rebL; rw [HOE.out, HL.out, HQN.out]
                  have e2 : (rebL ss tt j).length = j + q := by rw [e, List.length_append, HOl.out, parL_length]
                  rw [e2, e]
                  refine ⟨own_base (by simpa [strV] using ho) (by omega), below_own HB10.out (own_base HJ9.out (by omega)) hg⟩)
                clear ho hg
                go_ret2
                exact ⟨_, by rw [X'.out]; rfl, by rw [X'.out]; exact HF.out.1, HF.out.2⟩
end Go.Proofs.Ythlnnclpfgokjaa
