/- Walk: the reference's Rebuild. -/
import Derived.Test.YthlnnclpfgokjaaShI
import Derived.Deep.RegionHeld3
namespace Go.Proofs.Ythlnnclpfgokjaa
open Go.RowKit Gf
set_option linter.unusedVariables false
set_option linter.unusedSimpArgs false
theorem own_drew {w : World} {base : Nat} {e : TypeId} {size n : Nat} {v : Value} {xs : List Value} (h : w.ownsRow base e size v n xs) : w.drew.ownsRow base e size v n xs := h
theorem far_own {w w' : World} {base : Nat} {e : TypeId} {size n : Nat} {v : Value} {xs : List Value} (hg : w.grownBy w' v.ownBlock) (h : w.ownsRow base e size v n xs) {p : Addr} (hp : p.block < base) (hb : p.block < w.heap.size) : w'.cell? p = w.cell? p :=
  World.cell?_of_block (hg.block p.block hb (fun e => by have := own_ge h _ e.symm; omega))
theorem step_append1 {P : Program} {w : World} {t e : TypeId} {z : Value} {bytes : Nat} (E : Elem1 P t e z bytes) {ops : Array Oper} {o : Oper} {a : Act} {K : Act → World → Prop} {Q : Exit → Act → World → Prop} {F : Prop} (hgd : o.guard = none) (s x : Operand)
    (ho : o.op = .call { callee := .builtin .append, args := #[s, x], argTypes := #[t, t] })
    (base : Nat) (v : Value) (n : Nat) (xs : List Value) (hs : a.eval s = v) (hown : w.ownsRow base e 1 v n xs) (u : Value) (hx : a.eval x = .slice (some ⟨w.heap.size, 0, none⟩) 1 1)
    (h1 : u.oneCell' = true) (hn : n ≤ 4611686018427387904) (hbytes : (n + 1) * bytes ≤ 140737488355328) (hbase : base ≤ w.heap.size)
    (h : ∀ v' w', w'.ownsRow base e 1 v' (n + 1) (xs ++ [u]) → w.grownBy w' v.ownBlock → K (a.put o.dst v') w') :
    if Region.wanted o (yielded ops a.tmps) = true then Oper.wp P o a (w.alloc (.cells #[u] e)).drew K Q else F := by
  obtain ⟨i, hi, hz0, hz1, hz2⟩ := E.info
  refine step_append_any (w.alloc (.cells #[u] e)).drew hgd s x t ho base e i z 1 bytes E.ht hi hz0 hz1 hz2 E.hz (by decide) v n xs hs (own_drew (hown.alloc _)) (w.heap.size + 1) (some ⟨w.heap.size, 0, none⟩) 1 1 [u] hx
    ⟨rfl, fun _ => ⟨_, rfl, by simp, fun j u' hj => ?_⟩⟩ (by intro u' hu'; rw [List.mem_singleton] at hu'; subst hu'; exact h1) (by unfold maxLen; omega) hbytes (by simp; omega) (fun v' w' h2 h3 h4 => h v' w' h2 ?_)
  · match j, hj with
    | 0, hj =>
      simp at hj; subst hj
      have := (World.rowIs_alloc w #[u] e (fun _ => u) (fun i hi => by
        have : i = 0 := by simpa using hi
        subst this; rfl)).cell (i := 0) (by simp)
      simp [Addr.add]
  · exact ⟨h3.os, h3.tape, h3.output, Nat.le_trans (by simp) h3.size, fun k hk hne => (h3.block k (by simp; omega) hne).trans (Below.heap_alloc w _ k hk)⟩
theorem wp_append1 {P : Program} {w : World} {t e : TypeId} {z : Value} {bytes : Nat} (E : Elem1 P t e z bytes) {o : Oper} {a : Act} {K : Act → World → Prop} {Q : Exit → Act → World → Prop} (s x : Operand)
    (ho : o.op = .call { callee := .builtin .append, args := #[s, x], argTypes := #[t, t] })
    (base : Nat) (v : Value) (n : Nat) (xs : List Value) (hs : a.eval s = v) (hown : w.ownsRow base e 1 v n xs) (u : Value) (hx : a.eval x = .slice (some ⟨w.heap.size, 0, none⟩) 1 1)
    (h1 : u.oneCell' = true) (hn : n ≤ 4611686018427387904) (hbytes : (n + 1) * bytes ≤ 140737488355328) (hbase : base ≤ w.heap.size)
    (h : ∀ v' w', w'.ownsRow base e 1 v' (n + 1) (xs ++ [u]) → w.grownBy w' v.ownBlock → K (a.put o.dst v') w') :
    Oper.wp P o a (w.alloc (.cells #[u] e)) K Q := by
  obtain ⟨i, hi, hz0, hz1, hz2⟩ := E.info
  refine wp_append_any (w.alloc (.cells #[u] e)) s x t ho base e i z 1 bytes E.ht hi hz0 hz1 hz2 E.hz (by decide) v n xs hs (hown.alloc _) (w.heap.size + 1) (some ⟨w.heap.size, 0, none⟩) 1 1 [u] hx
    ⟨rfl, fun _ => ⟨_, rfl, by simp, fun j u' hj => ?_⟩⟩ (by intro u' hu'; rw [List.mem_singleton] at hu'; subst hu'; exact h1) (by unfold maxLen; omega) hbytes (by simp; omega) (fun v' w' h2 h3 h4 => h v' w' h2 ?_)
  · match j, hj with
    | 0, hj =>
      simp at hj; subst hj
      have := (World.rowIs_alloc w #[u] e (fun _ => u) (fun i hi => by
        have : i = 0 := by simpa using hi
        subst this; rfl)).cell (i := 0) (by simp)
      simp [Addr.add]
  · exact ⟨h3.os, h3.tape, h3.output, Nat.le_trans (by simp) h3.size, fun k hk hne => (h3.block k (by simp; omega) hne).trans (Below.heap_alloc w _ k hk)⟩
theorem bytes_reads (W : World) (e : TypeId) (s : ByteArray) : Reads (Lib.bytesWorld W e s) (Lib.bytesWorld W e s).heap.size 1 (some ⟨W.heap.size, 0, none⟩) s.size (u8s s.data.toList) := by
  refine ⟨by rw [u8s_length, data_length]; omega, fun _ => ⟨_, rfl, by rw [Lib.bytesWorld_size]; simp, fun j u hu => ?_⟩⟩
  have hj : j < s.size := by
    rcases Nat.lt_or_ge j s.size with h | h
    · exact h
    · rw [List.getElem?_eq_none (by rw [u8s_length, data_length]; exact h)] at hu; cases hu
  have := u8s_get s.data.toList j (by rw [data_length]; exact hj)
  rw [List.getD_eq_getElem?_getD, hu] at this
  rw [add0, Lib.bytesWorld_cell W e s j hj, ← this]; rfl
theorem bytes_below (W : World) (e : TypeId) (s : ByteArray) : Below W.heap.size W (Lib.bytesWorld W e s) :=
  ⟨by simp [Lib.bytesWorld, World.freeze, World.alloc, World.drew, -World.alloc_eq, -World.drew_eq], by simp [Lib.bytesWorld, World.freeze, World.alloc, World.drew, -World.alloc_eq, -World.drew_eq],
   by simp [Lib.bytesWorld, World.freeze, World.alloc, World.drew, -World.alloc_eq, -World.drew_eq], by rw [Lib.bytesWorld_size]; omega, fun k hk => Lib.bytesWorld_at_old W e s k hk⟩
theorem rcauchy_x (x : Int) (m : Nat) (c : Int) (hx : x = (m : Int)) (w : World) :
    Calls Try.prog 26 #[.int .i64 x, .int .i64 c] w fun e w' => RetStrs w w' e (cauR (m : Int) c) := by subst hx; exact rcauchy_any _ _ _
set_option maxRecDepth 100000 in
theorem rrebuild_bad (A : Option Addr) (n c : Nat) (ss : List ByteArray) (A' : Option Addr) (n' c' : Nat) (tt : List Bool) (k : Int) (w : World) (B B' : Nat) (h : Reads w B 1 A n (strV ss)) (h' : Reads w B' 1 A' n' (boolV tt))
    (hn : n ≤ 9223372036854775807) (hn' : n' ≤ 9223372036854775807) (hbad : ¬ rebOk ss tt k) :
    Calls Try.prog 48 #[.slice A n c, .slice A' n' c', .int .i64 k] w fun e w' => RetStrs w w' e (rebR ss tt k) := by
  have hl := h.len
  have hl' := h'.boolLen
  have X := Lib.hid (rebR_no hbad)
  have hcases : k < 1 ∨ 32 < k ∨ (1 ≤ k ∧ k ≤ 32 ∧ (n : Int) < k) ∨ (1 ≤ k ∧ k ≤ 32 ∧ k ≤ (n : Int) ∧ 64 < n) ∨ (1 ≤ k ∧ k ≤ 32 ∧ k ≤ (n : Int) ∧ n ≤ 64 ∧ n' ≠ n) := by
    unfold rebOk at hbad; omega
  clear hbad hl hl' h h'
  have HB := Lib.hid (Below.refl w.heap.size w)
  rcases hcases with h | h | ⟨h1, h2, h⟩ | ⟨h1, h2, h3, h⟩ | ⟨h1, h2, h3, h4, h⟩
  · go_enter Try.func48, Try.ntmps48
    go_wp2
    go_ret2
    exact retNil w 1 _ X.out HB.out
  · go_enter Try.func48, Try.ntmps48
    go_wp2
    go_ret2
    exact retNil w 1 _ X.out HB.out
  · go_enter Try.func48, Try.ntmps48
    go_wp2
    go_ret2
    exact retNil w 1 _ X.out HB.out
  · go_enter Try.func48, Try.ntmps48
    go_wp2
    go_ret2
    exact retNil w 1 _ X.out HB.out
  · have hne : ((n' : Int) != (n : Int)) = true := by rw [bne_iff_ne]; omega
    clear h
    go_enter Try.func48, Try.ntmps48
    go_wp2
    go_ret2
    exact retNil w 1 _ X.out HB.out
set_option maxRecDepth 100000 in
set_option maxHeartbeats 4000000 in
theorem rrebuild_any (A : Option Addr) (n c : Nat) (ss : List ByteArray) (A' : Option Addr) (n' c' : Nat) (tt : List Bool) (k : Int) (w : World) (B B' : Nat) (h : Reads w B 1 A n (strV ss)) (hB : B ≤ w.heap.size) (h' : Reads w B' 1 A' n' (boolV tt)) (hB' : B' ≤ w.heap.size)
    (hn : n ≤ 9223372036854775807) (hn' : n' ≤ 9223372036854775807) (hs : ∀ s ∈ ss, s.size ≤ 140737488355328) :
    Calls Try.prog 48 #[.slice A n c, .slice A' n' c', .int .i64 k] w fun e w' => RetStrs w w' e (rebR ss tt k) := by
  by_cases hok : ¬ rebOk ss tt k
  · exact rrebuild_bad A n c ss A' n' c' tt k w B B' h h' hn hn' hok
  have hok := Classical.not_not.1 hok
  have hl := h.len
  have hl' := h'.boolLen
  obtain ⟨a1, a2, a3, a4, a5⟩ := id hok
  have X : Hid (rebR ss tt k = if alikeB (someL ss tt n) = false then ([], 1) else if (pickL tt n).length < k.toNat then ([], 70) else (rebL ss tt k.toNat, 0)) := Lib.hid (by
    unfold rebR; rw [if_pos hok, hl])
  obtain ⟨K, rfl⟩ : ∃ m : Nat, k = m := ⟨k.toNat, by omega⟩
  rw [hl] at a3 a4
  obtain rfl : n' = n := by omega
  rw [Int.toNat_natCast] at X
  have HL := Lib.hid hl
  have HL' := Lib.hid hl'
  have HS := Lib.hid h
  have HT := Lib.hid h'
  have HZ := Lib.hid hs
  clear hok hl hl' h h' hs a5
  have b1 : 1 ≤ K := by omega
  have b2 : K ≤ 32 := by omega
  have b3 : K ≤ n' := by omega
  clear a1 a2 a3
  have XU : Hid (unitR (K : Int) = (mat K K (fun i j => if i = j then 1 else 0), 0)) := Lib.hid (by unfold unitR; rw [if_pos (by omega)]; rfl)
  obtain ⟨q, hq⟩ : ∃ q : Nat, (n' : Int) - (K : Int) = (q : Int) := ⟨n' - K, by omega⟩
  have hqn : q = n' - K := by omega
  have XC : Hid (1 ≤ q → cauR (q : Int) (K : Int) = (mat q K cauF, 0)) := Lib.hid (fun h => by unfold cauR; rw [if_pos (by omega)]; rfl)
  have HQN := Lib.hid hqn
  clear hqn
  go_enter Try.func48, Try.ntmps48
  go_wp2_with fail
  refine (runit_any _ _).mono ?_
  rintro e w1 ⟨v1, rfl, ho1, hb1⟩
  rw [XU.out] at ho1 ⊢
  rw [show (mat K K (fun i j => if i = j then (1 : UInt8) else 0), (0 : Int)).1.length = K from mat_length _ _ _] at ho1
  obtain ⟨A1, c1, rfl, _, hr1⟩ := own_readsC ho1
  obtain ⟨W, hW⟩ : ∃ W, W = w1 := ⟨_, rfl⟩
  rw [← hW] at ho1 hb1 hr1 ⊢
  have HBW := Lib.hid hb1
  have HRU := Lib.hid hr1
  clear ho1 hb1 hr1 hW
  go_wp2
  go_loopw [8, 9, 12, 13, 14] (fun va vb i _ _ wr => ∃ k : Nat, k ≤ n' ∧ i = .int .i64 k ∧ Hid (Two wr W.heap.size 9 va (pickL tt k).length (strV (someL ss tt k)) vb (pickL tt k).length (strV (rowsL K tt k)) ∧ Below W.heap.size W wr)) (fun _ _ i _ _ _ => n' - (intOf i).toNat)
  case atStart => exact ⟨0, by omega, rfl, Lib.hid ⟨Two.nil _ _ _, Below.refl _ _⟩⟩
  case round =>
    obtain ⟨k, hk, rfl, HK⟩ := hrel
    by_cases hlt : k < n'
    · obtain ⟨ad, rfl, hba, hca⟩ := HS.out.str hlt
      obtain ⟨at_, rfl, hbt, hct⟩ := HT.out.bool hlt
      have hS := HBW.out.size
      have hcs : wr.cell? (ad.add k) = some (.string (sAt ss k)) := (HK.out.2.cell (by rw [block_of_add]; omega)).trans ((HBW.out.cell (by rw [block_of_add]; omega)).trans (hca k hlt))
      have hcb : wr.cell? (at_.add k) = some (.bool (tt.getD k false)) := (HK.out.2.cell (by rw [block_of_add]; omega)).trans ((HBW.out.cell (by rw [block_of_add]; omega)).trans (hct k hlt))
      clear hca hct
      by_cases hb : tt.getD k false = true
      · rw [hb] at hcb
        obtain ⟨e1, e2, e3⟩ := pick_yes ss K hb
        have E1 := Lib.hid e1
        have E2 := Lib.hid e2
        have E3 := Lib.hid e3
        have hN := pickL_len tt k
        have hle := HK.out.2.size
        have hk1 : (pickL tt k).length ≤ 4611686018427387904 := by omega
        have hk2 : ((pickL tt k).length + 1) * 16 ≤ 140737488355328 := by omega
        clear hb e1 e2 e3
        generalize pickL tt k = pk at *
        have ARM : True := trivial
        by_cases hlow : k < K
        · obtain ⟨au, rfl, hbu, hcu⟩ := HRU.out.str hlow
          have hcu1 := hcu k hlow
          have HE := Lib.hid (genRow_low K k hlow)
          rw [← HE.out] at hcu1
          have HCU := Lib.hid hcu1
          clear hcu hcu1
          go_wp2_with (first
            | (at_builtin; refine append1_blk elemStr rfl _ _ rfl W.heap.size u8 _ _ (by rfl) HK.out.1.o1 (.string (sAt ss k)) (by rfl) (by rfl) hk1 hk2 hle ?_; intro v13 w13 ho13 hg13 hd13; have H13 := Lib.hid (HK.out.1.push ho13 hg13 hd13); have HB13 := Lib.hid (below_own HK.out.2 HK.out.1.o1 hg13); have hs13 := HB13.out.size; have hcu2 := (HB13.out.cell (p := au.add k) (by rw [block_of_add]; omega)).trans HCU.out; clear ho13 hg13 hd13)
            | (at_builtin; refine append1_blk elemStr rfl _ _ rfl W.heap.size u9 _ _ (by rfl) H13.out.o2 (.string (genRow K k)) (by rfl) (by rfl) hk1 hk2 hs13 ?_; intro v14 w14 ho14 hg14 hd14; have H14 := Lib.hid (H13.out.symm.push ho14 hg14 hd14).symm; have HB14 := Lib.hid (below_own HB13.out H13.out.o2 hg14); clear ho14 hg14 hd14))
          go_roundw
          case rel => exact ⟨k + 1, by omega, by go_num, Lib.hid (by rw [E1.out, E2.out, E3.out]; exact ⟨H14.out, HB14.out⟩)⟩
          case measure => simp [intOf]; omega
        · have hq1 : 1 ≤ q := by omega
          have XC1 := Lib.hid (XC.out hq1)
          obtain ⟨kj, hkj⟩ : ∃ kj : Nat, k = K + kj := ⟨k - K, by omega⟩
          have hsub : (k : Int) - (K : Int) = (kj : Int) := by omega
          have hkq : kj < q := by omega
          have HE : Hid (genRow K k = sAt (mat q K cauF) kj) := Lib.hid (by rw [genRow_high K q k (by omega) (by omega)]; congr 1; omega)
          clear hkj
          go_wp2_with (at_builtin; refine append1_blk elemStr rfl _ _ rfl W.heap.size u8 _ _ (by rfl) HK.out.1.o1 (.string (sAt ss k)) (by rfl) (by rfl) hk1 hk2 hle ?_; intro v13 w13 ho13 hg13 hd13; have H13 := Lib.hid (HK.out.1.push ho13 hg13 hd13); have HB13 := Lib.hid (below_own HK.out.2 HK.out.1.o1 hg13); have hs13 := HB13.out.size; clear ho13 hg13 hd13)
          refine (rcauchy_x _ q _ (by omega) _).mono ?_
          rintro e w15 ⟨v15, rfl, ho15, hb15⟩
          rw [XC1.out] at ho15 ⊢
          rw [show (mat q K cauF, (0 : Int)).1.length = q from mat_length _ _ _] at ho15
          obtain ⟨A15, c15, rfl, _, hr15⟩ := own_readsC ho15
          obtain ⟨a15, hA15, hb15s, hc15⟩ := hr15.str (k := kj) hkq
          subst hA15
          have hcu2 := hc15 kj hkq
          rw [← HE.out] at hcu2
          have H15 := Lib.hid (H13.out.below hb15)
          have HB15 := Lib.hid (HB13.out.trans (hb15.mono hs13))
          have hs15 := HB15.out.size
          clear ho15 hb15 hr15 hc15
          go_wp2_with (at_builtin; refine append1_blk elemStr rfl _ _ rfl W.heap.size u9 _ _ (by rfl) H15.out.o2 (.string (genRow K k)) (by rfl) (by rfl) hk1 hk2 hs15 ?_; intro v14 w14 ho14 hg14 hd14; have H14 := Lib.hid (H15.out.symm.push ho14 hg14 hd14).symm; have HB14 := Lib.hid (below_own HB15.out H15.out.o2 hg14); clear ho14 hg14 hd14)
          go_roundw
          case rel => exact ⟨k + 1, by omega, by go_num, Lib.hid (by rw [E1.out, E2.out, E3.out]; exact ⟨H14.out, HB14.out⟩)⟩
          case measure => simp [intOf]; omega
      · have hbf : tt.getD k false = false := by simpa using hb
        rw [hbf] at hcb
        obtain ⟨e1, e2⟩ := pick_no ss K hbf
        have E1 := Lib.hid e1
        have E2 := Lib.hid e2
        clear hb hbf e1 e2
        go_wp2
        go_roundw
        case rel => exact ⟨k + 1, by omega, by go_num, Lib.hid (by rw [E1.out, E2.out.1, E2.out.2]; exact HK.out)⟩
        case measure => simp [intOf]; omega
    · obtain rfl : k = n' := by omega
      obtain ⟨A13, c13, rfl, hcap13, hr13⟩ := own_readsC HK.out.1.o1
      obtain ⟨A14, c14, rfl, hcap14, hr14⟩ := own_readsC HK.out.1.o2
      obtain ⟨N, hN⟩ : ∃ N, (pickL tt k).length = N := ⟨_, rfl⟩
      have hNk : N ≤ k := by rw [← hN]; exact pickL_len tt k
      rw [hN] at hcap13 hr13 hcap14 hr14 X
      rw [hN]
      have HN := Lib.hid hN
      have HS13 := Lib.hid hr13
      have HS14 := Lib.hid hr14
      have hs3 := HK.out.2.size
      have HBR : Hid (Below w.heap.size w wr) := Lib.hid (HBW.out.trans (HK.out.2.mono HBW.out.size))
      clear hN hr13 hr14 HK HRU HBW
      go_wp2_with fail
      refine (ralike_any A13 N c13 _ _ _ HS13.out (by omega)).mono ?_; rintro e w3 ⟨rfl, q3, rfl⟩
      by_cases hal : alikeB (someL ss tt k) = false
      · have X' : Hid (rebR ss tt (K : Int) = ([], 1)) := Lib.hid (by rw [X.out, if_pos hal])
        rw [hal]
        go_wp2
        go_ret2
        exact retNil w 1 _ X'.out (below_drewN HBR.out _)
      · have hal' : alikeB (someL ss tt k) = true := by simpa using hal
        rw [if_neg hal] at X
        have HAL := Lib.hid hal'
        rw [hal']
        clear hal hal'
        by_cases hNK : N < K
        · have X' : Hid (rebR ss tt (K : Int) = ([], 70)) := Lib.hid (by rw [X.out, if_pos hNK])
          go_wp2
          go_ret2
          exact retNil w 70 _ X'.out (below_drewN HBR.out _)
        · have X' : Hid (rebR ss tt (K : Int) = (rebL ss tt K, 0)) := Lib.hid (by rw [X.out, if_neg hNK])
          clear X
          have hNK : K ≤ N := by omega
          obtain ⟨Bm, hinv, hbm⟩ := back_is K tt k b1 b2 (by omega) (by rw [HN.out]; exact hNK)
          have XB := Lib.hid hinv
          have HBK : Hid (backL K tt k = mat K K Bm) := Lib.hid (by unfold backL; rw [hinv])
          have HS14K := Lib.hid (reads_takeS HS14.out hNK)
          have HS13K := Lib.hid (reads_takeS HS13.out hNK)
          have SZ14 : Hid (∀ s ∈ (rowsL K tt k).take K, s.size ≤ 9223372036854775807) := Lib.hid (fun s hs => by
            rw [rowsL_take K tt k (by rw [HN.out]; exact hNK)] at hs
            obtain ⟨i, hi, rfl⟩ := List.getElem_of_mem hs
            rw [mat_length] at hi
            have := col_mat K K (fun i j => genF K ((pickL tt k).getD i 0) j) i hi
            rw [sAt_get (by rw [mat_length]; exact hi)] at this
            omega)
          obtain ⟨S, hS⟩ : ∃ S, S = (someL ss tt k).take K := ⟨_, rfl⟩
          have HSE := Lib.hid hS
          have hSl : S.length = K := by rw [hS, List.length_take, someL_length, HN.out]; omega
          have hS0 : (sAt S 0) = sAt (someL ss tt k) 0 := by
            rw [hS, sAt_get (by rw [List.length_take, someL_length, HN.out]; omega), sAt_get (by rw [someL_length, HN.out]; omega), List.getElem_take]
          have hSA : alikeB S = true := (alikeB_iff S).2 (fun j hj => by
            rw [hS0]
            have e : sAt S j = sAt (someL ss tt k) j := by
              subst hS
              rw [sAt_get hj, sAt_get (by rw [someL_length, HN.out]; omega), List.getElem_take]
            rw [e]
            exact (alikeB_iff _).1 HAL.out j (by rw [someL_length, HN.out]; omega))
          have hSz : (sAt S 0).size ≤ 140737488355328 := by
            rw [hS0, someL_at _ _ _ _ (by rw [HN.out]; omega)]
            refine HZ.out _ (sAt_mem ?_)
            rw [HL.out]
            exact (filter_at _ k 0 (by have := HN.out; unfold pickL at this; omega)).1
          rw [← hS] at HS13K
          have HSL := Lib.hid hSl
          have HSA := Lib.hid hSA
          clear hinv hbm hS hSl hS0 hSA HAL
          go_wp2_with fail
          refine (rinverse_any A14 K c14 ((rowsL K tt k).take K) _ _ (HS14K.out.drewN q3) (Nat.le_refl _) (by omega) SZ14.out).mono ?_
          rintro e w6 ⟨v6, rfl, ho6, hb6'⟩
          have hb6 : Below wr.heap.size wr w6 := (below_drewN (Below.refl wr.heap.size wr) q3).trans hb6'
          rw [XB.out] at ho6 ⊢
          rw [show (mat K K Bm, (0 : Int)).1.length = K from mat_length _ _ _] at ho6
          obtain ⟨A6, c6, rfl, _, hr6⟩ := own_readsC ho6
          obtain ⟨a6, hA6, hb6s, hc6⟩ := hr6.str (k := 0) (by omega)
          subst hA6
          have HC6 := Lib.hid hc6
          have HB6 : Hid (Below w.heap.size w w6) := Lib.hid (HBR.out.trans (hb6.mono HBR.out.size))
          have HS6 : Hid (Reads w6 w6.heap.size 1 A13 K (strV S)) := Lib.hid ((HS13K.out.below hb6).more hb6.size)
          have P56 : w.heap.size ≤ w6.heap.size := by have := HB6.out.size; omega
          clear ho6 hr6 hc6 hb6 hb6' HS13 HS14 HS13K HS14K SZ14 HBR
          go_wp2
          go_loopw [17, 18] (fun v i wr => ∃ j : Nat, j ≤ K ∧ i = .int .i64 j ∧ Hid (wr.ownsRow w6.heap.size 9 1 v j (strV ((List.range j).map fun i => sumL (sAt (mat K K Bm) i) S)) ∧ Below w6.heap.size w6 wr)) (fun _ i _ => K - (intOf i).toNat)
          case atStart => exact ⟨0, by omega, rfl, Lib.hid ⟨World.ownsRow_nil _ _ _ _, Below.refl _ _⟩⟩
          case round =>
            obtain ⟨j, hj, rfl, HJ⟩ := hrel
            have hle := HJ.out.2.size
            have HSr : Hid (Reads wr w6.heap.size 1 A13 K (strV S)) := Lib.hid (HS6.out.below HJ.out.2)
            by_cases hjl : j < K
            · have hck : wr.cell? (a6.add j) = some (.string (sAt (mat K K Bm) j)) := (HJ.out.2.cell (by rw [block_of_add]; omega)).trans (HC6.out j hjl)
              have SZ : Hid (K ≤ (sAt (mat K K Bm) j).size) := Lib.hid (by rw [col_mat K K Bm j hjl]; omega)
              have hk1 : j ≤ 4611686018427387904 := by omega
              have hk2 : (j + 1) * 16 ≤ 140737488355328 := by omega
              obtain ⟨r, hr⟩ : ∃ r, sAt (mat K K Bm) j = r := ⟨_, rfl⟩
              rw [hr] at hck SZ
              have HRW := Lib.hid hr
              clear hr
              have HCK := Lib.hid hck
              have HJ1 := Lib.hid HJ.out.1
              have hconv : ∀ W, (convert 9 44 (.string r)).run Try.prog W = .ok (.slice (some ⟨W.heap.size, 0, none⟩) r.size (grownCap W r.size 0 5)) (Lib.bytesWorld W 5 r) := fun W => Lib.run_convert_string_bytes (P := Try.prog) W _ _ _ r (show Try.prog.underlying 9 = some .string by kernel_rfl) (by kernel_rfl) (by kernel_rfl)
              have hji : (j : Int) < (K : Int) := by omega
              have hcK : K ≤ c13 := by omega
              go_wp2
              have hsd : wr.heap.size ≤ (Lib.bytesWorld wr.drew 5 r).heap.size := by have := (bytes_below wr.drew 5 r).size; simp at this; exact this
              have HBB : Hid (Below wr.heap.size wr (Lib.bytesWorld wr.drew 5 r)) := Lib.hid ((Below.refl wr.heap.size wr).drew.trans (show Below wr.heap.size wr.drew _ from bytes_below wr.drew 5 r))
              have HSB : Hid (Reads (Lib.bytesWorld wr.drew 5 r) w6.heap.size 1 A13 K (strV S)) := Lib.hid (HSr.out.below (HBB.out.mono hle))
              have HRB : Hid (Reads (Lib.bytesWorld wr.drew 5 r) (Lib.bytesWorld wr.drew 5 r).heap.size 1 (some ⟨wr.heap.size, 0, none⟩) r.size (u8s r.data.toList)) := Lib.hid (bytes_reads wr.drew _ r)
              have ha6 : a6.block < wr.heap.size := by omega
              have KX : Hid (∀ W, Below wr.heap.size wr W → W.cell? (a6.add j) = some (.string r)) := Lib.hid (fun W hb => (hb.cell (by rw [block_of_add]; exact ha6)).trans HCK.out)
              have KG : Hid (∀ W W', Below wr.heap.size wr W → W.grownBy W' u17.ownBlock → W'.cell? (a6.add j) = some (.string r)) := Lib.hid (fun W W' hb hg => (World.cell?_of_block (w := W) (hg.block _ (by rw [block_of_add]; have := hb.size; omega) (fun e => by rw [block_of_add] at e; have := own_ge HJ1.out _ e.symm; omega))).trans (KX.out W hb))
              refine wp_region_held_drew (S := fun w' => w'.cell? (a6.add j) = some (.string r)) (by kernel_rfl) (by first | exact HCK.out | exact KX.out _ HBB.out | exact KX.out _ (HBB.out.trans (hb8.mono hsd)) | exact KX.out _ ((HBB.out.trans (hb8.mono hsd)).alloc (by have := hb8.size; omega) _) | exact KG.out _ _ (HBB.out.trans (hb8.mono hsd)) hg) (fun hHeld => ?_)
              refine wpAnyH_take (i := 0) (oi := _) (v := _) rfl (by as_aux_lemma => kernel_rfl) (by as_aux_lemma => kernel_rfl) (by as_aux_lemma => kernel_rfl) (fun _ _ _ h => h) (Or.inl ⟨by kernel_rfl, by (intro w hSw; (try dsimp only at hSw); go_simp; first | done | with_reducible rfl)⟩) (by assumption) ?_
              (try simp only [Act.put, List.setIfInBounds_toArray, List.set_cons_zero, List.set_cons_succ])
              refine wpAnyH_take (i := 1) (oi := _) (v := _) rfl (by as_aux_lemma => kernel_rfl) (by as_aux_lemma => kernel_rfl) (by as_aux_lemma => kernel_rfl) (fun _ _ _ h => h) (Or.inl ⟨by kernel_rfl, by (intro w hSw; (try dsimp only at hSw); go_simp; first | done | with_reducible rfl)⟩) (by assumption) ?_
              (try simp only [Act.put, List.setIfInBounds_toArray, List.set_cons_zero, List.set_cons_succ])
              refine wpAnyH_take (i := 2) (oi := _) (v := _) rfl (by as_aux_lemma => kernel_rfl) (by as_aux_lemma => kernel_rfl) (by as_aux_lemma => kernel_rfl) (fun _ _ _ h => h) (Or.inl ⟨by kernel_rfl, by (intro w hSw; (try dsimp only at hSw); go_simp; first | done | with_reducible rfl)⟩) (by assumption) ?_
              (try simp only [Act.put, List.setIfInBounds_toArray, List.set_cons_zero, List.set_cons_succ])
              refine wpAnyH_take (i := 3) (oi := _) (v := _) rfl (by as_aux_lemma => kernel_rfl) (by as_aux_lemma => kernel_rfl) (by as_aux_lemma => kernel_rfl) (fun _ _ _ h => h) (Or.inl ⟨by kernel_rfl, by (intro w hSw; (try dsimp only at hSw); go_simp; first | done | with_reducible rfl)⟩) (by assumption) ?_
              (try simp only [Act.put, List.setIfInBounds_toArray, List.set_cons_zero, List.set_cons_succ])
              refine wpAnyH_take (i := 4) (oi := _) (v := _) rfl (by as_aux_lemma => kernel_rfl) (by as_aux_lemma => kernel_rfl) (by as_aux_lemma => kernel_rfl) (fun _ _ _ h => h) (Or.inl ⟨by kernel_rfl, by (intro w hSw; (try dsimp only at hSw); go_simp; first | done | with_reducible rfl)⟩) (by assumption) ?_
              (try simp only [Act.put, List.setIfInBounds_toArray, List.set_cons_zero, List.set_cons_succ])
              refine wpAnyH_take (i := 6) (oi := _) (v := _) rfl (by as_aux_lemma => kernel_rfl) (by as_aux_lemma => kernel_rfl) (by as_aux_lemma => kernel_rfl) (fun _ _ _ h => h) (Or.inl ⟨by kernel_rfl, by (intro w hSw; (try dsimp only at hSw); go_simp; first | done | with_reducible rfl)⟩) (by assumption) ?_
              (try simp only [Act.put, List.setIfInBounds_toArray, List.set_cons_zero, List.set_cons_succ])
              refine wpAnyH_take (i := 7) (oi := _) (v := _) rfl (by as_aux_lemma => kernel_rfl) (by as_aux_lemma => kernel_rfl) (by as_aux_lemma => kernel_rfl) (fun _ _ _ h => h) (Or.inl ⟨by kernel_rfl, by (intro w hSw; (try dsimp only at hSw); go_simp; first | done | with_reducible rfl)⟩) (by assumption) ?_
              (try simp only [Act.put, List.setIfInBounds_toArray, List.set_cons_zero, List.set_cons_succ])
              refine wpAnyH_take (i := 8) (oi := _) (v := _) rfl (by as_aux_lemma => kernel_rfl) (by as_aux_lemma => kernel_rfl) (by as_aux_lemma => kernel_rfl) (fun _ _ _ h => h) (Or.inl ⟨by kernel_rfl, by (intro w hSw; (try dsimp only at hSw); go_simp; first | done | with_reducible rfl)⟩) (by assumption) ?_
              (try simp only [Act.put, List.setIfInBounds_toArray, List.set_cons_zero, List.set_cons_succ])
              refine wpAnyH_ready (rs := [5]) (by as_aux_lemma => kernel_rfl) (by simp) (AllReadyH.cons rfl (fun KK hK => ?_) AllReadyH.nil)
              try simp only [List.getElem_toArray, List.getElem_cons_succ, List.getElem_cons_zero]
              go_simp
              refine hK.out _ _ (by first | exact HCK.out | exact KX.out _ HBB.out | exact KX.out _ (HBB.out.trans (hb8.mono hsd)) | exact KX.out _ ((HBB.out.trans (hb8.mono hsd)).alloc (by have := hb8.size; omega) _) | exact KG.out _ _ (HBB.out.trans (hb8.mono hsd)) hg) (fun hHeld => ?_)
              clear hK KK
              (try simp only [Act.put, List.setIfInBounds_toArray, List.set_cons_zero, List.set_cons_succ])
              refine wpAnyH_ready (rs := [9]) (by as_aux_lemma => kernel_rfl) (by simp) (AllReadyH.cons rfl (fun KK hK => ?_) AllReadyH.nil)
              try simp only [List.getElem_toArray, List.getElem_cons_succ, List.getElem_cons_zero]
              go_simp
              go_at_call 66
              refine (rmade_any _ _ _ _ A13 K c13 S _ _ _ HRB.out (Nat.le_refl _) HSB.out (Nat.le_trans hle hsd) b1 (by omega) HSA.out (by omega) SZ.out).mono ?_
              rintro e w8 ⟨rfl, hb8⟩
              go_simp
              refine hK.out _ _ (by first | exact HCK.out | exact KX.out _ HBB.out | exact KX.out _ (HBB.out.trans (hb8.mono hsd)) | exact KX.out _ ((HBB.out.trans (hb8.mono hsd)).alloc (by have := hb8.size; omega) _) | exact KG.out _ _ (HBB.out.trans (hb8.mono hsd)) hg) (fun hHeld => ?_)
              clear hK KK
              (try simp only [Act.put, List.setIfInBounds_toArray, List.set_cons_zero, List.set_cons_succ])
              refine wpAnyH_ready (rs := [10]) (by as_aux_lemma => kernel_rfl) (by simp) (AllReadyH.cons rfl (fun KK hK => ?_) AllReadyH.nil)
              try simp only [List.getElem_toArray, List.getElem_cons_succ, List.getElem_cons_zero]
              go_simp
              refine hK.out _ _ (by first | exact HCK.out | exact KX.out _ HBB.out | exact KX.out _ (HBB.out.trans (hb8.mono hsd)) | exact KX.out _ ((HBB.out.trans (hb8.mono hsd)).alloc (by have := hb8.size; omega) _) | exact KG.out _ _ (HBB.out.trans (hb8.mono hsd)) hg) (fun hHeld => ?_)
              clear hK KK
              (try simp only [Act.put, List.setIfInBounds_toArray, List.set_cons_zero, List.set_cons_succ])
              refine wpAnyH_ready (rs := [11]) (by as_aux_lemma => kernel_rfl) (by simp) (AllReadyH.cons rfl (fun KK hK => ?_) AllReadyH.nil)
              try simp only [List.getElem_toArray, List.getElem_cons_succ, List.getElem_cons_zero]
              rw [if_pos (by as_aux_lemma => kernel_rfl)]
              refine wp_append1 elemStr _ _ rfl w6.heap.size u17 j _ rfl (own_below HJ1.out (HBB.out.trans (hb8.mono hsd))) _ rfl rfl hk1 hk2 (by have := hb8.size; omega) ?_
              intro v' w' ho hg
              refine hK.out _ _ (by first | exact HCK.out | exact KX.out _ HBB.out | exact KX.out _ (HBB.out.trans (hb8.mono hsd)) | exact KX.out _ ((HBB.out.trans (hb8.mono hsd)).alloc (by have := hb8.size; omega) _) | exact KG.out _ _ (HBB.out.trans (hb8.mono hsd)) hg) (fun hHeld => ?_)
              clear hK KK
              (try simp only [Act.put, List.setIfInBounds_toArray, List.set_cons_zero, List.set_cons_succ])
              refine wpAnyH_take (i := 12) (oi := _) (v := _) rfl (by as_aux_lemma => kernel_rfl) (by as_aux_lemma => kernel_rfl) (by as_aux_lemma => kernel_rfl) (fun _ _ _ h => h) (Or.inl ⟨by kernel_rfl, by (intro w hSw; (try dsimp only at hSw); go_simp; first | done | with_reducible rfl)⟩) (by assumption) ?_
              (try simp only [Act.put, List.setIfInBounds_toArray, List.set_cons_zero, List.set_cons_succ])
              refine wpAnyH_done (by as_aux_lemma => kernel_rfl) ?_ _
              simp only [List.getElem_toArray, List.getElem_cons_succ, List.getElem_cons_zero, List.set_cons_succ, List.set_cons_zero]
              have HB8 : Hid (Below wr.heap.size wr w8) := Lib.hid (HBB.out.trans (hb8.mono hsd))
              have HO8 : Hid (w8.ownsRow w6.heap.size 9 1 u17 j (strV ((List.range j).map fun i => sumL (sAt (mat K K Bm) i) S))) := Lib.hid (own_below HJ1.out HB8.out)
              rw [bs_of] at ho
              have HK' : Hid (w'.ownsRow w6.heap.size 9 1 v' (j + 1) (strV ((List.range (j + 1)).map fun i => sumL (sAt (mat K K Bm) i) S)) ∧ Below w6.heap.size w6 w') :=
                Lib.hid ⟨by rw [map_succ, HRW.out]; simpa [strV] using ho, below_own (HJ.out.2.trans (HB8.out.mono hle)) HO8.out hg⟩
              clear ho hg hHeld hb8
              go_wp2
              go_roundw
              case rel => exact ⟨j + 1, by omega, by go_num, HK'⟩
              case measure => simp [intOf]; omega
            · obtain rfl : j = K := by omega
              obtain ⟨O, hO⟩ : ∃ O, O = (List.range j).map fun i => sumL (sAt (mat j j Bm) i) S := ⟨_, rfl⟩
              have hOl : O.length = j := by rw [hO]; simp
              have hO0 : (sAt O 0).size = (sAt S 0).size := by rw [hO, sAt_map _ _ _ (by omega), sumL_size]
              have hOA : alikeB O = true := (alikeB_iff O).2 (fun i hi => by rw [hO0]; rw [hOl] at hi; rw [hO, sAt_map _ _ _ hi, sumL_size])
              have HOE : Hid (outL ss tt j = O) := Lib.hid (by unfold outL; rw [HL.out, HBK.out, ← HSE.out, hO])
              have XE : Hid (encR O (q : Int) = (parL O q, 0)) := Lib.hid (by
                rw [encR_yes ⟨by omega, by omega, hOA, by omega, by omega⟩, Int.toNat_natCast])
              have HOl := Lib.hid hOl
              have HO0 := Lib.hid hO0
              have HJ1 := HJ.out.1
              rw [← hO] at HJ1
              have HJO := Lib.hid HJ1
              have HB9 : Hid (Below w.heap.size w wr) := Lib.hid (HB6.out.trans (HJ.out.2.mono (by omega)))
              clear HJ1 HJ hO hOl hO0 hOA
              obtain ⟨A19, c19, rfl, hcap19, hr19⟩ := own_readsC HJO.out
              have HR19 := Lib.hid hr19
              clear hr19
              go_wp2_with fail
              refine (rencode_any A19 j c19 O (q : Int) _ _ HR19.out (Nat.le_refl _) (by omega) (by omega) (by omega) (by rw [HO0.out]; omega)).mono ?_
              rintro e w9 ⟨v9, rfl, ho9, hb9⟩
              rw [XE.out] at ho9 ⊢
              rw [show (parL O q, (0 : Int)).1.length = q from parL_length _ _] at ho9
              obtain ⟨A9, c9, rfl, _, hr9⟩ := own_readsC ho9
              have HR9 := Lib.hid hr9
              have HJ9 := Lib.hid (own_below HJO.out hb9)
              have HB10 := Lib.hid (HB9.out.trans (hb9.mono HB9.out.size))
              have hs9 := hb9.size
              clear ho9 hr9 hb9
              obtain ⟨ii, hii, hz0, hz1, hz2⟩ := elemStr.info
              have HI := Lib.hid hii
              have HZ0 := Lib.hid hz0
              have HZ1 := Lib.hid hz1
              have HZ2 := Lib.hid hz2
              clear hii hz0 hz1 hz2
              go_wp2_with (at_builtin; refine wpList_append_any _ rfl _ _ _ rfl w6.heap.size 9 ii _ 1 16 elemStr.ht HI.out HZ0.out HZ1.out HZ2.out elemStr.hz (by decide) _ j (strV O) rfl HJ9.out _ A9 q c9 (strV (parL O q)) rfl HR9.out (strV_one _) (by unfold maxLen; omega) (by omega) (Nat.le_trans hle hs9) ?_; intro v' w' ho hg _)
              have HF : Hid (w'.ownsRow w.heap.size 9 1 v' (rebL ss tt j).length (strV (rebL ss tt j)) ∧ Below w.heap.size w w') := Lib.hid (by
                have e : rebL ss tt j = O ++ parL O q := by unfold rebL; rw [HOE.out, HL.out, HQN.out]
                have e2 : (rebL ss tt j).length = j + q := by rw [e, List.length_append, HOl.out, parL_length]
                rw [e2, e]
                refine ⟨own_base (by simpa [strV] using ho) (by omega), below_own HB10.out (own_base HJ9.out (by omega)) hg⟩)
              clear ho hg
              go_ret2
              exact ⟨_, by rw [X'.out]; rfl, by rw [X'.out]; exact HF.out.1, HF.out.2⟩
end Go.Proofs.Ythlnnclpfgokjaa
