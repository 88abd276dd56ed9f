/- Walk: the law FieldSquares returns true. -/
import Derived.Test.YthlnnclpfgokjaaPick
import Derived.Test.YthlnnclpfgokjaaAwake
import Derived.Test.YthlnnclpfgokjaaInv
import Derived.Test.YthlnnclpfgokjaaFieldLawsW
import Derived.Test.YthlnnclpfgokjaaLin
import Derived.Deep.RegionHeld3
import Derived.Deep.DrawnRows
namespace Go.Proofs.Ythlnnclpfgokjaa
open Go.RowKit Gf
set_option linter.unusedVariables false
theorem byteAt_bs (l : List UInt8) (j : Nat) : byteAt (bs l) j = l.getD j 0 := by unfold byteAt; rw [bs_data]
theorem sAt_mat (r c : Nat) (F : Nat → Nat → UInt8) (i : Nat) (hi : i < r) : sAt (mat r c F) i = bs ((List.range c).map fun j => F i j) := by
  rw [sAt_get (by rw [mat_length]; exact hi)]
  simp [mat]
theorem ent_mat (r c : Nat) (F : Nat → Nat → UInt8) (i j : Nat) (hi : i < r) (hj : j < c) : ent (mat r c F) i j = F i j := by
  unfold ent
  rw [sAt_mat r c F i hi, byteAt_bs, List.getD_eq_getElem?_getD, List.getElem?_map, List.getElem?_range hj]; rfl
theorem col_mat (r c : Nat) (F : Nat → Nat → UInt8) (i : Nat) (hi : i < r) : (sAt (mat r c F) i).size = c := by
  rw [sAt_mat r c F i hi, bs_size]; simp
theorem ok_mat (r c : Nat) (F : Nat → Nat → UInt8) (h1 : 1 ≤ r) (h2 : r ≤ 64) (h3 : 1 ≤ c) (h4 : c ≤ 64) : okM (mat r c F) = true := by
  rw [okM_iff, mat_length, col_mat r c F 0 (by omega)]
  exact ⟨h1, h2, h3, h4, fun k hk => col_mat r c F k hk⟩
/-- A square piece of Cauchy's matrix. -/
def pieceF (p q : List Nat) (i j : Nat) : UInt8 := cauF (p.getD i 0) (q.getD j 0)
theorem ofNat_ne {a b : Nat} (ha : a < 256) (hb : b < 256) (h : a ≠ b) : UInt8.ofNat a ≠ UInt8.ofNat b := by
  intro e
  have := congrArg UInt8.toNat e
  rw [UInt8.toNat_ofNat', UInt8.toNat_ofNat'] at this
  omega
theorem piece_inv (p q : List Nat) (n : Nat) (h1 : 1 ≤ n) (h2 : n ≤ 64) (hp : ∀ i j, i < j → j < n → p.getD i 0 < p.getD j 0) (hq : ∀ i j, i < j → j < n → q.getD i 0 < q.getD j 0)
    (hp64 : ∀ i, i < n → p.getD i 0 < 64) (hq64 : ∀ i, i < n → q.getD i 0 < 64) : (invR (mat n n (pieceF p q))).2 = 0 := by
  have hfull : (invE (mat n n (pieceF p q))).2 = n := by
    unfold invE
    rw [mat_length]
    refine cauchy_full n _ (fun i => UInt8.ofNat (128 + p.getD i 0)) (fun j => UInt8.ofNat (q.getD j 0)) (fun i k hi hk hne => ?_) (fun i k hi hk hne => ?_) (fun i k hi hk => ?_) (fun i j hi hj => ?_)
    · have := hp64 i hi
      have := hp64 k hk
      refine ofNat_ne (by omega) (by omega) ?_
      rcases Nat.lt_or_gt_of_ne hne with h | h
      · have := hp i k h hk; omega
      · have := hp k i h hi; omega
    · have := hq64 i hi
      have := hq64 k hk
      refine ofNat_ne (by omega) (by omega) ?_
      rcases Nat.lt_or_gt_of_ne hne with h | h
      · have := hq i k h hk; omega
      · have := hq k i h hi; omega
    · exact cauA_ne _ _ (hp64 i hi) (hq64 k hk)
    · unfold augM
      rw [if_pos hj, ent_mat n n _ i j hi hj]; rfl
  unfold invR
  rw [if_pos ⟨ok_mat n n _ h1 h2 h1 h2, by rw [mat_length]; unfold col; rw [col_mat n n _ 0 (by omega)]⟩, hfull, mat_length, if_neg (by omega)]
theorem reads_take {w : World} {B n k : Nat} {A : Option Addr} {l : List UInt8} (h : Reads w B 1 A n (u8s l)) (hk : k ≤ n) : Reads w B 1 A k (u8s (l.take k)) := by
  have hl := h.u8
  refine ⟨by rw [u8s_length, List.length_take]; omega, fun h0 => ?_⟩
  obtain ⟨ad, e, hb, hc⟩ := h.2 (by omega)
  refine ⟨ad, e, hb, fun j u hj => hc j u ?_⟩
  simp only [u8s, List.map_take] at hj ⊢
  rw [List.getElem?_take] at hj
  split at hj
  · exact hj
  · cases hj
def pieceRow (p q : List Nat) (i n : Nat) : List UInt8 := (List.range n).map fun j => pieceF p q i j
theorem pieceRow_succ (p q : List Nat) (i n : Nat) : pieceRow p q i (n + 1) = pieceRow p q i n ++ [pieceF p q i n] := by simp [pieceRow, List.range_succ]
theorem own_drew {w : World} {base : Nat} {e : TypeId} {size n : Nat} {v : Value} {xs : List Value} (h : w.ownsRow base e size v n xs) : w.drew.ownsRow base e size v n xs := h
theorem far_own {w w' : World} {base : Nat} {e : TypeId} {size n : Nat} {v : Value} {xs : List Value} (hg : w.grownBy w' v.ownBlock) (h : w.ownsRow base e size v n xs) {p : Addr} (hp : p.block < base) (hb : p.block < w.heap.size) : w'.cell? p = w.cell? p :=
  World.cell?_of_block (hg.block p.block hb (fun e => by have := own_ge h _ e.symm; omega))
theorem step_append1 {P : Program} {w : World} {t e : TypeId} {z : Value} {bytes : Nat} (E : Elem1 P t e z bytes) {ops : Array Oper} {o : Oper} {a : Act} {K : Act → World → Prop} {Q : Exit → Act → World → Prop} {F : Prop} (hgd : o.guard = none) (s x : Operand)
    (ho : o.op = .call { callee := .builtin .append, args := #[s, x], argTypes := #[t, t] })
    (base : Nat) (v : Value) (n : Nat) (xs : List Value) (hs : a.eval s = v) (hown : w.ownsRow base e 1 v n xs) (u : Value) (hx : a.eval x = .slice (some ⟨w.heap.size, 0, none⟩) 1 1)
    (h1 : u.oneCell' = true) (hn : n ≤ 4611686018427387904) (hbytes : (n + 1) * bytes ≤ 140737488355328) (hbase : base ≤ w.heap.size)
    (h : ∀ v' w', w'.ownsRow base e 1 v' (n + 1) (xs ++ [u]) → w.grownBy w' v.ownBlock → K (a.put o.dst v') w') :
    if Region.wanted o (yielded ops a.tmps) = true then Oper.wp P o a (w.alloc (.cells #[u] e)).drew K Q else F := by
  obtain ⟨i, hi, hz0, hz1, hz2⟩ := E.info
  refine step_append_any (w.alloc (.cells #[u] e)).drew hgd s x t ho base e i z 1 bytes E.ht hi hz0 hz1 hz2 E.hz (by decide) v n xs hs (own_drew (hown.alloc _)) (w.heap.size + 1) (some ⟨w.heap.size, 0, none⟩) 1 1 [u] hx
    ⟨rfl, fun _ => ⟨_, rfl, by simp, fun j u' hj => ?_⟩⟩ (by intro u' hu'; rw [List.mem_singleton] at hu'; subst hu'; exact h1) (by unfold maxLen; omega) hbytes (by simp; omega) (fun v' w' h2 h3 h4 => h v' w' h2 ?_)
  · match j, hj with
    | 0, hj =>
      simp at hj; subst hj
      have := (World.rowIs_alloc w #[u] e (fun _ => u) (fun i hi => by
        have : i = 0 := by simpa using hi
        subst this; rfl)).cell (i := 0) (by simp)
      simp [Addr.add]
  · exact ⟨h3.os, h3.tape, h3.output, Nat.le_trans (by simp) h3.size, fun k hk hne => (h3.block k (by simp; omega) hne).trans (Below.heap_alloc w _ k hk)⟩
theorem natV_get (l : List Nat) (i : Nat) (hi : i < l.length) : (natV l)[i]? = some (.int .i64 ((l.getD i 0 : Nat) : Int)) := by
  simp [natV, hi, List.getD]
theorem reads_nat {w : World} {B n : Nat} {A : Option Addr} {l : List Nat} (h : Reads w B 1 A n (natV l)) (hn : 1 ≤ n) : ∃ ad, A = some ad ∧ ad.block < B ∧ ∀ j, j < n → w.cell? (ad.add j) = some (.int .i64 ((l.getD j 0 : Nat) : Int)) := by
  obtain ⟨ad, e, hb, hc⟩ := h.2 (by omega)
  have hl : l.length = n := by have := h.1; simp [natV] at this; omega
  exact ⟨ad, e, hb, fun j hj => hc j _ (natV_get l j (by omega))⟩

attribute [local go_sem ↓] Go.wp_at_zero Go.wp_at_succ
set_option maxRecDepth 100000 in
set_option maxHeartbeats 2000000 in
theorem fieldSquares_walk (r c : Int) (A : Option Addr) (n cu : Nat) (up : List UInt8) (A' : Option Addr) (n' cu' : Nat) (al : List UInt8) (h1 : -9223372036854775808 ≤ r) (h2 : r ≤ 9223372036854775807) (h3 : -9223372036854775808 ≤ c) (h4 : c ≤ 9223372036854775807)
    (w : World) (hr : Reads w w.heap.size 1 A n (u8s up)) (hn : n ≤ 140737488351232) (hcap : n ≤ cu) (hr' : Reads w w.heap.size 1 A' n' (u8s al)) (hn' : n' ≤ 140737488351232) (hcap' : n' ≤ cu') :
    Calls Try.prog 9 #[.int .i64 r, .int .i64 c, .slice A n cu, .slice A' n' cu'] w fun e w' => e = .returned (.bool true) ∧ Below w.heap.size w w' := by
  have t1 := tmod_bd r 64 (by omega)
  have t2 := tmod_bd c 64 (by omega)
  obtain ⟨b1, b2⟩ := t1
  obtain ⟨b3, b4⟩ := t2
  obtain ⟨R, hR⟩ : ∃ R : Nat, 1 + r.tmod 64 % 64 = (R : Int) := ⟨(1 + r.tmod 64 % 64).toNat, by omega⟩
  obtain ⟨C, hC⟩ : ∃ C : Nat, 1 + c.tmod 64 % 64 = (C : Int) := ⟨(1 + c.tmod 64 % 64).toNat, by omega⟩
  have R1 : 1 ≤ R := by omega
  have R2 : R ≤ 64 := by omega
  have C1 : 1 ≤ C := by omega
  have C2 : C ≤ 64 := by omega
  have XC : Hid (cauR (R : Int) (C : Int) = (mat R C cauF, 0)) := Lib.hid (by unfold cauR; rw [if_pos (by omega)]; rfl)
  have ML := Lib.hid (mat_length R C cauF)
  have HU := Lib.hid hr
  have HA := Lib.hid hr'
  clear hr hr'
  go_enter Try.func9, Try.ntmps9
  go_wp2_with fail
  refine (awake_any _).mono ?_; rintro e w1 ⟨rfl, hb1⟩
  have HB := Lib.hid hb1
  clear hb1
  go_wp2_with fail
  refine (cauchy_any _ _ _).mono ?_
  clear hR hC
  rintro e w2 ⟨v, rfl, ho, hb⟩
  rw [XC.out] at ho ⊢
  simp only [ML.out] at ho
  obtain ⟨AM, cm, rfl, hrm⟩ := own_reads ho
  have HM := Lib.hid hrm
  have HB2 : Hid (Below w.heap.size w w2) := Lib.hid (HB.out.trans (hb.mono HB.out.size))
  clear hrm ho hb
  have s2 := HB2.out.size
  have P1 : Hid (∃ m U, (if 12 < n then 12 else n) = m ∧ Reads w2 w.heap.size 1 A m (u8s U) ∧ m ≤ n) := Lib.hid (by
    by_cases h : 12 < n
    · rw [if_pos h]
      exact ⟨12, up.take 12, rfl, (reads_take (HU.out.below HB2.out) (by omega)), by omega⟩
    · rw [if_neg h]
      exact ⟨n, up, rfl, HU.out.below HB2.out, by omega⟩)
  obtain ⟨m, U, hm, hRU, hmn⟩ := P1.out
  have HRU := Lib.hid hRU
  clear hRU P1
  by_cases h12 : 12 < n
  all_goals
    first | rw [if_pos h12] at hm | rw [if_neg h12] at hm
    subst hm
    go_wp2_with fail
    refine (picked_any w2 w.heap.size _ _ _ R U HRU.out s2 (by omega) R1 R2).mono ?_
    rintro e w3 ⟨v3, rfl, ho3, hb3⟩
    have mP := Lib.hid (pkL_mono U R R)
    have tP := Lib.hid (pkL_at U R R)
    have lP := pkL_length U R R
    generalize pkL U R R = P at ho3 mP tP lP ⊢
    obtain ⟨AP, cP, rfl, hrP⟩ := own_reads ho3
    have HP := Lib.hid hrP
    have HB3 := Lib.hid (HB2.out.trans (hb3.mono HB2.out.size))
    have HM3 := Lib.hid (HM.out.below hb3)
    have s3 := hb3.size
    clear hrP ho3 hb3
    go_wp2_with fail
    refine (picked_any w3 w.heap.size _ _ _ C al (HA.out.below HB3.out) HB3.out.size (by omega) C1 C2).mono ?_
    rintro e w4 ⟨v4, rfl, ho4, hb4⟩
    have mQ := Lib.hid (pkL_mono al C C)
    have tQ := Lib.hid (pkL_at al C C)
    have lQ := pkL_length al C C
    generalize pkL al C C = Q at ho4 mQ tQ lQ ⊢
    obtain ⟨AQ, cQ, rfl, hrQ⟩ := own_reads ho4
    have HQ := Lib.hid hrQ
    have HB4 := Lib.hid (HB3.out.trans (hb4.mono HB3.out.size))
    have HM4 := Lib.hid (HM3.out.below (hb4.mono s3))
    have HP4 := Lib.hid (HP.out.below hb4)
    have s4 := hb4.size
    clear hrQ ho4 hb4 HM HM3 HP
    have SM : Hid (∀ i, i < R → (sAt (mat R C cauF) i).size = C) := Lib.hid (fun i hi => col_mat R C cauF i hi)
    have EM : Hid (∀ i j, i < R → j < C → byteAt (sAt (mat R C cauF) i) j = cauF i j) := Lib.hid (fun i j hi hj => ent_mat R C cauF i j hi hj)
    have EB : Hid (∀ i j, byteAt (sAt (mat R C cauF) i) j = ent (mat R C cauF) i j) := Lib.hid (fun i j => rfl)
    generalize mat R C cauF = M at HM4 SM EM EB ⊢
    by_cases hz : P.length = 0 ∨ Q.length = 0
    · by_cases h0 : P.length ≤ Q.length
      · have h1 : P.length ≤ 0 := by omega
        clear hz
        go_wp2
        go_ret
        exact ⟨rfl, HB4.out⟩
      · have h1 : Q.length ≤ 0 := by omega
        clear hz
        go_wp2
        go_ret
        exact ⟨rfl, HB4.out⟩
    have z1 : 1 ≤ P.length := by omega
    have z2 : 1 ≤ Q.length := by omega
    clear hz
    by_cases h0 : P.length ≤ Q.length
    all_goals
      go_wp2
      obtain ⟨N, hN, N1, NP, NQ⟩ : ∃ N, (if P.length ≤ Q.length then P.length else Q.length) = N ∧ 1 ≤ N ∧ N ≤ P.length ∧ N ≤ Q.length := ⟨_, rfl, by split <;> omega, by split <;> omega, by split <;> omega⟩
      first | rw [if_pos h0] at hN | rw [if_neg h0] at hN
      rw [hN]
      clear hN h0
      go_loopw [14, 15, 16, 17] (fun v i _ _ wr => ∃ k : Nat, k ≤ N ∧ i = .int .i64 k ∧ Hid (wr.ownsRow w4.heap.size 9 1 v k (strV (mat k N (pieceF P Q))) ∧ Below w4.heap.size w4 wr)) (fun _ i _ _ _ => N - (intOf i).toNat)
      case atStart => exact ⟨0, by omega, rfl, Lib.hid ⟨World.ownsRow_nil _ _ _ _, Below.refl _ _⟩⟩
      case round =>
        obtain ⟨k, hk, rfl, HR⟩ := hrel
        by_cases hkl : k < N
        · go_wp2
          obtain ⟨wo, rfl⟩ : ∃ wo : World, wo = wr := ⟨_, rfl⟩
          have HK := Lib.hid HR.out
          clear HR
          go_loopw [16, 17] (fun v i wr => ∃ j : Nat, j ≤ N ∧ i = .int .i64 j ∧ Hid (wr.ownsRow w4.heap.size 9 1 u14 k (strV (mat k N (pieceF P Q))) ∧ wr.ownsRow w4.heap.size 5 1 v j (u8s (pieceRow P Q k j)) ∧ Below w4.heap.size w4 wr)) (fun _ i _ => N - (intOf i).toNat)
          case atStart => exact ⟨0, by omega, rfl, Lib.hid ⟨HK.out.1, World.ownsRow_nil _ _ _ _, HK.out.2⟩⟩
          case round =>
            obtain ⟨j, hj, rfl, HJ⟩ := hrel
            by_cases hjl : j < N
            · obtain ⟨aP, rfl, hbP, hcP⟩ := reads_nat (HP4.out.below (HJ.out.2.2.mono s4)) (by omega)
              obtain ⟨aQ, rfl, hbQ, hcQ⟩ := reads_nat (HQ.out.below HJ.out.2.2) (by omega)
              have hcP1 := hcP k (by omega)
              have hcQ1 := hcQ j (by omega)
              clear hcP hcQ
              have kP : k < P.length := by omega
              have jQ : j < Q.length := by omega
              have hp1 := tP.out k kP
              have hq1 := tQ.out j jQ
              have EV : Hid (byteAt (sAt M (P.getD k 0)) (Q.getD j 0) = pieceF P Q k j) := Lib.hid (EM.out _ _ hp1 hq1)
              have hsz := SM.out _ hp1
              obtain ⟨aM, rfl, hbM, hcM⟩ := (HM4.out.below (HJ.out.2.2.mono (Nat.le_trans s3 s4))).str (k := 0) (by omega)
              have hcM1 := hcM _ hp1
              clear hcM
              have hq2 : Q.getD j 0 < (sAt M (P.getD k 0)).size := by omega
              have EG := Lib.hid (byteAt_get _ _ hq2)
              generalize P.getD k 0 = pk at *
              generalize Q.getD j 0 = qj at *
              generalize sAt M pk = sm at *
              have hkPi : (k : Int) < (P.length : Int) := by omega
              have hkNi : (k : Int) < (N : Int) := by omega
              have hjQi : (j : Int) < (Q.length : Int) := by omega
              have hjNi : (j : Int) < (N : Int) := by omega
              have hpi : (pk : Int) < (R : Int) := by omega
              have hqi : (qj : Int) < (C : Int) := by omega
              have hle := HJ.out.2.2.size
              have hj1 : j ≤ 4611686018427387904 := by omega
              have hj2 : (j + 1) * 1 ≤ 140737488355328 := by omega
              have HO := Lib.hid HJ.out.2.1
              have FP : Hid (∀ (w' : World), wr.grownBy w' u16.ownBlock → w'.cell? (aP.add k) = some (.int .i64 (pk : Int)) ∧ w'.cell? (aM.add pk) = some (.string sm) ∧ w'.cell? (aQ.add j) = some (.int .i64 (qj : Int))) := Lib.hid (fun w' hg =>
                ⟨(far_own hg HO.out (by rw [block_of_add]; omega) (by rw [block_of_add]; omega)).trans hcP1, (far_own hg HO.out (by rw [block_of_add]; omega) (by rw [block_of_add]; omega)).trans hcM1, (far_own hg HO.out (by rw [block_of_add]; omega) (by rw [block_of_add]; omega)).trans hcQ1⟩)
              go_wp2
              go_region_held3 (fun w' => w'.cell? (aP.add k) = some (.int .i64 (pk : Int)) ∧ w'.cell? (aM.add pk) = some (.string sm) ∧ w'.cell? (aQ.add j) = some (.int .i64 (qj : Int)))
                (first | go_keep | exact FP.out _ hg)
                ((refine step_append1 elemByte (by rfl) _ _ (by rfl) w4.heap.size _ j _ (by rfl) HO.out _ (by rfl) (by rfl) hj1 hj2 hle ?_; intro v' w' ho hg))
              have HJ' : Hid (w'.ownsRow w4.heap.size 9 1 u14 k (strV (mat k N (pieceF P Q))) ∧ w'.ownsRow w4.heap.size 5 1 v' (j + 1) (u8s (pieceRow P Q k (j + 1))) ∧ Below w4.heap.size w4 w') :=
                Lib.hid ⟨own_keep HJ.out.1 HJ.out.2.1 (by decide) hg, by rw [pieceRow_succ, ← EV.out, ← EG.out]; simpa [u8s] using ho, below_own HJ.out.2.2 HJ.out.2.1 hg⟩
              clear ho hg
              go_wp2
              go_roundw
              case rel => exact ⟨j + 1, by omega, by go_num, HJ'⟩
              case measure => simp [intOf]; omega
            · obtain rfl : j = N := by omega
              obtain ⟨Ab, cb, rfl, hrb⟩ := own_reads HJ.out.2.1
              obtain ⟨ad, rfl, _, hcell⟩ := reads_u8 hrb N1
              have HC := Lib.hid hcell
              have hle := HJ.out.2.2.size
              have hk1 : k ≤ 4611686018427387904 := by omega
              have hk2 : (k + 1) * 16 ≤ 140737488355328 := by omega
              have hlen : (pieceRow P Q k j).length = j := by simp [pieceRow]
              have HL := Lib.hid hlen
              clear hrb hcell hlen
              go_wp2_with (first
                | (with_reducible refine conv_str_wp (e := 5) (by kernel_rfl) (by kernel_rfl) (by kernel_rfl) rfl _ rfl ad j cb rfl (pieceRow P Q k j) HL.out HC.out ?_)
                | (at_builtin; refine append1_new elemStr rfl _ _ rfl w4.heap.size _ k _ rfl HJ.out.1 _ rfl rfl hk1 hk2 hle ?_; intro v' w' ho hg))
              have HK' : Hid (w'.ownsRow w4.heap.size 9 1 v' (k + 1) (strV (mat (k + 1) j (pieceF P Q))) ∧ Below w4.heap.size w4 w') :=
                Lib.hid ⟨by rw [mat_succ]; simpa [strV, pieceRow] using ho, below_own HJ.out.2.2 HJ.out.1 hg⟩
              clear ho hg
              go_roundw
              case rel => exact ⟨k + 1, by omega, by go_num, HK'⟩
              case measure => simp [intOf]; omega
        · obtain rfl : k = N := by omega
          obtain ⟨Ap, cp, rfl, hrp⟩ := own_reads HR.out.1
          have HRp := Lib.hid hrp
          clear hrp
          have PI : Hid ((invR (mat k k (pieceF P Q))).2 = 0) := Lib.hid (piece_inv P Q k N1 (by omega) (fun i j hij hj => mP.out i j hij (by omega)) (fun i j hij hj => mQ.out i j hij (by omega)) (fun i hi => by have := tP.out i (by omega); omega) (fun i hi => by have := tQ.out i (by omega); omega))
          have SZ : Hid (∀ s ∈ mat k k (pieceF P Q), s.size ≤ 9223372036854775807) := Lib.hid (fun s hs => by
            obtain ⟨i, hi, rfl⟩ := List.getElem_of_mem hs
            rw [mat_length] at hi
            have := col_mat k k (pieceF P Q) i hi
            rw [sAt_get (by rw [mat_length]; exact hi)] at this
            omega)
          go_wp2_with fail
          refine (inverseM_any Ap k cp (mat k k (pieceF P Q)) _ _ HRp.out (Nat.le_refl _) (by omega) SZ.out).mono ?_
          rintro e w6 ⟨v6, rfl, _, hb6⟩
          rw [PI.out]
          have HB6 := Lib.hid (HB4.out.trans ((HR.out.2.mono HB4.out.size).trans (hb6.mono (Nat.le_trans HB4.out.size HR.out.2.size))))
          clear hb6
          go_wp2
          go_ret
          exact ⟨rfl, HB6.out⟩
end Go.Proofs.Ythlnnclpfgokjaa
