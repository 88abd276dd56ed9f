/- Walk: the law FieldMatrices returns true: the walk itself. -/
import Derived.Test.YthlnnclpfgokjaaFieldMatricesW
import Derived.Test.YthlnnclpfgokjaaRefInv
import Derived.Test.YthlnnclpfgokjaaRank
namespace Go.Proofs.Ythlnnclpfgokjaa
open Go.RowKit Gf
set_option linter.unusedVariables false
theorem chk_form (ss : List ByteArray) : ∃ r c e : Int, chkV ss = .tuple #[.int .i64 r, .int .i64 c, .int .i64 e] := by
  unfold chkV
  split
  · exact ⟨_, _, _, rfl⟩
  · exact ⟨_, _, _, rfl⟩
theorem prodR_len (a b : List ByteArray) : (prodR a b).1.length ≤ 64 := by
  unfold prodR
  split
  · next h => rw [mat_length]; exact ((okM_iff a).1 h.1).2.1
  · exact Nat.zero_le _
theorem invR_len (a : List ByteArray) : (invR a).1.length ≤ 64 := by
  unfold invR
  split
  · next h =>
    split
    · exact Nat.zero_le _
    · rw [mat_length]; exact ((okM_iff a).1 h.1).2.1
  · exact Nat.zero_le _
theorem mx_start {w w1 w2 w3 w4 : World} {n k g cap g' cap' : Nat} {xs b : List ByteArray} {v1 v3 : Value}
    (o1 : w1.ownsRow w.heap.size 9 1 v1 n (strV xs)) (g1 : w.grownBy w1 none) (o2 : w2.ownsRow w.heap.size 9 1 (.slice (some ⟨g, 0, none⟩) (n + 1) cap) (n + 1) (strV xs ++ [.string ⟨#[109, 97, 114, 107]⟩])) (g2 : w1.grownBy w2 v1.ownBlock)
    (o3 : w3.ownsRow w2.heap.size 9 1 v3 k (strV b)) (g3 : w2.grownBy w3 none) (o4 : w4.ownsRow w2.heap.size 9 1 (.slice (some ⟨g', 0, none⟩) (k + 1) cap') (k + 1) (strV b ++ [.string ⟨#[109, 97, 114, 107]⟩])) (g4 : w3.grownBy w4 v3.ownBlock) :
    MxS w w4 n k g cap g' cap' xs b := by
  have b2 : Below w.heap.size w w2 := below_grown (below_grown (Below.refl _ _) g1 (by intro _ h; cases h)) g2 (own_ge o1)
  have b4 : Below w2.heap.size w2 w4 := below_grown (below_grown (Below.refl _ _) g3 (by intro _ h; cases h)) g4 (own_ge o3)
  refine ⟨own_below o2 b4, own_base o4 b2.size, b2.trans (b4.mono b2.size), ?_⟩
  have h1 := own_block_lt o2 g rfl
  have h2 := own_ge o4 g' rfl
  omega

theorem own_cap {w : World} {base : Nat} {e : TypeId} {g n cap : Nat} {xs : List Value} (h : w.ownsRow base e 1 (.slice (some ⟨g, 0, none⟩) n cap) n xs) : n ≤ cap := by
  rcases h.2 with ⟨h0, _⟩ | ⟨q2, c2, cur, h0, _, _, hc, _⟩
  · cases h0
  · injection h0 with _ _ h0; omega
theorem swapped_ok {w wr : World} {n k g cap g' cap' : Nat} {xs b : List ByteArray} (h : MxS w wr n k g cap g' cap' xs b) (hz : ∀ s ∈ xs, s.size ≤ 9223372036854775807) {i j : Nat} (hi : i < n) (hj : j < n) :
    ∃ ys, MxS w (((wr.setCell ⟨g, i, none⟩ (.string (sAt xs j))).setCell ⟨g, j, none⟩ (.string (sAt xs i))).drew) n k g cap g' cap' ys b ∧ ∀ s ∈ ys, s.size ≤ 9223372036854775807 := by
  have hl : xs.length = n := h.x.len
  refine ⟨_, ((h.set_ hi (sAt xs j)).set_ hj (sAt xs i)).drew, fun s hs => ?_⟩
  rcases List.mem_or_eq_of_mem_set hs with hs | rfl
  · rcases List.mem_or_eq_of_mem_set hs with hs | rfl
    · exact hz s hs
    · exact hz _ (sAt_mem (by omega))
  · exact hz _ (sAt_mem (by omega))
set_option maxRecDepth 100000 in
set_option maxHeartbeats 2000000 in
theorem fieldMatrices_walk (A : Option Addr) (n c : Nat) (a : List ByteArray) (A' : Option Addr) (k c' : Nat) (b : List ByteArray) (w : World) (h : Reads w w.heap.size 1 A n (strV a)) (hn : n * 16 ≤ 140737488351232) (hz : ∀ s ∈ a, s.size ≤ 9223372036854775807)
    (h' : Reads w w.heap.size 1 A' k (strV b)) (hk : k * 16 ≤ 140737488351232) (hz' : ∀ s ∈ b, s.size ≤ 9223372036854775807) :
    Calls Try.prog 8 #[.slice A n c, .slice A' k c'] w fun e w' => e = .returned (.bool true) ∧ Below w.heap.size w w' := by
  have H := Lib.hid h
  have H' := Lib.hid h'
  have Z := Lib.hid hz
  have Z' := Lib.hid hz'
  have N0 : Hid (n ≤ 4611686018427387904 ∧ n * 16 ≤ 140737488355328 ∧ (n + 1) * 16 ≤ 140737488355328) := Lib.hid (by omega)
  have K0 : Hid (k ≤ 4611686018427387904 ∧ k * 16 ≤ 140737488355328 ∧ (k + 1) * 16 ≤ 140737488355328) := Lib.hid (by omega)
  have hn9 : n ≤ 9223372036854775806 := by omega
  have hk9 : k ≤ 9223372036854775806 := by omega
  clear h h' hz hz' hn hk
  go_enter Try.func8, Try.ntmps8
  go_wp2_with (first
    | (at_builtin; refine appendE_wp elemStr rfl _ _ rfl rfl _ A n c _ rfl H.out (Nat.le_refl _) (oneStr _) N0.out.1 N0.out.2.1 ?_; intro v1 w1 o1 g1)
    | (at_builtin; refine append1_new elemStr rfl _ _ rfl w.heap.size _ n _ rfl o1 _ rfl rfl N0.out.1 N0.out.2.2 g1.size ?_; intro v2 w2 o2 g2; obtain ⟨g, cap, rfl, _, _⟩ := o2.form (Nat.succ_pos _); have hcap : n + 1 ≤ cap := own_cap o2)
    | (at_builtin; refine appendE_wp elemStr rfl _ _ rfl rfl _ A' k c' _ rfl ((H'.out.grown g1 (Nat.le_refl _) (by intro _ h; cases h)).grown g2 g1.size (fun q hq => own_ge o1 q hq)) (Nat.le_trans g1.size g2.size) (oneStr _) K0.out.1 K0.out.2.1 ?_; intro v3 w3 o3 g3)
    | (at_builtin; refine append1_new elemStr rfl _ _ rfl w2.heap.size _ k _ rfl o3 _ rfl rfl K0.out.1 K0.out.2.2 g3.size ?_; intro v4 w4 o4 g4; obtain ⟨g', cap', rfl, _, _⟩ := o4.form (Nat.succ_pos _); have hcap' : k + 1 ≤ cap' := own_cap o4; have M0 := Lib.hid (mx_start o1 g1 o2 g2 o3 g3 o4 g4); clear o1 g1 o2 g2 o3 g3 o4 g4))
  go_loopw [9, 10, 11, 12, 13, 14, 15, 16, 17, 18, 19, 20, 21, 22, 23] (fun r _ _ _ _ _ _ _ _ _ _ _ _ _ _ wr => ∃ q : Nat, q ≤ 2 ∧ r = .int .i64 (q : Int) ∧ Hid (∃ xs, MxS w wr n k g cap g' cap' xs b ∧ ∀ s ∈ xs, s.size ≤ 9223372036854775807)) (fun r _ _ _ _ _ _ _ _ _ _ _ _ _ _ _ => 2 - (intOf r).toNat)
  case atStart => exact ⟨0, by omega, rfl, Lib.hid ⟨_, M0.out, Z.out⟩⟩
  case round =>
    obtain ⟨q, hq, rfl, HR⟩ := hrel
    by_cases hq2 : q < 2
    · obtain ⟨xs, hm, hzx⟩ := HR.out
      have M := Lib.hid hm
      have ZX := Lib.hid hzx
      obtain ⟨r0, c0, e0, hch⟩ := chk_form xs
      have CH := Lib.hid hch
      have LP := Lib.hid (prodR_len xs b)
      have LI := Lib.hid (invR_len xs)
      obtain ⟨P, hP⟩ : ∃ u, u = prodR xs b := ⟨_, rfl⟩
      obtain ⟨I, hI⟩ : ∃ u, u = invR xs := ⟨_, rfl⟩
      obtain ⟨R, hR⟩ : ∃ u, u = rankR xs := ⟨_, rfl⟩
      rw [← hP] at LP
      rw [← hI] at LI
      have EP := Lib.hid hP
      have EI := Lib.hid hI
      have ER := Lib.hid hR
      clear hP hI hR hm hzx hch HR M0
      obtain ⟨pl, pe⟩ := P
      obtain ⟨il, ie⟩ := I
      obtain ⟨rk, re⟩ := R
      go_wp2_with (at_builtin; refine appendE_wp elemStr rfl _ _ rfl rfl _ _ n _ _ rfl M.out.x (Nat.le_refl _) (oneStr _) N0.out.1 N0.out.2.1 ?_; intro v1 w1 o1 g1; obtain ⟨A1, c1, rfl, r1⟩ := own_reads o1)
      have b1 := below_grown (Below.refl wr.heap.size wr) g1 (by intro _ h; cases h)
      have RW := Lib.hid r1
      have RX := Lib.hid ((M.out.x.below b1).more b1.size)
      have RY := Lib.hid ((M.out.y.below b1).more b1.size)
      have RB := Lib.hid ((H'.out.below (M.out.2.2.1.trans (b1.mono M.out.2.2.1.size))).more (Nat.le_trans M.out.2.2.1.size b1.size))
      have M1 := Lib.hid (M.out.below b1)
      clear M b1 r1 o1 g1
      refine (rcheck_any A1 n c1 xs _ _ RW.out (by omega) ZX.out).mono ?_
      rintro e wx ⟨rfl, hw⟩
      subst hw
      rw [CH.out]
      go_wp2_with fail
      refine (check_any _ n cap xs _ _ RX.out (by omega) ZX.out).mono ?_
      rintro e wx ⟨rfl, m, rfl⟩
      rw [CH.out]
      go_wp2_with fail
      have B2 := Lib.hid (below_drewN (Below.refl w1.heap.size w1) m)
      generalize w1.drewN m = w2 at B2 ⊢
      refine (rproduct_any A1 A' n c1 k c' xs b w2 _ _ (RW.out.below B2.out) (RB.out.below B2.out) B2.out.size B2.out.size (by omega) (by omega) ZX.out Z'.out).mono ?_
      rintro e w3 ⟨v3, rfl, o3, b3⟩
      rw [← EP.out] at o3 ⊢
      have O3 := Lib.hid o3
      have C3 := Lib.hid b3
      have B3 := Lib.hid (B2.out.trans (b3.mono B2.out.size))
      clear o3 b3
      go_wp2_with fail
      refine (product_any _ _ n cap k cap' xs b w3 _ _ (RX.out.below B3.out) (RY.out.below B3.out) B3.out.size B3.out.size (by omega) (by omega) ZX.out Z'.out).mono ?_
      rintro e w4 ⟨v4, rfl, o4, b4⟩
      rw [← EP.out] at o4 ⊢
      have O4 := Lib.hid o4
      have C4 := Lib.hid b4
      have B4 := Lib.hid (B3.out.trans (b4.mono B3.out.size))
      clear o4 b4
      go_wp2_with fail
      refine (product_any _ _ n cap k cap' xs b w4 _ _ (RX.out.below B4.out) (RY.out.below B4.out) B4.out.size B4.out.size (by omega) (by omega) ZX.out Z'.out).mono ?_
      rintro e w5 ⟨v5, rfl, o5, b5⟩
      rw [← EP.out] at o5 ⊢
      have O5 := Lib.hid o5
      have C5 := Lib.hid b5
      have B5 := Lib.hid (B4.out.trans (b5.mono B4.out.size))
      clear o5 b5
      go_wp2_with fail
      refine (fresh3 C3.out.size O3.out O4.out O5.out C4.out C5.out LP.out).mono ?_
      rintro e w6 ⟨rfl, b6⟩
      have B6 := Lib.hid (B5.out.trans (b6.mono B3.out.size))
      clear b6
      go_wp2_with fail
      refine (rinverse_any A1 n c1 xs w6 _ (RW.out.below B6.out) B6.out.size (by omega) ZX.out).mono ?_
      rintro e w7 ⟨v7, rfl, o7, b7⟩
      rw [← EI.out] at o7 ⊢
      have O7 := Lib.hid o7
      have C7 := Lib.hid b7
      have B7 := Lib.hid (B6.out.trans (b7.mono B6.out.size))
      clear o7 b7
      go_wp2_with fail
      refine (inverseM_any _ n cap xs w7 _ (RX.out.below B7.out) B7.out.size (by omega) ZX.out).mono ?_
      rintro e w8 ⟨v8, rfl, o8, b8⟩
      rw [← EI.out] at o8 ⊢
      have O8 := Lib.hid o8
      have C8 := Lib.hid b8
      have B8 := Lib.hid (B7.out.trans (b8.mono B7.out.size))
      clear o8 b8
      go_wp2_with fail
      refine (inverseM_any _ n cap xs w8 _ (RX.out.below B8.out) B8.out.size (by omega) ZX.out).mono ?_
      rintro e w9 ⟨v9, rfl, o9, b9⟩
      rw [← EI.out] at o9 ⊢
      have O9 := Lib.hid o9
      have C9 := Lib.hid b9
      have B9 := Lib.hid (B8.out.trans (b9.mono B8.out.size))
      clear o9 b9
      go_wp2_with fail
      refine (fresh3 C7.out.size O7.out O8.out O9.out C8.out C9.out LI.out).mono ?_
      rintro e wa ⟨rfl, ba⟩
      have Ba := Lib.hid (B9.out.trans (ba.mono B7.out.size))
      clear ba
      go_wp2_with fail
      refine (rrank_any A1 n c1 xs wa _ (RW.out.below Ba.out) Ba.out.size (by omega) ZX.out).mono ?_
      rintro e wb ⟨rfl, bb⟩
      rw [← ER.out]
      have Bb := Lib.hid (Ba.out.trans (bb.mono Ba.out.size))
      clear bb
      go_wp2_with fail
      refine (rankP_any _ n cap xs wb _ (RX.out.below Bb.out) Bb.out.size (by omega) ZX.out).mono ?_
      rintro e wc ⟨rfl, bc⟩
      rw [← ER.out]
      have Bc := Lib.hid (Bb.out.trans (bc.mono Bb.out.size))
      clear bc
      go_wp2_with fail
      refine (same_any _ _ n cap n c1 xs xs wc _ _ (RX.out.below Bc.out) (RW.out.below Bc.out) (by omega) (by omega)).mono ?_
      rintro e wx ⟨rfl, m1, rfl⟩
      rw [decide_eq_true rfl]
      go_wp2_with fail
      refine (same_any _ _ k cap' k c' b b _ _ _ ((RY.out.below Bc.out).drewN m1) ((RB.out.below Bc.out).drewN m1) (by omega) (by omega)).mono ?_
      rintro e wx ⟨rfl, m2, rfl⟩
      rw [decide_eq_true rfl]
      have Md := Lib.hid (M1.out.below (below_drewN (below_drewN Bc.out m1) m2))
      generalize (wc.drewN m1).drewN m2 = wd at Md ⊢
      obtain ⟨hm1, hm2, _, _⟩ := Md.out.marks
      clear B2 B3 B4 B5 B6 B7 B8 B9 Ba Bb Bc O3 O4 O5 O7 O8 O9 C3 C4 C5 C7 C8 C9 RW RX RY RB M1 EP EI ER LP LI CH
      go_wp2
      have Mz := Lib.hid (And.intro Md.out ZX.out)
      clear Md ZX hm1 hm2
      go_loopw [23] (fun r wr => ∃ i : Nat, i ≤ n / 2 ∧ r = .int .i64 (i : Int) ∧ Hid (∃ xs, MxS w wr n k g cap g' cap' xs b ∧ ∀ s ∈ xs, s.size ≤ 9223372036854775807)) (fun r _ => n / 2 - (intOf r).toNat)
      case atStart => exact ⟨0, by omega, rfl, Lib.hid ⟨_, Mz.out⟩⟩
      case round =>
        obtain ⟨i, hi, rfl, HS⟩ := hrel
        have hdiv : Int.tdiv (n : Int) 2 = ((n / 2 : Nat) : Int) := by rw [Int.tdiv_eq_ediv_of_nonneg (by omega)]; omega
        by_cases hin : i < n / 2
        · obtain ⟨ys, hm, hzy⟩ := HS.out
          obtain ⟨j, hj⟩ : ∃ j : Nat, (n : Int) - 1 - (i : Int) = (j : Int) := ⟨n - 1 - i, by omega⟩
          have hjn : j < n := by omega
          have hi' : i < n := by omega
          obtain ⟨w2, rfl⟩ : ∃ w2 : World, w2 = wr := ⟨_, rfl⟩
          obtain ⟨hci, hfi⟩ := hm.cells hi'
          obtain ⟨hcj, hfj⟩ := hm.cells hjn
          have M2 := Lib.hid (swapped_ok hm hzy hi' hjn)
          obtain ⟨v', hy'⟩ : ∃ v', ((w2.setCell ⟨g, i, none⟩ (.string (sAt ys j))).drew).cell? ⟨g, j, none⟩ = some v' := ⟨_, ((hm.set_ hi' (sAt ys j)).cells hjn).1⟩
          clear hm hzy HS
          go_wp2
          go_region
          clear hci hcj hfi hfj hy'
          go_wp2
          go_roundw
          case rel => exact ⟨i + 1, by omega, by go_num, M2⟩
          case measure => simp [intOf]; omega
        · obtain rfl : i = n / 2 := by omega
          go_wp2
          go_roundw
          case rel => exact ⟨q + 1, by omega, by go_num, Lib.hid HS.out⟩
          case measure => simp [intOf]; omega
    · obtain rfl : q = 2 := by omega
      obtain ⟨xs, hm, hzx⟩ := HR.out
      have M := Lib.hid hm
      clear hm hzx HR
      go_wp2
      go_ret
      exact ⟨rfl, M.out.2.2.1⟩
end Go.Proofs.Ythlnnclpfgokjaa
