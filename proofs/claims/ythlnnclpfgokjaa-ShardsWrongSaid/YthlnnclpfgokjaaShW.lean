/- Shards, plainly: two wholes that agree at enough places are the same; one wrong shard is noticed, and found. No conditions but those that each theorem tells. -/
import Derived.Test.YthlnnclpfgokjaaShQ
namespace Go.Proofs.Ythlnnclpfgokjaa
open Go.RowKit Gf
set_option linter.unusedVariables false
theorem whole_agree (C D : List ByteArray) (m : Nat) (tt : List Bool) (hl : C.length = D.length) (h1 : 1 ≤ D.length) (h2 : D.length ≤ 32) (hm : D.length + m ≤ 64) (hC : alikeB C = true) (hD : alikeB D = true) (hz : (sAt C 0).size = (sAt D 0).size)
    (hcnt : D.length ≤ (pickL tt (D.length + m)).length) (hsame : ∀ i, i < D.length + m → tt.getD i false = true → sAt (allL C m) i = sAt (allL D m) i) : C = D := by
  have hat : ∀ l, l < (pickL tt (D.length + m)).length → (pickL tt (D.length + m)).getD l 0 < D.length + m ∧ tt.getD ((pickL tt (D.length + m)).getD l 0) false = true := fun l hl => filter_at (fun i => tt.getD i false) (D.length + m) l hl
  refine strs_ext hl fun j hj => ?_
  have sC : (sAt C j).size = (sAt D 0).size := by rw [(alikeB_iff C).1 hC j hj, hz]
  have sD : (sAt D j).size = (sAt D 0).size := (alikeB_iff D).1 hD j (by omega)
  refine str_ext (by rw [sC, sD]) fun x hx => ?_
  rw [sC] at hx
  have hzero := gen_zero D.length (by omega) (fun l => (pickL tt (D.length + m)).getD l 0) (fun i j hij hj => filter_mono _ _ i j hij (by unfold pickL at hcnt; omega)) (fun i hi => by have := (hat i (by omega)).1; omega)
    (fun j => byteAt (sAt C j) x ^^^ byteAt (sAt D j) x) (fun i hi => by
      have e := hsame _ (hat i (by omega)).1 (hat i (by omega)).2
      have e1 := allL_byte C m _ x (by rw [hl]; exact (hat i (by omega)).1) (by rw [hz]; exact hx)
      have e2 := allL_byte D m _ x (hat i (by omega)).1 hx
      rw [hl] at e1
      rw [e] at e1
      have e3 : sm (fun j => gm (genF D.length ((pickL tt (D.length + m)).getD i 0) j) (byteAt (sAt C j) x)) D.length ^^^ sm (fun j => gm (genF D.length ((pickL tt (D.length + m)).getD i 0) j) (byteAt (sAt D j) x)) D.length = 0 := by
        rw [← e1, ← e2, UInt8.xor_self]
      rw [← sm_xor] at e3
      rw [← e3]
      exact sm_congr fun j _ => gm_xor_right _ _ _) j (by omega)
  exact xor_cancel hzero
/-- A list with one place changed. -/
def putL (l : List ByteArray) (a : Nat) (s : ByteArray) : List ByteArray := l.set a s
theorem sAt_put (l : List ByteArray) (a i : Nat) (s : ByteArray) (ha : a < l.length) : sAt (putL l a s) i = if i = a then s else sAt l i := by
  unfold putL sAt
  rw [List.getD_eq_getElem?_getD, List.getD_eq_getElem?_getD, List.getElem?_set]
  by_cases e : i = a
  · subst e; rw [if_pos rfl, if_pos rfl, if_pos ha]; rfl
  · rw [if_neg e, if_neg (fun h => e h.symm)]
theorem putL_length (l : List ByteArray) (a : Nat) (s : ByteArray) : (putL l a s).length = l.length := by simp [putL]
theorem put_alike (D : List ByteArray) (m a : Nat) (s : ByteArray) (hD : alikeB D = true) (ha : a < D.length + m) (hs : s.size = (sAt D 0).size) (i : Nat) (hi : i < D.length + m) : (sAt (putL (allL D m) a s) i).size = (sAt D 0).size := by
  rw [sAt_put _ _ _ _ (by rw [allL_length]; exact ha)]
  by_cases e : i = a
  · rw [if_pos e]; exact hs
  · rw [if_neg e]; exact allL_size D m i hD hi
/-- Flags: all but some places. -/
def butB (n : Nat) (P : Nat → Bool) : List Bool := (List.range n).map fun j => !P j
theorem butB_get (n : Nat) (P : Nat → Bool) (i : Nat) (hi : i < n) : (butB n P).getD i false = !P i := getD_range n i _ hi
theorem cnt_one (n a : Nat) (ha : a < n) : (pickL (butB n fun j => j == a) n).length + 1 = n := by
  unfold butB
  rw [pickL_range]
  have := cntB_clr (fun _ => true) a rfl n ha
  rw [cntB_all] at this
  have e : cntB (clr (fun _ => true) a) n = cntB (fun j => !(j == a)) n := cntB_congr fun i _ => by
    unfold clr
    by_cases h : i = a
    · subst h; rw [if_pos rfl]; simp
    · rw [if_neg h]; simp [h]
  rw [e] at this
  exact this
theorem cnt_two (n a b : Nat) (ha : a < n) (hb : b < n) (hab : a ≠ b) : (pickL (butB n fun j => j == a || j == b) n).length + 2 = n := by
  unfold butB
  rw [pickL_range]
  have h1 := cntB_clr (fun _ => true) a rfl n ha
  have h2 := cntB_clr (clr (fun _ => true) a) b (by unfold clr; rw [if_neg (fun h => hab h.symm)]) n hb
  rw [cntB_all] at h1
  have e : cntB (clr (clr (fun _ => true) a) b) n = cntB (fun j => !(j == a || j == b)) n := cntB_congr fun i _ => by
    unfold clr
    by_cases h : i = b
    · subst h; rw [if_pos rfl]; simp
    · rw [if_neg h]
      by_cases h' : i = a
      · subst h'; rw [if_pos rfl]; simp
      · rw [if_neg h']; simp [h, h']
  rw [e] at h2
  show cntB (fun j => !(j == a || j == b)) n + 2 = n
  omega
/-- One wrong shard: they do not fit. -/
theorem wrong_fits (D : List ByteArray) (m a : Nat) (s : ByteArray) (h1 : 1 ≤ D.length) (h2 : D.length ≤ 32) (hm : D.length + m ≤ 64) (m1 : 1 ≤ m) (hD : alikeB D = true) (ha : a < D.length + m) (hs : s.size = (sAt D 0).size) (hne : s ≠ sAt (allL D m) a) :
    fitR (putL (allL D m) a s) (D.length : Int) = (false, 0) := by
  have hl : (putL (allL D m) a s).length = D.length + m := by rw [putL_length, allL_length]
  have hal : alikeB (putL (allL D m) a s) = true := (alikeB_iff _).2 (fun i hi => by
    rw [hl] at hi
    rw [put_alike D m a s hD ha hs i hi, put_alike D m a s hD ha hs 0 (by omega)])
  unfold fitR
  rw [if_pos ⟨by omega, by omega, by omega, by omega, hal⟩, Int.toNat_natCast]
  have : fitB (putL (allL D m) a s) D.length = false := by
    unfold fitB
    rw [decide_eq_false_iff_not]
    intro he
    rw [hl, Nat.add_sub_cancel_left] at he
    obtain ⟨C, hC⟩ : ∃ C, C = (putL (allL D m) a s).take D.length := ⟨_, rfl⟩
    have hCl : C.length = D.length := by rw [hC, List.length_take]; omega
    have hCA : allL C m = putL (allL D m) a s := by
      unfold allL; rw [hC, he]; exact List.take_append_drop _ _
    have hCz : (sAt C 0).size = (sAt D 0).size := by
      rw [hC, sAt_take _ _ _ (by omega)]; exact put_alike D m a s hD ha hs 0 (by omega)
    have hCD := whole_agree C D m (butB (D.length + m) fun j => j == a) hCl h1 h2 hm (by rw [hC]; exact alikeB_take _ _ h1 (by omega) hal) hD hCz (by have := cnt_one (D.length + m) a ha; omega) (fun i hi ht => by
      rw [butB_get _ _ _ hi] at ht
      have hia : i ≠ a := fun e => by subst e; simp at ht
      rw [hCA, sAt_put _ _ _ _ (by rw [allL_length]; exact ha), if_neg hia])
    have hx : sAt (allL C m) a = s := by rw [hCA, sAt_put _ _ _ _ (by rw [allL_length]; exact ha), if_pos rfl]
    rw [hCD] at hx
    exact hne hx.symm
  rw [this]
/-- One wrong shard, one left out: what comes back agrees with all others just if it is that one. -/
theorem wrong_reb (D : List ByteArray) (m a i : Nat) (s : ByteArray) (h1 : 1 ≤ D.length) (h2 : D.length ≤ 32) (hm : D.length + m ≤ 64) (m2 : 2 ≤ m) (hD : alikeB D = true) (ha : a < D.length + m) (hi : i < D.length + m) (hs : s.size = (sAt D 0).size) (hne : s ≠ sAt (allL D m) a) :
    ∃ G : List ByteArray, rebR (putL (allL D m) a s) (butB (D.length + m) fun j => j == i) (D.length : Int) = (G, 0) ∧ G.length = D.length + m ∧
      ((∀ j, j < D.length + m → j ≠ i → sAt G j = sAt (putL (allL D m) a s) j) ↔ i = a) := by
  have hl : (putL (allL D m) a s).length = D.length + m := by rw [putL_length, allL_length]
  have hcnt := cnt_one (D.length + m) i hi
  have hput : ∀ j, sAt (putL (allL D m) a s) j = if j = a then s else sAt (allL D m) j := fun j => sAt_put _ _ _ _ (by rw [allL_length]; exact ha)
  by_cases e : i = a
  · subst e
    refine ⟨allL D m, reb_back D m _ _ h1 h2 hm hD hl (by simp [butB]) (fun j hj ht => ?_) (by omega), allL_length _ _, ⟨fun _ => rfl, fun _ j _ hji => by rw [hput j, if_neg hji]⟩⟩
    rw [butB_get _ _ _ hj] at ht
    have hji : j ≠ i := fun e => by subst e; simp at ht
    rw [hput j, if_neg hji]
  · obtain ⟨tt, htt⟩ : ∃ tt, tt = butB (D.length + m) fun j => j == i := ⟨_, rfl⟩
    rw [← htt] at hcnt ⊢
    have hSz : ∀ l, l < (pickL tt (D.length + m)).length → (sAt (someL (putL (allL D m) a s) tt (D.length + m)) l).size = (sAt D 0).size := fun l hl' => by
      rw [someL_at _ _ _ _ hl']
      exact put_alike D m a s hD ha hs _ (filter_at (fun i => tt.getD i false) (D.length + m) l hl').1
    have hSA : alikeB (someL (putL (allL D m) a s) tt (D.length + m)) = true := (alikeB_iff _).2 (fun l hl' => by
      rw [someL_length] at hl'
      rw [hSz l hl', hSz 0 (by omega)])
    obtain ⟨C, hC⟩ : ∃ C, C = outL (putL (allL D m) a s) tt D.length := ⟨_, rfl⟩
    have hCl : C.length = D.length := by rw [hC, outL_length]
    have hCs : ∀ j, j < D.length → (sAt C j).size = (sAt D 0).size := fun j hj => by
      rw [hC]; unfold outL
      rw [sAt_map _ _ _ hj, sumL_size, hl, sAt_take _ _ _ (by omega)]
      exact hSz 0 (by omega)
    have hCA : alikeB C = true := (alikeB_iff C).2 (fun j hj => by rw [hCs j (by omega), hCs 0 (by omega)])
    have hG : rebR (putL (allL D m) a s) tt (D.length : Int) = (allL C m, 0) := by
      unfold rebR
      rw [if_pos ⟨by omega, by omega, by omega, by omega, by rw [htt, hl]; simp [butB]⟩, hl, if_neg (by rw [hSA]; simp), if_neg (by omega), Int.toNat_natCast]
      unfold rebL
      rw [← hC, hl, Nat.add_sub_cancel_left]
      rfl
    refine ⟨allL C m, hG, by rw [allL_length, hCl], ⟨fun hall => ?_, fun h => absurd h e⟩⟩
    exfalso
    have hCD := whole_agree C D m (butB (D.length + m) fun j => j == i || j == a) hCl h1 h2 hm hCA hD (hCs 0 (by omega)) (by have := cnt_two (D.length + m) i a hi ha e; omega) (fun j hj ht => by
      rw [butB_get _ _ _ hj] at ht
      have hj1 : j ≠ i := fun e => by subst e; simp at ht
      have hj2 : j ≠ a := fun e => by subst e; simp at ht
      rw [hall j hj hj1, hput j, if_neg hj2])
    have hx := hall a ha (fun h => e h.symm)
    rw [hput a, if_pos rfl, hCD] at hx
    exact hne hx.symm
end Go.Proofs.Ythlnnclpfgokjaa
