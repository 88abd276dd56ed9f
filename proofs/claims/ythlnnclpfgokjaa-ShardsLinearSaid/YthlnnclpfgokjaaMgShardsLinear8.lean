/- Several texts of the claim joined into one (part 8): plain facts and walks. No conditions but those that each theorem tells. -/
import Derived.Test.YthlnnclpfgokjaaMgShardsLinear5
import Derived.Test.YthlnnclpfgokjaaMgShardsLinear6
import Derived.Test.YthlnnclpfgokjaaMgShardsLinear7
import Derived.Test.YthlnnclpfgokjaaMgShardsLinear4
import Derived.Test.YthlnnclpfgokjaaMgShardsLinear1
namespace Go.Proofs.Ythlnnclpfgokjaa
open Go.RowKit Gf
set_option linter.unusedVariables false
theorem whole_agree (C D : List ByteArray) (m : Nat) (tt : List Bool) (hl : C.length = D.length) (h1 : 1 ≤ D.length) (h2 : D.length ≤ 32) (hm : D.length + m ≤ 64) (hC : alikeB C = true) (hD : alikeB D = true) (hz : (sAt C 0).size = (sAt D 0).size)
    (hcnt : D.length ≤ (pickL tt (D.length + m)).length) (hsame : ∀ i, i < D.length + m → tt.getD i false = true → sAt (allL C m) i = sAt (allL D m) i) : C = D := by
  have hat : ∀ l, l < (pickL tt (D.length + m)).length → (pickL tt (D.length + m)).getD l 0 < D.length + m ∧ tt.getD ((pickL tt (D.length + m)).getD l 0) false = true := fun l hl => filter_at (fun i => tt.getD i false) (D.length + m) l hl
  refine strs_ext hl fun j hj => ?_
  have sC : (sAt C j).size = (sAt D 0).size := by rw [(alikeB_iff C).1 hC j hj, hz]
  have sD : (sAt D j).size = (sAt D 0).size := (alikeB_iff D).1 hD j (by omega)
  refine str_ext (by rw [sC, sD]) fun x hx => ?_
  rw [sC] at hx
  have hzero := gen_zero D.length (by omega) (fun l => (pickL tt (D.length + m)).getD l 0) (fun i j hij hj => filter_mono _ _ i j hij (by unfold pickL at hcnt; omega)) (fun i hi => by have := (hat i (by omega)).1; omega)
    (fun j => byteAt (sAt C j) x ^^^ byteAt (sAt D j) x) (fun i hi => by
      have e := hsame _ (hat i (by omega)).1 (hat i (by omega)).2
      have e1 := allL_byte C m _ x (by rw [hl]; exact (hat i (by omega)).1) (by rw [hz]; exact hx)
      have e2 := allL_byte D m _ x (hat i (by omega)).1 hx
      rw [hl] at e1
      rw [e] at e1
      have e3 : sm (fun j => gm (genF D.length ((pickL tt (D.length + m)).getD i 0) j) (byteAt (sAt C j) x)) D.length ^^^ sm (fun j => gm (genF D.length ((pickL tt (D.length + m)).getD i 0) j) (byteAt (sAt D j) x)) D.length = 0 := by
        rw [← e1, ← e2, UInt8.xor_self]
      rw [← sm_xor] at e3
      rw [← e3]
      exact sm_congr fun j _ => gm_xor_right _ _ _) j (by omega)
  exact xor_cancel hzero
/-- A list with one place changed. -/
def putL (l : List ByteArray) (a : Nat) (s : ByteArray) : List ByteArray := l.set a s
theorem sAt_put (l : List ByteArray) (a i : Nat) (s : ByteArray) (ha : a < l.length) : sAt (putL l a s) i = if i = a then s else sAt l i := by
  unfold putL sAt
  rw [List.getD_eq_getElem?_getD, List.getD_eq_getElem?_getD, List.getElem?_set]
  by_cases e : i = a
  · subst e; rw [if_pos rfl, if_pos rfl, if_pos ha]; rfl
  · rw [if_neg e, if_neg (fun h => e h.symm)]
theorem putL_length (l : List ByteArray) (a : Nat) (s : ByteArray) : (putL l a s).length = l.length := by simp [putL]
theorem put_alike (D : List ByteArray) (m a : Nat) (s : ByteArray) (hD : alikeB D = true) (ha : a < D.length + m) (hs : s.size = (sAt D 0).size) (i : Nat) (hi : i < D.length + m) : (sAt (putL (allL D m) a s) i).size = (sAt D 0).size := by
  rw [sAt_put _ _ _ _ (by rw [allL_length]; exact ha)]
  by_cases e : i = a
  · rw [if_pos e]; exact hs
  · rw [if_neg e]; exact allL_size D m i hD hi
/-- Flags: all but some places. -/
def butB (n : Nat) (P : Nat → Bool) : List Bool := (List.range n).map fun j => !P j
theorem butB_get (n : Nat) (P : Nat → Bool) (i : Nat) (hi : i < n) : (butB n P).getD i false = !P i := getD_range n i _ hi
theorem cnt_one (n a : Nat) (ha : a < n) : (pickL (butB n fun j => j == a) n).length + 1 = n := by
  unfold butB
  rw [pickL_range]
  have := cntB_clr (fun _ => true) a rfl n ha
  rw [cntB_all] at this
  have e : cntB (clr (fun _ => true) a) n = cntB (fun j => !(j == a)) n := cntB_congr fun i _ => by
    unfold clr
    by_cases h : i = a
    · subst h; rw [if_pos rfl]; simp
    · rw [if_neg h]; simp [h]
  rw [e] at this
  exact this
theorem cnt_two (n a b : Nat) (ha : a < n) (hb : b < n) (hab : a ≠ b) : (pickL (butB n fun j => j == a || j == b) n).length + 2 = n := by
  unfold butB
  rw [pickL_range]
  have h1 := cntB_clr (fun _ => true) a rfl n ha
  have h2 := cntB_clr (clr (fun _ => true) a) b (by unfold clr; rw [if_neg (fun h => hab h.symm)]) n hb
  rw [cntB_all] at h1
  have e : cntB (clr (clr (fun _ => true) a) b) n = cntB (fun j => !(j == a || j == b)) n := cntB_congr fun i _ => by
    unfold clr
    by_cases h : i = b
    · subst h; rw [if_pos rfl]; simp
    · rw [if_neg h]
      by_cases h' : i = a
      · subst h'; rw [if_pos rfl]; simp
      · rw [if_neg h']; simp [h, h']
  rw [e] at h2
  show cntB (fun j => !(j == a || j == b)) n + 2 = n
  omega
/-- One wrong shard: they do not fit. -/
theorem wrong_fits (D : List ByteArray) (m a : Nat) (s : ByteArray) (h1 : 1 ≤ D.length) (h2 : D.length ≤ 32) (hm : D.length + m ≤ 64) (m1 : 1 ≤ m) (hD : alikeB D = true) (ha : a < D.length + m) (hs : s.size = (sAt D 0).size) (hne : s ≠ sAt (allL D m) a) :
    fitR (putL (allL D m) a s) (D.length : Int) = (false, 0) := by
  have hl : (putL (allL D m) a s).length = D.length + m := by rw [putL_length, allL_length]
  have hal : alikeB (putL (allL D m) a s) = true := (alikeB_iff _).2 (fun i hi => by
    rw [hl] at hi
    rw [put_alike D m a s hD ha hs i hi, put_alike D m a s hD ha hs 0 (by omega)])
  unfold fitR
  rw [if_pos ⟨by omega, by omega, by omega, by omega, hal⟩, Int.toNat_natCast]
  have : fitB (putL (allL D m) a s) D.length = false := by
    unfold fitB
    rw [decide_eq_false_iff_not]
    intro he
    rw [hl, Nat.add_sub_cancel_left] at he
    obtain ⟨C, hC⟩ : ∃ C, C = (putL (allL D m) a s).take D.length := ⟨_, rfl⟩
    have hCl : C.length = D.length := by rw [hC, List.length_take]; omega
    have hCA : allL C m = putL (allL D m) a s := by
      unfold allL; rw [hC, he]; exact List.take_append_drop _ _
    have hCz : (sAt C 0).size = (sAt D 0).size := by
      rw [hC, sAt_take _ _ _ (by omega)]; exact put_alike D m a s hD ha hs 0 (by omega)
    have hCD := whole_agree C D m (butB (D.length + m) fun j => j == a) hCl h1 h2 hm (by rw [hC]; exact alikeB_take _ _ h1 (by omega) hal) hD hCz (by have := cnt_one (D.length + m) a ha; omega) (fun i hi ht => by
      rw [butB_get _ _ _ hi] at ht
      have hia : i ≠ a := fun e => by subst e; simp at ht
      rw [hCA, sAt_put _ _ _ _ (by rw [allL_length]; exact ha), if_neg hia])
    have hx : sAt (allL C m) a = s := by rw [hCA, sAt_put _ _ _ _ (by rw [allL_length]; exact ha), if_pos rfl]
    rw [hCD] at hx
    exact hne hx.symm
  rw [this]
/-- One wrong shard, one left out: what comes back agrees with all others just if it is that one. -/
theorem wrong_reb (D : List ByteArray) (m a i : Nat) (s : ByteArray) (h1 : 1 ≤ D.length) (h2 : D.length ≤ 32) (hm : D.length + m ≤ 64) (m2 : 2 ≤ m) (hD : alikeB D = true) (ha : a < D.length + m) (hi : i < D.length + m) (hs : s.size = (sAt D 0).size) (hne : s ≠ sAt (allL D m) a) :
    ∃ G : List ByteArray, rebR (putL (allL D m) a s) (butB (D.length + m) fun j => j == i) (D.length : Int) = (G, 0) ∧ G.length = D.length + m ∧
      ((∀ j, j < D.length + m → j ≠ i → sAt G j = sAt (putL (allL D m) a s) j) ↔ i = a) := by
  have hl : (putL (allL D m) a s).length = D.length + m := by rw [putL_length, allL_length]
  have hcnt := cnt_one (D.length + m) i hi
  have hput : ∀ j, sAt (putL (allL D m) a s) j = if j = a then s else sAt (allL D m) j := fun j => sAt_put _ _ _ _ (by rw [allL_length]; exact ha)
  by_cases e : i = a
  · subst e
    refine ⟨allL D m, reb_back D m _ _ h1 h2 hm hD hl (by simp [butB]) (fun j hj ht => ?_) (by omega), allL_length _ _, ⟨fun _ => rfl, fun _ j _ hji => by rw [hput j, if_neg hji]⟩⟩
    rw [butB_get _ _ _ hj] at ht
    have hji : j ≠ i := fun e => by subst e; simp at ht
    rw [hput j, if_neg hji]
  · obtain ⟨tt, htt⟩ : ∃ tt, tt = butB (D.length + m) fun j => j == i := ⟨_, rfl⟩
    rw [← htt] at hcnt ⊢
    have hSz : ∀ l, l < (pickL tt (D.length + m)).length → (sAt (someL (putL (allL D m) a s) tt (D.length + m)) l).size = (sAt D 0).size := fun l hl' => by
      rw [someL_at _ _ _ _ hl']
      exact put_alike D m a s hD ha hs _ (filter_at (fun i => tt.getD i false) (D.length + m) l hl').1
    have hSA : alikeB (someL (putL (allL D m) a s) tt (D.length + m)) = true := (alikeB_iff _).2 (fun l hl' => by
      rw [someL_length] at hl'
      rw [hSz l hl', hSz 0 (by omega)])
    obtain ⟨C, hC⟩ : ∃ C, C = outL (putL (allL D m) a s) tt D.length := ⟨_, rfl⟩
    have hCl : C.length = D.length := by rw [hC, outL_length]
    have hCs : ∀ j, j < D.length → (sAt C j).size = (sAt D 0).size := fun j hj => by
      rw [hC]; unfold outL
      rw [sAt_map _ _ _ hj, sumL_size, hl, sAt_take _ _ _ (by omega)]
      exact hSz 0 (by omega)
    have hCA : alikeB C = true := (alikeB_iff C).2 (fun j hj => by rw [hCs j (by omega), hCs 0 (by omega)])
    have hG : rebR (putL (allL D m) a s) tt (D.length : Int) = (allL C m, 0) := by
      unfold rebR
      rw [if_pos ⟨by omega, by omega, by omega, by omega, by rw [htt, hl]; simp [butB]⟩, hl, if_neg (by rw [hSA]; simp), if_neg (by omega), Int.toNat_natCast]
      unfold rebL
      rw [← hC, hl, Nat.add_sub_cancel_left]
      rfl
    refine ⟨allL C m, hG, by rw [allL_length, hCl], ⟨fun hall => ?_, fun h => absurd h e⟩⟩
    exfalso
    have hCD := whole_agree C D m (butB (D.length + m) fun j => j == i || j == a) hCl h1 h2 hm hCA hD (hCs 0 (by omega)) (by have := cnt_two (D.length + m) i a hi ha e; omega) (fun j hj ht => by
      rw [butB_get _ _ _ hj] at ht
      have hj1 : j ≠ i := fun e => by subst e; simp at ht
      have hj2 : j ≠ a := fun e => by subst e; simp at ht
      rw [hall j hj hj1, hput j, if_neg hj2])
    have hx := hall a ha (fun h => e h.symm)
    rw [hput a, if_pos rfl, hCD] at hx
    exact hne hx.symm
end Go.Proofs.Ythlnnclpfgokjaa
namespace Go.Proofs.Ythlnnclpfgokjaa
open Go.RowKit Gf
set_option linter.unusedVariables false
theorem joinL_take_succ (ss : List ByteArray) (k : Nat) (hk : k < ss.length) : joinL (ss.take (k + 1)) = joinL (ss.take k) ++ (sAt ss k).data.toList := by
  rw [List.take_succ_eq_append_getElem hk, joinL_snoc, sAt_get hk]
theorem reads_takeU {w : World} {B n k : Nat} {A : Option Addr} {l : List UInt8} (h : Reads w B 1 A n (u8s l)) (hk : k ≤ n) : Reads w B 1 A k (u8s (l.take k)) := by
  have hl := h.u8
  refine ⟨by rw [u8s_length, List.length_take]; omega, fun h0 => ?_⟩
  obtain ⟨ad, e, hb, hc⟩ := h.2 (by omega)
  refine ⟨ad, e, hb, fun j u hj => hc j u ?_⟩
  simp only [u8s, List.map_take] at hj ⊢
  rw [List.getElem?_take] at hj
  split at hj
  · exact hj
  · cases hj
theorem str_nil (w : World) (c : Nat) : (convert 44 9 (.slice none 0 c)).run Try.prog w = .ok (.string (bs [])) w := by kernel_rfl
/-- string(b) at a row of bytes, nil or not. -/
theorem str_reads {w : World} {B n c : Nat} {A : Option Addr} {l : List UInt8} (h : Reads w B 1 A n (u8s l)) : (convert 44 9 (.slice A n c)).run Try.prog w = .ok (.string (bs l)) w := by
  have hl := h.u8
  cases A with
  | none =>
    have h0 : n = 0 := by
      rcases Nat.eq_zero_or_pos n with h0 | h0
      · exact h0
      · obtain ⟨ad, e, _⟩ := h.2 h0; cases e
    subst h0
    obtain rfl : l = [] := List.eq_nil_of_length_eq_zero hl
    exact str_nil w c
  | some ad =>
    refine runStr ad n c l hl fun j hj => ?_
    obtain ⟨ad', e, _, hc⟩ := reads_u8 h (by omega)
    injection e with e; subst e
    exact hc j hj
set_option maxRecDepth 100000 in
set_option maxHeartbeats 2000000 in
theorem rwhole_any (A : Option Addr) (n c : Nat) (ss : List ByteArray) (x : Int) (w : World) (B : Nat) (h : Reads w B 1 A n (strV ss)) (hB : B ≤ w.heap.size) (hn : n ≤ 9223372036854775807) (hx1 : -9223372036854775808 ≤ x) (hx2 : x ≤ 9223372036854775807)
    (hJ : 1 ≤ n → n ≤ 32 → alikeB ss = true → (joinL ss).length ≤ 140737488355328) (hs : ∀ s ∈ ss, s.size ≤ 140737488355328) :
    Calls Try.prog 44 #[.slice A n c, .int .i64 x] w fun e w' => e = .returned (.tuple #[.string (wholeR ss x).1, .int .i64 (wholeR ss x).2]) ∧ Below w.heap.size w w' := by
  have hl := h.len
  have HH := Lib.hid h
  by_cases h1 : n < 1
  · have X : Hid (wholeR ss x = (ByteArray.empty, 1)) := Lib.hid (wholeR_no (by rintro ⟨a, _⟩; omega))
    clear h hl hJ hs
    go_enter Try.func44, Try.ntmps44
    go_wp2
    go_ret2
    exact ⟨by rw [X.out]; rfl, Below.refl _ _⟩
  by_cases h2 : 32 < n
  · have X : Hid (wholeR ss x = (ByteArray.empty, 1)) := Lib.hid (wholeR_no (by rintro ⟨_, a, _⟩; omega))
    clear h hl hJ hs
    go_enter Try.func44, Try.ntmps44
    go_wp2
    go_ret2
    exact ⟨by rw [X.out]; rfl, Below.refl _ _⟩
  by_cases ha : ¬ alikeB ss = true
  · have X : Hid (wholeR ss x = (ByteArray.empty, 1)) := Lib.hid (wholeR_no (by rintro ⟨_, _, a, _⟩; exact ha a))
    have HA : Hid (alikeB ss = false) := Lib.hid (by simpa using ha)
    clear h hl ha hJ hs
    go_enter Try.func44, Try.ntmps44
    go_wp2_with fail
    refine (ralike_any A n c ss _ _ HH.out hn).mono ?_; rintro e w' ⟨rfl, q, rfl⟩
    rw [HA.out]
    go_wp2
    go_ret2
    exact ⟨by rw [X.out]; rfl, below_drewN (Below.refl _ _) _⟩
  have ha := Classical.not_not.1 ha
  have HA := Lib.hid ha
  have hja := joinL_alike ss ha
  have hj := hJ (by omega) (by omega) ha
  obtain ⟨ad, rfl, hb, hc⟩ := h.str (k := 0) (by omega)
  have hc0 : ∀ q, (w.drewN q).cell? ad = some (.string (sAt ss 0)) := fun q => by have := hc 0 (by omega); simpa [Addr.add] using this
  obtain ⟨L, hL⟩ : ∃ L, (sAt ss 0).size = L := ⟨_, rfl⟩
  obtain ⟨M, hM⟩ : ∃ M, n * L = M := ⟨_, rfl⟩
  have hm : (n : Int) * (L : Int) = (M : Int) := by rw [← hM]; exact (Int.natCast_mul n L).symm
  have hJM : (joinL ss).length = M := by rw [hja, hl, hL, hM]
  have hMj : M ≤ 140737488355328 := by omega
  have hLj : L ≤ 140737488355328 := by rw [← hL]; exact hs _ (sAt_mem (by omega))
  have HC := Lib.hid hc
  have HL := Lib.hid hl
  have HJM := Lib.hid hJM
  have HLL := Lib.hid hL
  have HC0 := Lib.hid hc0
  by_cases hx0 : x < 0
  · have X : Hid (wholeR ss x = (ByteArray.empty, 1)) := Lib.hid (wholeR_no (by rintro ⟨_, _, _, a, _⟩; omega))
    clear hl ha hja h hJ hs hc hc0 hM hm hJM hL
    go_enter Try.func44, Try.ntmps44
    go_wp2_with fail
    refine (ralike_any _ n c ss _ _ HH.out hn).mono ?_; rintro e w' ⟨rfl, q, rfl⟩
    rw [HA.out]
    go_wp2
    go_ret2
    exact ⟨by rw [X.out]; rfl, below_drewN (Below.refl _ _) _⟩
  obtain ⟨k, rfl⟩ : ∃ k : Nat, x = k := ⟨x.toNat, by omega⟩
  by_cases hx3 : M < k
  · have X : Hid (wholeR ss (k : Int) = (ByteArray.empty, 1)) := Lib.hid (wholeR_no (by rintro ⟨_, _, _, _, a⟩; omega))
    clear hl ha hja h hJ hs hc hc0 hM hJM
    go_enter Try.func44, Try.ntmps44
    go_wp2_with fail
    refine (ralike_any _ n c ss _ _ HH.out hn).mono ?_; rintro e w' ⟨rfl, q, rfl⟩
    rw [HA.out]
    have hcq := HC0.out q
    go_wp2
    go_ret2
    exact ⟨by rw [X.out]; rfl, below_drewN (Below.refl _ _) _⟩
  · have hx4 : k ≤ M := by omega
    have X : Hid (wholeR ss (k : Int) = (bs ((joinL ss).take k), 0)) := Lib.hid (by
      have := wholeR_yes (l := ss) (n := (k : Int)) ⟨by omega, by omega, ha, by omega, by omega⟩
      rw [Int.toNat_natCast] at this; exact this)
    have HSZ : Hid (∀ j, j < n → (sAt ss j).size = L) := Lib.hid (fun j hj => by rw [← hL]; exact (alikeB_iff ss).1 ha j (by omega))
    have HMM := Lib.hid hM
    clear hl ha hja h hJ hs hc hc0 hM hJM hx3
    obtain ⟨i5, hi5, hz5, h15, hb5⟩ := elemByte.info
    have I5 := Lib.hid hi5
    have Z5 := Lib.hid hz5
    have O5 := Lib.hid h15
    have B5 := Lib.hid hb5
    clear hi5 hz5 h15 hb5
    have hd1 : decide ((k : Int) < 0) = false := decide_eq_false (by omega)
    have hd2 : decide ((M : Int) < (k : Int)) = false := decide_eq_false (by omega)
    have hd3 : decide (M < k) = false := decide_eq_false (by omega)
    go_enter Try.func44, Try.ntmps44
    go_wp2_with fail
    refine (ralike_any _ n c ss _ _ HH.out hn).mono ?_; rintro e w' ⟨rfl, q, rfl⟩
    rw [HA.out]
    have hcq := HC0.out q
    go_wp2
    clear hcq
    go_loopw [6, 7] (fun v i wr => ∃ j : Nat, j ≤ n ∧ i = .int .i64 j ∧ Hid (wr.ownsRow w.heap.size 5 1 v (j * L) (u8s (joinL (ss.take j))) ∧ Below w.heap.size w wr)) (fun _ i _ => n - (intOf i).toNat)
    case atStart => exact ⟨0, by omega, rfl, Lib.hid ⟨by rw [Nat.zero_mul]; exact World.ownsRow_nil _ _ _ _, below_drewN (Below.refl _ _) _⟩⟩
    case round =>
      obtain ⟨j, hj, rfl, HJ⟩ := hrel
      by_cases hjl : j < n
      · have hck : wr.cell? (ad.add j) = some (.string (sAt ss j)) := (HJ.out.2.cell (by rw [block_of_add]; omega)).trans (HC.out j hjl)
        have hsz := HSZ.out j hjl
        have hroom : j * L + (sAt ss j).size ≤ 140737488355328 := by
          have h1 : (j + 1) * L ≤ n * L := Nat.mul_le_mul_right L hjl
          rw [Nat.add_mul, Nat.one_mul, HMM.out] at h1
          omega
        have HSJ := Lib.hid hsz
        have HJT := Lib.hid (joinL_take_succ ss j (by rw [HL.out]; exact hjl))
        have hle := HJ.out.2.size
        clear hsz
        generalize sAt ss j = sj at hck hroom HSJ HJT
        go_wp2_with (at_builtin; refine append_own_str_wp w.heap.size rfl _ _ _ _ rfl 5 (by kernel_rfl) (by kernel_rfl) i5 I5.out Z5.out O5.out B5.out _ (j * L) _ rfl HJ.out.1 sj rfl hroom hle ?_; intro v' w' ho hg hd; clear hd)
        have HJ' : Hid (w'.ownsRow w.heap.size 5 1 v' ((j + 1) * L) (u8s (joinL (ss.take (j + 1)))) ∧ Below w.heap.size w w') := Lib.hid (by
          refine ⟨?_, below_own HJ.out.2 HJ.out.1 hg⟩
          rw [HJT.out, Nat.add_mul, Nat.one_mul]
          rw [HSJ.out] at ho
          simpa [u8s] using ho)
        clear ho hg
        go_roundw
        case rel => exact ⟨j + 1, by omega, by go_num, HJ'⟩
        case measure => simp [intOf]; omega
      · obtain rfl : j = n := by omega
        have hO := HJ.out.1
        rw [HMM.out, List.take_of_length_le (by rw [HL.out]; exact Nat.le_refl _)] at hO
        obtain ⟨A6, c6, rfl, hc6, hr6⟩ := own_readsC hO
        have HBJ := Lib.hid HJ.out.2
        have hkc : k ≤ c6 := by omega
        have hstr := str_reads (c := c6) (reads_takeU hr6 hx4)
        clear hO hr6 HJ
        go_wp2
        go_ret2
        exact ⟨by rw [X.out]; rfl, HBJ.out⟩
end Go.Proofs.Ythlnnclpfgokjaa
namespace Go.Proofs.Ythlnnclpfgokjaa
open Go.RowKit Gf
set_option linter.unusedVariables false
theorem map_sAt (l : List ByteArray) : (List.range l.length).map (sAt l) = l :=
  strs_ext (by simp) fun j hj => by
    rw [List.length_map, List.length_range] at hj
    rw [sAt_map _ _ _ hj]
theorem reads_cellS {w : World} {B g n : Nat} {l : List ByteArray} (h : Reads w B 1 (some ⟨g, 0, none⟩) n (strV l)) (hl : l.length = n) (j : Nat) (hj : j < n) : w.cell? ⟨g, j, none⟩ = some (.string (sAt l j)) := by
  obtain ⟨ad, e, _, hc⟩ := h.2 (by omega)
  injection e with e
  subst e
  have := hc j (.string (sAt l j)) (by rw [strV_get _ _ (by rw [hl]; exact hj), sAt_get (by rw [hl]; exact hj)])
  rw [add0] at this
  exact this
theorem buf_readsU {w : World} {e : TypeId} {g n cap : Nat} {F : Nat → UInt8} (h : bufIs w e g n cap (fun j => .int .u8 ((F j).toNat : Int))) : Reads w w.heap.size 1 (some ⟨g, 0, none⟩) n (u8s ((List.range n).map F)) := by
  refine ⟨by simp [u8s], fun _ => ⟨_, rfl, h.lt, fun j u hu => ?_⟩⟩
  have hj : j < n := by
    rcases Nat.lt_or_ge j n with h | h
    · exact h
    · rw [List.getElem?_eq_none (by simp [u8s]; exact h)] at hu; cases hu
  simp [u8s, hj] at hu
  rw [add0, h.cell hj, ← hu]
/-- x folded into 0 .. D-1. -/
theorem fold_at (x : Int) (D : Nat) (h1 : 1 ≤ D) (h2 : D ≤ 140737488355328) : ∃ (t : Int) (u W : Nat), x.tmod (D : Int) = t ∧ t + (D : Int) = (u : Int) ∧ W < D ∧ (u : Int).tmod (D : Int) = (W : Int) ∧ (u : Int) % (D : Int) = (W : Int) ∧ t % (D : Int) = (W : Int) ∧
    IntKind.i64.wrap (t + (D : Int)) = (u : Int) ∧ IntKind.i64.wrap t = t ∧ ((D : Int) == 0) = false ∧ IntKind.i64.wrap (W : Int) = (W : Int) ∧ u < 2 * D := by
  obtain ⟨c1, c2⟩ := tmod_bd x (D : Int) (by omega)
  obtain ⟨t, ht⟩ : ∃ t, x.tmod (D : Int) = t := ⟨_, rfl⟩
  rw [ht] at c1 c2
  obtain ⟨u, hu⟩ : ∃ u : Nat, t + (D : Int) = (u : Int) := ⟨(t + (D : Int)).toNat, by omega⟩
  have hW : u % D < D := Nat.mod_lt _ (by omega)
  have e : (u : Int) % (D : Int) = ((u % D : Nat) : Int) := rfl
  refine ⟨t, u, u % D, ht, hu, hW, by rw [Int.tmod_eq_emod_of_nonneg (by omega)]; rfl, e, ?_, by rw [hu]; exact IntWalk.i64_in _ (by omega), IntWalk.i64_in _ (by omega), by rw [beq_eq_false_iff_ne]; omega, IntWalk.i64_in _ (by omega), by omega⟩
  rw [← e, ← hu, Int.add_emod_right]
/-- A text with one byte changed. -/
def chg (r : ByteArray) (V : Nat) (z : UInt8) : Nat → UInt8 := fun j => if j = V then byteAt r V ^^^ z else byteAt r j
theorem chg_size (r : ByteArray) (V : Nat) (z : UInt8) : (bs ((List.range r.size).map (chg r V z))).size = r.size := by rw [bs_size]; simp
theorem chg_ne (r : ByteArray) (V : Nat) (z : UInt8) (hz : z ≠ 0) (hV : V < r.size) : bs ((List.range r.size).map (chg r V z)) ≠ r := fun e => by
  have h : byteAt (bs ((List.range r.size).map (chg r V z))) V = byteAt r V := by rw [e]
  rw [byteAt_bs, show ((List.range r.size).map (chg r V z)).getD V 0 = chg r V z V by simp [List.getD, hV]] at h
  unfold chg at h
  rw [if_pos rfl] at h
  exact hz (by
    have h2 : byteAt r V ^^^ (byteAt r V ^^^ z) = byteAt r V ^^^ byteAt r V := by rw [h]
    rw [← UInt8.xor_assoc, UInt8.xor_self, UInt8.zero_xor] at h2
    exact h2)
theorem chg_buf {w : World} {e : TypeId} {g cap : Nat} {r : ByteArray} {V : Nat} {z : UInt8} (X : Int) (h : bufIs w e g r.size cap (fun j => .int .u8 ((byteAt r j).toNat : Int))) (hX : X = ((byteAt r V ^^^ z).toNat : Int)) :
    bufIs (w.setCell ⟨g, V, none⟩ (.int .u8 X)) e g r.size cap (fun j => .int .u8 ((chg r V z j).toNat : Int)) := by
  refine (h.set V _).congr fun i _ => ?_
  unfold chg
  by_cases e : i = V
  · rw [if_pos e, if_pos e, hX]
  · rw [if_neg e, if_neg e]
theorem put_reads {w : World} {g T ca : Nat} (all : List ByteArray) (W : Nat) (t : ByteArray) (hl : all.length = T) (hW : W < T) (h : bufIs w 9 g T ca (fun i => .string (sAt all i))) :
    Reads (w.setCell ⟨g, W, none⟩ (.string t)) (w.setCell ⟨g, W, none⟩ (.string t)).heap.size 1 (some ⟨g, 0, none⟩) T (strV (putL all W t)) := by
  have h2 : bufIs (w.setCell ⟨g, W, none⟩ (.string t)) 9 g T ca (fun i => .string (sAt (putL all W t) i)) := (h.set W (.string t)).congr fun i _ => by
    rw [sAt_put _ _ _ _ (by rw [hl]; exact hW)]
    by_cases e : i = W
    · rw [if_pos e, if_pos e]
    · rw [if_neg e, if_neg e]
  have h3 := buf_readsS h2
  have h4 := map_sAt (putL all W t)
  rw [putL_length, hl] at h4
  rw [h4] at h3
  exact h3
end Go.Proofs.Ythlnnclpfgokjaa
namespace Go.Proofs.Ythlnnclpfgokjaa
open Go.RowKit Gf
/-- Two texts laid over one another. -/
def overS (a b : ByteArray) : ByteArray := bs ((List.range a.size).map fun i => byteAt a i ^^^ byteAt b i)
theorem overS_size (a b : ByteArray) : (overS a b).size = a.size := by unfold overS; rw [bs_size]; simp
theorem overS_at (a b : ByteArray) (i : Nat) (hi : i < a.size) : byteAt (overS a b) i = byteAt a i ^^^ byteAt b i := byteAt_map _ _ _ hi
def overL (x y : List ByteArray) (k : Nat) : List ByteArray := (List.range k).map fun i => overS (sAt x i) (sAt y i)
def pieceL (x : List ByteArray) (k f t : Nat) : List ByteArray := (List.range k).map fun i => (sAt x i).extract f t
theorem overL_length (x y : List ByteArray) (k : Nat) : (overL x y k).length = k := by simp [overL]
theorem pieceL_length (x : List ByteArray) (k f t : Nat) : (pieceL x k f t).length = k := by simp [pieceL]
theorem overL_at (x y : List ByteArray) (k i : Nat) (h : i < k) : sAt (overL x y k) i = overS (sAt x i) (sAt y i) := sAt_map _ _ _ h
theorem pieceL_at (x : List ByteArray) (k f t i : Nat) (h : i < k) : sAt (pieceL x k f t) i = (sAt x i).extract f t := sAt_map _ _ _ h
theorem parL_size (d : List ByteArray) (m i : Nat) (hi : i < m) : (sAt (parL d m) i).size = (sAt d 0).size := by rw [parL_at d m i hi, sumL_size]
theorem byteAt_extract (s : ByteArray) (f t i : Nat) (hi : i < t - f) (ht : t ≤ s.size) : byteAt (s.extract f t) i = byteAt s (f + i) := by
  have h1 : i < (s.extract f t).size := by rw [ByteArray.size_extract]; omega
  rw [← byteAt_get _ _ h1, ← byteAt_get _ _ (show f + i < s.size by omega), ByteArray.getElem_extract]
theorem extract_size {s : ByteArray} {f t : Nat} (ht : t ≤ s.size) : (s.extract f t).size = t - f := by rw [ByteArray.size_extract]; omega
/-- Texts of one length each. -/
theorem alike_over (x y : List ByteArray) (k n : Nat) (hx : ∀ j, j < k → (sAt x j).size = n) : alikeB (overL x y k) = true := (alikeB_iff _).2 (fun j hj => by
  rw [overL_length] at hj
  rw [overL_at _ _ _ _ hj, overL_at _ _ _ _ (by omega), overS_size, overS_size, hx j hj, hx 0 (by omega)])
theorem alike_piece (x : List ByteArray) (k f t n : Nat) (hx : ∀ j, j < k → (sAt x j).size = n) (ht : t ≤ n) : alikeB (pieceL x k f t) = true := (alikeB_iff _).2 (fun j hj => by
  rw [pieceL_length] at hj
  rw [pieceL_at _ _ _ _ _ hj, pieceL_at _ _ _ _ _ (by omega), extract_size (by rw [hx j hj]; exact ht), extract_size (by rw [hx 0 (by omega)]; exact ht)])
theorem alike_put (x : List ByteArray) (k n a : Nat) (t : ByteArray) (hl : x.length = k) (hx : ∀ j, j < k → (sAt x j).size = n) (ha : a < k) (ht : t.size = n) : (∀ j, j < k → (sAt (putL x a t) j).size = n) ∧ alikeB (putL x a t) = true := by
  have h : ∀ j, j < k → (sAt (putL x a t) j).size = n := fun j hj => by
    rw [sAt_put _ _ _ _ (by omega)]
    by_cases e : j = a
    · rw [if_pos e, ht]
    · rw [if_neg e, hx j hj]
  refine ⟨h, (alikeB_iff _).2 (fun j hj => ?_)⟩
  rw [putL_length, hl] at hj
  rw [h j hj, h 0 (by omega)]
/-- Parity of texts laid over one another. -/
theorem par_over (x y : List ByteArray) (k n m i : Nat) (hxl : x.length = k) (hyl : y.length = k) (k1 : 1 ≤ k) (hx : ∀ j, j < k → (sAt x j).size = n) (hy : ∀ j, j < k → (sAt y j).size = n) (hi : i < m) :
    sAt (parL (overL x y k) m) i = overS (sAt (parL x m) i) (sAt (parL y m) i) := by
  have hz : (sAt (overL x y k) 0).size = n := by rw [overL_at _ _ _ _ k1, overS_size, hx 0 k1]
  have hz1 : (sAt (parL x m) i).size = n := by rw [parL_size _ _ _ hi, hx 0 k1]
  refine str_ext ?_ fun b hb => ?_
  · rw [parL_size _ _ _ hi, overS_size, hz, hz1]
  · rw [parL_size _ _ _ hi, hz] at hb
    rw [overS_at _ _ _ (by omega), parL_byte _ _ _ _ hi (by omega), parL_byte _ _ _ _ hi (by rw [hx 0 k1]; exact hb), parL_byte _ _ _ _ hi (by rw [hy 0 k1]; exact hb), overL_length, hxl, hyl, ← sm_xor]
    exact sm_congr fun j hj => by rw [overL_at _ _ _ _ hj, overS_at _ _ _ (by rw [hx j hj]; exact hb), gm_xor_right]
/-- Parity of pieces. -/
theorem par_piece (x : List ByteArray) (k n m i f t : Nat) (hxl : x.length = k) (k1 : 1 ≤ k) (hx : ∀ j, j < k → (sAt x j).size = n) (hf : f ≤ t) (ht : t ≤ n) (hi : i < m) :
    sAt (parL (pieceL x k f t) m) i = (sAt (parL x m) i).extract f t := by
  have hz : (sAt (pieceL x k f t) 0).size = t - f := by rw [pieceL_at _ _ _ _ _ k1, extract_size (by rw [hx 0 k1]; exact ht)]
  have hz1 : (sAt (parL x m) i).size = n := by rw [parL_size _ _ _ hi, hx 0 k1]
  refine str_ext ?_ fun b hb => ?_
  · rw [parL_size _ _ _ hi, hz, extract_size (by omega)]
  · rw [parL_size _ _ _ hi, hz] at hb
    rw [byteAt_extract _ _ _ _ hb (by omega), parL_byte _ _ _ _ hi (by omega), parL_byte _ _ _ _ hi (by rw [hx 0 k1]; omega), pieceL_length, hxl]
    exact sm_congr fun j hj => by rw [pieceL_at _ _ _ _ _ hj, byteAt_extract _ _ _ _ hb (by rw [hx j hj]; exact ht)]
theorem xor_ne {a b : UInt8} : a ≠ b ↔ a ^^^ b ≠ 0 :=
  ⟨fun h e => h (xor_cancel e), fun h e => h (by rw [e, UInt8.xor_self])⟩
/-- One byte changed. -/
theorem par_chg (x : List ByteArray) (k n m c j a V : Nat) (t : ByteArray) (z : UInt8) (hxl : x.length = k) (k2 : k ≤ 64) (hm : m ≤ 64) (hx : ∀ j, j < k → (sAt x j).size = n) (ha : a < k) (hts : t.size = n) (hz : z ≠ 0)
    (ht : ∀ q, q < n → byteAt t q = if q = V then byteAt (sAt x a) q ^^^ z else byteAt (sAt x a) q) (hc : c < m) (hj : j < n) :
    byteAt (sAt (parL (putL x a t) m) c) j ≠ byteAt (sAt (parL x m) c) j ↔ j = V := by
  have hp := (alike_put x k n a t hxl hx ha hts).1
  rw [xor_ne, parL_byte _ _ _ _ hc (by rw [hp 0 (by omega)]; exact hj), parL_byte _ _ _ _ hc (by rw [hx 0 (by omega)]; exact hj), putL_length, hxl, ← sm_xor]
  have e : sm (fun q => gm (cauF c q) (byteAt (sAt (putL x a t) q) j) ^^^ gm (cauF c q) (byteAt (sAt x q) j)) k = gm (cauF c a) (if j = V then z else 0) := by
    rw [← sm_one (fun q => gm (cauF c q) (if j = V then z else 0)) k a ha]
    refine sm_congr fun q hq => ?_
    rw [← gm_xor_right, sAt_put _ _ _ _ (by omega)]
    by_cases e : q = a
    · subst e
      rw [if_pos rfl, if_pos rfl, ht j hj]
      congr 1
      by_cases e2 : j = V
      · rw [if_pos e2, if_pos e2, UInt8.xor_comm (byteAt (sAt x q) j), UInt8.xor_assoc, UInt8.xor_self, UInt8.xor_zero]
      · rw [if_neg e2, if_neg e2, UInt8.xor_self]
    · rw [if_neg e, if_neg e, UInt8.xor_self, gm_zero]
  rw [e]
  have hcau : cauF c a ≠ 0 := inv_ne _ (cau_xor_ne c a (by omega) (by omega))
  by_cases e2 : j = V
  · rw [if_pos e2]
    exact ⟨fun _ => e2, fun _ h => (gm_eq_zero _ _).1 h |>.elim hcau hz⟩
  · rw [if_neg e2, gm_zero]
    exact ⟨fun h => absurd rfl h, fun h => absurd h e2⟩
end Go.Proofs.Ythlnnclpfgokjaa
namespace Go.Proofs.Ythlnnclpfgokjaa
open Go.RowKit Gf
set_option linter.unusedVariables false
def ovF (a b : ByteArray) (k : Nat) : Nat → UInt8 := fun j => if j < k then byteAt a j ^^^ byteAt b j else 0
set_option maxRecDepth 100000 in
theorem ovS_any (a b : ByteArray) (w : World) (ha : a.size ≤ 281474976710656) (hb : a.size ≤ b.size) (hb2 : b.size ≤ 9223372036854775807) :
    Calls Try.prog 54 #[.string a, .string b] w fun e w' => e = .returned (.string (overS a b)) ∧ Below w.heap.size w w' := by
  obtain ⟨L, hL⟩ : ∃ L, a.size = L := ⟨_, rfl⟩
  have HL := Lib.hid hL
  have hmk : ∀ W : World, (Instr.makeSlice 44 (.int .i64 (a.size : Int)) (.int .i64 (a.size : Int))).run Try.prog W = .ok (.slice (some ⟨W.heap.size, 0, none⟩) L L) (W.alloc (.cells (madeCells #[.int .u8 0] L) 5)) := fun W => by
    rw [hL]; exact bytes_made48 W L (by omega)
  have OV : Hid (overS a b = bs ((List.range L).map (ovF a b L))) := Lib.hid (by
    unfold overS; rw [hL]; congr 1
    exact List.map_congr_left fun j hj => by unfold ovF; rw [if_pos (List.mem_range.1 hj)])
  rw [hL] at ha hb
  clear hL
  go_enter Try.func54, Try.ntmps54
  go_wp2
  clear hmk
  go_loopw [6] (fun i wr => ∃ k : Nat, k ≤ L ∧ i = .int .i64 k ∧ Hid (wr.rowIs w.heap.size 5 L (u8V (ovF a b k)) ∧ Below w.heap.size w wr)) (fun i _ => L - (intOf i).toNat)
  case atStart =>
    refine ⟨0, by omega, rfl, Lib.hid ⟨(World.rowIs_made w (.int .u8 0) L 5).congr fun i hi => ?_, (Below.refl _ _).alloc (Nat.le_refl _) _⟩⟩
    simp [u8V, ovF]
  case round =>
    obtain ⟨k, hk, rfl, HR⟩ := hrel
    by_cases hlt : k < L
    · have hka : k < a.size := by rw [HL.out]; exact hlt
      have hkb : k < b.size := by omega
      have EA := Lib.hid (byteAt_get a k hka)
      have EB := Lib.hid (byteAt_get b k hkb)
      obtain ⟨v1, hc1⟩ : ∃ v, wr.cell? ⟨w.heap.size, k, none⟩ = some v := ⟨_, HR.out.1.cell hlt⟩
      have hf1 : wr.frozen? ⟨w.heap.size, k, none⟩ = false := HR.out.1.frozen _
      have XB := Lib.hid (xor_bits a[k] b[k])
      have hi0 : (k : Int) < (L : Int) := by omega
      have hia : (k : Int) < (a.size : Int) := by omega
      have hib : (k : Int) < (b.size : Int) := by omega
      go_wp2
      refine wp_region_still_tail 10 (by kernel_rfl) (by kernel_rfl) ?_
      simp only [List.take_succ_cons, List.take_zero, List.drop_succ_cons, List.drop_zero]
      repeat still_step
      try refine wpStill_nil ?_
      go_wp2
      go_roundw
      case rel =>
        refine ⟨k + 1, by omega, by go_num, Lib.hid ⟨(HR.out.1.drew.set k _).congr fun i hi => ?_, HR.out.2.drew.setCell (Nat.le_refl _) _⟩⟩
        simp only [u8V, ovF]
        by_cases e : i = k
        · subst e
          rw [if_pos rfl, if_pos (by omega), XB.out, EA.out, EB.out]
        · rw [if_neg e]
          by_cases h : i < k
          · rw [if_pos h, if_pos (by omega)]
          · rw [if_neg h, if_neg (by omega)]
      case measure => simp [intOf]; omega
    · obtain rfl : k = L := by omega
      have hge : a.size ≤ k := by rw [HL.out]; exact Nat.le_refl _
      have hstr : (convert 44 9 (.slice (some ⟨w.heap.size, 0, none⟩) k k)).run Try.prog wr = .ok (.string (bs ((List.range k).map (ovF a b k)))) wr := by
        refine runStr _ _ _ _ (by simp) fun j hj => ?_
        rw [add0, HR.out.1.cell hj]
        simp [u8V, List.getD, hj]
      go_wp2
      go_ret
      exact ⟨by rw [OV.out]; rfl, HR.out.2⟩
end Go.Proofs.Ythlnnclpfgokjaa
namespace Go.Proofs.Ythlnnclpfgokjaa
open Go.RowKit
structure Three (w : World) (base : Nat) (t : TypeId) (v1 : Value) (n1 : Nat) (x1 : List Value) (v2 : Value) (n2 : Nat) (x2 : List Value) (v3 : Value) (n3 : Nat) (x3 : List Value) : Prop where
  t12 : Two w base t v1 n1 x1 v2 n2 x2
  t13 : Two w base t v1 n1 x1 v3 n3 x3
  t23 : Two w base t v2 n2 x2 v3 n3 x3
section
variable {w w1 : World} {base n1 n2 n3 : Nat} {t : TypeId} {v1 v2 v3 v : Value} {x1 x2 x3 x : List Value}
theorem Three.nil (w : World) (base : Nat) (t : TypeId) : Three w base t (.slice none 0 0) 0 [] (.slice none 0 0) 0 [] (.slice none 0 0) 0 [] := ⟨Two.nil _ _ _, Two.nil _ _ _, Two.nil _ _ _⟩
theorem Three.turn (h : Three w base t v1 n1 x1 v2 n2 x2 v3 n3 x3) : Three w base t v2 n2 x2 v3 n3 x3 v1 n1 x1 := ⟨h.t23, h.t12.symm, h.t13.symm⟩
theorem Three.below (h : Three w base t v1 n1 x1 v2 n2 x2 v3 n3 x3) (hb : Below w.heap.size w w1) : Three w1 base t v1 n1 x1 v2 n2 x2 v3 n3 x3 := ⟨h.t12.below hb, h.t13.below hb, h.t23.below hb⟩
theorem Three.push {N : Nat} (h : Three w base t v1 n1 x1 v2 n2 x2 v3 n3 x3) (ho : w1.ownsRow base t 1 v N x) (hg : w.grownBy w1 v1.ownBlock) (hd : v.ownBlock = v1.ownBlock ∨ v.ownBlock = some (w.heap.size + 1)) :
    Three w1 base t v N x v2 n2 x2 v3 n3 x3 :=
  ⟨h.t12.push ho hg hd, h.t13.push ho hg hd, (h.t12.push ho hg hd).o2, (h.t13.push ho hg hd).o2, h.t23.ne⟩
end
theorem wp_append1b {P : Program} {w : World} {t e : TypeId} {z : Value} {bytes : Nat} (E : Elem1 P t e z bytes) {o : Oper} {a : Act} {K : Act → World → Prop} {Q : Exit → Act → World → Prop} (s x : Operand)
    (ho : o.op = .call { callee := .builtin .append, args := #[s, x], argTypes := #[t, t] })
    (base : Nat) (v : Value) (n : Nat) (xs : List Value) (hs : a.eval s = v) (hown : w.ownsRow base e 1 v n xs) (u : Value) (hx : a.eval x = .slice (some ⟨w.heap.size, 0, none⟩) 1 1)
    (h1 : u.oneCell' = true) (hn : n ≤ 4611686018427387904) (hbytes : (n + 1) * bytes ≤ 140737488355328) (hbase : base ≤ w.heap.size)
    (h : ∀ v' w', w'.ownsRow base e 1 v' (n + 1) (xs ++ [u]) → w.grownBy w' v.ownBlock → (v'.ownBlock = v.ownBlock ∨ v'.ownBlock = some (w.heap.size + 1)) → K (a.put o.dst v') w') :
    Oper.wp P o a (w.alloc (.cells #[u] e)) K Q := by
  obtain ⟨i, hi, hz0, hz1, hz2⟩ := E.info
  refine wp_append_any (w.alloc (.cells #[u] e)) s x t ho base e i z 1 bytes E.ht hi hz0 hz1 hz2 E.hz (by decide) v n xs hs (hown.alloc _) (w.heap.size + 1) (some ⟨w.heap.size, 0, none⟩) 1 1 [u] hx
    ⟨rfl, fun _ => ⟨_, rfl, by simp, fun j u' hj => ?_⟩⟩ (by intro u' hu'; rw [List.mem_singleton] at hu'; subst hu'; exact h1) (by unfold maxLen; omega) hbytes (by simp; omega) (fun v' w' h2 h3 h4 => h v' w' h2 ?_ (by simp at h4; exact h4))
  · match j, hj with
    | 0, hj => simp at hj; subst hj; simp [Addr.add]
  · exact ⟨h3.os, h3.tape, h3.output, Nat.le_trans (by simp) h3.size, fun k hk hne => (h3.block k (by simp; omega) hne).trans (Below.heap_alloc w _ k hk)⟩
end Go.Proofs.Ythlnnclpfgokjaa
namespace Go.Proofs.Ythlnnclpfgokjaa
def tailC : Nat → Code → Code
  | 0, c => c
  | k + 1, .seq _ b => tailC k b
  | _ + 1, c => c
/-- The first k statements of a code, and another one behind them. -/
def takeC : Nat → Code → Code → Code
  | 0, _, b => b
  | k + 1, .seq a c, b => .seq a (takeC k c b)
  | _ + 1, c, _ => c
end Go.Proofs.Ythlnnclpfgokjaa
