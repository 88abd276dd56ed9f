/- Walk: shards joined: the reference's Whole. -/
import Derived.Test.YthlnnclpfgokjaaShO
import Derived.Test.YthlnnclpfgokjaaPick
namespace Go.Proofs.Ythlnnclpfgokjaa
open Go.RowKit Gf
set_option linter.unusedVariables false
theorem joinL_take_succ (ss : List ByteArray) (k : Nat) (hk : k < ss.length) : joinL (ss.take (k + 1)) = joinL (ss.take k) ++ (sAt ss k).data.toList := by
  rw [List.take_succ_eq_append_getElem hk, joinL_snoc, sAt_get hk]
theorem reads_takeU {w : World} {B n k : Nat} {A : Option Addr} {l : List UInt8} (h : Reads w B 1 A n (u8s l)) (hk : k ≤ n) : Reads w B 1 A k (u8s (l.take k)) := by
  have hl := h.u8
  refine ⟨by rw [u8s_length, List.length_take]; omega, fun h0 => ?_⟩
  obtain ⟨ad, e, hb, hc⟩ := h.2 (by omega)
  refine ⟨ad, e, hb, fun j u hj => hc j u ?_⟩
  simp only [u8s, List.map_take] at hj ⊢
  rw [List.getElem?_take] at hj
  split at hj
  · exact hj
  · cases hj
theorem str_nil (w : World) (c : Nat) : (convert 44 9 (.slice none 0 c)).run Try.prog w = .ok (.string (bs [])) w := by kernel_rfl
/-- string(b) at a row of bytes, nil or not. -/
theorem str_reads {w : World} {B n c : Nat} {A : Option Addr} {l : List UInt8} (h : Reads w B 1 A n (u8s l)) : (convert 44 9 (.slice A n c)).run Try.prog w = .ok (.string (bs l)) w := by
  have hl := h.u8
  cases A with
  | none =>
    have h0 : n = 0 := by
      rcases Nat.eq_zero_or_pos n with h0 | h0
      · exact h0
      · obtain ⟨ad, e, _⟩ := h.2 h0; cases e
    subst h0
    obtain rfl : l = [] := List.eq_nil_of_length_eq_zero hl
    exact str_nil w c
  | some ad =>
    refine runStr ad n c l hl fun j hj => ?_
    obtain ⟨ad', e, _, hc⟩ := reads_u8 h (by omega)
    injection e with e; subst e
    exact hc j hj
set_option maxRecDepth 100000 in
set_option maxHeartbeats 2000000 in
theorem rwhole_any (A : Option Addr) (n c : Nat) (ss : List ByteArray) (x : Int) (w : World) (B : Nat) (h : Reads w B 1 A n (strV ss)) (hB : B ≤ w.heap.size) (hn : n ≤ 9223372036854775807) (hx1 : -9223372036854775808 ≤ x) (hx2 : x ≤ 9223372036854775807)
    (hJ : 1 ≤ n → n ≤ 32 → alikeB ss = true → (joinL ss).length ≤ 140737488355328) (hs : ∀ s ∈ ss, s.size ≤ 140737488355328) :
    Calls Try.prog 44 #[.slice A n c, .int .i64 x] w fun e w' => e = .returned (.tuple #[.string (wholeR ss x).1, .int .i64 (wholeR ss x).2]) ∧ Below w.heap.size w w' := by
  have hl := h.len
  have HH := Lib.hid h
  by_cases h1 : n < 1
  · have X : Hid (wholeR ss x = (ByteArray.empty, 1)) := Lib.hid (wholeR_no (by rintro ⟨a, _⟩; omega))
    clear h hl hJ hs
    go_enter Try.func44, Try.ntmps44
    go_wp2
    go_ret2
    exact ⟨by rw [X.out]; rfl, Below.refl _ _⟩
  by_cases h2 : 32 < n
  · have X : Hid (wholeR ss x = (ByteArray.empty, 1)) := Lib.hid (wholeR_no (by rintro ⟨_, a, _⟩; omega))
    clear h hl hJ hs
    go_enter Try.func44, Try.ntmps44
    go_wp2
    go_ret2
    exact ⟨by rw [X.out]; rfl, Below.refl _ _⟩
  by_cases ha : ¬ alikeB ss = true
  · have X : Hid (wholeR ss x = (ByteArray.empty, 1)) := Lib.hid (wholeR_no (by rintro ⟨_, _, a, _⟩; exact ha a))
    have HA : Hid (alikeB ss = false) := Lib.hid (by simpa using ha)
    clear h hl ha hJ hs
    go_enter Try.func44, Try.ntmps44
    go_wp2_with fail
    refine (ralike_any A n c ss _ _ HH.out hn).mono ?_; rintro e w' ⟨rfl, q, rfl⟩
    rw [HA.out]
    go_wp2
    go_ret2
    exact ⟨by rw [X.out]; rfl, below_drewN (Below.refl _ _) _⟩
  have ha := Classical.not_not.1 ha
  have HA := Lib.hid ha
  have hja := joinL_alike ss ha
  have hj := hJ (by omega) (by omega) ha
  obtain ⟨ad, rfl, hb, hc⟩ := h.str (k := 0) (by omega)
  have hc0 : ∀ q, (w.drewN q).cell? ad = some (.string (sAt ss 0)) := fun q => by have := hc 0 (by omega); simpa [Addr.add] using this
  obtain ⟨L, hL⟩ : ∃ L, (sAt ss 0).size = L := ⟨_, rfl⟩
  obtain ⟨M, hM⟩ : ∃ M, n * L = M := ⟨_, rfl⟩
  have hm : (n : Int) * (L : Int) = (M : Int) := by rw [← hM]; exact (Int.natCast_mul n L).symm
  have hJM : (joinL ss).length = M := by rw [hja, hl, hL, hM]
  have hMj : M ≤ 140737488355328 := by omega
  have hLj : L ≤ 140737488355328 := by rw [← hL]; exact hs _ (sAt_mem (by omega))
  have HC := Lib.hid hc
  have HL := Lib.hid hl
  have HJM := Lib.hid hJM
  have HLL := Lib.hid hL
  have HC0 := Lib.hid hc0
  by_cases hx0 : x < 0
  · have X : Hid (wholeR ss x = (ByteArray.empty, 1)) := Lib.hid (wholeR_no (by rintro ⟨_, _, _, a, _⟩; omega))
    clear hl ha hja h hJ hs hc hc0 hM hm hJM hL
    go_enter Try.func44, Try.ntmps44
    go_wp2_with fail
    refine (ralike_any _ n c ss _ _ HH.out hn).mono ?_; rintro e w' ⟨rfl, q, rfl⟩
    rw [HA.out]
    go_wp2
    go_ret2
    exact ⟨by rw [X.out]; rfl, below_drewN (Below.refl _ _) _⟩
  obtain ⟨k, rfl⟩ : ∃ k : Nat, x = k := ⟨x.toNat, by omega⟩
  by_cases hx3 : M < k
  · have X : Hid (wholeR ss (k : Int) = (ByteArray.empty, 1)) := Lib.hid (wholeR_no (by rintro ⟨_, _, _, _, a⟩; omega))
    clear hl ha hja h hJ hs hc hc0 hM hJM
    go_enter Try.func44, Try.ntmps44
    go_wp2_with fail
    refine (ralike_any _ n c ss _ _ HH.out hn).mono ?_; rintro e w' ⟨rfl, q, rfl⟩
    rw [HA.out]
    have hcq := HC0.out q
    go_wp2
    go_ret2
    exact ⟨by rw [X.out]; rfl, below_drewN (Below.refl _ _) _⟩
  · have hx4 : k ≤ M := by omega
    have X : Hid (wholeR ss (k : Int) = (bs ((joinL ss).take k), 0)) := Lib.hid (by
      have := wholeR_yes (l := ss) (n := (k : Int)) ⟨by omega, by omega, ha, by omega, by omega⟩
      rw [Int.toNat_natCast] at this; exact this)
    have HSZ : Hid (∀ j, j < n → (sAt ss j).size = L) := Lib.hid (fun j hj => by rw [← hL]; exact (alikeB_iff ss).1 ha j (by omega))
    have HMM := Lib.hid hM
    clear hl ha hja h hJ hs hc hc0 hM hJM hx3
    obtain ⟨i5, hi5, hz5, h15, hb5⟩ := elemByte.info
    have I5 := Lib.hid hi5
    have Z5 := Lib.hid hz5
    have O5 := Lib.hid h15
    have B5 := Lib.hid hb5
    clear hi5 hz5 h15 hb5
    have hd1 : decide ((k : Int) < 0) = false := decide_eq_false (by omega)
    have hd2 : decide ((M : Int) < (k : Int)) = false := decide_eq_false (by omega)
    have hd3 : decide (M < k) = false := decide_eq_false (by omega)
    go_enter Try.func44, Try.ntmps44
    go_wp2_with fail
    refine (ralike_any _ n c ss _ _ HH.out hn).mono ?_; rintro e w' ⟨rfl, q, rfl⟩
    rw [HA.out]
    have hcq := HC0.out q
    go_wp2
    clear hcq
    go_loopw [6, 7] (fun v i wr => ∃ j : Nat, j ≤ n ∧ i = .int .i64 j ∧ Hid (wr.ownsRow w.heap.size 5 1 v (j * L) (u8s (joinL (ss.take j))) ∧ Below w.heap.size w wr)) (fun _ i _ => n - (intOf i).toNat)
    case atStart => exact ⟨0, by omega, rfl, Lib.hid ⟨by rw [Nat.zero_mul]; exact World.ownsRow_nil _ _ _ _, below_drewN (Below.refl _ _) _⟩⟩
    case round =>
      obtain ⟨j, hj, rfl, HJ⟩ := hrel
      by_cases hjl : j < n
      · have hck : wr.cell? (ad.add j) = some (.string (sAt ss j)) := (HJ.out.2.cell (by rw [block_of_add]; omega)).trans (HC.out j hjl)
        have hsz := HSZ.out j hjl
        have hroom : j * L + (sAt ss j).size ≤ 140737488355328 := by
          have h1 : (j + 1) * L ≤ n * L := Nat.mul_le_mul_right L hjl
          rw [Nat.add_mul, Nat.one_mul, HMM.out] at h1
          omega
        have HSJ := Lib.hid hsz
        have HJT := Lib.hid (joinL_take_succ ss j (by rw [HL.out]; exact hjl))
        have hle := HJ.out.2.size
        clear hsz
        generalize sAt ss j = sj at hck hroom HSJ HJT
        go_wp2_with (at_builtin; refine append_own_str_wp w.heap.size rfl _ _ _ _ rfl 5 (by kernel_rfl) (by kernel_rfl) i5 I5.out Z5.out O5.out B5.out _ (j * L) _ rfl HJ.out.1 sj rfl hroom hle ?_; intro v' w' ho hg hd; clear hd)
        have HJ' : Hid (w'.ownsRow w.heap.size 5 1 v' ((j + 1) * L) (u8s (joinL (ss.take (j + 1)))) ∧ Below w.heap.size w w') := Lib.hid (by
          refine ⟨?_, below_own HJ.out.2 HJ.out.1 hg⟩
          rw [HJT.out, Nat.add_mul, Nat.one_mul]
          rw [HSJ.out] at ho
          simpa [u8s] using ho)
        clear ho hg
        go_roundw
        case rel => exact ⟨j + 1, by omega, by go_num, HJ'⟩
        case measure => simp [intOf]; omega
      · obtain rfl : j = n := by omega
        have hO := HJ.out.1
        rw [HMM.out, List.take_of_length_le (by rw [HL.out]; exact Nat.le_refl _)] at hO
        obtain ⟨A6, c6, rfl, hc6, hr6⟩ := own_readsC hO
        have HBJ := Lib.hid HJ.out.2
        have hkc : k ≤ c6 := by omega
        have hstr := str_reads (c := c6) (reads_takeU hr6 hx4)
        clear hO hr6 HJ
        go_wp2
        go_ret2
        exact ⟨by rw [X.out]; rfl, HBJ.out⟩
end Go.Proofs.Ythlnnclpfgokjaa
