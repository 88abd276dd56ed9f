/- Walks: field.Check, the reference's Check, Same. -/
import Derived.Test.YthlnnclpfgokjaaMem
namespace Go.Proofs.Ythlnnclpfgokjaa
open Go.RowKit

/-- Strings as values. -/
def strV (ss : List ByteArray) : List Value := ss.map Value.string
theorem strV_length (ss : List ByteArray) : (strV ss).length = ss.length := by simp [strV]
theorem strV_get (ss : List ByteArray) (j : Nat) (hj : j < ss.length) : (strV ss)[j]? = some (.string ss[j]) := by simp [strV, hj]
/-- The string at a place. -/
def sAt (ss : List ByteArray) (k : Nat) : ByteArray := ss.getD k ByteArray.empty
theorem sAt_mem {ss : List ByteArray} {k : Nat} (h : k < ss.length) : sAt ss k ∈ ss := by
  unfold sAt; rw [List.getD_eq_getElem?_getD, List.getElem?_eq_getElem h]; exact List.getElem_mem h
theorem sAt_get {ss : List ByteArray} {k : Nat} (h : k < ss.length) : sAt ss k = ss[k] := by
  unfold sAt; rw [List.getD_eq_getElem?_getD, List.getElem?_eq_getElem h]; rfl
theorem Reads.len {w : World} {B n : Nat} {A : Option Addr} {ss : List ByteArray} (h : Reads w B 1 A n (strV ss)) : ss.length = n := by
  have := h.1; rw [strV_length] at this; omega
theorem Reads.str {w : World} {B n : Nat} {A : Option Addr} {ss : List ByteArray} (h : Reads w B 1 A n (strV ss)) {k : Nat} (hk : k < n) :
    ∃ ad, A = some ad ∧ ad.block < B ∧ ∀ j, j < n → w.cell? (ad.add j) = some (.string (sAt ss j)) := by
  obtain ⟨ad, e, hb, hc⟩ := h.2 (by omega)
  exact ⟨ad, e, hb, fun j hj => by
    have hj' : j < ss.length := by rw [h.len]; exact hj
    rw [sAt_get hj']; exact hc j _ (strV_get ss j hj')⟩

def rowsOk (c : Nat) (ss : List ByteArray) : Bool := ss.all fun s => s.size == c
def col (ss : List ByteArray) : Nat := (sAt ss 0).size
def okM (ss : List ByteArray) : Bool := decide (1 ≤ ss.length) && decide (ss.length ≤ 64) && decide (1 ≤ col ss) && decide (col ss ≤ 64) && rowsOk (col ss) ss
theorem okM_iff (ss : List ByteArray) : okM ss = true ↔ 1 ≤ ss.length ∧ ss.length ≤ 64 ∧ 1 ≤ (sAt ss 0).size ∧ (sAt ss 0).size ≤ 64 ∧ ∀ k, k < ss.length → (sAt ss k).size = (sAt ss 0).size := by
  unfold okM col rowsOk
  simp only [Bool.and_eq_true, decide_eq_true_eq, List.all_eq_true, beq_iff_eq]
  constructor
  · rintro ⟨⟨⟨⟨a, b⟩, c⟩, d⟩, e⟩
    exact ⟨a, b, c, d, fun k hk => e _ (sAt_mem hk)⟩
  · rintro ⟨a, b, c, d, e⟩
    refine ⟨⟨⟨⟨a, b⟩, c⟩, d⟩, fun s hs => ?_⟩
    obtain ⟨j, hj, rfl⟩ := List.getElem_of_mem hs
    rw [← sAt_get hj]
    exact e j hj
def chkV (ss : List ByteArray) : Value := if okM ss = true then .tuple #[.int .i64 (ss.length : Int), .int .i64 (col ss : Int), .int .i64 0] else .tuple #[.int .i64 0, .int .i64 0, .int .i64 1]

theorem check_any (A : Option Addr) (n c : Nat) (ss : List ByteArray) (w : World) (B : Nat) (h : Reads w B 1 A n (strV ss)) (hn : n ≤ 9223372036854775807) (hz : ∀ s ∈ ss, s.size ≤ 9223372036854775807) :
    Calls Try.prog 30 #[.slice A n c] w fun e w' => e = .returned (chkV ss) ∧ ∃ m, w' = w.drewN m := by
  have hl : ss.length = n := by have := h.1; rw [strV_length] at this; omega
  by_cases h1 : n < 1 ∨ 64 < n
  · have X : Hid (chkV ss = .tuple #[.int .i64 0, .int .i64 0, .int .i64 1]) := Lib.hid (by
      unfold chkV; rw [if_neg]; unfold okM; simp; omega)
    clear h hl
    rcases h1 with h1 | h1
    · go_enter Try.func30, Try.ntmps30
      go_wp2
      go_ret3
      exact ⟨by rw [X.out]; rfl, 0, rfl⟩
    · go_enter Try.func30, Try.ntmps30
      go_wp2
      go_ret3
      exact ⟨by rw [X.out]; rfl, 0, rfl⟩
  · have h2 : 1 ≤ n := by omega
    have h3 : n ≤ 64 := by omega
    clear h1
    obtain ⟨ad, rfl, hb, hc⟩ := h.str (k := 0) (by omega)
    have hc0 : w.cell? ad = some (.string (sAt ss 0)) := by have := hc 0 (by omega); simpa [Addr.add] using this
    have hz0 : (sAt ss 0).size ≤ 9223372036854775807 := hz _ (sAt_mem (by omega))
    have HC := Lib.hid hc
    have HL := Lib.hid hl
    have HZ := Lib.hid hz
    clear hc hl hz h
    go_enter Try.func30, Try.ntmps30
    go_wp2
    go_loop [6, 17] (fun r i => ∃ k : Nat, k ≤ n ∧ i = .int .i64 k ∧ Hid (∀ j, j < k → (sAt ss j).size = (sAt ss 0).size ∧ 1 ≤ (sAt ss j).size ∧ (sAt ss j).size ≤ 64)) (fun _ i => n - (intOf i).toNat)
    case atStart => exact ⟨0, by omega, rfl, Lib.hid (fun j h => by omega)⟩
    case round =>
      obtain ⟨k, hk, rfl, H⟩ := hrel
      by_cases hlt : k < n
      · have hck := HC.out k hlt
        have hzk : (sAt ss k).size ≤ 9223372036854775807 := HZ.out _ (sAt_mem (by rw [HL.out]; omega))
        by_cases e : (sAt ss k).size = (sAt ss 0).size ∧ 1 ≤ (sAt ss k).size ∧ (sAt ss k).size ≤ 64
        · have e1 : (sAt ss k).size ≤ (sAt ss 0).size := by omega
          have e2 : (sAt ss 0).size ≤ (sAt ss k).size := by omega
          have e3 := e.2.1
          have e4 := e.2.2
          have E := Lib.hid e
          clear e
          go_wp2
          go_round
          case rel => exact ⟨k + 1, by omega, by go_num, Lib.hid (fun j hj => by
            by_cases hjk : j < k
            · exact H.out j hjk
            · obtain rfl : j = k := by omega
              exact E.out)⟩
          case measure => simp [intOf]; omega
        · have X : Hid (chkV ss = .tuple #[.int .i64 0, .int .i64 0, .int .i64 1]) := Lib.hid (by
            unfold chkV; rw [if_neg]; intro ho
            have ho := (okM_iff ss).1 ho
            have := ho.2.2.2.2 k (by rw [HL.out]; omega)
            exact e (by omega))
          by_cases e1 : (sAt ss k).size = (sAt ss 0).size
          · have e2 : (sAt ss k).size ≤ (sAt ss 0).size := by omega
            have e3 : (sAt ss 0).size ≤ (sAt ss k).size := by omega
            have e4 : (sAt ss k).size < 1 ∨ 64 < (sAt ss k).size := by omega
            clear e e1
            rcases e4 with e4 | e4
            · go_wp2
              go_ret3
              exact ⟨by rw [X.out]; rfl, 0, rfl⟩
            · go_wp2
              go_ret3
              exact ⟨by rw [X.out]; rfl, 0, rfl⟩
          · clear e
            go_wp2
            go_ret3
            exact ⟨by rw [X.out]; rfl, 0, rfl⟩
      · obtain rfl : k = n := by omega
        have X : Hid (chkV ss = .tuple #[.int .i64 (k : Int), .int .i64 ((sAt ss 0).size : Int), .int .i64 0]) := Lib.hid (by
          unfold chkV
          have ho : okM ss = true := (okM_iff ss).2 (by
            rw [HL.out]
            have h0 := H.out 0 (by omega)
            exact ⟨by omega, by omega, h0.2.1, h0.2.2, fun j hj => (H.out j hj).1⟩)
          rw [if_pos ho, HL.out]; rfl)
        go_wp2
        go_quiet (fail)
        go_wp2
        go_ret3
        exact ⟨by rw [X.out]; rfl, _, rfl⟩

theorem rcheck_any (A : Option Addr) (n c : Nat) (ss : List ByteArray) (w : World) (B : Nat) (h : Reads w B 1 A n (strV ss)) (hn : n ≤ 9223372036854775807) (hz : ∀ s ∈ ss, s.size ≤ 9223372036854775807) :
    Calls Try.prog 32 #[.slice A n c] w fun e w' => e = .returned (chkV ss) ∧ w = w' := by
  have hl : ss.length = n := by have := h.1; rw [strV_length] at this; omega
  by_cases h1 : n < 1 ∨ 64 < n
  · have X : Hid (chkV ss = .tuple #[.int .i64 0, .int .i64 0, .int .i64 1]) := Lib.hid (by
      unfold chkV; rw [if_neg]; unfold okM; simp; omega)
    clear h hl
    rcases h1 with h1 | h1
    · go_enter Try.func32, Try.ntmps32
      go_wp2
      go_ret3
      exact ⟨by rw [X.out]; rfl, rfl⟩
    · go_enter Try.func32, Try.ntmps32
      go_wp2
      go_ret3
      exact ⟨by rw [X.out]; rfl, rfl⟩
  · have h2 : 1 ≤ n := by omega
    have h3 : n ≤ 64 := by omega
    clear h1
    obtain ⟨ad, rfl, hb, hc⟩ := h.str (k := 0) (by omega)
    have hc0 : w.cell? ad = some (.string (sAt ss 0)) := by have := hc 0 (by omega); simpa [Addr.add] using this
    have hz0 : (sAt ss 0).size ≤ 9223372036854775807 := hz _ (sAt_mem (by omega))
    have HC := Lib.hid hc
    have HL := Lib.hid hl
    have HZ := Lib.hid hz
    clear hc hl hz h
    go_enter Try.func32, Try.ntmps32
    go_wp2
    go_loop [6] (fun i => ∃ k : Nat, k ≤ n ∧ i = .int .i64 k ∧ Hid (∀ j, j < k → (sAt ss j).size = (sAt ss 0).size)) (fun i => n - (intOf i).toNat)
    case atStart => exact ⟨0, by omega, rfl, Lib.hid (fun j h => by omega)⟩
    case round =>
      obtain ⟨k, hk, rfl, H⟩ := hrel
      by_cases hlt : k < n
      · have hck := HC.out k hlt
        have hzk : (sAt ss k).size ≤ 9223372036854775807 := HZ.out _ (sAt_mem (by rw [HL.out]; omega))
        by_cases e : (sAt ss k).size = (sAt ss 0).size
        · have e1 : (sAt ss k).size ≤ (sAt ss 0).size := by omega
          have e2 : (sAt ss 0).size ≤ (sAt ss k).size := by omega
          have E := Lib.hid e
          clear e
          go_wp2
          go_round
          case rel => exact ⟨k + 1, by omega, by go_num, Lib.hid (fun j hj => by
            by_cases hjk : j < k
            · exact H.out j hjk
            · obtain rfl : j = k := by omega
              exact E.out)⟩
          case measure => simp [intOf]; omega
        · have X : Hid (chkV ss = .tuple #[.int .i64 0, .int .i64 0, .int .i64 1]) := Lib.hid (by
            unfold chkV; rw [if_neg]; intro ho
            have ho := (okM_iff ss).1 ho
            exact e (ho.2.2.2.2 k (by rw [HL.out]; omega)))
          go_wp2
          go_ret3
          exact ⟨by rw [X.out]; rfl, rfl⟩
      · obtain rfl : k = n := by omega
        by_cases e : 1 ≤ (sAt ss 0).size ∧ (sAt ss 0).size ≤ 64
        · have e1 := e.1
          have e2 := e.2
          clear e
          have X : Hid (chkV ss = .tuple #[.int .i64 (k : Int), .int .i64 ((sAt ss 0).size : Int), .int .i64 0]) := Lib.hid (by
            unfold chkV
            have ho : okM ss = true := (okM_iff ss).2 (by
              rw [HL.out]
              exact ⟨by omega, by omega, e1, e2, fun j hj => H.out j hj⟩)
            rw [if_pos ho, HL.out]; rfl)
          go_wp2
          go_ret3
          exact ⟨by rw [X.out]; rfl, rfl⟩
        · have X : Hid (chkV ss = .tuple #[.int .i64 0, .int .i64 0, .int .i64 1]) := Lib.hid (by
            unfold chkV; rw [if_neg]; intro ho
            have ho := (okM_iff ss).1 ho
            exact e ⟨ho.2.2.1, ho.2.2.2.1⟩)
          have e' : (sAt ss 0).size < 1 ∨ 64 < (sAt ss 0).size := by omega
          clear e
          rcases e' with e' | e'
          · go_wp2
            go_ret3
            exact ⟨by rw [X.out]; rfl, rfl⟩
          · go_wp2
            go_ret3
            exact ⟨by rw [X.out]; rfl, rfl⟩

theorem beq_str (a b : ByteArray) : (a.toList == b.toList) = decide (a = b) := by
  by_cases h : a = b
  · subst h; simp
  · rw [decide_eq_false h, beq_eq_false_iff_ne, ByteArray.toList_eq, ByteArray.toList_eq]
    intro e; exact h (Go.WideShapes.bytes_inj e)

theorem strs_ext {ss tt : List ByteArray} (hl : ss.length = tt.length) (h : ∀ j, j < ss.length → sAt ss j = sAt tt j) : ss = tt := by
  refine List.ext_getElem hl fun j h1 h2 => ?_
  rw [← sAt_get h1, ← sAt_get h2]; exact h j h1

theorem same_any (A A' : Option Addr) (n c n' c' : Nat) (ss tt : List ByteArray) (w : World) (B B' : Nat) (h : Reads w B 1 A n (strV ss)) (h' : Reads w B' 1 A' n' (strV tt))
    (hn : n ≤ 9223372036854775807) (hn' : n' ≤ 9223372036854775807) :
    Calls Try.prog 38 #[.slice A n c, .slice A' n' c'] w fun e w' => e = .returned (.bool (decide (ss = tt))) ∧ ∃ m, w' = w.drewN m := by
  have hl := h.len
  have hl' := h'.len
  by_cases e : n = n'
  · subst e
    have HL := Lib.hid hl
    have HL' := Lib.hid hl'
    have H1 := Lib.hid h
    have H2 := Lib.hid h'
    clear hl hl' h h'
    go_enter Try.func38, Try.ntmps38
    go_wp2
    go_loopw [5] (fun i wr => ∃ k : Nat, k ≤ n ∧ i = .int .i64 k ∧ Hid (∀ j, j < k → sAt ss j = sAt tt j) ∧ ∃ m, wr = w.drewN m) (fun i _ => n - (intOf i).toNat)
    case atStart => exact ⟨0, by omega, rfl, Lib.hid (fun j h => by omega), 0, rfl⟩
    case round =>
      obtain ⟨k, hk, rfl, H, m, rfl⟩ := hrel
      by_cases hlt : k < n
      · obtain ⟨ad, rfl, hb, hc⟩ := H1.out.str hlt
        obtain ⟨ad', rfl, hb', hc'⟩ := H2.out.str hlt
        have hck := hc k hlt
        have hck' := hc' k hlt
        clear hc hc'
        by_cases e : sAt ss k = sAt tt k
        · have t : ((sAt ss k).toList == (sAt tt k).toList) = true := by rw [beq_str]; simpa using e
          have E := Lib.hid e
          clear e
          go_wp2
          go_quiet (fail)
          go_wp2
          go_roundw
          case rel => exact ⟨k + 1, by omega, by go_num, Lib.hid (fun j hj => by
            by_cases hjk : j < k
            · exact H.out j hjk
            · obtain rfl : j = k := by omega
              exact E.out), _, rfl⟩
          case measure => simp [intOf]; omega
        · have t : ((sAt ss k).toList == (sAt tt k).toList) = false := by rw [beq_str]; simpa using e
          have X : Hid (decide (ss = tt) = false) := Lib.hid (by rw [decide_eq_false_iff_not]; intro h; subst h; exact e rfl)
          clear e
          go_wp2
          go_quiet (fail)
          go_wp2
          go_ret
          exact ⟨by rw [X.out]; rfl, _, World.drewN_drewN _ _ _⟩
      · obtain rfl : k = n := by omega
        have X : Hid (decide (ss = tt) = true) := Lib.hid (by
          rw [decide_eq_true_eq]
          exact strs_ext (by rw [HL.out, HL'.out]) (fun j hj => H.out j (by rw [← HL.out]; exact hj)))
        go_wp2
        go_ret
        exact ⟨by rw [X.out]; rfl, _, rfl⟩
  · have X : Hid (decide (ss = tt) = false) := Lib.hid (by rw [decide_eq_false_iff_not]; intro h; subst h; omega)
    clear hl hl' h h'
    go_enter Try.func38, Try.ntmps38
    go_wp2
    go_ret
    exact ⟨by rw [X.out]; rfl, 0, rfl⟩
end Go.Proofs.Ythlnnclpfgokjaa
