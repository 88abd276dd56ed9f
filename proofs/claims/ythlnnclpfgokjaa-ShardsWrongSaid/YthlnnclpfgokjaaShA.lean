/- Walks: have texts one length (shards.alike, the reference's alike). -/
import Derived.Test.YthlnnclpfgokjaaSh
namespace Go.Proofs.Ythlnnclpfgokjaa
open Go.RowKit Gf
set_option linter.unusedVariables false
theorem alikeB_no {ss : List ByteArray} {k : Nat} (hk : k < ss.length) (e : ¬ (sAt ss k).size = (sAt ss 0).size) : alikeB ss = false := by
  rw [Bool.eq_false_iff]; intro h; exact e ((alikeB_iff ss).1 h k hk)
theorem alike_any (A : Option Addr) (n c : Nat) (ss : List ByteArray) (w : World) (B : Nat) (h : Reads w B 1 A n (strV ss)) (hn : n ≤ 9223372036854775807) :
    Calls Try.prog 64 #[.slice A n c] w fun e w' => e = .returned (.bool (alikeB ss)) ∧ w = w' := by
  have hl : ss.length = n := h.len
  have HH := Lib.hid h
  have HL := Lib.hid hl
  clear hl h
  go_enter Try.func64, Try.ntmps64
  go_wp2
  go_loop [7] (fun i => ∃ k : Nat, k ≤ n ∧ i = .int .i64 k ∧ Hid (∀ j, j < k → (sAt ss j).size = (sAt ss 0).size)) (fun i => n - (intOf i).toNat)
  case atStart => exact ⟨0, by omega, rfl, Lib.hid (fun j h => by omega)⟩
  case round =>
    obtain ⟨k, hk, rfl, H⟩ := hrel
    by_cases hlt : k < n
    · obtain ⟨ad, rfl, hb, hc⟩ := HH.out.str (k := 0) (by omega)
      have hc0 : w.cell? ad = some (.string (sAt ss 0)) := by have := hc 0 (by omega); simpa [Addr.add] using this
      have hck := hc k hlt
      clear hc
      by_cases e : (sAt ss k).size = (sAt ss 0).size
      · have e1 : (sAt ss k).size ≤ (sAt ss 0).size := by omega
        have e2 : (sAt ss 0).size ≤ (sAt ss k).size := by omega
        have E := Lib.hid e
        clear e
        go_wp2
        go_round
        case rel => exact ⟨k + 1, by omega, by go_num, Lib.hid (fun j hj => by
          by_cases hjk : j < k
          · exact H.out j hjk
          · obtain rfl : j = k := by omega
            exact E.out)⟩
        case measure => simp [intOf]; omega
      · have X : Hid (alikeB ss = false) := Lib.hid (alikeB_no (by rw [HL.out]; exact hlt) e)
        go_wp2
        go_ret
        exact ⟨by rw [X.out]; rfl, rfl⟩
    · obtain rfl : k = n := by omega
      have X : Hid (alikeB ss = true) := Lib.hid ((alikeB_iff ss).2 fun j hj => H.out j (by rw [← HL.out]; exact hj))
      go_wp2
      go_ret
      exact ⟨by rw [X.out]; rfl, rfl⟩
theorem ralike_any (A : Option Addr) (n c : Nat) (ss : List ByteArray) (w : World) (B : Nat) (h : Reads w B 1 A n (strV ss)) (hn : n ≤ 9223372036854775807) :
    Calls Try.prog 63 #[.slice A n c] w fun e w' => e = .returned (.bool (alikeB ss)) ∧ ∃ m, w' = w.drewN m := by
  have hl : ss.length = n := h.len
  have HH := Lib.hid h
  have HL := Lib.hid hl
  clear hl h
  go_enter Try.func63, Try.ntmps63
  go_wp2
  go_loopw [3] (fun i wr => ∃ k : Nat, k ≤ n ∧ i = .int .i64 k ∧ Hid (∀ j, j < k → (sAt ss j).size = (sAt ss 0).size) ∧ ∃ m, wr = w.drewN m) (fun i _ => n - (intOf i).toNat)
  case atStart => exact ⟨0, by omega, rfl, Lib.hid (fun j h => by omega), 0, rfl⟩
  case round =>
    obtain ⟨k, hk, rfl, H, m, rfl⟩ := hrel
    by_cases hlt : k < n
    · obtain ⟨ad, rfl, hb, hc⟩ := HH.out.str (k := 0) (by omega)
      have hc0 : w.cell? ad = some (.string (sAt ss 0)) := by have := hc 0 (by omega); simpa [Addr.add] using this
      have hck := hc k hlt
      clear hc
      by_cases e : (sAt ss k).size = (sAt ss 0).size
      · have e1 : (sAt ss k).size ≤ (sAt ss 0).size := by omega
        have e2 : (sAt ss 0).size ≤ (sAt ss k).size := by omega
        have E := Lib.hid e
        clear e
        go_wp2
        go_quiet (fail)
        go_wp2
        go_roundw
        case rel => exact ⟨k + 1, by omega, by go_num, Lib.hid (fun j hj => by
          by_cases hjk : j < k
          · exact H.out j hjk
          · obtain rfl : j = k := by omega
            exact E.out), _, rfl⟩
        case measure => simp [intOf]; omega
      · have X : Hid (alikeB ss = false) := Lib.hid (alikeB_no (by rw [HL.out]; exact hlt) e)
        go_wp2
        go_quiet (fail)
        go_wp2
        go_ret
        exact ⟨by rw [X.out]; rfl, _, World.drewN_drewN _ _ _⟩
    · obtain rfl : k = n := by omega
      have X : Hid (alikeB ss = true) := Lib.hid ((alikeB_iff ss).2 fun j hj => H.out j (by rw [← HL.out]; exact hj))
      go_wp2
      go_ret
      exact ⟨by rw [X.out]; rfl, _, rfl⟩
end Go.Proofs.Ythlnnclpfgokjaa
