/- The filters' made with its size named; a filter beside another that is written. No conditions. -/
import Derived.Test.YtbfmdingbgdflaaBloI
import Derived.Test.YtbfmdingbgdflaaBloG
import Derived.Test.YtbfmdingbgdflaaBloAwake
namespace Go.Proofs.Ytbfmdingbgdflaa
open Go.RowKit Blo
set_option linter.unusedVariables false
theorem made_n (w : World) (B : Nat) (A : Option Addr) (cnt c n H m N : Nat) (l : List ByteArray) (h : Reads w B 1 A cnt (strV l)) (hB : B ≤ w.heap.size) (hc : cnt ≤ 9223372036854775807) (hz : ∀ s ∈ l, s.size ≤ 9223372036854775807) (hN : 8 * n = N) (hn : 8 * n = 2 ^ m) (h6 : 6 ≤ m) (hm : m ≤ 24) (h1 : 1 ≤ H) (hH : H ≤ 8) :
    Calls Try.prog 14 #[.int .i64 (N : Int), .int .i64 (H : Int), .slice A cnt c] w fun e w' => e = .returned (.pointer (some ⟨w.heap.size + 1, 0, none⟩)) ∧
      Flt w' (w.heap.size + 1) w.heap.size n n H (addL n H (fun _ => 0) (l.map byteAt)) ∧ Below w.heap.size w w' := by
  subst hN
  exact made_any w B A cnt c n H m l h hB hc hz hn h6 hm h1 hH
theorem reads_strs_cut {w : World} {B n k : Nat} {A : Option Addr} {l : List ByteArray} (h : Reads w B 1 A n (strV l)) (hk : k ≤ n) : Reads w B 1 A k (strV (l.take k)) := by
  have hl := h.len
  refine ⟨by rw [strV_length, List.length_take]; omega, fun h0 => ?_⟩
  obtain ⟨ad, e, hb, hc⟩ := h.2 (by omega)
  refine ⟨ad, e, hb, fun j u hj => hc j u ?_⟩
  simp only [strV, List.map_take] at hj ⊢
  rw [List.getElem?_take] at hj
  split at hj
  · exact hj
  · cases hj
theorem Flt.beside {w w' : World} {P g n cap H g1 n1 cap1 : Nat} {F F1 : Nat → UInt8} (h : Flt w P g n cap H F) (h1 : bufIs w 5 g1 n1 cap1 (u8V F1)) (hg : w.grownBy w' (some g1)) (hne : g ≠ g1) : Flt w' P g n cap H F :=
  ⟨h.blk.grown hg (by intro e; injection e with e; exact blk_buf_ne h.blk h1 (by decide) e), h.buf.grown hg (by intro e; injection e with e; exact hne e)⟩
end Go.Proofs.Ytbfmdingbgdflaa
