/- Walks: digest's constants, a new State. No conditions. -/
import Derived.Test.YtfoandpcoakcjaaRnd
import Derived.Test.YtfoandpcoakcjaaSha
import Derived.Test.YtfoandpcoakcjaaTxt
namespace Go.Proofs.Ytfoandpcoakcjaa
open Go.RowKit Dig
set_option linter.unusedVariables false
attribute [local go_sem ↓] execOp_ld8 execOp_st8 execOp_ld64 execOp_st64
attribute [local go_sem] run_ld8 run_st8 run_ld64 run_st64
theorem row_block_u {W : World} {B n : Nat} {T : TypeId} {v : Nat → UInt32} (h : W.rowIs B T n (uV v)) : W.heap[B]? = some (.cells (uA n v) T (0, 0)) := by
  obtain ⟨c, hc, hs, hg⟩ := h
  have e : c = uA n v := by
    apply Array.ext
    · rw [hs, uA_size]
    · intro i h1 h2
      have a := hg i (by omega)
      have b := uA_get n v i (by omega)
      rw [Array.getElem?_eq_getElem h1] at a
      rw [Array.getElem?_eq_getElem h2] at b
      rw [Option.some.inj a, Option.some.inj b]; rfl
  rw [hc, e]

theorem first_lit : (#[.int .u32 1779033703, .int .u32 3144134277, .int .u32 1013904242, .int .u32 2773480762, .int .u32 1359893119, .int .u32 2600822924, .int .u32 528734635, .int .u32 1541459225] : Array Value) = uA 8 firstF := by kernel_rfl
theorem first_new (w : World) {c L : Array Value} (hc : c = Array.replicate 8 (Value.int .u32 0)) (hL : L = uA 8 firstF) : ok8 (w.alloc (.cells c 89)) w.heap.size 0 = true ∧ (put8 (w.alloc (.cells c 89)) w.heap.size 0 L).heap[w.heap.size]? = some (.cells (uA 8 firstF) 89 (0, 0)) ∧ Below w.heap.size w (put8 (w.alloc (.cells c 89)) w.heap.size 0 L) ∧ full8 L = true := by
  subst hL
  have z := zeros_row w (T := 89) (n := 8) (z := .int .u32 0) hc
  obtain ⟨q1, q2⟩ := put8_row z 0 (uA 8 firstF) (by omega) (u8_full firstF)
  refine ⟨ok8_of z (by omega), row_block_u (n := 8) (q1.congr (g := uV firstF) fun i hi => ?_), below_grown ((Below.refl _ _).alloc (Nat.le_refl _) _) q2 (fun g hg => by cases hg; exact Nat.le_refl _), u8_full firstF⟩
  rw [if_pos (by omega)]
  simp [uA, uV, hi]
set_option maxRecDepth 100000 in
set_option maxHeartbeats 0 in
theorem first_any (w : World) : Calls Try.prog 101 #[] w fun e w' => e = .returned (.agg (uA 8 firstF)) ∧ Below w.heap.size w w' := by
  obtain ⟨h1, h2, h3, h4⟩ := first_new w (c := (#[.int .u32 0, .int .u32 0, .int .u32 0, .int .u32 0, .int .u32 0, .int .u32 0, .int .u32 0, .int .u32 0] : Array Value)) (by kernel_rfl) first_lit
  have H := Lib.hid (And.intro h2 h3)
  clear h2 h3
  go_enter Try.func101, Try.ntmps101
  go_wp2
  exact bodyPost_ret (v := .agg (uA 8 firstF)) (results_cell_row rfl _ _ w.heap.size 89 _ (0, 0) _ rfl H.out.1 Try.underlying89 rfl (by rw [uA_size]; kernel_rfl)) rfl ⟨rfl, H.out.2⟩

theorem constants_lit : (#[.int .u32 1116352408, .int .u32 1899447441, .int .u32 3049323471, .int .u32 3921009573, .int .u32 961987163, .int .u32 1508970993, .int .u32 2453635748, .int .u32 2870763221, .int .u32 3624381080, .int .u32 310598401, .int .u32 607225278, .int .u32 1426881987, .int .u32 1925078388, .int .u32 2162078206, .int .u32 2614888103, .int .u32 3248222580, .int .u32 3835390401, .int .u32 4022224774, .int .u32 264347078, .int .u32 604807628, .int .u32 770255983, .int .u32 1249150122, .int .u32 1555081692, .int .u32 1996064986, .int .u32 2554220882, .int .u32 2821834349, .int .u32 2952996808, .int .u32 3210313671, .int .u32 3336571891, .int .u32 3584528711, .int .u32 113926993, .int .u32 338241895, .int .u32 666307205, .int .u32 773529912, .int .u32 1294757372, .int .u32 1396182291, .int .u32 1695183700, .int .u32 1986661051, .int .u32 2177026350, .int .u32 2456956037, .int .u32 2730485921, .int .u32 2820302411, .int .u32 3259730800, .int .u32 3345764771, .int .u32 3516065817, .int .u32 3600352804, .int .u32 4094571909, .int .u32 275423344, .int .u32 430227734, .int .u32 506948616, .int .u32 659060556, .int .u32 883997877, .int .u32 958139571, .int .u32 1322822218, .int .u32 1537002063, .int .u32 1747873779, .int .u32 1955562222, .int .u32 2024104815, .int .u32 2227730452, .int .u32 2361852424, .int .u32 2428436474, .int .u32 2756734187, .int .u32 3204031479, .int .u32 3329325298] : Array Value) = uA 64 kF := by kernel_rfl
theorem constants_new (w : World) {c L : Array Value} (hc : c = Array.replicate 64 (Value.int .u32 0)) (hL : L = uA 64 kF) : ok64 (w.alloc (.cells c 91)) w.heap.size 0 = true ∧ (put64 (w.alloc (.cells c 91)) w.heap.size 0 L).heap[w.heap.size]? = some (.cells (uA 64 kF) 91 (0, 0)) ∧ Below w.heap.size w (put64 (w.alloc (.cells c 91)) w.heap.size 0 L) ∧ full64 L = true := by
  subst hL
  have z := zeros_row w (T := 91) (n := 64) (z := .int .u32 0) hc
  obtain ⟨q1, q2⟩ := put64_row z 0 (uA 64 kF) (by omega) (u64_full kF)
  refine ⟨ok64_of z (by omega), row_block_u (n := 64) (q1.congr (g := uV kF) fun i hi => ?_), below_grown ((Below.refl _ _).alloc (Nat.le_refl _) _) q2 (fun g hg => by cases hg; exact Nat.le_refl _), u64_full kF⟩
  rw [if_pos (by omega)]
  simp [uA, uV, hi]
set_option maxRecDepth 100000 in
set_option maxHeartbeats 0 in
theorem constants_any (w : World) : Calls Try.prog 102 #[] w fun e w' => e = .returned (.agg (uA 64 kF)) ∧ Below w.heap.size w w' := by
  obtain ⟨h1, h2, h3, h4⟩ := constants_new w (c := (#[.int .u32 0, .int .u32 0, .int .u32 0, .int .u32 0, .int .u32 0, .int .u32 0, .int .u32 0, .int .u32 0, .int .u32 0, .int .u32 0, .int .u32 0, .int .u32 0, .int .u32 0, .int .u32 0, .int .u32 0, .int .u32 0, .int .u32 0, .int .u32 0, .int .u32 0, .int .u32 0, .int .u32 0, .int .u32 0, .int .u32 0, .int .u32 0, .int .u32 0, .int .u32 0, .int .u32 0, .int .u32 0, .int .u32 0, .int .u32 0, .int .u32 0, .int .u32 0, .int .u32 0, .int .u32 0, .int .u32 0, .int .u32 0, .int .u32 0, .int .u32 0, .int .u32 0, .int .u32 0, .int .u32 0, .int .u32 0, .int .u32 0, .int .u32 0, .int .u32 0, .int .u32 0, .int .u32 0, .int .u32 0, .int .u32 0, .int .u32 0, .int .u32 0, .int .u32 0, .int .u32 0, .int .u32 0, .int .u32 0, .int .u32 0, .int .u32 0, .int .u32 0, .int .u32 0, .int .u32 0, .int .u32 0, .int .u32 0, .int .u32 0, .int .u32 0] : Array Value)) (by kernel_rfl) constants_lit
  have H := Lib.hid (And.intro h2 h3)
  clear h2 h3
  go_enter Try.func102, Try.ntmps102
  go_wp2
  exact bodyPost_ret (v := .agg (uA 64 kF)) (results_cell_row rfl _ _ w.heap.size 91 _ (0, 0) _ rfl H.out.1 Try.underlying91 rfl (by rw [uA_size]; kernel_rfl)) rfl ⟨rfl, H.out.2⟩

end Go.Proofs.Ytfoandpcoakcjaa
