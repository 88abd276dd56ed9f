/- Walk: the reference's Cut: a text in shards. -/
import Derived.Test.YthlnnclpfgokjaaShC
namespace Go.Proofs.Ythlnnclpfgokjaa
open Go.RowKit Gf
set_option linter.unusedVariables false
set_option maxRecDepth 100000 in
theorem rcut_bad (s : ByteArray) (k : Int) (w : World) (h : k < 1 ∨ 32 < k) : Calls Try.prog 41 #[.string s, .int .i64 k] w fun e w' => RetStrs w w' e (cutR s k) := by
  have X : Hid (cutR s k = ([], 1)) := Lib.hid (by unfold cutR; rw [if_neg]; omega)
  rcases h with h | h
  · go_enter Try.func41, Try.ntmps41
    go_wp2
    go_ret2
    exact retNil w 1 _ X.out (Below.refl _ _)
  · have h' : 1 ≤ k := by omega
    go_enter Try.func41, Try.ntmps41
    go_wp2
    go_ret2
    exact retNil w 1 _ X.out (Below.refl _ _)
theorem cutN_of (s : ByteArray) (K Q R : Nat) (hK : 1 ≤ K) (hQ : s.size / K = Q) (hR : Q * K = R) : R ≤ s.size ∧ (if R < s.size then Q + 1 else Q) = cutN s K := by
  have h := Nat.div_add_mod s.size K
  have h2 := Nat.mod_lt s.size (show 0 < K by omega)
  rw [hQ, Nat.mul_comm, hR] at h
  refine ⟨by omega, ?_⟩
  unfold cutN
  by_cases hr : R < s.size
  · rw [if_pos hr]
    have e : s.size + K - 1 = (s.size % K - 1) + K * (Q + 1) := by rw [Nat.mul_add, Nat.mul_comm K Q, hR]; omega
    rw [e, Nat.add_mul_div_left _ _ (by omega), Nat.div_eq_of_lt (by omega)]; omega
  · rw [if_neg hr]
    have e : s.size + K - 1 = (K - 1) + K * Q := by rw [Nat.mul_comm K Q, hR]; omega
    rw [e, Nat.add_mul_div_left _ _ (by omega), Nat.div_eq_of_lt (by omega)]; omega
def partG (s : ByteArray) (P j : Nat) : Nat → UInt8 := fun x => if x < j then byteAt s (P + x) else 0
theorem part_set (s : ByteArray) (P j x : Nat) : (if x = j then Value.int .u8 ((byteAt s (P + j)).toNat : Int) else u8V (partG s P j) x) = u8V (partG s P (j + 1)) x := by
  simp only [u8V, partG]
  by_cases e : x = j
  · subst e; rw [if_pos rfl, if_pos (by omega)]
  · rw [if_neg e]
    by_cases h : x < j
    · rw [if_pos h, if_pos (by omega)]
    · rw [if_neg h, if_neg (by omega)]
theorem part_end (s : ByteArray) (P j x N : Nat) (h : j = N ∨ s.size ≤ P + j) (hx : x < N) : partG s P j x = byteAt s (P + x) := by
  unfold partG
  by_cases hj : x < j
  · rw [if_pos hj]
  · rw [if_neg hj, byteAt_high s (P + x) (by omega)]
set_option maxRecDepth 100000 in
set_option maxHeartbeats 2000000 in
theorem rcut_any (s : ByteArray) (k : Int) (w : World) (hs : s.size ≤ 140737488355328) : Calls Try.prog 41 #[.string s, .int .i64 k] w fun e w' => RetStrs w w' e (cutR s k) := by
  by_cases h : k < 1 ∨ 32 < k
  · exact rcut_bad s k w h
  obtain ⟨K, rfl⟩ : ∃ m : Nat, k = m := ⟨k.toNat, by omega⟩
  have h1 : 1 ≤ K := by omega
  have h2 : K ≤ 32 := by omega
  clear h
  obtain ⟨Q, hQ⟩ : ∃ Q, s.size / K = Q := ⟨_, rfl⟩
  obtain ⟨R, hR⟩ : ∃ R, Q * K = R := ⟨_, rfl⟩
  obtain ⟨hRs, hN⟩ := cutN_of s K Q R h1 hQ hR
  obtain ⟨N, hNe⟩ : ∃ N, N = cutN s K := ⟨_, rfl⟩
  rw [← hNe] at hN
  have X : Hid (cutR s (K : Int) = ((List.range K).map (cutF s N), 0)) := Lib.hid (by unfold cutR; rw [if_pos (by omega), hNe]; rfl)
  obtain ⟨M, hM⟩ : ∃ M, N * K = M := ⟨_, rfl⟩
  have hg := cutN_ge s K h1
  rw [← hNe, hM] at hg
  have hq : (s.size : Int) / (K : Int) = (Q : Int) := by rw [← hQ, Int.natCast_ediv]
  have hm : (Q : Int) * (K : Int) = (R : Int) := by rw [← hR]; exact (Int.natCast_mul Q K).symm
  have hNM : N ≤ M := by rw [← hM]; exact Nat.le_mul_of_pos_right N h1
  have hQR : Q ≤ R := by rw [← hR]; exact Nat.le_mul_of_pos_right Q h1
  have HM := Lib.hid hM
  clear hM hNe hQ hR
  obtain ⟨g1, g2⟩ := hg
  have HMK := Lib.hid (fun W => bytes_made48 W N (by omega))
  by_cases hr : R < s.size
  all_goals
    first
      | (rw [if_pos hr] at hN; have hq1 : (Q : Int) + 1 = (N : Int) := by omega)
      | (rw [if_neg hr] at hN; obtain rfl : N = Q := hN.symm)
    try clear hN
    go_enter Try.func41, Try.ntmps41
    go_wp2
    try clear hq1
    clear hq hm
    go_loopw [7, 8, 9, 10] (fun v i _ _ wr => ∃ k : Nat, k ≤ K ∧ i = .int .i64 k ∧ Hid (wr.ownsRow w.heap.size 9 1 v k (strV ((List.range k).map (cutF s N))) ∧ Below w.heap.size w wr)) (fun _ i _ _ _ => K - (intOf i).toNat)
    case atStart => exact ⟨0, by omega, rfl, Lib.hid ⟨World.ownsRow_nil _ _ _ _, Below.refl _ _⟩⟩
    case round =>
      obtain ⟨k, hk, rfl, HK⟩ := hrel
      by_cases hlt : k < K
      · obtain ⟨P, hP⟩ : ∃ P, k * N = P := ⟨_, rfl⟩
        have hPM : P + N ≤ M := by
          rw [← hP, ← HM.out, Nat.mul_comm N K]
          have := Nat.mul_le_mul_right N (show k + 1 ≤ K by omega)
          rw [Nat.add_mul, Nat.one_mul] at this; exact this
        have hpi : (k : Int) * (N : Int) = (P : Int) := by rw [← hP]; exact (Int.natCast_mul k N).symm
        have HP := Lib.hid hP
        clear hP
        have hle := HK.out.2.size
        have hmk := HMK.out
        go_wp2
        obtain ⟨wo, rfl⟩ : ∃ wo : World, wo = wr := ⟨_, rfl⟩
        clear hmk
        go_loopw [10] (fun i wr => ∃ j : Nat, j ≤ N ∧ i = .int .i64 j ∧ Hid (wr.rowIs wo.heap.size 5 N (u8V (partG s P j)) ∧ wr.ownsRow w.heap.size 9 1 u7 k (strV ((List.range k).map (cutF s N))) ∧ Below w.heap.size w wr)) (fun i _ => N - (intOf i).toNat)
        case atStart =>
          exact ⟨0, by omega, rfl, Lib.hid ⟨(World.rowIs_made wo (.int .u8 0) N 5).congr fun i _ => by simp [u8V, partG], HK.out.1.alloc _, HK.out.2.alloc hle _⟩⟩
        case round =>
          obtain ⟨j, hj, rfl, HJ⟩ := hrel
          by_cases hend : j = N ∨ s.size ≤ P + j
          · have hle := HJ.out.2.2.size
            have hk1 : k ≤ 4611686018427387904 := by omega
            have hk2 : (k + 1) * 16 ≤ 140737488355328 := by omega
            have hstr : (convert 44 9 (.slice (some ⟨wo.heap.size, 0, none⟩) N N)).run Try.prog wr = .ok (.string (bs ((List.range N).map fun j => byteAt s (P + j)))) wr := by
              refine runStr _ _ _ _ (by simp) fun x hx => ?_
              rw [add0, HJ.out.1.cell hx]
              simp only [u8V]
              rw [part_end s P j x N hend hx]
              simp [List.getD, hx]
            have hg : j < N → s.size ≤ P + j := fun h => by omega
            by_cases hjN : j < N
            · have hgo := hg hjN
              clear hg hend
              go_wp2_with (at_builtin; refine append1_new elemStr rfl _ _ rfl w.heap.size _ k _ rfl HJ.out.2.1 (.string (bs ((List.range N).map fun j => byteAt s (P + j)))) rfl rfl hk1 hk2 hle ?_; intro v' w' ho hg)
              have HK' : Hid (w'.ownsRow w.heap.size 9 1 v' (k + 1) (strV ((List.range (k + 1)).map (cutF s N))) ∧ Below w.heap.size w w') :=
                Lib.hid ⟨by rw [cutL_succ s N]; simpa [strV, cutF, HP.out] using ho, below_own HJ.out.2.2 HJ.out.2.1 hg⟩
              clear ho hg
              go_roundw
              case rel => exact ⟨k + 1, by omega, by go_num, HK'⟩
              case measure => simp [intOf]; omega
            · clear hg hend
              go_wp2_with (at_builtin; refine append1_new elemStr rfl _ _ rfl w.heap.size _ k _ rfl HJ.out.2.1 (.string (bs ((List.range N).map fun j => byteAt s (P + j)))) rfl rfl hk1 hk2 hle ?_; intro v' w' ho hg)
              have HK' : Hid (w'.ownsRow w.heap.size 9 1 v' (k + 1) (strV ((List.range (k + 1)).map (cutF s N))) ∧ Below w.heap.size w w') :=
                Lib.hid ⟨by rw [cutL_succ s N]; simpa [strV, cutF, HP.out] using ho, below_own HJ.out.2.2 HJ.out.2.1 hg⟩
              clear ho hg
              go_roundw
              case rel => exact ⟨k + 1, by omega, by go_num, HK'⟩
              case measure => simp [intOf]; omega
          · have hjN : j < N := by omega
            have hjs : P + j < s.size := by omega
            clear hend
            have HG := Lib.hid (byteAt_get s (P + j) hjs)
            obtain ⟨v1, hc1⟩ : ∃ v, wr.cell? ⟨wo.heap.size, j, none⟩ = some v := ⟨_, HJ.out.1.cell hjN⟩
            have hf1 : wr.frozen? ⟨wo.heap.size, j, none⟩ = false := HJ.out.1.frozen _
            go_wp2
            go_roundw
            case rel => exact ⟨j + 1, by omega, by go_num, Lib.hid ⟨(HJ.out.1.set j _).congr fun i _ => by rw [← part_set, HG.out], own_keep' HJ.out.2.1 HJ.out.1 (by decide) _, HJ.out.2.2.setCell (by omega) _⟩⟩
            case measure => simp [intOf]; omega
      · obtain rfl : k = K := by omega
        go_wp2
        go_ret2
        refine ⟨_, by rw [X.out]; rfl, ?_, HK.out.2⟩
        rw [X.out]
        show wr.ownsRow w.heap.size _ 1 _ ((List.range k).map _).length _
        rw [List.length_map, List.length_range]
        exact HK.out.1
end Go.Proofs.Ythlnnclpfgokjaa
