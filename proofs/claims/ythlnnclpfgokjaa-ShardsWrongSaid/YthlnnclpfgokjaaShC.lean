/- Walk: shards.Cut: a text in shards. -/
import Derived.Test.YthlnnclpfgokjaaShB
namespace Go.Proofs.Ythlnnclpfgokjaa
open Go.RowKit Gf
set_option linter.unusedVariables false
def cutB (s : ByteArray) : Nat → UInt8 := fun x => byteAt s x
theorem cut_copied (s : ByteArray) (M : Nat) (hM : s.size ≤ M) (l : List UInt8) (hl : l = s.data.toList) (i : Nat) : over (u8V fun _ => 0) 0 (u8s l) i = u8V (cutB s) i := by
  have hll : l.length = s.size := by rw [hl]; exact data_length _
  simp only [over, u8s_length, hll]
  by_cases h : 0 ≤ i ∧ i < 0 + s.size
  · rw [if_pos h, u8s_get _ _ (by omega), hl]; rfl
  · rw [if_neg h]; simp only [u8V, cutB]; rw [byteAt_high s i (by omega)]
theorem cutL_succ (s : ByteArray) (N i : Nat) (f : Nat → ByteArray) : (List.range (i + 1)).map f = (List.range i).map f ++ [f i] := by simp [List.range_succ]
def cutF (s : ByteArray) (N i : Nat) : ByteArray := bs ((List.range N).map fun j => byteAt s (i * N + j))
theorem cutN_ge (s : ByteArray) (k : Nat) (hk : 1 ≤ k) : s.size ≤ cutN s k * k ∧ cutN s k * k ≤ s.size + k := by
  unfold cutN
  have h := Nat.div_add_mod (s.size + k - 1) k
  have h2 := Nat.mod_lt (s.size + k - 1) (show 0 < k by omega)
  rw [Nat.mul_comm] at h
  constructor <;> omega
set_option maxRecDepth 100000 in
theorem cut_bad (s : ByteArray) (k : Int) (w : World) (h : k < 1 ∨ 32 < k) : Calls Try.prog 42 #[.string s, .int .i64 k] w fun e w' => RetStrs w w' e (cutR s k) := by
  have X : Hid (cutR s k = ([], 1)) := Lib.hid (by unfold cutR; rw [if_neg]; omega)
  rcases h with h | h
  · go_enter Try.func42, Try.ntmps42
    go_wp2
    go_ret2
    exact retNil w 1 _ X.out (Below.refl _ _)
  · have h' : 1 ≤ k := by omega
    go_enter Try.func42, Try.ntmps42
    go_wp2
    go_ret2
    exact retNil w 1 _ X.out (Below.refl _ _)
set_option maxRecDepth 100000 in
set_option maxHeartbeats 1000000 in
theorem cut_any (s : ByteArray) (k : Int) (w : World) (hs : s.size ≤ 140737488355328) : Calls Try.prog 42 #[.string s, .int .i64 k] w fun e w' => RetStrs w w' e (cutR s k) := by
  by_cases h : k < 1 ∨ 32 < k
  · exact cut_bad s k w h
  obtain ⟨K, rfl⟩ : ∃ m : Nat, k = m := ⟨k.toNat, by omega⟩
  have h1 : 1 ≤ K := by omega
  have h2 : K ≤ 32 := by omega
  clear h
  obtain ⟨N, hN⟩ : ∃ N, N = cutN s K := ⟨_, rfl⟩
  have X : Hid (cutR s (K : Int) = ((List.range K).map (cutF s N), 0)) := Lib.hid (by unfold cutR; rw [if_pos (by omega), hN]; rfl)
  obtain ⟨M, hM⟩ : ∃ M, N * K = M := ⟨_, rfl⟩
  have hg := cutN_ge s K h1
  rw [← hN, hM] at hg
  have hq : ((s.size : Int) + (K : Int) - 1) / (K : Int) = (N : Int) := by
    rw [hN, cutN, Int.natCast_ediv]; congr 1; omega
  have hm : (N : Int) * (K : Int) = (M : Int) := by rw [← hM]; exact (Int.natCast_mul N K).symm
  have hNM : N ≤ M := by rw [← hM]; exact Nat.le_mul_of_pos_right N h1
  have HM := Lib.hid hM
  clear hM hN
  obtain ⟨g1, g2⟩ := hg
  have hmk := fun W => bytes_made48 W M (by omega)
  have hmn : Nat.min s.size M = s.size := Nat.min_eq_left g1
  have HF : Hid (0 + Nat.min s.size M ≤ M) := Lib.hid (by rw [hmn]; omega)
  have HT : Hid (s.data.toList.take (Nat.min s.size M) = s.data.toList) := Lib.hid (by rw [hmn]; exact List.take_of_length_le (by rw [data_length]; omega))
  clear hmn
  have Z : Hid ((w.alloc (.cells (madeCells #[.int .u8 0] M) 5)).rowIs w.heap.size 5 M (u8V fun _ => 0) ∧ Below w.heap.size w (w.alloc (.cells (madeCells #[.int .u8 0] M) 5))) :=
    Lib.hid ⟨(World.rowIs_made w (.int .u8 0) M 5).congr fun i hi => rfl, (Below.refl _ _).alloc (Nat.le_refl _) _⟩
  go_enter Try.func42, Try.ntmps42
  go_wp2_with (first
    | (with_reducible refine copyStr_wp rfl _ _ 44 9 5 rfl (by kernel_rfl) (by kernel_rfl) Z.out.1 0 M M s rfl rfl HF.out ?_; intro w1 hr1 hg1; have hs1 : w.heap.size ≤ w1.heap.size := Nat.le_trans Z.out.2.size hg1.size)
    | (at_make; refine make0_wp elemStr rfl _ _ rfl w.heap.size _ _ _ K rfl rfl rfl (by omega) (by omega) hs1 ?_; intro v0 w2 hown0 hg2))
  have HR0 : Hid (w2.rowIs w.heap.size 5 M (u8V (cutB s)) ∧ w2.ownsRow w.heap.size 9 1 v0 0 (strV []) ∧ Below w.heap.size w w2) := Lib.hid (by
    have hb1 := below_grown Z.out.2 hg1 (by intro g h; injection h with h; omega)
    refine ⟨(hr1.of_block (hg2.block w.heap.size hr1.lt (by intro h; cases h))).congr fun i _ => ?_, hown0, below_grown hb1 hg2 (by intro _ h; cases h)⟩
    rw [HT.out]
    exact cut_copied s M g1 _ rfl i)
  clear hr1 hg1 hown0 hg2 hmk hq
  go_loopw [8, 9, 33] (fun v _ i wr => ∃ k : Nat, k ≤ K ∧ i = .int .i64 k ∧ Hid (wr.rowIs w.heap.size 5 M (u8V (cutB s)) ∧ wr.ownsRow w.heap.size 9 1 v k (strV ((List.range k).map (cutF s N))) ∧ Below w.heap.size w wr)) (fun _ _ i _ => K - (intOf i).toNat)
  case atStart => exact ⟨0, by omega, rfl, HR0⟩
  case round =>
    obtain ⟨k, hk, rfl, HK⟩ := hrel
    clear HR0 Z hm
    by_cases hlt : k < K
    · obtain ⟨P, hP⟩ : ∃ P, k * N = P := ⟨_, rfl⟩
      have hPM : P + N ≤ M := by
        rw [← hP, ← HM.out, Nat.mul_comm N K]
        have := Nat.mul_le_mul_right N (show k + 1 ≤ K by omega)
        rw [Nat.add_mul, Nat.one_mul] at this; exact this
      have hpi : (k : Int) * (N : Int) = (P : Int) := by rw [← hP]; exact (Int.natCast_mul k N).symm
      have HP := Lib.hid hP
      clear hP
      have hle := HK.out.2.2.size
      have hk1 : k ≤ 4611686018427387904 := by omega
      have hk2 : (k + 1) * 16 ≤ 140737488355328 := by omega
      have hl : ((List.range N).map fun j => byteAt s (P + j)).length = N := by simp
      have HC : Hid (∀ j, j < N → wr.cell? ⟨w.heap.size, P + j, none⟩ = some (.int .u8 ((((List.range N).map fun j => byteAt s (P + j)).getD j 0).toNat : Int))) := Lib.hid (fun j hj => by
        rw [HK.out.1.cell (by omega)]
        simp [u8V, cutB, List.getD, hj])
      have HLN := Lib.hid hl
      clear hl
      have H1 : Hid (∀ O, (0 < N → O = P) → (convert 44 9 (.slice (some ⟨w.heap.size, O, none⟩) N (M - P))).run Try.prog wr = .ok (.string (bs ((List.range N).map fun j => byteAt s (P + j)))) wr) := Lib.hid (fun O hO => by
        refine runStr _ _ _ _ HLN.out fun j hj => ?_
        rw [hO (by omega)]
        have ea : ({ block := w.heap.size, off := P, spot := none } : Addr).add j = ⟨w.heap.size, P + j, none⟩ := by unfold Addr.add; split <;> simp_all
        rw [ea]; exact HC.out j hj)
      by_cases hN0 : 0 < N
      · have hPlt : P < M := by omega
        have hstr := H1.out P (fun _ => rfl)
        go_wp2_with (at_builtin; refine append1_new elemStr rfl _ _ rfl w.heap.size _ k _ rfl HK.out.2.1 (.string (bs ((List.range N).map fun j => byteAt s (P + j)))) rfl rfl hk1 hk2 hle ?_; intro v' w' ho hg)
        have HK' : Hid (w'.rowIs w.heap.size 5 M (u8V (cutB s)) ∧ w'.ownsRow w.heap.size 9 1 v' (k + 1) (strV ((List.range (k + 1)).map (cutF s N))) ∧ Below w.heap.size w w') :=
          Lib.hid ⟨row_keep HK.out.1 HK.out.2.1 (by decide) hg, by rw [cutL_succ s N]; simpa [strV, cutF, HP.out] using ho, below_own HK.out.2.2 HK.out.2.1 hg⟩
        clear ho hg
        go_roundw
        case rel => exact ⟨k + 1, by omega, by go_num, HK'⟩
        case measure => simp [intOf]; omega
      · have n0 : N ≤ 0 := by omega
        have m0 : M ≤ 0 := by have : N = 0 := by omega
                              rw [← HM.out, this]; omega
        have p0 : P ≤ 0 := by omega
        have hstr := H1.out 0 (fun h => by omega)
        go_wp2_with (at_builtin; refine append1_new elemStr rfl _ _ rfl w.heap.size _ k _ rfl HK.out.2.1 (.string (bs ((List.range N).map fun j => byteAt s (P + j)))) rfl rfl hk1 hk2 hle ?_; intro v' w' ho hg)
        have HK' : Hid (w'.rowIs w.heap.size 5 M (u8V (cutB s)) ∧ w'.ownsRow w.heap.size 9 1 v' (k + 1) (strV ((List.range (k + 1)).map (cutF s N))) ∧ Below w.heap.size w w') :=
          Lib.hid ⟨row_keep HK.out.1 HK.out.2.1 (by decide) hg, by rw [cutL_succ s N]; simpa [strV, cutF, HP.out] using ho, below_own HK.out.2.2 HK.out.2.1 hg⟩
        clear ho hg
        go_roundw
        case rel => exact ⟨k + 1, by omega, by go_num, HK'⟩
        case measure => simp [intOf]; omega
    · obtain rfl : k = K := by omega
      go_wp2
      go_ret2
      refine ⟨_, by rw [X.out]; rfl, ?_, HK.out.2.2⟩
      rw [X.out]
      show wr.ownsRow w.heap.size _ 1 _ ((List.range k).map _).length _
      rw [List.length_map, List.length_range]
      exact HK.out.2.1
end Go.Proofs.Ythlnnclpfgokjaa
