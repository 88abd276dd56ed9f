/- Square matrices of up to eight rows: product, rank, inverse, unit, as functions of their numbers; the laws of FieldUndone, plainly; the contracts in these words. No conditions. -/
import Derived.Test.YthlnnclpfgokjaaMat
import Derived.Test.YthlnnclpfgokjaaLin
import Derived.Test.YthlnnclpfgokjaaRank
import Derived.Test.YthlnnclpfgokjaaRefMade
namespace Go.Proofs.Ythlnnclpfgokjaa
open Go.RowKit Gf
set_option linter.unusedVariables false
def pm (n : Nat) (X Y : Mat) : Mat := fun i j => sm (fun k => gm (X i k) (Y k j)) n
def unitM : Mat := fun i j => if i = j then 1 else 0
theorem dotX_sm (f : Nat → UInt8) (n : Nat) : dotX f n = sm f n := by
  induction n with
  | zero => rfl
  | succ n ih => rw [dotX, sm, ih]
theorem colM (n : Nat) (X : Mat) (h : 1 ≤ n) : col (mat n n X) = n := by unfold col; exact col_mat n n X 0 (by omega)
theorem prod_mat (n : Nat) (X Y : Mat) (h1 : 1 ≤ n) (h2 : n ≤ 64) : prodR (mat n n X) (mat n n Y) = (mat n n (pm n X Y), 0) := by
  unfold prodR
  rw [if_pos ⟨ok_mat n n X h1 h2 h1 h2, ok_mat n n Y h1 h2 h1 h2, by rw [colM n X h1, mat_length]⟩, mat_length, colM n X h1, colM n Y h1]
  congr 1
  refine mat_congr fun i j hi hj => ?_
  unfold prodF pm
  rw [dotX_sm]
  exact sm_congr fun k hk => by rw [ent_mat n n X i k hi hk, ent_mat n n Y k j hk hj]
theorem pm_assoc (n : Nat) (X Y Z : Mat) : mat n n (pm n (pm n X Y) Z) = mat n n (pm n X (pm n Y Z)) :=
  mat_congr fun i j hi hj => sm_assoc (X i) Y (fun k => Z k j) n n
def rk (n : Nat) (X : Mat) : Nat := (esteps n (rankM (mat n n X) n) n).2
theorem rankM_mat (n : Nat) (X : Mat) (i j : Nat) (hi : i < n) (hj : j < n) : rankM (mat n n X) n i j = X i j := by
  unfold rankM; rw [if_pos hj, ent_mat n n X i j hi hj]
theorem rk_made (n : Nat) (X : Mat) : Made n n (rk n X) X := (rank_made n n (rankM (mat n n X) n)).congr fun i j hi hj => (rankM_mat n X i j hi hj).symm
theorem rk_least (n b : Nat) (X : Mat) (h : Made n n b X) : rk n X ≤ b := rank_least n n b _ (h.congr fun i j hi hj => rankM_mat n X i j hi hj)
theorem rk_le (n : Nat) (X : Mat) : rk n X ≤ n := (esteps_le n _ n).1
theorem rk_prod_left (n : Nat) (X Y : Mat) : rk n (pm n X Y) ≤ rk n X := rk_least n _ _ ((rk_made n X).right Y)
theorem rk_prod_right (n : Nat) (X Y : Mat) : rk n (pm n X Y) ≤ rk n Y := rk_least n _ _ ((rk_made n Y).left X)
def turned (n : Nat) (X : Mat) : Mat := fun i j => X (n - 1 - i) j
theorem rk_turned (n : Nat) (X : Mat) : rk n (turned n X) = rk n X := by
  refine Nat.le_antisymm (rk_least n _ _ ((rk_made n X).rows (fun i => n - 1 - i) (fun i hi => by omega))) (rk_least n _ _ (((rk_made n (turned n X)).rows (fun i => n - 1 - i) (fun i hi => by omega)).congr fun i j hi hj => ?_))
  show X i j = X (n - 1 - (n - 1 - i)) j
  rw [show n - 1 - (n - 1 - i) = i from by omega]
theorem rank_mat (n : Nat) (X : Mat) (h1 : 1 ≤ n) (h2 : n ≤ 64) : rankR (mat n n X) = (((rk n X : Nat) : Int), 0) := by
  unfold rankR
  rw [if_pos (ok_mat n n X h1 h2 h1 h2), mat_length, colM n X h1]; rfl
def invM (n : Nat) (X : Mat) : Mat := fun i j => (invE (mat n n X)).1 i (n + j)
theorem invE_rk (n : Nat) (X : Mat) : (invE (mat n n X)).2 = rk n X := by
  unfold invE rk
  rw [mat_length]
  exact (esteps_agree n n _ _ (fun i j hj => by unfold augM rankM; rw [if_pos hj, if_pos hj]) n (Nat.le_refl _)).1
theorem inv_mat (n : Nat) (X : Mat) (h1 : 1 ≤ n) (h2 : n ≤ 64) : invR (mat n n X) = if rk n X < n then ([], 60) else (mat n n (invM n X), 0) := by
  unfold invR
  rw [if_pos ⟨ok_mat n n X h1 h2 h1 h2, by rw [mat_length, colM n X h1]⟩, invE_rk, mat_length]; rfl
theorem inv_sides (n : Nat) (X : Mat) (h : rk n X = n) : mat n n (pm n (invM n X) X) = mat n n unitM ∧ mat n n (pm n X (invM n X)) = mat n n unitM := by
  have hf := invE_rk n X
  rw [h] at hf
  unfold invE at hf
  rw [mat_length] at hf
  obtain ⟨a, b⟩ := inverse_both n X (augM (mat n n X) n) (fun i j hi => by
    unfold augM
    by_cases hj : j < n
    · rw [if_pos hj, if_pos hj, ent_mat n n X i j hi hj]
    · rw [if_neg hj, if_neg hj]) hf
  have e : ∀ i j, invM n X i j = (esteps n (augM (mat n n X) n) n).1 i (n + j) := fun i j => by unfold invM invE; rw [mat_length]
  refine ⟨mat_congr fun i j hi hj => ?_, mat_congr fun i j hi hj => ?_⟩
  · rw [← a i j hi hj |>.trans (show _ = unitM i j from rfl)]
    exact sm_congr fun k _ => by rw [e]
  · rw [← b i j hi hj |>.trans (show _ = unitM i j from rfl)]
    exact sm_congr fun k _ => by rw [e]
theorem unit_mat (n : Nat) (h1 : 1 ≤ n) (h2 : n ≤ 64) : unitR (n : Int) = (mat n n unitM, 0) := by
  unfold unitR; rw [if_pos (by omega)]; rfl
theorem mat_sizes (n : Nat) (X : Mat) (h : n ≤ 64) : ∀ s ∈ mat n n X, s.size ≤ 9223372036854775807 := fun s hs => by
  obtain ⟨i, hi, rfl⟩ := List.getElem_of_mem hs
  rw [mat_length] at hi
  have := col_mat n n X i hi
  rw [sAt_get (by rw [mat_length]; exact hi)] at this
  omega

/-- A list of texts that is the matrix X. -/
def Mx (w : World) (A : Option Addr) (n : Nat) (X : Mat) : Prop := Reads w w.heap.size 1 A n (strV (mat n n X))
theorem Mx.below {w w' : World} {A : Option Addr} {n : Nat} {X : Mat} (h : Mx w A n X) (hb : Below w.heap.size w w') : Mx w' A n X := (Reads.below h hb).more hb.size
theorem ret_mx {w w' : World} {e : Ending} {n : Nat} {X : Mat} (h : RetStrs w w' e (mat n n X, 0)) : ∃ A c, e = .returned (.tuple #[.slice A n c, .int .i64 0]) ∧ Mx w' A n X ∧ Below w.heap.size w w' := by
  obtain ⟨v, he, ho, hb⟩ := h
  have ho' : w'.ownsRow w.heap.size 9 1 v n (strV (mat n n X)) := by
    have := ho; simp only [mat_length] at this; exact this
  obtain ⟨A, c, rfl, hr⟩ := own_reads ho'
  exact ⟨A, c, he, hr, hb⟩
theorem prod_mx {w : World} {A A' : Option Addr} {n : Nat} (c c' : Nat) {X Y : Mat} (h : Mx w A n X) (h' : Mx w A' n Y) (h1 : 1 ≤ n) (h2 : n ≤ 64) :
    Calls Try.prog 34 #[.slice A n c, .slice A' n c'] w fun e w' => ∃ A2 c2, e = .returned (.tuple #[.slice A2 n c2, .int .i64 0]) ∧ Mx w' A2 n (pm n X Y) ∧ Below w.heap.size w w' := by
  refine (product_any A A' n c n c' _ _ w _ _ h h' (Nat.le_refl _) (Nat.le_refl _) (by omega) (by omega) (mat_sizes n X h2) (mat_sizes n Y h2)).mono ?_
  intro e w' hr
  rw [prod_mat n X Y h1 h2] at hr
  exact ret_mx hr
theorem unit_mx (n : Nat) (w : World) (h1 : 1 ≤ n) (h2 : n ≤ 64) :
    Calls Try.prog 25 #[.int .i64 (n : Int)] w fun e w' => ∃ A2 c2, e = .returned (.tuple #[.slice A2 n c2, .int .i64 0]) ∧ Mx w' A2 n unitM ∧ Below w.heap.size w w' := by
  refine (unit_any (n : Int) w).mono ?_
  intro e w' hr
  rw [unit_mat n h1 h2] at hr
  exact ret_mx hr
theorem rank_mx {w : World} {A : Option Addr} {n : Nat} (c : Nat) {X : Mat} (h : Mx w A n X) (h1 : 1 ≤ n) (h2 : n ≤ 64) :
    Calls Try.prog 37 #[.slice A n c] w fun e w' => e = .returned (.tuple #[.int .i64 ((rk n X : Nat) : Int), .int .i64 0]) ∧ Below w.heap.size w w' := by
  refine (rankP_any A n c _ w _ h (Nat.le_refl _) (by omega) (mat_sizes n X h2)).mono ?_
  rintro e w' ⟨he, hb⟩
  rw [rank_mat n X h1 h2] at he
  exact ⟨he, hb⟩
theorem inv_mx {w : World} {A : Option Addr} {n : Nat} (c : Nat) {X : Mat} (h : Mx w A n X) (h1 : 1 ≤ n) (h2 : n ≤ 64) (hf : ¬ rk n X < n) :
    Calls Try.prog 31 #[.slice A n c] w fun e w' => ∃ A2 c2, e = .returned (.tuple #[.slice A2 n c2, .int .i64 0]) ∧ Mx w' A2 n (invM n X) ∧ Below w.heap.size w w' := by
  refine (inverseM_any A n c _ w _ h (Nat.le_refl _) (by omega) (mat_sizes n X h2)).mono ?_
  intro e w' hr
  rw [inv_mat n X h1 h2, if_neg hf] at hr
  exact ret_mx hr
theorem inv_no {w : World} {A : Option Addr} {n : Nat} (c : Nat) {X : Mat} (h : Mx w A n X) (h1 : 1 ≤ n) (h2 : n ≤ 64) (hf : rk n X < n) :
    Calls Try.prog 31 #[.slice A n c] w fun e w' => ∃ v, e = .returned (.tuple #[v, .int .i64 60]) ∧ Below w.heap.size w w' := by
  refine (inverseM_any A n c _ w _ h (Nat.le_refl _) (by omega) (mat_sizes n X h2)).mono ?_
  rintro e w' ⟨v, he, _, hb⟩
  rw [inv_mat n X h1 h2, if_pos hf] at he
  exact ⟨v, he, hb⟩
theorem same_mx {w : World} {A A' : Option Addr} {n : Nat} (c c' : Nat) {X Y : Mat} (h : Mx w A n X) (h' : Mx w A' n Y) (h2 : n ≤ 64) (he : mat n n X = mat n n Y) :
    Calls Try.prog 38 #[.slice A n c, .slice A' n c'] w fun e w' => e = .returned (.bool true) ∧ Below w.heap.size w w' := by
  refine (same_any A A' n c n c' _ _ w _ _ h h' (by omega) (by omega)).mono ?_
  rintro e w' ⟨rfl, m, rfl⟩
  rw [decide_eq_true he]
  exact ⟨rfl, below_drewN (Below.refl _ _) _⟩

theorem turn_step (n k : Nat) (X : Mat) (hk : k < n) : strV (mat (n - (k + 1)) n (turned n X)) ++ [.string (sAt (mat n n X) k)] = strV (mat (n - k) n (turned n X)) := by
  rw [show n - k = n - (k + 1) + 1 from by omega, mat_succ, sAt_mat n n X k hk]
  have e : ∀ j, turned n X (n - (k + 1)) j = X k j := fun j => by unfold turned; rw [show n - 1 - (n - (k + 1)) = k from by omega]
  simp [strV, e]
def strOfV : Value → ByteArray
  | .string s => s
  | _ => ByteArray.empty
/-- A row of a long text. -/
theorem cut_row (s : ByteArray) (i n : Nat) (h : i * n + n ≤ s.size) : s.extract (i * n) (i * n + n) = bs ((List.range n).map fun j => byteAt s (i * n + j)) := by
  have e : (s.extract (i * n) (i * n + n)).data.toList = (List.range n).map fun j => byteAt s (i * n + j) := by
    have hd : (s.extract (i * n) (i * n + n)).data = s.data.extract (i * n) (i * n + n) := by simp [ByteArray.data_extract]
    rw [hd, Array.toList_extract]
    refine List.ext_getElem (by simp [List.extract]; have : s.data.size = s.size := rfl; omega) fun j h1 h2 => ?_
    simp at h2
    simp only [List.getElem_map, List.getElem_range, List.extract, List.getElem_take, List.getElem_drop]
    unfold byteAt
    have : s.data.size = s.size := rfl
    rw [List.getD_eq_getElem?_getD, List.getElem?_eq_getElem (by rw [Array.length_toList]; omega)]; rfl
  rw [← bs_of (s.extract _ _), e]
theorem sq_mul (n k : Nat) (hn : n ≤ 8) (hk : k < n) : k * n + n ≤ n * n ∧ n * n ≤ 64 := by
  constructor
  · rw [← Nat.succ_mul]; exact Nat.mul_le_mul_right n hk
  · calc n * n ≤ 8 * 8 := Nat.mul_le_mul hn hn
      _ = 64 := rfl
set_option maxRecDepth 100000 in
theorem square_any (s : ByteArray) (n : Nat) (w : World) (hs : s.size ≤ 140737488351232) (h1 : 1 ≤ n) (h8 : n ≤ 8) :
    Calls Try.prog 40 #[.string s, .int .i64 (n : Int)] w fun e w' => ∃ A c X, e = .returned (.slice A n c) ∧ Mx w' A n X ∧ Below w.heap.size w w' := by
  have hnn : (n : Int) * n = ((n * n : Nat) : Int) := by simp
  have hnn2 := (sq_mul n 0 h8 h1).2
  obtain ⟨N, hN⟩ : ∃ N, n * n = N := ⟨_, rfl⟩
  rw [hN] at hnn hnn2
  go_enter Try.func40, Try.ntmps40
  go_wp2
  go_loop [0] (fun t => ∃ u : ByteArray, u.size ≤ 140737488351232 ∧ t = .string u) (fun t => N - (strOfV t).size)
  case atStart => exact ⟨s, hs, rfl⟩
  case round =>
    obtain ⟨u, hu, rfl⟩ := hrel
    by_cases hlt : u.size < N
    · have hsz : (u ++ ⟨#[1]⟩ ++ u).size = u.size + 1 + u.size := by rw [ByteArray.size_append, ByteArray.size_append]; rfl
      have HSZ := Lib.hid hsz
      clear hsz
      go_wp2
      go_round
      case rel => exact ⟨_, by rw [HSZ.out]; omega, rfl⟩
      case measure => simp only [strOfV, HSZ.out]; omega
    · have hNu : N ≤ u.size := by omega
      clear hlt
      go_wp2
      go_loopw [5, 6] (fun v i wr => ∃ k : Nat, k ≤ n ∧ i = .int .i64 k ∧ Hid (wr.ownsRow w.heap.size 9 1 v k (strV (mat k n (fun i j => byteAt u (i * n + j)))) ∧ Below w.heap.size w wr)) (fun _ i _ => n - (intOf i).toNat)
      case atStart => exact ⟨0, by omega, rfl, Lib.hid ⟨World.ownsRow_nil _ _ _ _, Below.refl _ _⟩⟩
      case round =>
        obtain ⟨k, hk, rfl, HR⟩ := hrel
        by_cases hkn : k < n
        · have hm := (sq_mul n k h8 hkn).1
          rw [hN] at hm
          have CR := Lib.hid (cut_row u k n (by omega))
          obtain ⟨M, hM⟩ : ∃ M, k * n = M := ⟨_, rfl⟩
          have hkM : (k : Int) * n = (M : Int) := by rw [← hM]; simp
          rw [hM] at hm
          have CR' : Hid (u.extract M (M + n) = bs ((List.range n).map fun j => byteAt u (k * n + j))) := Lib.hid (by rw [← hM]; exact CR.out)
          clear hM CR
          have hle := HR.out.2.size
          have hk1 : k ≤ 4611686018427387904 := by omega
          have hk2 : (k + 1) * 16 ≤ 140737488355328 := by omega
          go_wp2_with (at_builtin; refine append1_new elemStr rfl _ _ rfl w.heap.size _ _ _ rfl HR.out.1 _ rfl rfl hk1 hk2 hle ?_; intro v' w' ho hg)
          have HR' : Hid (w'.ownsRow w.heap.size 9 1 v' (k + 1) (strV (mat (k + 1) n (fun i j => byteAt u (i * n + j)))) ∧ Below w.heap.size w w') := Lib.hid ⟨by
            rw [mat_succ, ← CR'.out]; simpa [strV] using ho, below_own HR.out.2 HR.out.1 hg⟩
          clear ho hg
          go_roundw
          case rel => exact ⟨k + 1, by omega, by go_num, HR'⟩
          case measure => simp [intOf]; omega
        · obtain rfl : k = n := by omega
          obtain ⟨A, c, rfl, hr⟩ := own_reads HR.out.1
          have HX := Lib.hid hr
          have HB := Lib.hid HR.out.2
          clear hr HR
          go_wp2
          go_ret
          exact ⟨A, c, _, rfl, HX.out, HB.out⟩
end Go.Proofs.Ythlnnclpfgokjaa
