/- Walks: the reference's filter: Places, Add, Has. No conditions. -/
import Derived.Test.YtbfmdingbgdflaaRbA
import Derived.BigQuiet
import Derived.Deep.DeepCutAuto
import Derived.StillTailTactics
namespace Go.Proofs.Ytbfmdingbgdflaa
open Go.RowKit Blo
set_option linter.unusedVariables false
set_option linter.unusedSimpArgs false
attribute [local go_sem ↓] execOp_ld32 execOp_st32
attribute [local go_sem] run_ld32 run_st32
theorem elemInt : Elem1 Try.prog 54 3 (.int .i64 0) 8 := Elem1.of (by kernel_rfl) (by kernel_rfl) rfl
def iV (l : List Nat) : List Value := l.map fun (n : Nat) => Value.int .i64 (n : Int)
def plL (I : Nat → UInt8) (n H : Nat) : List Nat := (List.range H).map fun h => plc I n h
theorem plL_succ (I : Nat → UInt8) (n H : Nat) : iV (plL I n (H + 1)) = iV (plL I n H) ++ [.int .i64 ((plc I n H : Nat) : Int)] := by simp [plL, iV, List.range_succ]
theorem plL_get (I : Nat → UInt8) (n H h : Nat) (hh : h < H) : (iV (plL I n H))[h]? = some (.int .i64 ((plc I n h : Nat) : Int)) := by simp [plL, iV, hh]
theorem own_cell {w : World} {base n c : Nat} {t : TypeId} {A : Option Addr} {xs : List Value} (h : w.ownsRow base t 1 (.slice A n c) n xs) {j : Nat} {u : Value} (hj : j < n) (hu : xs[j]? = some u) : ∃ ad, A = some ad ∧ base ≤ ad.block ∧ w.cell? (ad.add j) = some u := by
  obtain ⟨A', c', e, hr⟩ := own_reads h
  injection e with e1
  subst e1
  obtain ⟨ad, u', rfl, _, e3, e4⟩ := hr.at_ hj
  rw [hu] at e3
  injection e3 with e3
  exact ⟨ad, rfl, own_ge h _ rfl, by rw [e4, e3]⟩
set_option maxRecDepth 100000 in
set_option maxHeartbeats 0 in
theorem rplaces_any (I : Nat → UInt8) (n H N : Nat) (w : World) (hN : 8 * n = N) (hn1 : 1 ≤ N) (hn2 : N ≤ 16777216) (hH : H ≤ 8) :
    Calls Try.prog 72 #[.agg (idA I), .int .i64 (N : Int), .int .i64 (H : Int)] w fun e w' => (∃ A c, e = .returned (.slice A H c) ∧ w'.ownsRow (w.heap.size + 1) 3 1 (.slice A H c) H (iV (plL I n H))) ∧ Below w.heap.size w w' := by
  have R := Lib.hid (And.intro (id_row w I 28) ((Below.refl w.heap.size w).alloc (Nat.le_refl _) (.cells (idA I) 28)))
  have HN := Lib.hid hN
  clear hN
  have hN0 : ¬ (N : Int) = 0 := by omega
  go_enter Try.func72, Try.ntmps72
  go_upto_region 1 with fail
  generalize w.alloc (.cells (idA I) 28) = w1 at R ⊢
  obtain ⟨p, hp⟩ : ∃ p, w.heap.size = p := ⟨_, rfl⟩
  have HP := Lib.hid hp
  rw [hp] at R
  try rw [hp]
  clear hp
  go_wp2
  go_loopw [7, 8, 9, 10] (fun v h _ _ wr => ∃ k : Nat, k ≤ H ∧ h = .int .i64 (k : Int) ∧ Hid (wr.ownsRow (p + 1) 3 1 v k (iV (plL I n k)) ∧ wr.rowIs p 28 32 (u8V I) ∧ Below p w wr)) (fun _ h _ _ _ => H - (intOf h).toNat)
  case atStart => exact ⟨0, by omega, rfl, Lib.hid ⟨World.ownsRow_nil _ _ _ _, R.out.1, R.out.2⟩⟩
  case round =>
    obtain ⟨k, hk, rfl, HR⟩ := hrel
    by_cases hlt : k < H
    · have hlti : (k : Int) < (H : Int) := by omega
      have hk8 : k < 8 := by omega
      go_wp2
      go_loopw [9, 10] (fun n i wx => ∃ j x : Nat, j ≤ 4 ∧ i = .int .i64 (j : Int) ∧ n = .int .i64 (x : Int) ∧ x < 4294967296 ∧ Hid (beN I k j = x) ∧ wr = wx) (fun _ i _ => 4 - (intOf i).toNat)
      case atStart => exact ⟨0, 0, by omega, rfl, rfl, by omega, Lib.hid rfl, rfl⟩
      case round =>
        obtain ⟨j, x, hj, rfl, rfl, hx, HX, rfl⟩ := hrel
        by_cases hj4 : j < 4
        · have hj4i : (j : Int) < 4 := by omega
          obtain ⟨q, hq⟩ : ∃ q, 4 * k + j = q := ⟨_, rfl⟩
          have hq32 : q < 32 := by omega
          have Eq : 4 * (k : Int) + (j : Int) = (q : Int) := by omega
          have hq32i : (q : Int) < 32 := by omega
          obtain ⟨b, hb⟩ : ∃ b, I q = b := ⟨_, rfl⟩
          have ck : wr.cell? ⟨p, q, none⟩ = some (.int .u8 (b.toNat : Int)) := by rw [← hb]; exact HR.out.2.1.cell hq32
          have hb2 := b.toNat_lt
          have hx3 : x < 16777216 := by
            have h1 := beN_lt I k j
            rw [HX.out] at h1
            have h2 : 256 ^ j ≤ 256 ^ 3 := Nat.pow_le_pow_right (by omega) (by omega)
            exact Nat.lt_of_lt_of_le h1 h2
          obtain ⟨y, hy⟩ : ∃ y, 256 * x + b.toNat = y := ⟨_, rfl⟩
          have Ey : 256 * (x : Int) + (b.toNat : Int) = (y : Int) := by omega
          have HY : Hid (beN I k (j + 1) = y) := Lib.hid (by rw [beN, HX.out, hq, hb, ← hy]; omega)
          have hy32 : y < 4294967296 := by omega
          clear hq hb hy
          go_wp2
          go_roundw
          case rel => exact ⟨j + 1, y, by omega, by go_num, by first | rfl | go_num, hy32, HY, by first | rfl | trivial⟩
          case measure => simp [intOf]; omega
        · obtain rfl : j = 4 := by omega
          obtain ⟨z, hz⟩ : ∃ z, x % N = z := ⟨_, rfl⟩
          have HZ : Hid (iV (plL I n (k + 1)) = iV (plL I n k) ++ [.int .i64 (z : Int)]) := Lib.hid (by
            rw [plL_succ, plc, ← beN_four, HX.out, HN.out, hz])
          have Ez : (x : Int) % (N : Int) = (z : Int) := by rw [← hz]; exact (Int.natCast_emod x N).symm
          have Ez2 : Int.tmod (x : Int) (N : Int) = (z : Int) := by rw [Int.tmod_eq_emod_of_nonneg (by omega)]; exact Ez
          have hzl : z < 4294967296 := by rw [← hz]; exact Nat.lt_of_le_of_lt (Nat.mod_le _ _) hx
          have hle := HR.out.2.2.size
          have hle' : p + 1 ≤ wr.heap.size := HR.out.2.1.lt
          have hk1 : k ≤ 4611686018427387904 := by omega
          have hk2 : (k + 1) * 8 ≤ 140737488355328 := by omega
          clear hz
          rw [show ((4 : Nat) : Int) = 4 from rfl]
          go_wp2_with (with_reducible refine append1_at elemInt rfl _ _ rfl (p + 1) _ k (iV (plL I n k)) rfl HR.out.1 _ wr.heap.size rfl rfl rfl hk1 hk2 hle' ?_; intro v' w' ho' hg')
          have HR' : Hid (w'.ownsRow (p + 1) 3 1 v' (k + 1) (iV (plL I n (k + 1))) ∧ w'.rowIs p 28 32 (u8V I) ∧ Below p w w') := Lib.hid (by
            refine ⟨by rw [HZ.out]; exact ho', ?_, ?_⟩
            · exact HR.out.2.1.of_block (hg'.block _ HR.out.2.1.lt (fun e => by have := own_ge HR.out.1 _ e.symm; omega))
            · exact ⟨hg'.os.trans HR.out.2.2.os, hg'.tape.trans HR.out.2.2.tape, hg'.output.trans HR.out.2.2.output, Nat.le_trans HR.out.2.2.size hg'.size, fun i hi => (hg'.block i (by omega) (fun e => by have := own_ge HR.out.1 _ e.symm; omega)).trans (HR.out.2.2.block i hi)⟩)
          clear ho' hg'
          go_wp2
          go_roundw
          case rel => exact ⟨k + 1, by omega, by go_num, HR'⟩
          case measure => simp [intOf]; omega
    · obtain rfl : k = H := by omega
      obtain ⟨A, c, rfl, hrd⟩ := own_reads HR.out.1
      have RD := Lib.hid HR.out.1
      have BE := Lib.hid HR.out.2.2
      go_wp2
      go_ret
      exact ⟨⟨A, c, rfl, by rw [HP.out]; exact RD.out⟩, by rw [HP.out]; exact BE.out⟩
set_option maxRecDepth 100000 in
set_option maxHeartbeats 0 in
theorem radd_any (w : World) (P g N n H : Nat) (B : Nat → Bool) (I : Nat → UInt8) (h : Rf w P g N H B) (hN : 8 * n = N) (hn1 : 1 ≤ N) (hn2 : N ≤ 16777216) (hH : H ≤ 8) :
    Calls Try.prog 31 #[.pointer (some ⟨P, 0, none⟩), .agg (idA I)] w fun e w' => e = .returned (.tuple #[]) ∧ Rf w' P g N H (addB B I n H) ∧ w.grownBy w' (some g) := by
  have X : Hid (Rf (w.alloc (.cells (idA I) 28)) P g N H B ∧ Below w.heap.size w (w.alloc (.cells (idA I) 28)) ∧ (w.alloc (.cells (idA I) 28)).rowIs w.heap.size 28 32 (u8V I)) := Lib.hid ⟨h.below ((Below.refl _ _).alloc (Nat.le_refl _) _), (Below.refl _ _).alloc (Nat.le_refl _) _, id_row w I _⟩
  have HL := Lib.hid (And.intro h.blk.lt h.row.lt)
  have HN := Lib.hid hN
  clear h hN
  go_enter Try.func31, Try.ntmps31
  go_upto_region 1 with fail
  generalize w.alloc (.cells (idA I) 28) = w1 at X ⊢
  have KS : Hid (∀ w', Below w1.heap.size w1 w' → w'.cell? ⟨P, 0, none⟩ = some (.int .i64 (N : Int)) ∧ w'.cell? ⟨P, 1, none⟩ = some (.int .i64 (H : Int)) ∧ ok32 w' w.heap.size 0 = true ∧ row32 w' w.heap.size 0 = idA I) := Lib.hid (fun w' hb => by
    have r := X.out.2.2.of_block (hb.block _ X.out.2.2.lt)
    have f := X.out.1.below hb
    exact ⟨f.blk.cell 0, f.blk.cell 1, ok32_of r (by omega), row32_id r⟩)
  have SA := KS.out _ ((Below.refl w1.heap.size w1).drew)
  refine wp_region_held_drew (S := fun w' => w'.cell? ⟨P, 0, none⟩ = some (.int .i64 (N : Int)) ∧ w'.cell? ⟨P, 1, none⟩ = some (.int .i64 (H : Int)) ∧ ok32 w' w.heap.size 0 = true ∧ row32 w' w.heap.size 0 = idA I) (by kernel_rfl) (by exact SA) (fun hHeld => ?_)
  refine wpAnyH_take (i := 0) (oi := { dst := some 6, op := .load 28 (.tmp 3), type := 28, pos := "ref.go:68", after := #[], guard := none }) (v := _) rfl (by as_aux_lemma => kernel_rfl) (by as_aux_lemma => kernel_rfl) (by as_aux_lemma => kernel_rfl) (fun _ _ _ h => h) (Or.inl ⟨by kernel_rfl, by (intro w hSw; (try dsimp only at hSw); go_simp; first | done | with_reducible rfl)⟩) (by assumption) ?_
  (try simp only [List.getElem_toArray, List.getElem_cons_succ, List.getElem_cons_zero, Act.put, List.setIfInBounds_toArray, List.set_cons_zero, List.set_cons_succ])
  refine wpAnyH_take (i := 1) (oi := _) (v := _) rfl (by as_aux_lemma => kernel_rfl) (by as_aux_lemma => kernel_rfl) (by as_aux_lemma => kernel_rfl) (fun _ _ _ h => h) (Or.inl ⟨by kernel_rfl, by (intro w hSw; (try dsimp only at hSw); go_simp; first | done | with_reducible rfl)⟩) (by assumption) ?_
  (try simp only [List.getElem_toArray, List.getElem_cons_succ, List.getElem_cons_zero, Act.put, List.setIfInBounds_toArray, List.set_cons_zero, List.set_cons_succ])
  refine wpAnyH_take (i := 2) (oi := _) (v := _) rfl (by as_aux_lemma => kernel_rfl) (by as_aux_lemma => kernel_rfl) (by as_aux_lemma => kernel_rfl) (fun _ _ _ h => h) (Or.inl ⟨by kernel_rfl, by (intro w hSw; (try dsimp only at hSw); go_simp; first | done | with_reducible rfl)⟩) (by assumption) ?_
  (try simp only [List.getElem_toArray, List.getElem_cons_succ, List.getElem_cons_zero, Act.put, List.setIfInBounds_toArray, List.set_cons_zero, List.set_cons_succ])
  refine wpAnyH_take (i := 3) (oi := _) (v := _) rfl (by as_aux_lemma => kernel_rfl) (by as_aux_lemma => kernel_rfl) (by as_aux_lemma => kernel_rfl) (fun _ _ _ h => h) (Or.inl ⟨by kernel_rfl, by (intro w hSw; (try dsimp only at hSw); go_simp; first | done | with_reducible rfl)⟩) (by assumption) ?_
  (try simp only [List.getElem_toArray, List.getElem_cons_succ, List.getElem_cons_zero, Act.put, List.setIfInBounds_toArray, List.set_cons_zero, List.set_cons_succ])
  refine wpAnyH_take (i := 4) (oi := _) (v := _) rfl (by as_aux_lemma => kernel_rfl) (by as_aux_lemma => kernel_rfl) (by as_aux_lemma => kernel_rfl) (fun _ _ _ h => h) (Or.inl ⟨by kernel_rfl, by (intro w hSw; (try dsimp only at hSw); go_simp; first | done | with_reducible rfl)⟩) (by assumption) ?_
  (try simp only [List.getElem_toArray, List.getElem_cons_succ, List.getElem_cons_zero, Act.put, List.setIfInBounds_toArray, List.set_cons_zero, List.set_cons_succ])
  refine wpAnyH_take (i := 5) (oi := _) (v := _) rfl (by as_aux_lemma => kernel_rfl) (by as_aux_lemma => kernel_rfl) (by as_aux_lemma => kernel_rfl) (fun _ _ _ h => h) (Or.inl ⟨by kernel_rfl, by (intro w hSw; (try dsimp only at hSw); go_simp; first | done | with_reducible rfl)⟩) (by assumption) ?_
  (try simp only [List.getElem_toArray, List.getElem_cons_succ, List.getElem_cons_zero, Act.put, List.setIfInBounds_toArray, List.set_cons_zero, List.set_cons_succ])
  refine wpAnyH_take (i := 6) (oi := _) (v := _) rfl (by as_aux_lemma => kernel_rfl) (by as_aux_lemma => kernel_rfl) (by as_aux_lemma => kernel_rfl) (fun _ _ _ h => h) (Or.inl ⟨by kernel_rfl, by (intro w hSw; (try dsimp only at hSw); go_simp; first | done | with_reducible rfl)⟩) (by assumption) ?_
  (try simp only [List.getElem_toArray, List.getElem_cons_succ, List.getElem_cons_zero, Act.put, List.setIfInBounds_toArray, List.set_cons_zero, List.set_cons_succ])
  refine wpAnyH_take (i := 7) (oi := _) (v := _) rfl (by as_aux_lemma => kernel_rfl) (by as_aux_lemma => kernel_rfl) (by as_aux_lemma => kernel_rfl) (fun _ _ _ h => h) (Or.inl ⟨by kernel_rfl, by (intro w hSw; (try dsimp only at hSw); go_simp; first | done | with_reducible rfl)⟩) (by assumption) ?_
  (try simp only [List.getElem_toArray, List.getElem_cons_succ, List.getElem_cons_zero, Act.put, List.setIfInBounds_toArray, List.set_cons_zero, List.set_cons_succ])
  refine wpAnyH_take (i := 8) (oi := _) (v := _) rfl (by as_aux_lemma => kernel_rfl) (by as_aux_lemma => kernel_rfl) (by as_aux_lemma => kernel_rfl) (fun _ _ _ h => h) (Or.inl ⟨by kernel_rfl, by (intro w hSw; (try dsimp only at hSw); go_simp; first | done | with_reducible rfl)⟩) (by assumption) ?_
  (try simp only [List.getElem_toArray, List.getElem_cons_succ, List.getElem_cons_zero, Act.put, List.setIfInBounds_toArray, List.set_cons_zero, List.set_cons_succ])
  refine wpAnyH_ready (rs := [9]) (by as_aux_lemma => kernel_rfl) (by simp) (AllReadyH.cons rfl (fun K hK => ?_) AllReadyH.nil)
  try simp only [List.getElem_toArray, List.getElem_cons_succ, List.getElem_cons_zero]
  go_simp
  go_at_call 72
  refine (rplaces_any I n H N _ HN.out hn1 hn2 hH).mono ?_
  rintro e w2 ⟨⟨A, c, rfl, hrd⟩, hb2⟩
  have HB2 := Lib.hid (((Below.refl w1.heap.size w1).drew).trans hb2)
  have OW := Lib.hid hrd
  have SA := KS.out _ HB2.out
  clear hb2 hrd
  go_simp
  refine hK.out _ _ (by exact SA) (fun hHeld => ?_)
  clear hK K
  (try simp only [List.getElem_toArray, List.getElem_cons_succ, List.getElem_cons_zero, Act.put, List.setIfInBounds_toArray, List.set_cons_zero, List.set_cons_succ])
  refine wpAnyH_take (i := 10) (oi := _) (v := _) rfl (by as_aux_lemma => kernel_rfl) (by as_aux_lemma => kernel_rfl) (by as_aux_lemma => kernel_rfl) (fun _ _ _ h => h) (Or.inl ⟨by kernel_rfl, by (intro w hSw; (try dsimp only at hSw); go_simp; first | done | with_reducible rfl)⟩) (by assumption) ?_
  (try simp only [List.getElem_toArray, List.getElem_cons_succ, List.getElem_cons_zero, Act.put, List.setIfInBounds_toArray, List.set_cons_zero, List.set_cons_succ])
  refine wpAnyH_done (by as_aux_lemma => kernel_rfl) ?_ _
  have Y : Hid (Rf w2 P g N H (addB B I n 0) ∧ w.grownBy w2 (some g) ∧ w2.ownsRow (w1.heap.size + 1) 3 1 (.slice A H c) H (iV (plL I n H)) ∧ g < w1.heap.size) := Lib.hid ⟨X.out.1.below HB2.out, only_of_below (X.out.2.1.trans (HB2.out.mono X.out.2.1.size)) _, OW.out, X.out.1.row.lt⟩
  clear SA KS OW HB2 X
  go_wp2
  go_loopw [5] (fun i wr => ∃ k : Nat, k ≤ H ∧ i = .int .i64 (k : Int) ∧ Hid (Rf wr P g N H (addB B I n k) ∧ w.grownBy wr (some g) ∧ ∀ j, j < H → ∃ ad, A = some ad ∧ ad.block ≠ g ∧ wr.cell? (ad.add j) = some (.int .i64 ((plc I n j : Nat) : Int)))) (fun i _ => H - (intOf i).toNat)
  case atStart =>
    refine ⟨0, by omega, rfl, Lib.hid ⟨Y.out.1, Y.out.2.1, fun j hj => ?_⟩⟩
    obtain ⟨ad, e1, e2, e3⟩ := own_cell Y.out.2.2.1 hj (plL_get I n H j hj)
    exact ⟨ad, e1, by have := Y.out.2.2.2; omega, e3⟩
  case round =>
    obtain ⟨k, hk, rfl, HR⟩ := hrel
    by_cases hlt : k < H
    · have hlti : (k : Int) < (H : Int) := by omega
      obtain ⟨ad, rfl, hag, ck⟩ := HR.out.2.2 k hlt
      obtain ⟨z, hz⟩ : ∃ z, plc I n k = z := ⟨_, rfl⟩
      have hzN : z < N := by rw [← hz, ← HN.out]; exact plc_lt I n k (by have := HN.out; omega)
      rw [hz] at ck
      have hzNi : (z : Int) < (N : Int) := by omega
      have c2 : wr.cell? ⟨P, 2, none⟩ = some (.slice (some ⟨g, 0, none⟩) N N) := HR.out.1.blk.cell 2
      obtain ⟨v1, c3⟩ : ∃ v, wr.cell? ⟨g, z, none⟩ = some v := ⟨_, HR.out.1.row.cell hzN⟩
      have f3 : wr.frozen? ⟨g, z, none⟩ = false := HR.out.1.row.frozen _
      have HA : Hid (addB B I n (k + 1) = fun j => if j = z then true else addB B I n k j) := Lib.hid (by rw [addB, hz])
      clear hz
      go_wp2
      refine wp_region_still_tail 9 (by kernel_rfl) (by kernel_rfl) ?_
      simp only [List.take_succ_cons, List.take_zero, List.drop_succ_cons, List.drop_zero]
      repeat still_step
      try refine wpStill_nil ?_
      go_wp2
      go_roundw
      case rel =>
        refine ⟨k + 1, by omega, by go_num, Lib.hid ⟨⟨(HR.out.1.blk.far (by show P ≠ g; exact HR.out.1.ne) _).drew, ?_⟩, only_drew (only_setCell HR.out.2.1 (.inl rfl) _), fun j hj => ?_⟩⟩
        · rw [HA.out]
          refine (HR.out.1.row.set z (.bool true)).congr fun i hi => ?_
          by_cases e : i = z
          · simp [e]
          · simp [e]
        · obtain ⟨ad', e1, e2, e3⟩ := HR.out.2.2 j hj
          refine ⟨ad', e1, e2, ?_⟩
          refine (show World.cell? _ _ = _ from ?_)
          rw [World.cell?_drew, World.cell?_setCell_other _ _ _ _ (fun e => e2 (by have h := congrArg Addr.block e; rw [block_of_add] at h; exact h.symm))]
          exact e3
      case measure => simp [intOf]; omega
    · obtain rfl : k = H := by omega
      have BE := Lib.hid HR.out.2.1
      have RE := Lib.hid HR.out.1
      go_wp2
      go_end0
      exact ⟨rfl, RE.out, BE.out⟩
set_option maxRecDepth 100000 in
set_option maxHeartbeats 0 in
theorem rhas_any (w : World) (P g N n H : Nat) (B : Nat → Bool) (F I : Nat → UInt8) (h : Rf w P g N H B) (hB : Bt B F n) (hN : 8 * n = N) (hn1 : 1 ≤ N) (hn2 : N ≤ 16777216) (hH : H ≤ 8) :
    Calls Try.prog 35 #[.pointer (some ⟨P, 0, none⟩), .agg (idA I)] w fun e w' => e = .returned (.bool (hasF F I n H)) ∧ Below w.heap.size w w' := by
  have X : Hid (Rf (w.alloc (.cells (idA I) 28)) P g N H B ∧ Below w.heap.size w (w.alloc (.cells (idA I) 28)) ∧ (w.alloc (.cells (idA I) 28)).rowIs w.heap.size 28 32 (u8V I)) := Lib.hid ⟨h.below ((Below.refl _ _).alloc (Nat.le_refl _) _), (Below.refl _ _).alloc (Nat.le_refl _) _, id_row w I _⟩
  have HN := Lib.hid hN
  have HB := Lib.hid (hB.has (by omega) I H)
  clear h hN hB
  go_enter Try.func35, Try.ntmps35
  go_upto_region 1 with fail
  generalize w.alloc (.cells (idA I) 28) = w1 at X ⊢
  have KS : Hid (∀ w', Below w1.heap.size w1 w' → w'.cell? ⟨P, 0, none⟩ = some (.int .i64 (N : Int)) ∧ w'.cell? ⟨P, 1, none⟩ = some (.int .i64 (H : Int)) ∧ ok32 w' w.heap.size 0 = true ∧ row32 w' w.heap.size 0 = idA I) := Lib.hid (fun w' hb => by
    have r := X.out.2.2.of_block (hb.block _ X.out.2.2.lt)
    have f := X.out.1.below hb
    exact ⟨f.blk.cell 0, f.blk.cell 1, ok32_of r (by omega), row32_id r⟩)
  have SA := KS.out _ ((Below.refl w1.heap.size w1).drew)
  refine wp_region_held_drew (S := fun w' => w'.cell? ⟨P, 0, none⟩ = some (.int .i64 (N : Int)) ∧ w'.cell? ⟨P, 1, none⟩ = some (.int .i64 (H : Int)) ∧ ok32 w' w.heap.size 0 = true ∧ row32 w' w.heap.size 0 = idA I) (by kernel_rfl) (by exact SA) (fun hHeld => ?_)
  refine wpAnyH_take (i := 0) (oi := { dst := some 7, op := .load 28 (.tmp 3), type := 28, pos := "ref.go:76", after := #[], guard := none }) (v := _) rfl (by as_aux_lemma => kernel_rfl) (by as_aux_lemma => kernel_rfl) (by as_aux_lemma => kernel_rfl) (fun _ _ _ h => h) (Or.inl ⟨by kernel_rfl, by (intro w hSw; (try dsimp only at hSw); go_simp; first | done | with_reducible rfl)⟩) (by assumption) ?_
  (try simp only [List.getElem_toArray, List.getElem_cons_succ, List.getElem_cons_zero, Act.put, List.setIfInBounds_toArray, List.set_cons_zero, List.set_cons_succ])
  refine wpAnyH_take (i := 1) (oi := _) (v := _) rfl (by as_aux_lemma => kernel_rfl) (by as_aux_lemma => kernel_rfl) (by as_aux_lemma => kernel_rfl) (fun _ _ _ h => h) (Or.inl ⟨by kernel_rfl, by (intro w hSw; (try dsimp only at hSw); go_simp; first | done | with_reducible rfl)⟩) (by assumption) ?_
  (try simp only [List.getElem_toArray, List.getElem_cons_succ, List.getElem_cons_zero, Act.put, List.setIfInBounds_toArray, List.set_cons_zero, List.set_cons_succ])
  refine wpAnyH_take (i := 2) (oi := _) (v := _) rfl (by as_aux_lemma => kernel_rfl) (by as_aux_lemma => kernel_rfl) (by as_aux_lemma => kernel_rfl) (fun _ _ _ h => h) (Or.inl ⟨by kernel_rfl, by (intro w hSw; (try dsimp only at hSw); go_simp; first | done | with_reducible rfl)⟩) (by assumption) ?_
  (try simp only [List.getElem_toArray, List.getElem_cons_succ, List.getElem_cons_zero, Act.put, List.setIfInBounds_toArray, List.set_cons_zero, List.set_cons_succ])
  refine wpAnyH_take (i := 3) (oi := _) (v := _) rfl (by as_aux_lemma => kernel_rfl) (by as_aux_lemma => kernel_rfl) (by as_aux_lemma => kernel_rfl) (fun _ _ _ h => h) (Or.inl ⟨by kernel_rfl, by (intro w hSw; (try dsimp only at hSw); go_simp; first | done | with_reducible rfl)⟩) (by assumption) ?_
  (try simp only [List.getElem_toArray, List.getElem_cons_succ, List.getElem_cons_zero, Act.put, List.setIfInBounds_toArray, List.set_cons_zero, List.set_cons_succ])
  refine wpAnyH_take (i := 4) (oi := _) (v := _) rfl (by as_aux_lemma => kernel_rfl) (by as_aux_lemma => kernel_rfl) (by as_aux_lemma => kernel_rfl) (fun _ _ _ h => h) (Or.inl ⟨by kernel_rfl, by (intro w hSw; (try dsimp only at hSw); go_simp; first | done | with_reducible rfl)⟩) (by assumption) ?_
  (try simp only [List.getElem_toArray, List.getElem_cons_succ, List.getElem_cons_zero, Act.put, List.setIfInBounds_toArray, List.set_cons_zero, List.set_cons_succ])
  refine wpAnyH_take (i := 5) (oi := _) (v := _) rfl (by as_aux_lemma => kernel_rfl) (by as_aux_lemma => kernel_rfl) (by as_aux_lemma => kernel_rfl) (fun _ _ _ h => h) (Or.inl ⟨by kernel_rfl, by (intro w hSw; (try dsimp only at hSw); go_simp; first | done | with_reducible rfl)⟩) (by assumption) ?_
  (try simp only [List.getElem_toArray, List.getElem_cons_succ, List.getElem_cons_zero, Act.put, List.setIfInBounds_toArray, List.set_cons_zero, List.set_cons_succ])
  refine wpAnyH_take (i := 6) (oi := _) (v := _) rfl (by as_aux_lemma => kernel_rfl) (by as_aux_lemma => kernel_rfl) (by as_aux_lemma => kernel_rfl) (fun _ _ _ h => h) (Or.inl ⟨by kernel_rfl, by (intro w hSw; (try dsimp only at hSw); go_simp; first | done | with_reducible rfl)⟩) (by assumption) ?_
  (try simp only [List.getElem_toArray, List.getElem_cons_succ, List.getElem_cons_zero, Act.put, List.setIfInBounds_toArray, List.set_cons_zero, List.set_cons_succ])
  refine wpAnyH_take (i := 7) (oi := _) (v := _) rfl (by as_aux_lemma => kernel_rfl) (by as_aux_lemma => kernel_rfl) (by as_aux_lemma => kernel_rfl) (fun _ _ _ h => h) (Or.inl ⟨by kernel_rfl, by (intro w hSw; (try dsimp only at hSw); go_simp; first | done | with_reducible rfl)⟩) (by assumption) ?_
  (try simp only [List.getElem_toArray, List.getElem_cons_succ, List.getElem_cons_zero, Act.put, List.setIfInBounds_toArray, List.set_cons_zero, List.set_cons_succ])
  refine wpAnyH_take (i := 8) (oi := _) (v := _) rfl (by as_aux_lemma => kernel_rfl) (by as_aux_lemma => kernel_rfl) (by as_aux_lemma => kernel_rfl) (fun _ _ _ h => h) (Or.inl ⟨by kernel_rfl, by (intro w hSw; (try dsimp only at hSw); go_simp; first | done | with_reducible rfl)⟩) (by assumption) ?_
  (try simp only [List.getElem_toArray, List.getElem_cons_succ, List.getElem_cons_zero, Act.put, List.setIfInBounds_toArray, List.set_cons_zero, List.set_cons_succ])
  refine wpAnyH_ready (rs := [9]) (by as_aux_lemma => kernel_rfl) (by simp) (AllReadyH.cons rfl (fun K hK => ?_) AllReadyH.nil)
  try simp only [List.getElem_toArray, List.getElem_cons_succ, List.getElem_cons_zero]
  go_simp
  go_at_call 72
  refine (rplaces_any I n H N _ HN.out hn1 hn2 hH).mono ?_
  rintro e w2 ⟨⟨A, c, rfl, hrd⟩, hb2⟩
  have HB2 := Lib.hid (((Below.refl w1.heap.size w1).drew).trans hb2)
  have OW := Lib.hid hrd
  have SA := KS.out _ HB2.out
  clear hb2 hrd
  go_simp
  refine hK.out _ _ (by exact SA) (fun hHeld => ?_)
  clear hK K
  (try simp only [List.getElem_toArray, List.getElem_cons_succ, List.getElem_cons_zero, Act.put, List.setIfInBounds_toArray, List.set_cons_zero, List.set_cons_succ])
  refine wpAnyH_take (i := 10) (oi := _) (v := _) rfl (by as_aux_lemma => kernel_rfl) (by as_aux_lemma => kernel_rfl) (by as_aux_lemma => kernel_rfl) (fun _ _ _ h => h) (Or.inl ⟨by kernel_rfl, by (intro w hSw; (try dsimp only at hSw); go_simp; first | done | with_reducible rfl)⟩) (by assumption) ?_
  (try simp only [List.getElem_toArray, List.getElem_cons_succ, List.getElem_cons_zero, Act.put, List.setIfInBounds_toArray, List.set_cons_zero, List.set_cons_succ])
  refine wpAnyH_done (by as_aux_lemma => kernel_rfl) ?_ _
  have Y : Hid (Rf w2 P g N H B ∧ Below w.heap.size w w2 ∧ w2.ownsRow (w1.heap.size + 1) 3 1 (.slice A H c) H (iV (plL I n H))) := Lib.hid ⟨X.out.1.below HB2.out, X.out.2.1.trans (HB2.out.mono X.out.2.1.size), OW.out⟩
  clear SA KS OW HB2 X
  go_wp2
  go_loopw [6] (fun i wr => ∃ k : Nat, k ≤ H ∧ i = .int .i64 (k : Int) ∧ Hid (∀ j, j < k → B (plc I n j) = true) ∧ Hid (∃ q, wr = w2.drewN q)) (fun i _ => H - (intOf i).toNat)
  case atStart => exact ⟨0, by omega, rfl, Lib.hid (fun j hj => by omega), Lib.hid ⟨0, rfl⟩⟩
  case round =>
    obtain ⟨k, hk, rfl, HK, HW⟩ := hrel
    obtain ⟨q, rfl⟩ := HW.out
    by_cases hlt : k < H
    · have hlti : (k : Int) < (H : Int) := by omega
      obtain ⟨ad, rfl, hag, ck0⟩ := own_cell Y.out.2.2 hlt (plL_get I n H k hlt)
      obtain ⟨z, hz⟩ : ∃ z, plc I n k = z := ⟨_, rfl⟩
      have hzN : z < N := by rw [← hz, ← HN.out]; exact plc_lt I n k (by have := HN.out; omega)
      rw [hz] at ck0
      have hzNi : (z : Int) < (N : Int) := by omega
      have ck : w2.cell? (ad.add k) = some (.int .i64 (z : Int)) := ck0
      have c2 : w2.cell? ⟨P, 2, none⟩ = some (.slice (some ⟨g, 0, none⟩) N N) := Y.out.1.blk.cell 2
      have c3 : w2.cell? ⟨g, z, none⟩ = some (.bool (B z)) := Y.out.1.row.cell hzN
      have HZ := Lib.hid hz
      clear hz ck0
      cases hbz : B z with
      | true =>
        rw [hbz] at c3
        have HN2 : Hid (∀ j, j < k + 1 → B (plc I n j) = true) := Lib.hid (fun j hj => by
          rcases Nat.lt_or_ge j k with h | h
          · exact HK.out j h
          · obtain rfl : j = k := by omega
            rw [HZ.out]; exact hbz)
        clear hbz
        go_wp2
        go_quiet (fail)
        go_wp2
        go_roundw
        case rel => exact ⟨k + 1, by omega, by go_num, HN2, Lib.hid ⟨_, rfl⟩⟩
        case measure => simp [intOf]; omega
      | false =>
        rw [hbz] at c3
        have HV : Hid (hasF F I n H = false) := Lib.hid (by
          rw [Bool.eq_false_iff]
          intro e
          have := HB.out.1 e k hlt
          rw [HZ.out, hbz] at this
          cases this)
        have BE := Lib.hid Y.out.2.1
        clear hbz
        go_wp2
        go_quiet (fail)
        go_wp2
        go_ret
        exact ⟨by rw [HV.out]; first | rfl | simp, below_drewN (below_drewN BE.out _) _⟩
    · obtain rfl : k = H := by omega
      have HV : Hid (hasF F I n k = true) := Lib.hid (HB.out.2 HK.out)
      have BE := Lib.hid Y.out.2.1
      go_wp2
      go_ret
      exact ⟨by rw [HV.out]; first | rfl | simp, below_drewN BE.out _⟩
end Go.Proofs.Ytbfmdingbgdflaa
