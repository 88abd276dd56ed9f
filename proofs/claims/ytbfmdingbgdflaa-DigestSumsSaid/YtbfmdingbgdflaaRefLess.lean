/- Walks: the reference's Less; its Hex, Text. No conditions. -/
import Derived.Test.YtbfmdingbgdflaaLessP
import Derived.Test.YtbfmdingbgdflaaHex2
namespace Go.Proofs.Ytbfmdingbgdflaa
open Go.RowKit
set_option linter.unusedVariables false
def ltR (I J : Nat → UInt8) : Nat → Nat → Bool
  | 0, _ => false
  | f + 1, i => if I i = J i then ltR I J f (i + 1) else decide ((I i).toNat < (J i).toNat)
theorem ltR_cmp (I J : Nat → UInt8) : ∀ f i, ltR I J f i = decide (cmpR I J f i < 0)
  | 0, i => rfl
  | f + 1, i => by
    rw [ltR, cmpR]
    by_cases e : I i = J i
    · rw [if_pos e, if_pos (by unfold cmpB; rw [e, if_neg (by omega), if_neg (by omega)]), ltR_cmp I J f (i + 1)]
    · have hne : (I i).toNat ≠ (J i).toNat := fun h => e (UInt8.toNat_inj.1 h)
      rw [if_neg e]
      unfold cmpB
      by_cases h : (I i).toNat < (J i).toNat
      · have h' : ((I i).toNat : Int) < ((J i).toNat : Int) := by omega
        simp [h']
        omega
      · have h' : ¬ ((I i).toNat : Int) < ((J i).toNat : Int) := by omega
        have h2 : ((J i).toNat : Int) < ((I i).toNat : Int) := by omega
        simp [h', h2]
        omega
set_option maxRecDepth 100000 in
theorem refLess_any (I J : Nat → UInt8) (w : World) :
    Calls Try.prog 45 #[.agg (idA I), .agg (idA J)] w fun e w' => e = .returned (.bool (ltR I J 32 0)) ∧ Below w.heap.size w w' := by
  have T := Lib.hid (two_ids w I J)
  go_enter Try.func45, Try.ntmps45
  go_upto_region 1 with fail
  generalize (w.alloc (.cells (idA I) 28)).alloc (.cells (idA J) 28) = w2 at T ⊢
  obtain ⟨p, hp⟩ : ∃ p, w.heap.size = p := ⟨_, rfl⟩
  have HP := Lib.hid hp
  rw [hp] at T
  try rw [hp]
  clear hp
  go_wp2
  go_loopw [5] (fun i wr => ∃ k : Nat, k ≤ 32 ∧ i = .int .i64 (k : Int) ∧ Hid (ltR I J 32 0 = ltR I J (32 - k) k) ∧ Hid (wr.rowIs p 28 32 (u8V I) ∧ wr.rowIs (p + 1) 28 32 (u8V J) ∧ Below p w wr)) (fun i _ => 32 - (intOf i).toNat)
  case atStart => exact ⟨0, by omega, rfl, Lib.hid rfl, T⟩
  case round =>
    obtain ⟨k, hk, rfl, HC, HR⟩ := hrel
    by_cases hlt : k < 32
    · have c1 : wr.cell? ⟨p, k, none⟩ = some (.int .u8 ((I k).toNat : Int)) := HR.out.1.cell hlt
      have c2 : wr.cell? ⟨p + 1, k, none⟩ = some (.int .u8 ((J k).toNat : Int)) := HR.out.2.1.cell hlt
      have hki : (k : Int) < 32 := by omega
      have ST : Hid (ltR I J (32 - k) k = if I k = J k then ltR I J (32 - (k + 1)) (k + 1) else decide ((I k).toNat < (J k).toNat)) := Lib.hid (by
        obtain ⟨f, hf⟩ : ∃ f, 32 - k = f + 1 := ⟨31 - k, by omega⟩
        rw [hf, ltR, show 32 - (k + 1) = f by omega])
      generalize I k = x at c1 ST
      generalize J k = y at c2 ST
      by_cases e : x = y
      · have HN : Hid (ltR I J 32 0 = ltR I J (32 - (k + 1)) (k + 1)) := Lib.hid (by rw [HC.out, ST.out, if_pos e])
        subst e
        clear ST
        go_wp2
        go_quiet (fail)
        go_wp2
        go_roundw
        case rel => exact ⟨k + 1, by omega, by go_num, HN, Lib.hid ⟨rowIs_drewN HR.out.1 _, rowIs_drewN HR.out.2.1 _, below_drewN HR.out.2.2 _⟩⟩
        case measure => simp [intOf]; omega
      · have HN : Hid (ltR I J 32 0 = decide (x.toNat < y.toNat)) := Lib.hid (by rw [HC.out, ST.out, if_neg e])
        have hne : ¬ (x.toNat : Int) = (y.toNat : Int) := fun h => e (UInt8.toNat_inj.1 (by omega))
        clear ST e
        go_wp2
        go_quiet (fail)
        go_wp2
        go_quiet (fail)
        go_wp2
        go_ret
        exact ⟨by rw [HN.out]; first | rfl | simp, by rw [HP.out]; exact below_drewN (below_drewN HR.out.2.2 _) _⟩
    · obtain rfl : k = 32 := by omega
      have HN : Hid (ltR I J 32 0 = false) := Lib.hid (by rw [HC.out]; rfl)
      rw [show ((32 : Nat) : Int) = 32 from rfl]
      go_wp2
      go_ret
      exact ⟨by rw [HN.out]; rfl, by rw [HP.out]; exact HR.out.2.2⟩
theorem dig_get (k : Nat) (hk : k < 16) (h : k < ByteArray.size { data := #[48, 49, 50, 51, 52, 53, 54, 55, 56, 57, 97, 98, 99, 100, 101, 102] }) : (({ data := #[48, 49, 50, 51, 52, 53, 54, 55, 56, 57, 97, 98, 99, 100, 101, 102] } : ByteArray)[k]'h) = digF k := by
  rw [byteAt_get]; rfl
set_option maxRecDepth 100000 in
set_option maxHeartbeats 0 in
theorem rhex_any (s : ByteArray) (w : World) (hs : s.size ≤ 1073741824) (h1s : 1 ≤ s.size) :
    Calls Try.prog 81 #[.string s] w fun e w' => e = .returned (.string (bs (hexL s.data.toList))) ∧ Below w.heap.size w w' := by
  have SL : s.data.toList.length = s.size := size_toList s
  have HSL := Lib.hid SL
  clear SL
  go_enter Try.func81, Try.ntmps81
  go_wp2
  go_loopw [3, 4] (fun v i wr => ∃ k : Nat, k ≤ s.size ∧ i = .int .i64 (k : Int) ∧ Hid (wr.ownsRow w.heap.size 5 1 v (2 * k) (u8s (hexL (s.data.toList.take k))) ∧ Below w.heap.size w wr)) (fun _ i _ => s.size - (intOf i).toNat)
  case atStart => exact ⟨0, by omega, rfl, Lib.hid ⟨World.ownsRow_nil _ _ _ _, Below.refl _ _⟩⟩
  case round =>
    obtain ⟨k, hk, rfl, HR⟩ := hrel
    by_cases hlt : k < s.size
    · obtain ⟨c, hc⟩ : ∃ c, byteAt s k = c := ⟨_, rfl⟩
      have hn := c.toNat_lt
      obtain ⟨hi, hhi⟩ : ∃ hi, c.toNat / 16 = hi := ⟨_, rfl⟩
      obtain ⟨lo, hlo⟩ : ∃ lo, c.toNat % 16 = lo := ⟨_, rfl⟩
      have q1 : (c.toNat : Int) / 16 = (hi : Int) := by omega
      have q2 : (c.toNat : Int) % 16 = (lo : Int) := by omega
      have q3 : Int.tmod (c.toNat : Int) 16 = (lo : Int) := by rw [Int.tmod_eq_emod_of_nonneg (by omega)]; exact q2
      have hi16 : hi < 16 := by omega
      have lo16 : lo < 16 := by omega
      have hi16i : (hi : Int) < 16 := by omega
      have lo16i : (lo : Int) < 16 := by omega
      have w1h : IntKind.u8.wrap (hi : Int) = (hi : Int) := by rw [IntKind.wrap_u8]; omega
      have w2h : IntKind.i64.wrap (hi : Int) = (hi : Int) := IntWalk.i64_in _ (by omega)
      have w1l : IntKind.u8.wrap (lo : Int) = (lo : Int) := by rw [IntKind.wrap_u8]; omega
      have w2l : IntKind.i64.wrap (lo : Int) = (lo : Int) := IntWalk.i64_in _ (by omega)
      have g0 : s[k] = c := (byteAt_get s k hlt).trans hc
      have g1 := dig_get hi hi16
      have g2 := dig_get lo lo16
      have HX : Hid (u8s (hexL (s.data.toList.take (k + 1))) = u8s (hexL (s.data.toList.take k)) ++ [.int .u8 ((digF hi).toNat : Int), .int .u8 ((digF lo).toNat : Int)]) := Lib.hid (by
        have hk' : k < s.data.toList.length := by rw [HSL.out]; exact hlt
        have e : s.data.toList.take (k + 1) = s.data.toList.take k ++ [c] := by
          rw [List.take_add_one, List.getElem?_eq_getElem hk', ← hc]
          unfold byteAt
          rw [List.getD_eq_getElem?_getD, List.getElem?_eq_getElem hk']; rfl
        rw [e, hexL_snoc, hhi, hlo]
        simp [u8s])
      have hb1 : 2 * k ≤ 4611686018427387904 := by omega
      have hb2 : (2 * k + 2) * 1 ≤ 140737488355328 := by omega
      have hle := HR.out.2.size
      clear hhi hlo hc
      go_wp2
      go_region_held3 (fun w' => True) (first | trivial)
        ((refine step_append2 elemByte (by rfl) _ _ (by rfl) w.heap.size u3 (2 * k) (u8s (hexL (s.data.toList.take k))) (by rfl) HR.out.1 _ _ (by rfl) (by rfl) (by rfl) hb1 hb2 hle ?_; intro v' w' ho' hg' hd'))
      all_goals
        have HR' : Hid (w'.ownsRow w.heap.size 5 1 v' (2 * (k + 1)) (u8s (hexL (s.data.toList.take (k + 1)))) ∧ Below w.heap.size w w') := Lib.hid (by
          obtain ⟨r1, r4⟩ := HR.out
          exact ⟨by rw [HX.out, Nat.mul_add]; exact ho', below_grown r4 hg' (fun x hx => own_ge r1 _ hx)⟩)
        clear ho' hg' hd'
        go_wp2
        go_roundw
        case rel => exact ⟨k + 1, by omega, by go_num, HR'⟩
        case measure => simp [intOf]; omega
    · obtain rfl : k = s.size := by omega
      have TK : Hid (s.data.toList.take s.size = s.data.toList) := Lib.hid (List.take_of_length_le (by rw [HSL.out]; exact Nat.le_refl _))
      obtain ⟨A, c, rfl, hrd⟩ := own_reads HR.out.1
      obtain ⟨ad, rfl, _, hcell⟩ := reads_u8 hrd (by omega)
      have HC := Lib.hid hcell
      have BL := Lib.hid HR.out.2
      have HLN : Hid ((hexL (s.data.toList.take s.size)).length = 2 * s.size) := Lib.hid (by rw [hexL_len, TK.out, HSL.out])
      have hbz : (bs (hexL (s.data.toList.take s.size))).size ≤ 2147483648 := by rw [bs_size, HLN.out]; omega
      obtain ⟨n, hn⟩ : ∃ n, 2 * s.size = n := ⟨_, rfl⟩
      rw [hn] at HC HLN ⊢
      clear hrd hcell HR hn
      go_wp2_with (with_reducible refine conv_str_wp (e := 5) (by kernel_rfl) (by kernel_rfl) (by kernel_rfl) rfl _ rfl ad n c rfl (hexL (s.data.toList.take s.size)) HLN.out HC.out ?_)
      go_ret
      exact ⟨by rw [TK.out]; rfl, BL.out⟩
set_option maxRecDepth 100000 in
theorem rtext_any (I : Nat → UInt8) (w : World) :
    Calls Try.prog 44 #[.agg (idA I)] w fun e w' => e = .returned (.string (bs (textL I))) ∧ Below w.heap.size w w' := by
  have R1 := Lib.hid (id_row w I 28)
  have ht : Try.prog.underlying 28 = some (.array 32 5) := by kernel_rfl
  have hall : ∀ W, (Instr.sliceAt 28 (.pointer (some ⟨w.heap.size, 0, none⟩)) none none none).run Try.prog W = .ok (.slice (some ⟨w.heap.size, 0, none⟩) 32 32) W := fun W => by
    obtain ⟨i, hi⟩ := Option.isSome_iff_exists.1 (show (Try.prog.info? 5).isSome = true by kernel_rfl)
    exact run_all_array (P := Try.prog) W (t := 28) (n := 32) ht hi _
  have RC : Hid (∀ j, j < 32 → (w.alloc (.cells (idA I) 28)).cell? (({ block := w.heap.size, off := 0 } : Addr).add j) = some (.int .u8 ((((List.range 32).map I).getD j 0).toNat : Int))) := Lib.hid (fun j hj => by
    rw [add0, R1.out.cell hj]; simp [u8V, List.getD, hj])
  have L32 : Hid (((List.range 32).map I).length = 32) := Lib.hid (by simp)
  have BZ := Lib.hid (show (bs ((List.range 32).map I)).size = 32 by rw [bs_size]; simp)
  have TL : Hid (bs (hexL (bs ((List.range 32).map I)).data.toList) = bs (textL I)) := Lib.hid (by rw [bs_data]; rfl)
  have BA : Hid (Below w.heap.size w (w.alloc (.cells (idA I) 28))) := Lib.hid ((Below.refl _ _).alloc (Nat.le_refl _) _)
  clear ht
  go_enter Try.func44, Try.ntmps44
  go_wp2_with (with_reducible refine conv_str_wp (e := 5) (by kernel_rfl) (by kernel_rfl) (by kernel_rfl) rfl _ rfl ⟨w.heap.size, 0, none⟩ 32 32 rfl ((List.range 32).map I) L32.out RC.out ?_)
  refine (rhex_any (bs ((List.range 32).map I)) _ (by rw [BZ.out]; decide) (by rw [BZ.out]; decide)).mono ?_; rintro e w' ⟨rfl, hb⟩
  rw [TL.out]
  have B2 := Lib.hid (BA.out.trans (hb.mono BA.out.size))
  clear hb
  go_wp2
  go_ret
  exact ⟨rfl, B2.out⟩
end Go.Proofs.Ytbfmdingbgdflaa
