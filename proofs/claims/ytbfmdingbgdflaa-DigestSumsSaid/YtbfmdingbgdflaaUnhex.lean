/- Walks: Unhex of any text, wire's and the reference's; Parse of any text, digest's and the reference's. Conditions: the text can be held. -/
import Derived.Test.YtbfmdingbgdflaaParse
namespace Go.Proofs.Ytbfmdingbgdflaa
open Go.RowKit
set_option linter.unusedVariables false
attribute [local go_sem ↓] execOp_ld32 execOp_st32 execOp_ld16 execOp_st16
attribute [local go_sem] run_ld32 run_st32 run_ld16 run_st16
/-- All digits good, and an even number of them. -/
def uhG (s : ByteArray) : Prop := s.size % 2 = 0 ∧ ∀ j, j < s.size → 0 ≤ dvB (byteAt s j)
/-- What Unhex tells. -/
def UhR (s u : ByteArray) (e : Int) : Prop := (uhG s ∧ u = bs (unL s (s.size / 2)) ∧ e = 0) ∨ (¬ uhG s ∧ u = { data := #[] } ∧ e = 4)
theorem and1 (n : Nat) (h : n < 9223372036854775808) : bits .and .i64 (n : Int) 1 = ((n % 2 : Nat) : Int) := by
  have hx : n &&& 1 < 2 ^ 63 := Nat.and_lt_two_pow _ (by omega)
  show IntKind.i64.wrap ((BitVec.ofInt 64 (n : Int) &&& BitVec.ofInt 64 1).toNat : Int) = _
  rw [BitVec.toNat_and, show (BitVec.ofInt 64 (n : Int)).toNat = n from by rw [BitVec.ofInt_natCast, BitVec.toNat_ofNat]; exact Nat.mod_eq_of_lt (by omega), show (BitVec.ofInt 64 1).toNat = 1 from rfl, Nat.and_one_is_mod]
  exact IntWalk.i64_in _ (by omega)
set_option maxRecDepth 100000 in
set_option maxHeartbeats 0 in
theorem unhex_any (s : ByteArray) (w : World) (hs : s.size ≤ 140737488351232) :
    Calls Try.prog 74 #[.string s] w fun e w' => (∃ u k, e = .returned (.tuple #[.string u, .int .i64 k]) ∧ UhR s u k) ∧ Below w.heap.size w w' := by
  have ht : Try.prog.underlying 134 = some (.array 16 5) := by kernel_rfl
  have hall : ∀ N W, (Instr.sliceAt 134 (.pointer (some ⟨N, 0, none⟩)) none none none).run Try.prog W = .ok (.slice (some ⟨N, 0, none⟩) 16 16) W := fun N W => by
    obtain ⟨i, hi⟩ := Option.isSome_iff_exists.1 (show (Try.prog.info? 5).isSome = true by kernel_rfl)
    exact run_all_array (P := Try.prog) W (t := 134) (n := 16) ht hi _
  clear ht
  go_enter Try.func74, Try.ntmps74
  go_wp2_with fail
  refine (digits_any _).mono ?_; rintro e w1 ⟨rfl, hb⟩
  obtain ⟨h1, h2, h3, h4⟩ := dig_new w1
  have f1 := dgA_full digF
  have H1 := Lib.hid (And.intro h2 (And.intro h3 hb))
  clear h2 h3 h4 hb
  unfold z16 at h1
  go_upto_region 2 with fail
  change Code.wp _ _ _ _ (put16 (w1.alloc z16) w1.heap.size 0 (dgA digF))
  have R1 : Hid (Below w.heap.size w (put16 (w1.alloc z16) w1.heap.size 0 (dgA digF))) := Lib.hid (H1.out.2.2.trans (H1.out.2.1.mono H1.out.2.2.size))
  generalize put16 (w1.alloc z16) w1.heap.size 0 (dgA digF) = w2 at H1 R1 ⊢
  obtain ⟨D, hD⟩ : ∃ D, w1.heap.size = D := ⟨_, rfl⟩
  rw [hD] at H1 ⊢
  clear hD h1 f1
  have RC : Hid (∀ j, j < 16 → w2.cell? (({ block := D, off := 0 } : Addr).add j) = some (.int .u8 ((((List.range 16).map digF).getD j 0).toNat : Int))) := Lib.hid (fun j hj => by
    rw [add0, H1.out.1.cell hj]; simp [u8V, List.getD, hj])
  have L16 : Hid (((List.range 16).map digF).length = 16) := Lib.hid (by simp)
  obtain ⟨dl, hdl⟩ : ∃ dl, (List.range 16).map digF = dl := ⟨_, rfl⟩
  have DS : bs dl = digS := by rw [← hdl]; rfl
  rw [hdl] at RC L16
  clear hdl
  obtain ⟨n, hn⟩ : ∃ n, s.size = n := ⟨_, rfl⟩
  have hand := and1 n (by omega)
  by_cases hodd : n % 2 = 1
  · have hG : Hid (¬ uhG s) := Lib.hid (fun h => by have := h.1; omega)
    rw [hodd] at hand
    have hand1 : bits .and .i64 (n : Int) 1 = 1 := hand
    rw [← hn] at hand1
    clear hand hn
    go_wp2_with (with_reducible refine conv_str_wp (e := 5) (by kernel_rfl) (by kernel_rfl) (by kernel_rfl) rfl _ rfl ⟨D, 0, none⟩ 16 16 rfl dl L16.out RC.out ?_)
    go_ret2
    exact ⟨⟨_, _, rfl, .inr ⟨hG.out, rfl, rfl⟩⟩, R1.out⟩
  rw [show n % 2 = 0 by omega] at hand
  have hand1 : bits .and .i64 (n : Int) 1 = 0 := hand
  obtain ⟨m, hm⟩ : ∃ m, n = 2 * m := ⟨n / 2, by omega⟩
  have hmi : (n : Int) / 2 = (m : Int) := by omega
  have hn0 : (n : Int) = (s.size : Int) := by omega
  rw [hn0] at hand1 hmi
  have hm2 : m ≤ 70368744175616 := by omega
  have HN : Hid (s.size = 2 * m) := Lib.hid (by omega)
  clear hand hn0 hn
  go_wp2_with (first
    | (with_reducible refine conv_str_wp (e := 5) (by kernel_rfl) (by kernel_rfl) (by kernel_rfl) rfl _ rfl ⟨D, 0, none⟩ 16 16 rfl dl L16.out RC.out ?_)
    | (with_reducible refine make0_wp elemByte rfl _ _ rfl w2.heap.size _ .i64 (m : Int) m rfl rfl rfl (by omega) (by omega) (Nat.le_refl _) ?_; intro v0 w3 ho3 hg3))
  have I3 : Hid (w3.ownsRow w2.heap.size 5 1 v0 0 (u8s (unL s 0)) ∧ Below w.heap.size w w3 ∧ w.heap.size ≤ w2.heap.size ∧ w2.heap.size ≤ w3.heap.size) := Lib.hid ⟨ho3, below_grown R1.out hg3 (fun g hg => by cases hg), R1.out.size, hg3.size⟩
  clear ho3 hg3 RC L16 H1
  obtain ⟨base, hbase⟩ : ∃ base, w2.heap.size = base := ⟨_, rfl⟩
  rw [hbase] at I3
  clear hbase R1 hmi hand1
  try rw [DS]
  clear DS
  generalize hdg : digS = dg at *
  have HGD := Lib.hid hdg
  clear hdg hodd
  subst hm
  go_loopw [7, 6] (fun i v wr => ∃ k : Nat, k ≤ m ∧ i = .int .i64 ((2 * k : Nat) : Int) ∧ Hid (wr.ownsRow base 5 1 v k (u8s (unL s k)) ∧ Below w.heap.size w wr ∧ w.heap.size ≤ base ∧ base ≤ wr.heap.size) ∧ Hid (∀ j, j < 2 * k → 0 ≤ dvB (byteAt s j))) (fun i _ _ => 2 * m - (intOf i).toNat)
  case atStart => exact ⟨0, by omega, rfl, I3, Lib.hid (fun j hj => absurd hj (by omega))⟩
  case round =>
    obtain ⟨k, hk, rfl, HR, HJ⟩ := hrel
    obtain ⟨q, hq⟩ : ∃ q, 2 * k = q := ⟨_, rfl⟩
    rw [hq]
    by_cases hlt : k < m
    · have hsz2 := HN.out
      have hqs : q < s.size := by omega
      have hqs1 : q + 1 < s.size := by omega
      obtain ⟨x, hx⟩ : ∃ x, byteAt s q = x := ⟨_, rfl⟩
      obtain ⟨y, hy⟩ : ∃ y, byteAt s (q + 1) = y := ⟨_, rfl⟩
      obtain ⟨d1, hd1⟩ : ∃ d, dvB x = d := ⟨_, rfl⟩
      obtain ⟨d2, hd2⟩ : ∃ d, dvB y = d := ⟨_, rfl⟩
      have C1 : ∀ W, Calls Try.prog 94 #[.string dg, .int .u8 (x.toNat : Int)] W fun e w' => e = .returned (.int .i64 d1) ∧ W = w' := fun W => by
        rw [← hd1, ← HGD.out]; exact strIdx_any digS _ W
      have C2 : ∀ W, Calls Try.prog 94 #[.string dg, .int .u8 (y.toNat : Int)] W fun e w' => e = .returned (.int .i64 d2) ∧ W = w' := fun W => by
        rw [← hd2, ← HGD.out]; exact strIdx_any digS _ W
      have g1 : s[q] = x := (byteAt_get s q hqs).trans hx
      have g2 : s[q + 1] = y := (byteAt_get s (q + 1) hqs1).trans hy
      have hqi : (q : Int) < (s.size : Int) := by omega
      have hqi1 : (q : Int) + 1 < (s.size : Int) := by omega
      have hq2 : (q : Int) + 2 = ((2 * (k + 1) : Nat) : Int) := by omega
      have z1 := dvB_lt x
      have z2 := dvB_lt y
      rw [hd1] at z1
      rw [hd2] at z2
      clear hsz2
      have HX := Lib.hid (And.intro (hx ▸ hd1 : dvB (byteAt s q) = d1) (hy ▸ hd2 : dvB (byteAt s (q + 1)) = d2))
      clear hx hy hd1 hd2
      go_wp2_with fail
      go_quiet (first | exact quiet_left (C1 _) | exact quiet_left (C2 _) | exact quiet_add_left (C1 _) | exact quiet_add_left (C2 _))
      clear C1 C2
      by_cases hb1 : d1 < 0
      · have hG : Hid (¬ uhG s) := Lib.hid (fun h => by have := h.2 q hqs; rw [HX.out.1] at this; omega)
        have BL := Lib.hid HR.out.2.1
        go_wp2
        go_ret2
        exact ⟨⟨_, _, rfl, .inr ⟨hG.out, rfl, rfl⟩⟩, below_drewN BL.out nq⟩
      by_cases hb2 : d2 < 0
      · have hG : Hid (¬ uhG s) := Lib.hid (fun h => by have := h.2 (q + 1) hqs1; rw [HX.out.2] at this; omega)
        have BL := Lib.hid HR.out.2.1
        go_wp2
        go_ret2
        exact ⟨⟨_, _, rfl, .inr ⟨hG.out, rfl, rfl⟩⟩, below_drewN BL.out nq⟩
      obtain ⟨dd, rfl⟩ : ∃ dd : Nat, d1 = (dd : Int) := ⟨d1.toNat, by omega⟩
      obtain ⟨l, rfl⟩ : ∃ l : Nat, d2 = (l : Int) := ⟨d2.toNat, by omega⟩
      have h16 : dd < 16 := by omega
      have l16 : l < 16 := by omega
      have HV : Hid (unL s (k + 1) = unL s k ++ [UInt8.ofNat (16 * dd + l)]) := Lib.hid (by
        rw [unL_succ, hq]; unfold hv; rw [HX.out.1, HX.out.2]; rfl)
      have HJ' : Hid (∀ j, j < 2 * (k + 1) → 0 ≤ dvB (byteAt s j)) := Lib.hid (fun j hj => by
        rcases Nat.lt_or_ge j (2 * k) with h | h
        · exact HJ.out j h
        · have : j = q ∨ j = q + 1 := by omega
          rcases this with rfl | rfl
          · rw [HX.out.1]; omega
          · rw [HX.out.2]; omega)
      have OR := or4 dd h16 l l16
      have OWN := Lib.hid (own_drewN HR.out.1 nq)
      have hle := HR.out.2.2.2
      have hle' : base ≤ (wr.drewN nq).heap.size := hle
      have hNN : wr.heap.size = (wr.drewN nq).heap.size := rfl
      have hk1 : k ≤ 4611686018427387904 := by omega
      have hk2 : (k + 1) * 1 ≤ 140737488355328 := by omega
      go_wp2_with (with_reducible refine append1_at elemByte rfl _ _ rfl base u6 k (u8s (unL s k)) rfl OWN.out _ wr.heap.size rfl hNN rfl hk1 hk2 hle' ?_; intro v' w' ho' hg')
      have HR' : Hid (w'.ownsRow base 5 1 v' (k + 1) (u8s (unL s (k + 1))) ∧ Below w.heap.size w w' ∧ w.heap.size ≤ base ∧ base ≤ w'.heap.size) := Lib.hid (by
        refine ⟨?_, below_grown (below_drewN HR.out.2.1 nq) hg' (fun g hg => by have := own_ge HR.out.1 _ hg; have := HR.out.2.2.1; omega), HR.out.2.2.1, Nat.le_trans HR.out.2.2.2 hg'.size⟩
        rw [HV.out]
        have e : u8s (unL s k ++ [UInt8.ofNat (16 * dd + l)]) = u8s (unL s k) ++ [.int .u8 (16 * (dd : Int) + (l : Int))] := by
          simp only [u8s, List.map_append, List.map_cons, List.map_nil]
          congr 3
          rw [UInt8.toNat_ofNat']; omega
        rw [e]
        exact ho')
      clear ho' hg'
      go_wp2
      go_roundw
      case rel => exact ⟨k + 1, by omega, by have := hq2; first | (congr 1; omega) | congr 1, HR', HJ'⟩
      case measure => simp [intOf]; omega
    · obtain rfl : k = m := by omega
      have hG : Hid (uhG s) := Lib.hid ⟨by have := HN.out; omega, fun j hj => HJ.out j (by have := HN.out; omega)⟩
      have EU : Hid (bs (unL s (s.size / 2)) = bs (unL s k)) := Lib.hid (by rw [HN.out, Nat.mul_div_cancel_left _ (by omega)])
      obtain ⟨A, c, rfl, hrd⟩ := own_reads HR.out.1
      have BL := Lib.hid HR.out.2.1
      have ULN := Lib.hid (unL_len s k)
      have hqe : (q : Int) = (s.size : Int) := by have := HN.out; omega
      rw [hqe]
      by_cases h0 : k = 0
      · subst h0
        have HE : Hid (unL s 0 = []) := Lib.hid rfl
        rcases A with _ | ad
        · have hcn : ∀ W, (convert 48 9 (.slice none 0 c)).run Try.prog W = .ok (.string { data := #[] }) W := fun W => by
            simp [convert, Conv.bytesToString, go_sem]; rfl
          go_wp2
          go_ret2
          exact ⟨⟨_, _, rfl, .inl ⟨hG.out, by rw [EU.out, HE.out]; rfl, rfl⟩⟩, BL.out⟩
        · go_wp2_with (with_reducible refine conv_str_wp (e := 5) (by kernel_rfl) (by kernel_rfl) (by kernel_rfl) rfl _ rfl ad 0 c rfl [] rfl (fun j hj => absurd hj (by omega)) ?_)
          go_ret2
          exact ⟨⟨_, _, rfl, .inl ⟨hG.out, by rw [EU.out, HE.out], rfl⟩⟩, BL.out⟩
      · obtain ⟨ad, rfl, _, hcell⟩ := reads_u8 hrd (by omega)
        have HC := Lib.hid hcell
        clear hcell
        go_wp2_with (with_reducible refine conv_str_wp (e := 5) (by kernel_rfl) (by kernel_rfl) (by kernel_rfl) rfl _ rfl ad k c rfl (unL s k) ULN.out HC.out ?_)
        go_ret2
        exact ⟨⟨_, _, rfl, .inl ⟨hG.out, by rw [EU.out], rfl⟩⟩, BL.out⟩
end Go.Proofs.Ytbfmdingbgdflaa
