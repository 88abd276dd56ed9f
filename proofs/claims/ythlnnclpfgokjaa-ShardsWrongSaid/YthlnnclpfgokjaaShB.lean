/- Walk: shards.sum: shards, each times a number, summed up. -/
import Derived.Test.YthlnnclpfgokjaaShA
import Derived.Test.YthlnnclpfgokjaaRefMade
import Derived.StillTailTactics
namespace Go.Proofs.Ythlnnclpfgokjaa
open Go.RowKit Gf
set_option linter.unusedVariables false
theorem times_x (x y : Int) (a b : UInt8) (hx : x = (a.toNat : Int)) (hy : y = (b.toNat : Int)) (w : World) :
    Calls Try.prog 22 #[.int .u8 x, .int .u8 y] w fun e w' => e = .returned (.int .u8 ((gm a b).toNat : Int)) ∧ w = w' := by
  subst hx hy; exact times_any a b w
theorem bytes_made48 (w : World) (n : Nat) (hn : n ≤ 281474976710656) :
    (Instr.makeSlice 44 (.int .i64 (n : Int)) (.int .i64 (n : Int))).run Try.prog w = .ok (.slice (some ⟨w.heap.size, 0, none⟩) n n) (w.alloc (.cells (madeCells #[.int .u8 0] n) 5)) := by
  obtain ⟨i, hi, h1, h2, h3⟩ := elemByte.info
  have := run_make_rowN (P := Try.prog) 44 5 i _ (by kernel_rfl) hi h1 .i64 .i64 n n (Nat.le_refl _) (by rw [h3]; omega) (by omega) w
  rw [h2, Nat.mul_one] at this
  exact this
def accS (b : ByteArray) (ss : List ByteArray) (j x : Nat) : UInt8 := sm (fun t => gm (byteAt b t) (byteAt (sAt ss t) x)) j
def accG (b : ByteArray) (ss : List ByteArray) (j i : Nat) : Nat → UInt8 := fun x => if x < i then accS b ss (j + 1) x else accS b ss j x
def tabG (c : UInt8) (x : Nat) : Nat → UInt8 := fun y => if y < x then gm c (UInt8.ofNat y) else 0
theorem accG_zero (b : ByteArray) (ss : List ByteArray) (j : Nat) : accG b ss j 0 = accS b ss j := by funext x; unfold accG; rw [if_neg (by omega)]
theorem accG_end (b : ByteArray) (ss : List ByteArray) (j L x : Nat) (hx : x < L) : accG b ss j L x = accG b ss (j + 1) 0 x := by
  rw [accG_zero]; unfold accG; rw [if_pos hx]
theorem acc_set (b : ByteArray) (ss : List ByteArray) (j k x : Nat) (v : Int) (hv : v = ((accS b ss j k ^^^ gm (byteAt b j) (byteAt (sAt ss j) k)).toNat : Int)) :
    (if x = k then Value.int .u8 v else u8V (accG b ss j k) x) = u8V (accG b ss j (k + 1)) x := by
  simp only [u8V, accG]
  by_cases e : x = k
  · subst e
    rw [if_pos rfl, if_pos (by omega), hv]; rfl
  · rw [if_neg e]
    by_cases h : x < k
    · rw [if_pos h, if_pos (by omega)]
    · rw [if_neg h, if_neg (by omega)]
theorem tab_set (c : UInt8) (x y : Nat) : (if y = x then Value.int .u8 ((gm c (UInt8.ofNat x)).toNat : Int) else u8V (tabG c x) y) = u8V (tabG c (x + 1)) y := by
  simp only [u8V, tabG]
  by_cases e : y = x
  · subst e; rw [if_pos rfl, if_pos (by omega)]
  · rw [if_neg e]
    by_cases h : y < x
    · rw [if_pos h, if_pos (by omega)]
    · rw [if_neg h, if_neg (by omega)]
theorem tab_at (c d : UInt8) : tabG c 256 d.toNat = gm c d := by
  unfold tabG
  rw [if_pos d.toNat_lt]; simp

set_option maxRecDepth 100000 in
set_option maxHeartbeats 1000000 in
theorem sum_any (b : ByteArray) (A : Option Addr) (n c : Nat) (ss : List ByteArray) (w : World) (B : Nat) (h : Reads w B 1 A n (strV ss)) (hB : B ≤ w.heap.size) (h1 : 1 ≤ n) (h2 : n ≤ 64) (ha : alikeB ss = true)
    (hs : (sAt ss 0).size ≤ 281474976710656) (hb : n ≤ b.size) :
    Calls Try.prog 67 #[.string b, .slice A n c] w fun e w' => e = .returned (.string (sumL b ss)) ∧ Below w.heap.size w w' := by
  have hl := h.len
  have HA : Hid (∀ k, k < n → (sAt ss k).size = (sAt ss 0).size) := Lib.hid (fun k hk => (alikeB_iff ss).1 ha k (by omega))
  have X : Hid (sumL b ss = bs ((List.range (sAt ss 0).size).map fun x => accS b ss n x)) := Lib.hid (by unfold sumL accS; rw [hl])
  have HH := Lib.hid h
  clear hl ha h
  obtain ⟨L, hL⟩ : ∃ L, (sAt ss 0).size = L := ⟨_, rfl⟩
  have HL := Lib.hid hL
  rw [hL] at hs
  have hmk := fun W => bytes_made48 W L hs
  obtain ⟨ad, hA, hbl, hc⟩ := HH.out.str (k := 0) (by omega)
  have hc0 : w.cell? ad = some (.string (sAt ss 0)) := by have := hc 0 (by omega); simpa [Addr.add] using this
  subst hA
  have HC := Lib.hid hc
  clear hc
  have Z := Lib.hid (fun W : World => zeros_row W (T := 74) zeros_u8)
  go_enter Try.func67, Try.ntmps67
  go_wp2
  clear hmk hc0 hL
  go_loopw [18] (fun i wr => ∃ k : Nat, k ≤ n ∧ i = .int .i64 k ∧ Hid (wr.rowIs w.heap.size 5 L (u8V (accG b ss k 0)) ∧ Below w.heap.size w wr)) (fun i _ => n - (intOf i).toNat)
  case atStart =>
    refine ⟨0, by omega, rfl, Lib.hid ⟨(World.rowIs_made w (.int .u8 0) L 5).congr fun i hi => ?_, (Below.refl _ _).alloc (Nat.le_refl _) _⟩⟩
    rw [accG_zero]; rfl
  case round =>
    obtain ⟨k, hk, rfl, HR⟩ := hrel
    by_cases hlt : k < n
    · have hck : wr.cell? (ad.add k) = some (.string (sAt ss k)) := (HR.out.2.cell (by rw [block_of_add]; omega)).trans (HC.out k hlt)
      have HS := Lib.hid (HA.out k hlt)
      have hkb : k < b.size := by omega
      have HG := Lib.hid (byteAt_get b k hkb)
      have hle := HR.out.2.size
      go_wp2
      obtain ⟨wo, rfl⟩ : ∃ wo : World, wo = wr := ⟨_, rfl⟩
      have HK := Lib.hid HR.out
      clear HR hck
      go_loopw [23] (fun i wr => ∃ x : Nat, x ≤ 256 ∧ i = .int .i64 x ∧ Hid (wr.rowIs wo.heap.size 74 256 (u8V (tabG (byteAt b k) x)) ∧ wr.rowIs w.heap.size 5 L (u8V (accG b ss k 0)) ∧ Below w.heap.size w wr)) (fun i _ => 256 - (intOf i).toNat)
      case atStart =>
        exact ⟨0, by omega, rfl, Lib.hid ⟨(Z.out wo).congr fun i _ => by simp [u8V, tabG], HK.out.1.alloc _, HK.out.2.alloc hle _⟩⟩
      case round =>
        obtain ⟨x, hx, rfl, HX⟩ := hrel
        by_cases hxl : x < 256
        · obtain ⟨v1, hc1⟩ : ∃ v, wr.cell? ⟨wo.heap.size, x, none⟩ = some v := ⟨_, HX.out.1.cell hxl⟩
          have hf1 : wr.frozen? ⟨wo.heap.size, x, none⟩ = false := HX.out.1.frozen _
          have hxi : (x : Int) < 256 := by omega
          go_wp2_with fail
          refine (times_x _ _ (byteAt b k) (UInt8.ofNat x) (by rw [← HG.out]) (u8_nat x hxl) _).mono ?_
          rintro e w' ⟨rfl, rfl⟩
          go_wp2
          go_roundw
          case rel => exact ⟨x + 1, by omega, by go_num, Lib.hid ⟨(HX.out.1.set x _).congr fun i _ => tab_set _ _ _, HX.out.2.1.setOther (by intro e; have : w.heap.size = wo.heap.size := e; have := HK.out.1.lt; omega) _, HX.out.2.2.setCell hle _⟩⟩
          case measure => simp [intOf]; omega
        · have HT : Hid (wr.rowIs wo.heap.size 74 256 (u8V (tabG (byteAt b k) 256)) ∧ wr.rowIs w.heap.size 5 L (u8V (accG b ss k 0)) ∧ Below w.heap.size w wr) := Lib.hid (by
            have h := HX.out
            rw [show x = 256 from by omega] at h
            exact h)
          clear HX
          have hne : w.heap.size < wo.heap.size := HK.out.1.lt
          clear HK
          go_wp2
          obtain ⟨wx, rfl⟩ : ∃ wx : World, wx = wr := ⟨_, rfl⟩
          go_loopw [37] (fun i wr => ∃ y : Nat, y ≤ L ∧ i = .int .i64 y ∧ Hid (wr.rowIs wo.heap.size 74 256 (u8V (tabG (byteAt b k) 256)) ∧ wr.rowIs w.heap.size 5 L (u8V (accG b ss k y)) ∧ Below w.heap.size w wr)) (fun i _ => L - (intOf i).toNat)
          case atStart => exact ⟨0, by omega, rfl, HT⟩
          case round =>
            obtain ⟨y, hy, rfl, HY⟩ := hrel
            by_cases hyl : y < L
            · have hyS : y < (sAt ss k).size := by rw [HS.out, HL.out]; exact hyl
              have HE := Lib.hid (byteAt_get (sAt ss k) y hyS)
              generalize hsk : sAt ss k = sk at hyS HE ⊢
              have HSK := Lib.hid hsk
              clear hsk
              have hc1 : wr.cell? ⟨w.heap.size, y, none⟩ = some (.int .u8 ((accS b ss k y).toNat : Int)) := by
                rw [HY.out.2.1.cell hyl]; simp only [u8V, accG]; rw [if_neg (by omega)]
              have hf1 : wr.frozen? ⟨w.heap.size, y, none⟩ = false := HY.out.2.1.frozen _
              have hd1 : (sk[y]'hyS).toNat < 256 := UInt8.toNat_lt _
              have hd2 : ((sk[y]'hyS).toNat : Int) < 256 := by omega
              have hc2 : wr.cell? ⟨wo.heap.size, (sk[y]'hyS).toNat, none⟩ = some (.int .u8 ((gm (byteAt b k) (sk[y]'hyS)).toNat : Int)) := by
                rw [HY.out.1.cell hd1]; simp only [u8V, tab_at]
              have XB := Lib.hid (xor_bits (accS b ss k y) (gm (byteAt b k) (sk[y]'hyS)))
              have hyi : (y : Int) < (L : Int) := by omega
              have hysi : (y : Int) < (sk.size : Int) := by omega
              go_wp2
              refine wp_region_still_tail 11 (by kernel_rfl) (by kernel_rfl) ?_
              simp only [List.take_succ_cons, List.take_zero, List.drop_succ_cons, List.drop_zero]
              repeat still_step
              try refine wpStill_nil ?_
              go_wp2
              go_roundw
              case rel => exact ⟨y + 1, by omega, by go_num, Lib.hid ⟨HY.out.1.drew.setOther (by show wo.heap.size ≠ w.heap.size; omega) _, (HY.out.2.1.drew.set y _).congr fun i _ => acc_set _ _ _ _ _ _ (by rw [XB.out, HE.out, HSK.out]), HY.out.2.2.drew.setCell (Nat.le_refl _) _⟩⟩
              case measure => simp [intOf]; omega
            · obtain rfl : y = L := by omega
              go_wp2
              go_roundw
              case rel => exact ⟨k + 1, by omega, by go_num, Lib.hid ⟨HY.out.2.1.congr fun i hi => by simp only [u8V]; rw [accG_end _ _ _ _ _ hi], HY.out.2.2⟩⟩
              case measure => simp [intOf]; omega
    · obtain rfl : k = n := by omega
      have hstr : (convert 44 9 (.slice (some ⟨w.heap.size, 0, none⟩) L L)).run Try.prog wr = .ok (.string (bs ((List.range L).map fun x => accS b ss k x))) wr := by
        refine runStr _ _ _ _ (by simp) fun j hj => ?_
        rw [add0, HR.out.1.cell hj]
        simp [u8V, accG, List.getD, hj]
      go_wp2
      go_ret
      exact ⟨by rw [X.out, HL.out]; rfl, HR.out.2⟩
end Go.Proofs.Ythlnnclpfgokjaa
