/- Walk: the reference's made: shards, each times a number, summed up. -/
import Derived.Test.YthlnnclpfgokjaaShB
namespace Go.Proofs.Ythlnnclpfgokjaa
open Go.RowKit Gf
set_option linter.unusedVariables false
theorem accS_skip (b : ByteArray) (ss : List ByteArray) (k x : Nat) (h : byteAt b k = 0) : accS b ss (k + 1) x = accS b ss k x := by
  unfold accS; rw [sm, h, zero_gm, UInt8.xor_zero]
set_option maxRecDepth 100000 in
set_option maxHeartbeats 1000000 in
theorem rmade_any (A' : Option Addr) (n' c' : Nat) (l : List UInt8) (A : Option Addr) (n c : Nat) (ss : List ByteArray) (w : World) (B B' : Nat) (h' : Reads w B' 1 A' n' (u8s l)) (hB' : B' ≤ w.heap.size)
    (h : Reads w B 1 A n (strV ss)) (hB : B ≤ w.heap.size) (h1 : 1 ≤ n) (h2 : n ≤ 64) (ha : alikeB ss = true)
    (hs : (sAt ss 0).size ≤ 281474976710656) (hb : n ≤ n') :
    Calls Try.prog 66 #[.slice A' n' c', .slice A n c] w fun e w' => e = .returned (.string (sumL (bs l) ss)) ∧ Below w.heap.size w w' := by
  have hl := h.len
  have HA : Hid (∀ k, k < n → (sAt ss k).size = (sAt ss 0).size) := Lib.hid (fun k hk => (alikeB_iff ss).1 ha k (by omega))
  have X : Hid (sumL (bs l) ss = bs ((List.range (sAt ss 0).size).map fun x => accS (bs l) ss n x)) := Lib.hid (by unfold sumL accS; rw [hl])
  have HH := Lib.hid h
  clear hl ha h
  obtain ⟨L, hL⟩ : ∃ L, (sAt ss 0).size = L := ⟨_, rfl⟩
  have HL := Lib.hid hL
  rw [hL] at hs
  have hmk := fun W => bytes_made48 W L hs
  obtain ⟨ad, hA, hbl, hc⟩ := HH.out.str (k := 0) (by omega)
  have hc0 : w.cell? ad = some (.string (sAt ss 0)) := by have := hc 0 (by omega); simpa [Addr.add] using this
  subst hA
  have HC := Lib.hid hc
  clear hc
  obtain ⟨ab, hA', hbl', hcb⟩ := reads_u8 h' (by omega)
  subst hA'
  have HCB := Lib.hid hcb
  clear hcb h'
  go_enter Try.func66, Try.ntmps66
  go_wp2
  clear hmk hc0 hL
  go_loopw [6, 7] (fun i _ wr => ∃ k : Nat, k ≤ n ∧ i = .int .i64 k ∧ Hid (wr.rowIs w.heap.size 5 L (u8V (accG (bs l) ss k 0)) ∧ Below w.heap.size w wr)) (fun i _ _ => n - (intOf i).toNat)
  case atStart =>
    refine ⟨0, by omega, rfl, Lib.hid ⟨(World.rowIs_made w (.int .u8 0) L 5).congr fun i hi => ?_, (Below.refl _ _).alloc (Nat.le_refl _) _⟩⟩
    rw [accG_zero]; rfl
  case round =>
    obtain ⟨k, hk, rfl, HR⟩ := hrel
    by_cases hlt : k < n
    · have hle := HR.out.2.size
      have hkn : k < n' := by omega
      obtain ⟨b, hb0⟩ : ∃ b, l.getD k 0 = b := ⟨_, rfl⟩
      have HBK : Hid (byteAt (bs l) k = b) := Lib.hid (by rw [byteAt_bs]; exact hb0)
      have hbc : wr.cell? (ab.add k) = some (.int .u8 (b.toNat : Int)) := (HR.out.2.cell (by rw [block_of_add]; omega)).trans (by rw [HCB.out k hkn, hb0])
      clear hb0
      by_cases hz : b = 0
      · have hzb : ((b.toNat : Int) == 0) = true := by rw [hz]; rfl
        have HZ := Lib.hid hz
        clear hz
        go_wp2
        go_roundw
        case rel => exact ⟨k + 1, by omega, by go_num, Lib.hid ⟨HR.out.1.congr fun i hi => by simp only [u8V]; rw [accG_zero, accG_zero, accS_skip _ _ _ _ (HBK.out.trans HZ.out)], HR.out.2⟩⟩
        case measure => simp [intOf]; omega
      · have hzb : ((b.toNat : Int) == 0) = false := by
          rw [beq_eq_false_iff_ne]; intro e; exact hz (UInt8.toNat_inj.1 (by simpa using e))
        clear hz
        have HS := Lib.hid (HA.out k hlt)
        go_wp2
        obtain ⟨wo, rfl⟩ : ∃ wo : World, wo = wr := ⟨_, rfl⟩
        have HK := Lib.hid HR.out
        clear HR hbc
        go_loopw [7] (fun i wr => ∃ y : Nat, y ≤ L ∧ i = .int .i64 y ∧ Hid (wr.rowIs w.heap.size 5 L (u8V (accG (bs l) ss k y)) ∧ Below w.heap.size w wr)) (fun i _ => L - (intOf i).toNat)
        case atStart => exact ⟨0, by omega, rfl, HK⟩
        case round =>
          obtain ⟨y, hy, rfl, HY⟩ := hrel
          by_cases hyl : y < L
          · have hyS : y < (sAt ss k).size := by rw [HS.out, HL.out]; exact hyl
            have hbc : wr.cell? (ab.add k) = some (.int .u8 (b.toNat : Int)) := (HY.out.2.cell (by rw [block_of_add]; omega)).trans (by rw [HCB.out k hkn, ← byteAt_bs, HBK.out])
            have hck : wr.cell? (ad.add k) = some (.string (sAt ss k)) := (HY.out.2.cell (by rw [block_of_add]; omega)).trans (HC.out k hlt)
            have HE := Lib.hid (byteAt_get (sAt ss k) y hyS)
            generalize hsk : sAt ss k = sk at hyS HE hck ⊢
            have HSK := Lib.hid hsk
            clear hsk
            have hc1 : wr.cell? ⟨w.heap.size, y, none⟩ = some (.int .u8 ((accS (bs l) ss k y).toNat : Int)) := by
              rw [HY.out.1.cell hyl]; simp only [u8V, accG]; rw [if_neg (by omega)]
            have hf1 : wr.frozen? ⟨w.heap.size, y, none⟩ = false := HY.out.1.frozen _
            have XB := Lib.hid (xor_bits (accS (bs l) ss k y) (gm b (sk[y]'hyS)))
            have hyi : (y : Int) < (L : Int) := by omega
            have hysi : (y : Int) < (sk.size : Int) := by omega
            have hkni : (k : Int) < (n' : Int) := by omega
            have hkn1 : (k : Int) < (n : Int) := by omega
            go_wp2
            refine wp_region_still_tail 19 (by kernel_rfl) (by kernel_rfl) ?_
            simp only [List.take_succ_cons, List.take_zero, List.drop_succ_cons, List.drop_zero]
            repeat still_step
            still_call (swapW (rtimes_any _ _ _))
            repeat still_step
            try refine wpStill_nil ?_
            go_wp2
            go_roundw
            case rel => exact ⟨y + 1, by omega, by go_num, Lib.hid ⟨(HY.out.1.drew.set y _).congr fun i _ => acc_set _ _ _ _ _ _ (by rw [XB.out, HE.out, HSK.out, HBK.out]), HY.out.2.drew.setCell (Nat.le_refl _) _⟩⟩
            case measure => simp [intOf]; omega
          · obtain rfl : y = L := by omega
            go_wp2
            go_roundw
            case rel => exact ⟨k + 1, by omega, by go_num, Lib.hid ⟨HY.out.1.congr fun i hi => by simp only [u8V]; rw [accG_end _ _ _ _ _ hi], HY.out.2⟩⟩
            case measure => simp [intOf]; omega
    · obtain rfl : k = n := by omega
      have hstr : (convert 44 9 (.slice (some ⟨w.heap.size, 0, none⟩) L L)).run Try.prog wr = .ok (.string (bs ((List.range L).map fun x => accS (bs l) ss k x))) wr := by
        refine runStr _ _ _ _ (by simp) fun j hj => ?_
        rw [add0, HR.out.1.cell hj]
        simp [u8V, accG, List.getD, hj]
      go_wp2
      go_ret
      exact ⟨by rw [X.out, HL.out]; rfl, HR.out.2⟩
end Go.Proofs.Ythlnnclpfgokjaa
