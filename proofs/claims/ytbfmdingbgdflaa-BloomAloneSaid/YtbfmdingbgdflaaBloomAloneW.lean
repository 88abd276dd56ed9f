/- Walk: the law BloomAlone returns true. -/
import Derived.Test.YtbfmdingbgdflaaBloJ
namespace Go.Proofs.Ytbfmdingbgdflaa
open Go.RowKit Blo Wir
set_option linter.unusedVariables false
def lowId (i : Nat) : ByteArray := bs [0, 0, 0, UInt8.ofNat i]
def lowIds (k : Nat) : List (Nat → UInt8) := (List.range k).map fun i => byteAt (lowId i)
theorem lowIds_succ (k : Nat) : lowIds (k + 1) = lowIds k ++ [byteAt (lowId k)] := by simp [lowIds, List.range_succ]
theorem low_plc (i : Nat) (h : i < 256) : plc (byteAt (lowId i)) 32 0 = i := by
  unfold plc be4 lowId
  rw [byteAt_bs, byteAt_bs, byteAt_bs, byteAt_bs]
  show (((0 * 256 + 0) * 256 + 0) * 256 + (UInt8.ofNat i).toNat) % 256 = i
  rw [UInt8.toNat_ofNat']; omega
theorem low_full (F : Nat → UInt8) : onesF (addL 32 3 F (lowIds 256)) 32 = 256 := by
  refine ones_full _ 32 fun i hi => ?_
  rw [bitF_addL, Bool.or_eq_true]
  right
  rw [List.any_eq_true]
  refine ⟨byteAt (lowId i), List.mem_map.2 ⟨i, List.mem_range.2 (by omega), rfl⟩, ?_⟩
  rw [List.any_eq_true]
  exact ⟨0, by decide, by rw [low_plc i (by omega)]; exact beq_self_eq_true _⟩
set_option maxRecDepth 100000 in
set_option maxHeartbeats 2000000 in
theorem bloomAlone_walk (A : Option Addr) (n c : Nat) (l : List ByteArray) (A' : Option Addr) (n' c' : Nat) (l' : List ByteArray)
    (w : World) (hr : Reads w w.heap.size 1 A n (strV l)) (hn : n * 16 ≤ 140737488351232) (hz : ∀ s ∈ l, s.size ≤ 9223372036854775807) (hr' : Reads w w.heap.size 1 A' n' (strV l')) (hn' : n' * 16 ≤ 140737488351232) (hz' : ∀ s ∈ l', s.size ≤ 9223372036854775807) :
    Calls Try.prog 6 #[.slice A n c, .slice A' n' c'] w fun e w' => e = .returned (.bool true) ∧ Below w.heap.size w w' := by
  have HA := Lib.hid hr
  have HB := Lib.hid hr'
  have ZA := Lib.hid hz
  have ZB := Lib.hid hz'
  clear hr hr' hz hz'
  go_enter Try.func6, Try.ntmps6
  go_wp2_with fail
  refine (bawake_any _).mono ?_; rintro e w1 ⟨rfl, hb1⟩
  have B1 := Lib.hid hb1
  have s1 := hb1.size
  clear hb1
  go_wp2_with fail
  refine (made_n w1 w.heap.size A n c 32 3 8 256 l (HA.out.below B1.out) s1 (by omega) ZA.out rfl (by decide) (by omega) (by omega) (by omega) (by omega)).mono ?_
  rintro e w2 ⟨rfl, hf2, hb2⟩
  generalize addL 32 3 (fun _ => 0) (l.map byteAt) = FA at hf2
  have F2 := Lib.hid hf2
  have B2 := Lib.hid (B1.out.trans (hb2.mono s1))
  have s2 : w1.heap.size + 1 < w2.heap.size := hf2.blk.lt
  clear hf2 hb2
  go_wp2_with fail
  refine (made_n w2 w.heap.size A' n' c' 32 3 8 256 l' (HB.out.below B2.out) (by omega) (by omega) ZB.out rfl (by decide) (by omega) (by omega) (by omega) (by omega)).mono ?_
  rintro e w3 ⟨rfl, hf3, hb3⟩
  generalize addL 32 3 (fun _ => 0) (l'.map byteAt) = FB at hf3
  have F3 := Lib.hid (And.intro (F2.out.below hb3) hf3)
  have B3 := Lib.hid (B2.out.trans (hb3.mono (by omega)))
  have s3 : w2.heap.size + 1 < w3.heap.size := hf3.blk.lt
  clear hf3 hb3 F2
  go_wp2_with fail
  refine (encode_any w3 _ _ 32 32 3 FA F3.out.1 (by omega) (by omega)).mono ?_
  rintro e w4 ⟨rfl, hb4⟩
  have F4 := Lib.hid (And.intro (F3.out.1.below hb4) (F3.out.2.below hb4))
  have B4 := Lib.hid (B3.out.trans (hb4.mono B3.out.size))
  have s4 := hb4.size
  clear hb4 F3
  go_wp2_with fail
  refine (encode_any w4 _ _ 32 32 3 FB F4.out.2 (by omega) (by omega)).mono ?_
  rintro e w5 ⟨rfl, hb5⟩
  have F5 := Lib.hid (And.intro (F4.out.1.below hb5) (F4.out.2.below hb5))
  have B5 := Lib.hid (B4.out.trans (hb5.mono B4.out.size))
  have s5 := hb5.size
  clear hb5 F4
  go_wp2_with fail
  refine (decode_enc 32 3 8 FA w5 (by decide) (by omega) (by omega) (by omega) (by omega)).mono ?_
  rintro e w6 ⟨P6, g6, c6, rfl, hp6, hg6, hf6, hb6⟩
  have F6 := Lib.hid (And.intro (F5.out.1.below hb6) (And.intro (F5.out.2.below hb6) hf6))
  have B6 := Lib.hid (B5.out.trans (hb6.mono B5.out.size))
  have s6 := hb6.size
  clear hf6 hb6 F5
  go_wp2_with fail
  refine (join_any w6 _ _ _ _ _ _ 32 3 FA FB F6.out.1 F6.out.2.1 (by omega) (by omega)).mono ?_
  rintro e w7 ⟨rfl, hf7, hg7⟩
  have F7 := Lib.hid (And.intro hf7 (And.intro (F6.out.2.1.beside F6.out.1.buf hg7 (by omega)) (F6.out.2.2.beside F6.out.1.buf hg7 (by omega))))
  have B7 := Lib.hid (below_grown B6.out hg7 (by intro g' e; injection e with e; omega))
  have s7 := hg7.size
  clear hf7 hg7 F6
  generalize orF FA FB 32 = FJ at F7
  go_wp2_with fail
  refine (encode_any w7 _ _ 32 _ 3 FA F7.out.2.2 (by omega) (by omega)).mono ?_
  rintro e w8 ⟨rfl, hb8⟩
  have F8 := Lib.hid (And.intro (F7.out.1.below hb8) (And.intro (F7.out.2.1.below hb8) (F7.out.2.2.below hb8)))
  have B8 := Lib.hid (B7.out.trans (hb8.mono B7.out.size))
  have s8 := hb8.size
  clear hb8 F7
  go_wp2_with fail
  refine (encode_any w8 _ _ 32 _ 3 FB F8.out.2.1 (by omega) (by omega)).mono ?_
  rintro e w9 ⟨rfl, hb9⟩
  have F9 := Lib.hid (And.intro (F8.out.1.below hb9) (And.intro (F8.out.2.1.below hb9) (F8.out.2.2.below hb9)))
  have B9 := Lib.hid (B8.out.trans (hb9.mono B8.out.size))
  have s9 := hb9.size
  clear hb9 F8
  obtain ⟨S, hS⟩ : ∃ S, encB 32 3 FA = S := ⟨_, rfl⟩
  obtain ⟨T, hT⟩ : ∃ T, encB 32 3 FB = T := ⟨_, rfl⟩
  rw [hS, hT]
  have ES := Lib.hid hS
  have ET := Lib.hid hT
  clear hS hT
  go_wp2
  go_loopw [17] (fun i wr => ∃ k : Nat, k ≤ 256 ∧ i = .int .i64 k ∧ Hid (Flt wr (w1.heap.size + 1) w1.heap.size 32 32 3 (addL 32 3 FJ (lowIds k)) ∧ Flt wr (w2.heap.size + 1) w2.heap.size 32 32 3 FB ∧ Flt wr P6 g6 32 c6 3 FA ∧ Below w.heap.size w wr)) (fun i _ => 256 - (intOf i).toNat)
  case atStart => exact ⟨0, by omega, rfl, Lib.hid ⟨F9.out.1, F9.out.2.1, F9.out.2.2, B9.out⟩⟩
  case round =>
    obtain ⟨k, hk, rfl, HR⟩ := hrel
    by_cases hlt : k < 256
    · have hsr := HR.out.2.2.2.size
      have hcv : ∀ W : World, (convert 48 9 (.slice (some ⟨W.heap.size, 0, none⟩) 4 4)).run Try.prog (W.alloc (.cells #[.int .u8 0, .int .u8 0, .int .u8 0, .int .u8 (k : Int)] 5)) = .ok (.string (lowId k)) (W.alloc (.cells #[.int .u8 0, .int .u8 0, .int .u8 0, .int .u8 (k : Int)] 5)) := fun W => by
        refine run_str 48 5 9 (by kernel_rfl) (by kernel_rfl) (by kernel_rfl) ⟨W.heap.size, 0, none⟩ 4 4 [0, 0, 0, UInt8.ofNat k] rfl (fun j hj => ?_)
        rw [add0, (Blk.new W 5 #[.int .u8 0, .int .u8 0, .int .u8 0, .int .u8 (k : Int)]).cell j]
        have : j = 0 ∨ j = 1 ∨ j = 2 ∨ j = 3 := by omega
        rcases this with h | h | h | h <;> subst h
        · rfl
        · rfl
        · rfl
        · show some (Value.int IntKind.u8 (k : Int)) = some (.int .u8 (((UInt8.ofNat k).toNat : Nat) : Int))
          rw [UInt8.toNat_ofNat', show k % 2 ^ 8 = k from by omega]
      have R1 := Lib.hid (And.intro (HR.out.1.below ((Below.refl _ _).alloc (Nat.le_refl _) (.cells #[.int .u8 0, .int .u8 0, .int .u8 0, .int .u8 (k : Int)] 5))) (And.intro (HR.out.2.1.below ((Below.refl _ _).alloc (Nat.le_refl _) (.cells #[.int .u8 0, .int .u8 0, .int .u8 0, .int .u8 (k : Int)] 5))) (And.intro (HR.out.2.2.1.below ((Below.refl _ _).alloc (Nat.le_refl _) (.cells #[.int .u8 0, .int .u8 0, .int .u8 0, .int .u8 (k : Int)] 5))) (HR.out.2.2.2.alloc hsr (.cells #[.int .u8 0, .int .u8 0, .int .u8 0, .int .u8 (k : Int)] 5)))))
      go_wp2_with fail
      clear hcv
      generalize wr.alloc (.cells #[.int .u8 0, .int .u8 0, .int .u8 0, .int .u8 (k : Int)] 5) = wq at R1 ⊢
      refine (id_any (lowId k) _ (by unfold lowId; rw [bs_size]; show 4 ≤ _; omega)).mono ?_
      rintro e wi ⟨rfl, hbi⟩
      have R2 := Lib.hid (And.intro (R1.out.1.below hbi) (And.intro (R1.out.2.1.below hbi) (And.intro (R1.out.2.2.1.below hbi) (R1.out.2.2.2.trans (hbi.mono R1.out.2.2.2.size)))))
      clear hbi R1
      go_wp2_with fail
      refine (add_any wi _ _ 32 32 3 8 _ _ R2.out.1 (by decide) (by omega) (by omega)).mono ?_
      rintro e wj ⟨rfl, hfj, hgj⟩
      have R3 : Hid (Flt wj (w1.heap.size + 1) w1.heap.size 32 32 3 (addL 32 3 FJ (lowIds (k + 1))) ∧ Flt wj (w2.heap.size + 1) w2.heap.size 32 32 3 FB ∧ Flt wj P6 g6 32 c6 3 FA ∧ Below w.heap.size w wj) :=
        Lib.hid ⟨by rw [lowIds_succ, addL_snoc]; exact hfj, R2.out.2.1.beside R2.out.1.buf hgj (by omega), R2.out.2.2.1.beside R2.out.1.buf hgj (by omega), below_grown R2.out.2.2.2 hgj (by intro g' e; injection e with e; omega)⟩
      clear hfj hgj R2
      go_wp2
      go_roundw
      case rel => exact ⟨k + 1, by omega, by go_num, R3⟩
      case measure => simp [intOf]; omega
    · obtain rfl : k = 256 := by omega
      have LF := Lib.hid (low_full FJ)
      go_wp2_with fail
      refine (encode_any wr _ _ 32 _ 3 FA HR.out.2.2.1 (by omega) (by omega)).mono ?_
      rintro e wa ⟨rfl, hba⟩
      rw [ES.out]
      have FA' := Lib.hid (And.intro (HR.out.1.below hba) (And.intro (HR.out.2.1.below hba) (HR.out.2.2.2.trans (hba.mono HR.out.2.2.2.size))))
      clear hba
      go_wp2_with fail
      refine (encode_any wa _ _ 32 _ 3 FB FA'.out.2.1 (by omega) (by omega)).mono ?_
      rintro e wb ⟨rfl, hbb⟩
      rw [ET.out]
      have FB' := Lib.hid (And.intro (FA'.out.1.below hbb) (FA'.out.2.2.trans (hbb.mono FA'.out.2.2.size)))
      clear hbb
      go_wp2_with fail
      refine (ones_any wb _ _ 32 _ 3 _ FB'.out.1 (by omega)).mono ?_
      rintro e wz ⟨rfl, rfl⟩
      rw [LF.out]
      go_wp2
      go_ret
      exact ⟨rfl, FB'.out.2⟩
end Go.Proofs.Ytbfmdingbgdflaa
