/- Walks: attrs.Modes. No conditions but that the numbers are a byte and a mode. -/
import Derived.Test.YtpfccicahfncbaaDoorModP
import Derived.Test.YtpfccicahfncbaaDoorGen
import Derived.Test.YtpfccicahfncbaaDoorShl
import Derived.Deep.RegionHeld3
import Derived.Deep.DeepCutAuto
namespace Go.Proofs.YtpfccicahfncbaaDoor
open Go.RowKit
set_option linter.unusedVariables false
set_option linter.unusedSimpArgs false
theorem letter_any (b : Bool) (y n s : ByteArray) (sb : Nat) (w : World) (h : Blk w sb 9 #[.string s]) (h1 : s.size ≤ 1000) (h2 : y.size ≤ 1000) (h3 : n.size ≤ 1000) :
    Calls Tryd.prog 43 #[.bool b, .string y, .string n, .pointer (some ⟨sb, 0, none⟩)] w fun e w' => e = .returned (.tuple #[]) ∧ w' = w.setCell ⟨sb, 0, none⟩ (.string (s ++ if b = true then y else n)) := by
  have c0 : w.cell? ⟨sb, 0, none⟩ = some (.string s) := h.cell 0
  have f0 : w.frozen? ⟨sb, 0, none⟩ = false := h.frozen 0
  clear h
  cases b with
  | true =>
    go_enter Tryd.func43, Tryd.ntmps43
    go_wp2
    go_end0
    exact ⟨rfl, rfl⟩
  | false =>
    go_enter Tryd.func43, Tryd.ntmps43
    go_wp2
    go_end0
    exact ⟨rfl, rfl⟩
theorem mdH_cut (N : Nat) (h1 : 1 ≤ N) (h3 : N ≤ 3) : (⟨#[63, 45, 100, 108]⟩ : ByteArray).extract N (N + 1) = bs [mdH N] := by
  have : N = 1 ∨ N = 2 ∨ N = 3 := by omega
  rcases this with rfl | rfl | rfl <;> rfl
/-- What holds between two letters: the text so far, the row of three letters. -/
structure ModI (w W : World) (rb : Nat) (s : ByteArray) : Prop where
  txt : Blk W w.heap.size 9 #[.string s]
  row : Blk W rb 9 #[.string ⟨#[115]⟩, .string ⟨#[115]⟩, .string ⟨#[116]⟩]
  below : Below w.heap.size w W
  lt : w.heap.size < rb
theorem ModI.mono {w W W' : World} {rb : Nat} {s : ByteArray} (h : ModI w W rb s) (hb : Below W.heap.size W W') : ModI w W' rb s :=
  ⟨h.txt.below hb h.txt.lt, h.row.below hb h.row.lt, h.below.trans (hb.mono h.below.size), h.lt⟩
theorem letter_i (b : Bool) (y n s : ByteArray) (w W : World) (rb : Nat) (h : ModI w W rb s) (h1 : s.size ≤ 1000) (h2 : y.size ≤ 1000) (h3 : n.size ≤ 1000) :
    Calls Tryd.prog 43 #[.bool b, .string y, .string n, .pointer (some ⟨w.heap.size, 0, none⟩)] W fun e w' => e = .returned (.tuple #[]) ∧ ModI w w' rb (s ++ if b = true then y else n) :=
  (letter_any b y n s _ W h.txt h1 h2 h3).mono fun e w' ⟨he, hw⟩ => ⟨he, by
    subst hw
    exact ⟨h.txt.set_ 0 _, h.row.far (p := ⟨w.heap.size, 0, none⟩) (by have := h.lt; show rb ≠ w.heap.size; omega) _, h.below.setCell (p := ⟨w.heap.size, 0, none⟩) (Nat.le_refl _) _, h.lt⟩⟩
theorem bs_app (a b : List UInt8) : bs (a ++ b) = bs a ++ bs b := by
  apply ByteArray.ext; simp [bs]
theorem bs_if (b : Bool) (x y : UInt8) : (if b = true then (⟨#[x]⟩ : ByteArray) else ⟨#[y]⟩) = bs [if b = true then x else y] := by cases b <;> rfl
theorem mdL_size (N m k : Nat) : (mdL N m k).length = 1 + 3 * k := by
  induction k with
  | zero => rfl
  | succ k ih => rw [mdL, List.length_append, ih]; show _ + 3 = _; omega
set_option maxRecDepth 100000 in
set_option maxHeartbeats 2000000 in
theorem modes_any (nd : UInt8) (md : UInt32) (w : World) :
    Calls Tryd.prog 18 #[.int .u8 (nd.toNat : Int), .int .u32 (md.toNat : Int)] w fun e w' => e = .returned (.tuple #[.string (mdR nd.toNat md.toNat).1, .int .i64 (mdR nd.toNat md.toNat).2]) ∧ Below w.heap.size w w' := by
  have b1 := nd.toNat_lt
  have b2 := md.toNat_lt
  have hmf : ∀ (fn : Fn) (first cap : Array Value) (w : World), (Instr.makeFunc fn first cap).run Tryd.prog w = .ok (.func fn first cap) w := fun _ _ _ _ => rfl
  obtain ⟨N, hN⟩ : ∃ N, nd.toNat = N := ⟨_, rfl⟩
  obtain ⟨m, hm⟩ : ∃ m, md.toNat = m := ⟨_, rfl⟩
  rw [hN] at b1 ⊢
  rw [hm] at b2 ⊢
  clear hN hm
  by_cases hok : 1 ≤ N ∧ N ≤ 3 ∧ m ≤ 4095
  · obtain ⟨h1, h2, h3⟩ := hok
    have E : Hid (mdR N m = (bs (mdL N m 3), 0)) := Lib.hid (if_pos (decide_eq_true ⟨h1, h2, h3⟩))
    have g1 : decide ((N : Int) < 1) = false := by rw [decide_eq_false_iff_not]; omega
    have g2 : decide ((3 : Int) < (N : Int)) = false := by rw [decide_eq_false_iff_not]; omega
    have g3 : decide ((4095 : Int) < (m : Int)) = false := by rw [decide_eq_false_iff_not]; omega
    go_enter Tryd.func18, Tryd.ntmps18
    go_upto_region 4 with fail
    rw [mdH_cut N h1 h2]
    have HB0 : Hid (Blk (w.alloc (.cells #[.string (bs [mdH N])] 9)) w.heap.size 9 #[.string (bs (mdL N m 0))] ∧ Below w.heap.size w (w.alloc (.cells #[.string (bs [mdH N])] 9))) := Lib.hid ⟨Blk.new _ _ _, (Below.refl _ _).alloc (Nat.le_refl _) _⟩
    generalize w.alloc (.cells #[.string (bs [mdH N])] 9) = w1 at HB0 ⊢
    clear g1 g2 g3
    go_upto_region 6 with fail
    have HI : Hid (ModI w (w1.alloc (.cells #[.string ⟨#[115]⟩, .string ⟨#[115]⟩, .string ⟨#[116]⟩] 9)) w1.heap.size (bs (mdL N m 0))) := Lib.hid ⟨HB0.out.1.alloc _, Blk.new _ _ _, HB0.out.2.alloc HB0.out.2.size _, HB0.out.1.lt⟩
    generalize w1.alloc (.cells #[.string ⟨#[115]⟩, .string ⟨#[115]⟩, .string ⟨#[116]⟩] 9) = w2 at HI ⊢
    generalize w1.heap.size = rb at HI ⊢
    clear HB0
    go_loopw [28] (fun i wr => ∃ k : Nat, k ≤ 3 ∧ i = .int .i64 k ∧ Hid (ModI w wr rb (bs (mdL N m k)))) (fun i _ => 3 - (intOf i).toNat)
    case atStart => exact ⟨0, by omega, rfl, HI⟩
    case round =>
      obtain ⟨k, hk, rfl, HK⟩ := hrel
      have hk' : k = 0 ∨ k = 1 ∨ k = 2 ∨ k = 3 := by omega
      have y0 : wr.cell? ⟨rb, 0, none⟩ = some (.string ⟨#[115]⟩) := HK.out.row.cell 0
      have y1 : wr.cell? ⟨rb, 1, none⟩ = some (.string ⟨#[115]⟩) := HK.out.row.cell 1
      have y2 : wr.cell? ⟨rb, 2, none⟩ = some (.string ⟨#[116]⟩) := HK.out.row.cell 2
      rcases hk' with rfl | rfl | rfl | rfl
      · have HK : Hid (ModI w wr rb (bs (mdL N m 0))) := HK
        have r1 : decide ((0 : Int) < bits .and .u32 ((m : Int) / 64) 4) = mdB m 8 := ask_int m 6 2 64 4 rfl rfl (by omega) (by omega)
        have r2 : decide ((0 : Int) < bits .and .u32 ((m : Int) / 64) 2) = mdB m 7 := ask_int m 6 1 64 2 rfl rfl (by omega) (by omega)
        have r3 : decide ((0 : Int) < bits .and .u32 ((m : Int) / 64) 1) = mdB m 6 := ask_int m 6 0 64 1 rfl rfl (by omega) (by omega)
        have r4 : decide ((0 : Int) < bits .and .u32 ((m : Int) / 2048) 1) = mdB m 11 := ask_int m 11 0 2048 1 rfl rfl (by omega) (by omega)
        have hz : (bs (mdL N m 0)).size = 1 := by rw [bs_size, mdL_size]
        have hG : Hid (mdL N m (0 + 1) = mdL N m 0 ++ [if mdB m 8 then 114 else 45, if mdB m 7 then 119 else 45, if mdB m 11 then (if mdB m 6 then 115 else 83) else (if mdB m 6 then 120 else 45)]) := Lib.hid rfl
        obtain ⟨s0, hs0⟩ : ∃ s0, bs (mdL N m 0) = s0 := ⟨_, rfl⟩
        rw [hs0] at HK hz
        have HS0 := Lib.hid hs0
        clear hs0
        have C1 := Lib.hid (letter_i (mdB m 8) ⟨#[114]⟩ ⟨#[45]⟩ s0 w wr rb HK.out (by omega) (by decide) (by decide))
        go_wp2_with fail
        (with_reducible refine C1.out.mono ?_)
        rintro e w3 ⟨rfl, h3⟩
        rw [bs_if] at h3
        have H3 := Lib.hid h3
        have z1 : (s0 ++ bs [if mdB m 8 = true then 114 else 45]).size = 2 := by rw [ByteArray.size_append, hz, bs_size]; rfl
        clear h3 C1 r1
        have C2 := Lib.hid (letter_i (mdB m 7) ⟨#[119]⟩ ⟨#[45]⟩ _ w w3 rb H3.out (by omega) (by decide) (by decide))
        go_wp2_with fail
        (with_reducible refine C2.out.mono ?_)
        rintro e w4 ⟨rfl, h4⟩
        rw [bs_if] at h4
        have H4 := Lib.hid h4
        have z2 : (s0 ++ bs [if mdB m 8 = true then 114 else 45] ++ bs [if mdB m 7 = true then 119 else 45]).size = 3 := by rw [ByteArray.size_append, z1, bs_size]; rfl
        clear h4 C2 r2
        cases hsp : mdB m 11 with
        | true =>
          rw [hsp] at r4 hG
          have UP := Lib.hid (Tryd.strings_ToUpper_ascii ⟨#[115]⟩ w4 (by decide) (by
            intro j b hj
            match j, hj with
            | 0, hj => injection hj with hj; subst hj; decide
            | j + 1, hj => simp at hj))
          rw [show (⟨(Lib.toUpperA (⟨#[115]⟩ : ByteArray).data.toList).toArray⟩ : ByteArray) = ⟨#[83]⟩ from rfl] at UP
          go_wp2_with fail
          (with_reducible refine UP.out.mono ?_)
          rintro e w5 ⟨rfl, hb5⟩
          have H5 := Lib.hid (H4.out.mono hb5)
          clear hb5 UP
          have C3 := Lib.hid (letter_i (mdB m 6) ⟨#[115]⟩ ⟨#[83]⟩ _ w w5 rb H5.out (by omega) (by decide) (by decide))
          go_wp2_with fail
          (with_reducible refine C3.out.mono ?_)
          rintro e w6 ⟨rfl, h6⟩
          rw [bs_if] at h6
          have H6 : Hid (ModI w w6 rb (bs (mdL N m (0 + 1)))) := Lib.hid (by
            rw [hG.out, bs_app, HS0.out]; simp only [if_true]
            have e3 : ∀ (a b c : UInt8), bs [a, b, c] = bs [a] ++ bs [b] ++ bs [c] := fun a b c => rfl
            rw [e3, ← ByteArray.append_assoc, ← ByteArray.append_assoc]
            exact h6)
          clear h6 C3
          go_wp2
          go_roundw
          case rel => exact ⟨0 + 1, by omega, by go_num, H6⟩
          case measure => simp [intOf]
        | false =>
          rw [hsp] at r4 hG
          have C3 := Lib.hid (letter_i (mdB m 6) ⟨#[120]⟩ ⟨#[45]⟩ _ w w4 rb H4.out (by omega) (by decide) (by decide))
          go_wp2_with fail
          (with_reducible refine C3.out.mono ?_)
          rintro e w6 ⟨rfl, h6⟩
          rw [bs_if] at h6
          have H6 : Hid (ModI w w6 rb (bs (mdL N m (0 + 1)))) := Lib.hid (by
            rw [hG.out, bs_app, HS0.out]; simp only [if_false, Bool.false_eq_true]
            have e3 : ∀ (a b c : UInt8), bs [a, b, c] = bs [a] ++ bs [b] ++ bs [c] := fun a b c => rfl
            rw [e3, ← ByteArray.append_assoc, ← ByteArray.append_assoc]
            exact h6)
          clear h6 C3
          go_wp2
          go_roundw
          case rel => exact ⟨0 + 1, by omega, by go_num, H6⟩
          case measure => simp [intOf]
      · have HK : Hid (ModI w wr rb (bs (mdL N m 1))) := HK
        have r1 : decide ((0 : Int) < bits .and .u32 ((m : Int) / 8) 4) = mdB m 5 := ask_int m 3 2 8 4 rfl rfl (by omega) (by omega)
        have r2 : decide ((0 : Int) < bits .and .u32 ((m : Int) / 8) 2) = mdB m 4 := ask_int m 3 1 8 2 rfl rfl (by omega) (by omega)
        have r3 : decide ((0 : Int) < bits .and .u32 ((m : Int) / 8) 1) = mdB m 3 := ask_int m 3 0 8 1 rfl rfl (by omega) (by omega)
        have r4 : decide ((0 : Int) < bits .and .u32 ((m : Int) / 1024) 1) = mdB m 10 := ask_int m 10 0 1024 1 rfl rfl (by omega) (by omega)
        have hz : (bs (mdL N m 1)).size = 4 := by rw [bs_size, mdL_size]
        have hG : Hid (mdL N m (1 + 1) = mdL N m 1 ++ [if mdB m 5 then 114 else 45, if mdB m 4 then 119 else 45, if mdB m 10 then (if mdB m 3 then 115 else 83) else (if mdB m 3 then 120 else 45)]) := Lib.hid rfl
        obtain ⟨s0, hs0⟩ : ∃ s0, bs (mdL N m 1) = s0 := ⟨_, rfl⟩
        rw [hs0] at HK hz
        have HS0 := Lib.hid hs0
        clear hs0
        have C1 := Lib.hid (letter_i (mdB m 5) ⟨#[114]⟩ ⟨#[45]⟩ s0 w wr rb HK.out (by omega) (by decide) (by decide))
        go_wp2_with fail
        (with_reducible refine C1.out.mono ?_)
        rintro e w3 ⟨rfl, h3⟩
        rw [bs_if] at h3
        have H3 := Lib.hid h3
        have z1 : (s0 ++ bs [if mdB m 5 = true then 114 else 45]).size = 5 := by rw [ByteArray.size_append, hz, bs_size]; rfl
        clear h3 C1 r1
        have C2 := Lib.hid (letter_i (mdB m 4) ⟨#[119]⟩ ⟨#[45]⟩ _ w w3 rb H3.out (by omega) (by decide) (by decide))
        go_wp2_with fail
        (with_reducible refine C2.out.mono ?_)
        rintro e w4 ⟨rfl, h4⟩
        rw [bs_if] at h4
        have H4 := Lib.hid h4
        have z2 : (s0 ++ bs [if mdB m 5 = true then 114 else 45] ++ bs [if mdB m 4 = true then 119 else 45]).size = 6 := by rw [ByteArray.size_append, z1, bs_size]; rfl
        clear h4 C2 r2
        cases hsp : mdB m 10 with
        | true =>
          rw [hsp] at r4 hG
          have UP := Lib.hid (Tryd.strings_ToUpper_ascii ⟨#[115]⟩ w4 (by decide) (by
            intro j b hj
            match j, hj with
            | 0, hj => injection hj with hj; subst hj; decide
            | j + 1, hj => simp at hj))
          rw [show (⟨(Lib.toUpperA (⟨#[115]⟩ : ByteArray).data.toList).toArray⟩ : ByteArray) = ⟨#[83]⟩ from rfl] at UP
          go_wp2_with fail
          (with_reducible refine UP.out.mono ?_)
          rintro e w5 ⟨rfl, hb5⟩
          have H5 := Lib.hid (H4.out.mono hb5)
          clear hb5 UP
          have C3 := Lib.hid (letter_i (mdB m 3) ⟨#[115]⟩ ⟨#[83]⟩ _ w w5 rb H5.out (by omega) (by decide) (by decide))
          go_wp2_with fail
          (with_reducible refine C3.out.mono ?_)
          rintro e w6 ⟨rfl, h6⟩
          rw [bs_if] at h6
          have H6 : Hid (ModI w w6 rb (bs (mdL N m (1 + 1)))) := Lib.hid (by
            rw [hG.out, bs_app, HS0.out]; simp only [if_true]
            have e3 : ∀ (a b c : UInt8), bs [a, b, c] = bs [a] ++ bs [b] ++ bs [c] := fun a b c => rfl
            rw [e3, ← ByteArray.append_assoc, ← ByteArray.append_assoc]
            exact h6)
          clear h6 C3
          go_wp2
          go_roundw
          case rel => exact ⟨1 + 1, by omega, by go_num, H6⟩
          case measure => simp [intOf]
        | false =>
          rw [hsp] at r4 hG
          have C3 := Lib.hid (letter_i (mdB m 3) ⟨#[120]⟩ ⟨#[45]⟩ _ w w4 rb H4.out (by omega) (by decide) (by decide))
          go_wp2_with fail
          (with_reducible refine C3.out.mono ?_)
          rintro e w6 ⟨rfl, h6⟩
          rw [bs_if] at h6
          have H6 : Hid (ModI w w6 rb (bs (mdL N m (1 + 1)))) := Lib.hid (by
            rw [hG.out, bs_app, HS0.out]; simp only [if_false, Bool.false_eq_true]
            have e3 : ∀ (a b c : UInt8), bs [a, b, c] = bs [a] ++ bs [b] ++ bs [c] := fun a b c => rfl
            rw [e3, ← ByteArray.append_assoc, ← ByteArray.append_assoc]
            exact h6)
          clear h6 C3
          go_wp2
          go_roundw
          case rel => exact ⟨1 + 1, by omega, by go_num, H6⟩
          case measure => simp [intOf]
      · have HK : Hid (ModI w wr rb (bs (mdL N m 2))) := HK
        have r1 : decide ((0 : Int) < bits .and .u32 ((m : Int)) 4) = mdB m 2 := (by have h := ask_int m 0 2 1 4 rfl rfl (by omega) (by omega); rw [Int.ediv_one] at h; exact h)
        have r2 : decide ((0 : Int) < bits .and .u32 ((m : Int)) 2) = mdB m 1 := (by have h := ask_int m 0 1 1 2 rfl rfl (by omega) (by omega); rw [Int.ediv_one] at h; exact h)
        have r3 : decide ((0 : Int) < bits .and .u32 ((m : Int)) 1) = mdB m 0 := (by have h := ask_int m 0 0 1 1 rfl rfl (by omega) (by omega); rw [Int.ediv_one] at h; exact h)
        have r4 : decide ((0 : Int) < bits .and .u32 ((m : Int) / 512) 1) = mdB m 9 := ask_int m 9 0 512 1 rfl rfl (by omega) (by omega)
        have hz : (bs (mdL N m 2)).size = 7 := by rw [bs_size, mdL_size]
        have hG : Hid (mdL N m (2 + 1) = mdL N m 2 ++ [if mdB m 2 then 114 else 45, if mdB m 1 then 119 else 45, if mdB m 9 then (if mdB m 0 then 116 else 84) else (if mdB m 0 then 120 else 45)]) := Lib.hid rfl
        obtain ⟨s0, hs0⟩ : ∃ s0, bs (mdL N m 2) = s0 := ⟨_, rfl⟩
        rw [hs0] at HK hz
        have HS0 := Lib.hid hs0
        clear hs0
        have C1 := Lib.hid (letter_i (mdB m 2) ⟨#[114]⟩ ⟨#[45]⟩ s0 w wr rb HK.out (by omega) (by decide) (by decide))
        go_wp2_with fail
        (with_reducible refine C1.out.mono ?_)
        rintro e w3 ⟨rfl, h3⟩
        rw [bs_if] at h3
        have H3 := Lib.hid h3
        have z1 : (s0 ++ bs [if mdB m 2 = true then 114 else 45]).size = 8 := by rw [ByteArray.size_append, hz, bs_size]; rfl
        clear h3 C1 r1
        have C2 := Lib.hid (letter_i (mdB m 1) ⟨#[119]⟩ ⟨#[45]⟩ _ w w3 rb H3.out (by omega) (by decide) (by decide))
        go_wp2_with fail
        (with_reducible refine C2.out.mono ?_)
        rintro e w4 ⟨rfl, h4⟩
        rw [bs_if] at h4
        have H4 := Lib.hid h4
        have z2 : (s0 ++ bs [if mdB m 2 = true then 114 else 45] ++ bs [if mdB m 1 = true then 119 else 45]).size = 9 := by rw [ByteArray.size_append, z1, bs_size]; rfl
        clear h4 C2 r2
        cases hsp : mdB m 9 with
        | true =>
          rw [hsp] at r4 hG
          have UP := Lib.hid (Tryd.strings_ToUpper_ascii ⟨#[116]⟩ w4 (by decide) (by
            intro j b hj
            match j, hj with
            | 0, hj => injection hj with hj; subst hj; decide
            | j + 1, hj => simp at hj))
          rw [show (⟨(Lib.toUpperA (⟨#[116]⟩ : ByteArray).data.toList).toArray⟩ : ByteArray) = ⟨#[84]⟩ from rfl] at UP
          go_wp2_with fail
          (with_reducible refine UP.out.mono ?_)
          rintro e w5 ⟨rfl, hb5⟩
          have H5 := Lib.hid (H4.out.mono hb5)
          clear hb5 UP
          have C3 := Lib.hid (letter_i (mdB m 0) ⟨#[116]⟩ ⟨#[84]⟩ _ w w5 rb H5.out (by omega) (by decide) (by decide))
          go_wp2_with fail
          (with_reducible refine C3.out.mono ?_)
          rintro e w6 ⟨rfl, h6⟩
          rw [bs_if] at h6
          have H6 : Hid (ModI w w6 rb (bs (mdL N m (2 + 1)))) := Lib.hid (by
            rw [hG.out, bs_app, HS0.out]; simp only [if_true]
            have e3 : ∀ (a b c : UInt8), bs [a, b, c] = bs [a] ++ bs [b] ++ bs [c] := fun a b c => rfl
            rw [e3, ← ByteArray.append_assoc, ← ByteArray.append_assoc]
            exact h6)
          clear h6 C3
          go_wp2
          go_roundw
          case rel => exact ⟨2 + 1, by omega, by go_num, H6⟩
          case measure => simp [intOf]
        | false =>
          rw [hsp] at r4 hG
          have C3 := Lib.hid (letter_i (mdB m 0) ⟨#[120]⟩ ⟨#[45]⟩ _ w w4 rb H4.out (by omega) (by decide) (by decide))
          go_wp2_with fail
          (with_reducible refine C3.out.mono ?_)
          rintro e w6 ⟨rfl, h6⟩
          rw [bs_if] at h6
          have H6 : Hid (ModI w w6 rb (bs (mdL N m (2 + 1)))) := Lib.hid (by
            rw [hG.out, bs_app, HS0.out]; simp only [if_false, Bool.false_eq_true]
            have e3 : ∀ (a b c : UInt8), bs [a, b, c] = bs [a] ++ bs [b] ++ bs [c] := fun a b c => rfl
            rw [e3, ← ByteArray.append_assoc, ← ByteArray.append_assoc]
            exact h6)
          clear h6 C3
          go_wp2
          go_roundw
          case rel => exact ⟨2 + 1, by omega, by go_num, H6⟩
          case measure => simp [intOf]
      · have t0 : wr.cell? ⟨w.heap.size, 0, none⟩ = some (.string (bs (mdL N m 3))) := HK.out.txt.cell 0
        go_wp2
        go_ret2
        exact ⟨by rw [E.out]; rfl, HK.out.below⟩
  · have E : Hid (mdR N m = (ByteArray.empty, 1)) := Lib.hid (if_neg (by unfold mdOK; rw [decide_eq_true_eq]; exact hok))
    have hb : N < 1 ∨ (1 ≤ N ∧ 3 < N) ∨ (1 ≤ N ∧ N ≤ 3 ∧ 4095 < m) := by omega
    clear hok
    go_enter Tryd.func18, Tryd.ntmps18
    rcases hb with h | ⟨h, h'⟩ | ⟨h, h', h3⟩
    all_goals
      go_wp2
      go_ret2
      exact ⟨by rw [E.out]; rfl, Below.refl _ _⟩
end Go.Proofs.YtpfccicahfncbaaDoor
