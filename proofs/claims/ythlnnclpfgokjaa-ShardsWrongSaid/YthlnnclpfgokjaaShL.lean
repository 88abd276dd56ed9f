/- Walks: do shards go together: shards.Fits and the reference's. -/
import Derived.Test.YthlnnclpfgokjaaShG
import Derived.Test.YthlnnclpfgokjaaShH
import Derived.Test.YthlnnclpfgokjaaRowB64
namespace Go.Proofs.Ythlnnclpfgokjaa
open Go.RowKit Gf
set_option linter.unusedVariables false
theorem all_range_b : ∀ xs ys : List Bool, xs.length = ys.length → ((List.range xs.length).all fun i => xs.getD i false == ys.getD i false) = (xs == ys)
  | [], [], _ => rfl
  | x :: xs, y :: ys, h => by
    have ih := all_range_b xs ys (by simpa using h)
    rw [List.length_cons, List.range_succ_eq_map, List.all_cons, List.all_map]
    simp only [List.getD_cons_zero, Function.comp_def, List.getD_cons_succ, ih]
    simp [List.cons_beq_cons]
  | [], _ :: _, h => by simp at h
  | _ :: _, [], h => by simp at h
theorem run_equalIn_bools {P : Program} (w : World) (d : Nat) (t e : TypeId) (n : Nat) (ht : P.underlying t = some (.array n e)) (he : P.underlying e = some .bool) (hsz : ∀ w, (sizeOf e).run P w = .ok 1 w)
    (xs ys : List Bool) (hx : xs.length = n) (hy : ys.length = n) :
    (Op.equalIn (d + 2) t (.agg (xs.map Value.bool).toArray) (.agg (ys.map Value.bool).toArray)).run P w = .ok (xs == ys) w := by
  rw [← all_range_b xs ys (hx.trans hy.symm), hx, List.range_eq_range', Op.equalIn]
  simp only [Sem.run_bind, run_underlying ht, Result.andThen_ok, hsz, Std.Legacy.Range.forIn_eq_forIn_range', Std.Legacy.Range.size, Nat.sub_zero, Nat.add_sub_cancel, Nat.div_one]
  have hl : ∀ i ∈ List.range' 0 n 1, i < n := fun i hi => by simpa using (List.mem_range'_1.1 hi).2
  generalize List.range' 0 n 1 = l at hl ⊢
  induction l with
  | nil => simp
  | cons i l ih =>
    have hi : i < n := hl i (by simp)
    have px : (part e (xs.map Value.bool).toArray (i * 1)).run P w = .ok (.bool (xs.getD i false)) w := by
      simp [part, isAgg, run_underlying he, List.getD, List.getElem?_eq_getElem (show i < xs.length by omega)]
    have py : (part e (ys.map Value.bool).toArray (i * 1)).run P w = .ok (.bool (ys.getD i false)) w := by
      simp [part, isAgg, run_underlying he, List.getD, List.getElem?_eq_getElem (show i < ys.length by omega)]
    have pe : (Op.equalIn (d + 1) e (.bool (xs.getD i false)) (.bool (ys.getD i false))).run P w = .ok (xs.getD i false == ys.getD i false) w := run_equalIn_bool _ _ _ _ _ he
    simp only [List.forIn_cons, Sem.run_bind, px, py, pe, Result.andThen_ok, List.all_cons]
    cases hb : (xs.getD i false == ys.getD i false)
    · simp
    · simpa [List.getD] using ih (fun j hj => hl j (List.mem_cons_of_mem _ hj))
def oddL (p r : List ByteArray) (k : Nat) : List Bool := (List.range 64).map fun i => decide (i < k) && decide (sAt p i ≠ sAt r i)
theorem odd_set (p r : List ByteArray) (k : Nat) (b : Bool) (hb : decide (sAt p k ≠ sAt r k) = b) (i : Nat) (hi : i < 64) :
    (if i = k then Value.bool b else .bool ((oddL p r k).getD i false)) = .bool ((oddL p r (k + 1)).getD i false) := by
  simp only [oddL, List.getD_eq_getElem?_getD, List.getElem?_map, List.getElem?_range hi, Option.map_some, Option.getD_some]
  by_cases e : i = k
  · subst e; rw [if_pos rfl, hb, decide_eq_true (show i < i + 1 by omega), Bool.true_and]
  · rw [if_neg e]
    by_cases h : i < k
    · rw [decide_eq_true h, decide_eq_true (show i < k + 1 by omega)]
    · rw [decide_eq_false h, decide_eq_false (show ¬ i < k + 1 by omega)]
theorem row64_bools {w : World} {g : Nat} {T : TypeId} {L : List Bool} (h : w.rowIs g T 64 (fun i => .bool (L.getD i false))) (hl : L.length = 64) : row64 w g 0 = (L.map Value.bool).toArray := by
  apply Array.ext'
  refine List.ext_getElem (by simp [row64, hl]) fun i h1 h2 => ?_
  have hi : i < 64 := by simpa [row64] using h1
  simp only [row64, List.getElem_map, List.getElem_range]
  rw [h.cell (i := 0 + i) (by omega)]
  simp [List.getD, hl, hi]
def falseL : List Bool := List.replicate 64 false
theorem oddL_none (p r : List ByteArray) (hl : p.length = r.length) (h64 : p.length ≤ 64) : (oddL p r p.length == falseL) = decide (p = r) := by
  rw [Bool.eq_iff_iff, beq_iff_eq, decide_eq_true_eq]
  constructor
  · intro h
    refine strs_ext hl fun j hj => ?_
    have := congrArg (fun l => l.getD j true) h
    simp only [oddL, falseL, List.getD_eq_getElem?_getD, List.getElem?_map, List.getElem?_range (show j < 64 by omega), List.getElem?_replicate, show j < 64 by omega, if_true, Option.map_some, Option.getD_some] at this
    rw [decide_eq_true hj, Bool.true_and, decide_eq_false_iff_not, Classical.not_not] at this
    exact this
  · rintro rfl
    refine List.ext_getElem (by simp [oddL, falseL]) fun i h1 h2 => ?_
    simp only [oddL, falseL, List.getElem_map, List.getElem_range, List.getElem_replicate]; simp
def zeroB : Array Value := #[.bool false, .bool false, .bool false, .bool false, .bool false, .bool false, .bool false, .bool false, .bool false, .bool false, .bool false, .bool false, .bool false, .bool false, .bool false, .bool false, .bool false, .bool false, .bool false, .bool false, .bool false, .bool false, .bool false, .bool false, .bool false, .bool false, .bool false, .bool false, .bool false, .bool false, .bool false, .bool false, .bool false, .bool false, .bool false, .bool false, .bool false, .bool false, .bool false, .bool false, .bool false, .bool false, .bool false, .bool false, .bool false, .bool false, .bool false, .bool false, .bool false, .bool false, .bool false, .bool false, .bool false, .bool false, .bool false, .bool false, .bool false, .bool false, .bool false, .bool false, .bool false, .bool false, .bool false, .bool false]
theorem zero_bools : zeroB = (falseL.map Value.bool).toArray := by kernel_rfl
theorem zero_rep : zeroB = Array.replicate 64 (.bool false) := by kernel_rfl
theorem fitR_no {a : List ByteArray} {k : Int} (h : ¬ fitOk a k) : fitR a k = (false, 1) := by unfold fitR; rw [if_neg h]
theorem sAt_drop (l : List ByteArray) (k i : Nat) : sAt (l.drop k) i = sAt l (k + i) := by
  unfold sAt; rw [List.getD_eq_getElem?_getD, List.getD_eq_getElem?_getD, List.getElem?_drop]
theorem sAt_take (l : List ByteArray) (k i : Nat) (h : i < k) : sAt (l.take k) i = sAt l i := by
  unfold sAt; rw [List.getD_eq_getElem?_getD, List.getD_eq_getElem?_getD, List.getElem?_take, if_pos h]
theorem alikeB_take (l : List ByteArray) (k : Nat) (h1 : 1 ≤ k) (h2 : k ≤ l.length) (h : alikeB l = true) : alikeB (l.take k) = true := by
  rw [alikeB_iff] at h ⊢
  intro j hj
  rw [List.length_take] at hj
  rw [sAt_take _ _ _ (by omega), sAt_take _ _ _ (by omega)]
  exact h j (by omega)
set_option maxRecDepth 100000 in
theorem fits_bad (A : Option Addr) (n c : Nat) (ss : List ByteArray) (k : Int) (w : World) (B : Nat) (h : Reads w B 1 A n (strV ss)) (hn : n ≤ 9223372036854775807) (hbad : ¬ fitOk ss k) :
    Calls Try.prog 51 #[.slice A n c, .int .i64 k] w fun e w' => e = .returned (.tuple #[.bool (fitR ss k).1, .int .i64 (fitR ss k).2]) ∧ Below w.heap.size w w' := by
  have hl := h.len
  have X := Lib.hid (fitR_no hbad)
  have hcases : k < 1 ∨ 32 < k ∨ (1 ≤ k ∧ k ≤ 32 ∧ (n : Int) < k) ∨ (1 ≤ k ∧ k ≤ 32 ∧ k ≤ (n : Int) ∧ 64 < n) ∨ (1 ≤ k ∧ k ≤ 32 ∧ k ≤ (n : Int) ∧ n ≤ 64 ∧ alikeB ss = false) := by
    unfold fitOk at hbad
    by_cases ha : alikeB ss = true
    · simp only [ha, and_true] at hbad; omega
    · have : alikeB ss = false := by simpa using ha
      simp only [this, and_true]; omega
  have HH := Lib.hid h
  clear hbad hl h
  rcases hcases with h | h | ⟨h1, h2, h⟩ | ⟨h1, h2, h3, h⟩ | ⟨h1, h2, h3, h4, h⟩
  · go_enter Try.func51, Try.ntmps51
    go_wp2
    go_ret2
    exact ⟨by rw [X.out]; rfl, Below.refl _ _⟩
  · go_enter Try.func51, Try.ntmps51
    go_wp2
    go_ret2
    exact ⟨by rw [X.out]; rfl, Below.refl _ _⟩
  · go_enter Try.func51, Try.ntmps51
    go_wp2
    go_ret2
    exact ⟨by rw [X.out]; rfl, Below.refl _ _⟩
  · go_enter Try.func51, Try.ntmps51
    go_wp2
    go_ret2
    exact ⟨by rw [X.out]; rfl, Below.refl _ _⟩
  · have HA := Lib.hid h
    clear h
    go_enter Try.func51, Try.ntmps51
    go_wp2_with fail
    refine (alike_any A n c ss _ _ HH.out hn).mono ?_; rintro e w' ⟨rfl, rfl⟩
    rw [HA.out]
    go_wp2
    go_ret2
    exact ⟨by rw [X.out]; rfl, Below.refl _ _⟩
attribute [local go_sem ↓] execOp_ld64
attribute [local go_sem] run_ld64
set_option maxRecDepth 100000 in
set_option maxHeartbeats 2000000 in
theorem fits_any (A : Option Addr) (n c : Nat) (ss : List ByteArray) (k : Int) (w : World) (B : Nat) (h : Reads w B 1 A n (strV ss)) (hB : B ≤ w.heap.size) (hc : n ≤ c) (hn : n ≤ 9223372036854775807) (hs : ∀ s ∈ ss, s.size ≤ 281474976710656) :
    Calls Try.prog 51 #[.slice A n c, .int .i64 k] w fun e w' => e = .returned (.tuple #[.bool (fitR ss k).1, .int .i64 (fitR ss k).2]) ∧ Below w.heap.size w w' := by
  by_cases hok : ¬ fitOk ss k
  · exact fits_bad A n c ss k w B h hn hok
  have hok := Classical.not_not.1 hok
  have X : Hid (fitR ss k = (fitB ss k.toNat, 0)) := Lib.hid (by unfold fitR; rw [if_pos hok])
  have hl := h.len
  obtain ⟨a1, a2, a3, a4, a5⟩ := hok
  obtain ⟨K, rfl⟩ : ∃ m : Nat, k = m := ⟨k.toNat, by omega⟩
  rw [hl] at a3 a4
  rw [Int.toNat_natCast] at X
  have b1 : 1 ≤ K := by omega
  have b2 : K ≤ 32 := by omega
  have b3 : K ≤ n := by omega
  obtain ⟨q, hq⟩ : ∃ q : Nat, (n : Int) - (K : Int) = (q : Int) := ⟨n - K, by omega⟩
  have HA := Lib.hid a5
  have HH := Lib.hid h
  have HT := Lib.hid (reads_takeS h b3)
  have hTl : (ss.take K).length = K := by rw [List.length_take]; omega
  have XE : Hid (encR (ss.take K) (q : Int) = (parL (ss.take K) q, 0)) := Lib.hid (by
    rw [encR_yes ⟨by omega, by omega, alikeB_take ss K b1 (by omega) a5, by omega, by omega⟩, Int.toNat_natCast])
  have XF : Hid (fitB ss K = (oddL (parL (ss.take K) q) (ss.drop K) q == falseL)) := Lib.hid (by
    have e := oddL_none (parL (ss.take K) q) (ss.drop K) (by rw [parL_length, List.length_drop]; omega) (by rw [parL_length]; omega)
    rw [parL_length] at e
    rw [e]; unfold fitB
    rw [show ss.length - K = q by omega])
  have hs0 : (sAt (ss.take K) 0).size ≤ 281474976710656 := by
    rw [sAt_take _ _ _ (by omega)]; exact hs _ (sAt_mem (by omega))
  have HL := Lib.hid hl
  have hcK : K ≤ c := by omega
  clear h a5 hl hTl hs a1 a2 a3
  go_enter Try.func51, Try.ntmps51
  go_wp2_with fail
  refine (alike_any A n c ss _ _ HH.out hn).mono ?_; rintro e w' ⟨rfl, rfl⟩
  rw [HA.out]
  go_wp2_with fail
  refine (encode_any A K c (ss.take K) (q : Int) _ _ HT.out hB (by omega) (by omega) (by omega) hs0).mono ?_
  rintro e w9 ⟨v9, rfl, ho9, hb9⟩
  rw [XE.out] at ho9 ⊢
  rw [show (parL (ss.take K) q, (0 : Int)).1.length = q from parL_length _ _] at ho9
  obtain ⟨A9, c9, rfl, _, hr9⟩ := own_readsC ho9
  have HR9 := Lib.hid hr9
  have HB9 := Lib.hid hb9
  have hs9 := hb9.size
  have Z : Hid ((w9.alloc (.cells zeroB 87)).rowIs w9.heap.size 87 64 (fun i => .bool ((oddL (parL (ss.take K) q) (ss.drop K) 0).getD i false))) := Lib.hid (by
    refine (zeros_row w9 zero_rep).congr fun i hi => ?_
    simp [oddL, List.getD, hi])
  clear ho9 hr9 hb9
  go_wp2
  change Code.wp _ _ _ _ (w9.alloc (.cells zeroB 87))
  have HZ : Hid ((w9.alloc (.cells zeroB 87)).rowIs w9.heap.size 87 64 (fun i => .bool ((oddL (parL (ss.take K) q) (ss.drop K) 0).getD i false)) ∧ Below w9.heap.size w9 (w9.alloc (.cells zeroB 87))) := Lib.hid ⟨Z.out, (Below.refl _ _).alloc (Nat.le_refl _) _⟩
  clear Z
  generalize w9.alloc (.cells zeroB 87) = W at HZ ⊢
  go_loopw [9, 10, 46] (fun _ _ i wr => ∃ k : Nat, k ≤ q ∧ i = .int .i64 k ∧ Hid (wr.rowIs w9.heap.size 87 64 (fun i => .bool ((oddL (parL (ss.take K) q) (ss.drop K) k).getD i false)) ∧ Below w9.heap.size w9 wr)) (fun _ _ i _ => q - (intOf i).toNat)
  case atStart => exact ⟨0, by omega, rfl, HZ⟩
  case round =>
    obtain ⟨k, hk, rfl, HK⟩ := hrel
    clear HZ
    by_cases hlt : k < q
    · obtain ⟨a9, rfl, h9b, hc9⟩ := (HR9.out.below HK.out.2).str hlt
      obtain ⟨ad, rfl, hba, hca⟩ := ((HH.out.below (HB9.out.mono hB)).below (HK.out.2.mono (Nat.le_trans hB hs9))).str (k := K + k) (by omega)
      have hck := hc9 k hlt
      have hcr := hca (K + k) (by omega)
      have HD : Hid (sAt ss (K + k) = sAt (ss.drop K) k) := Lib.hid (sAt_drop ss K k).symm
      rw [HD.out] at hcr
      obtain ⟨v1, hc1⟩ : ∃ v, wr.cell? ⟨w9.heap.size, k, none⟩ = some v := ⟨_, HK.out.1.cell (by omega)⟩
      have hf1 : wr.frozen? ⟨w9.heap.size, k, none⟩ = false := HK.out.1.frozen _
      have hk64 : (k : Int) < 64 := by omega
      have hk64n : k < 64 := by omega
      clear hc9 hca
      by_cases e : sAt (parL (ss.take K) q) k = sAt (ss.drop K) k
      · have t : ((sAt (parL (ss.take K) q) k).toList == (sAt (ss.drop K) k).toList) = true := by rw [beq_str]; simpa using e
        have E := Lib.hid (odd_set (parL (ss.take K) q) (ss.drop K) k false (by simpa using e))
        clear e
        go_wp2
        go_roundw
        case rel => exact ⟨k + 1, by omega, by go_num, Lib.hid ⟨(HK.out.1.set k _).congr fun i hi => E.out i hi, HK.out.2.setCell (Nat.le_refl _) _⟩⟩
        case measure => simp [intOf]; omega
      · have t : ((sAt (parL (ss.take K) q) k).toList == (sAt (ss.drop K) k).toList) = false := by rw [beq_str]; simpa using e
        have E := Lib.hid (odd_set (parL (ss.take K) q) (ss.drop K) k true (by simpa using e))
        clear e
        go_wp2
        go_roundw
        case rel => exact ⟨k + 1, by omega, by go_num, Lib.hid ⟨(HK.out.1.set k _).congr fun i hi => E.out i hi, HK.out.2.setCell (Nat.le_refl _) _⟩⟩
        case measure => simp [intOf]; omega
    · obtain rfl : k = q := by omega
      obtain ⟨L, hL⟩ : ∃ L, L = oddL (parL (ss.take K) k) (ss.drop K) k := ⟨_, rfl⟩
      have hLl : L.length = 64 := by rw [hL]; simp [oddL]
      have o1 : ok64 wr w9.heap.size 0 = true := ok64_of HK.out.1 (by omega)
      have e1 : row64 wr w9.heap.size 0 = (L.map Value.bool).toArray := by
        rw [hL]; exact row64_bools HK.out.1 (by simp [oddL])
      have heq : ∀ W, (Op.equalIn 10000 87 (.agg (L.map Value.bool).toArray) (.agg zeroB)).run Try.prog W = .ok (L == falseL) W := fun W => by
        rw [zero_bools]
        exact run_equalIn_bools W 9998 _ 4 64 (by kernel_rfl) (by kernel_rfl) (fun w => by kernel_rfl) L falseL hLl (by simp [falseL])
      unfold zeroB at heq
      have XL : Hid (fitB ss K = (L == falseL)) := Lib.hid (by rw [XF.out, hL])
      have HBW := Lib.hid (HB9.out.trans (HK.out.2.mono hs9))
      clear hL hLl HK
      generalize (L.map Value.bool).toArray = XA at e1 heq
      generalize (L == falseL) = b at heq XL
      go_wp2
      go_ret2
      exact ⟨by rw [X.out, XL.out]; rfl, HBW.out⟩
end Go.Proofs.Ythlnnclpfgokjaa
