/- Walks: shards joined: shards.Whole and the reference's. -/
import Derived.Test.YthlnnclpfgokjaaShQ
import Derived.Test.YthlnnclpfgokjaaStrApp
import Derived.Test.YthlnnclpfgokjaaShelf
namespace Go.Proofs.Ythlnnclpfgokjaa
open Go.RowKit Gf
set_option linter.unusedVariables false
theorem joinL_snoc (l : List ByteArray) (s : ByteArray) : joinL (l ++ [s]) = joinL l ++ s.data.toList := by simp [joinL]
theorem joinL_len (l : List ByteArray) (L : Nat) (h : ∀ s ∈ l, s.size = L) : (joinL l).length = l.length * L := by
  induction l with
  | nil => simp [joinL]
  | cons s r ih =>
    have := ih (fun x hx => h x (List.mem_cons_of_mem _ hx))
    unfold joinL at this ⊢
    rw [List.flatMap_cons, List.length_append, this, List.length_cons, Nat.add_mul, Nat.one_mul, data_length, h s (by simp)]; omega
theorem joinL_alike (l : List ByteArray) (h : alikeB l = true) : (joinL l).length = l.length * (sAt l 0).size := joinL_len l _ (fun s hs => by
  obtain ⟨j, hj, rfl⟩ := List.getElem_of_mem hs
  rw [← sAt_get hj]; exact (alikeB_iff l).1 h j hj)
theorem join_lib (l : List ByteArray) : Lib.join (l.map (·.data.toList)) [] = joinL l := by
  unfold joinL
  induction l with
  | nil => rfl
  | cons s r ih =>
    rw [List.map_cons, Lib.join_cons, List.flatMap_cons]
    congr 1
    simp [Lib.joinTail, List.flatMap_def, Function.comp_def]
def wholeOk (l : List ByteArray) (n : Int) : Prop := 1 ≤ l.length ∧ l.length ≤ 32 ∧ alikeB l = true ∧ 0 ≤ n ∧ n ≤ ((joinL l).length : Int)
instance (l : List ByteArray) (n : Int) : Decidable (wholeOk l n) := by unfold wholeOk; infer_instance
def wholeR (l : List ByteArray) (n : Int) : ByteArray × Int := if wholeOk l n then (bs ((joinL l).take n.toNat), 0) else (ByteArray.empty, 1)
theorem wholeR_no {l : List ByteArray} {n : Int} (h : ¬ wholeOk l n) : wholeR l n = (ByteArray.empty, 1) := by unfold wholeR; rw [if_neg h]
theorem wholeR_yes {l : List ByteArray} {n : Int} (h : wholeOk l n) : wholeR l n = (bs ((joinL l).take n.toNat), 0) := by unfold wholeR; rw [if_pos h]
set_option maxRecDepth 100000 in
set_option maxHeartbeats 1000000 in
theorem whole_any (A : Option Addr) (n c : Nat) (ss : List ByteArray) (x : Int) (w : World) (B : Nat) (h : Reads w B 1 A n (strV ss)) (hB : B ≤ w.heap.size) (hc : n ≤ c) (hn : n ≤ 9223372036854775807) (hx1 : -9223372036854775808 ≤ x) (hx2 : x ≤ 9223372036854775807)
    (hA : 1 ≤ n → ∃ b o, A = some ⟨b, o, none⟩) (hJ : 1 ≤ n → n ≤ 32 → alikeB ss = true → (joinL ss).length ≤ 140737488355328) :
    Calls Try.prog 45 #[.slice A n c, .int .i64 x] w fun e w' => e = .returned (.tuple #[.string (wholeR ss x).1, .int .i64 (wholeR ss x).2]) ∧ Below w.heap.size w w' := by
  have hl := h.len
  have HH := Lib.hid h
  by_cases h1 : n < 1
  · have X : Hid (wholeR ss x = (ByteArray.empty, 1)) := Lib.hid (wholeR_no (by rintro ⟨a, _⟩; omega))
    clear h hl hA hJ
    go_enter Try.func45, Try.ntmps45
    go_wp2
    go_ret2
    exact ⟨by rw [X.out]; rfl, Below.refl _ _⟩
  by_cases h2 : 32 < n
  · have X : Hid (wholeR ss x = (ByteArray.empty, 1)) := Lib.hid (wholeR_no (by rintro ⟨_, a, _⟩; omega))
    clear h hl hA hJ
    go_enter Try.func45, Try.ntmps45
    go_wp2
    go_ret2
    exact ⟨by rw [X.out]; rfl, Below.refl _ _⟩
  by_cases ha : ¬ alikeB ss = true
  · have X : Hid (wholeR ss x = (ByteArray.empty, 1)) := Lib.hid (wholeR_no (by rintro ⟨_, _, a, _⟩; exact ha a))
    have HA : Hid (alikeB ss = false) := Lib.hid (by simpa using ha)
    clear h hl ha hA hJ
    go_enter Try.func45, Try.ntmps45
    go_wp2_with fail
    refine (alike_any A n c ss _ _ HH.out hn).mono ?_; rintro e w' ⟨rfl, rfl⟩
    rw [HA.out]
    go_wp2
    go_ret2
    exact ⟨by rw [X.out]; rfl, Below.refl _ _⟩
  have ha := Classical.not_not.1 ha
  obtain ⟨b, o, rfl⟩ := hA (by omega)
  have hj := hJ (by omega) (by omega) ha
  have HA := Lib.hid ha
  have HJ := Lib.hid (join_lib ss)
  have hcells : ∀ (j : Nat) s, ss[j]? = some s → w.cell? ⟨b, o + j, none⟩ = some (.string s) := fun j s hs => by
    have hjl : j < ss.length := (List.getElem?_eq_some_iff.1 hs).1
    obtain ⟨ad, e, _, hc⟩ := h.str (k := 0) (by omega)
    injection e with e; subst e
    have := hc j (by omega)
    rw [Addr.add_lit] at this
    rw [this, sAt_get hjl, (List.getElem?_eq_some_iff.1 hs).2]
  have hbk : b < w.heap.size := by
    obtain ⟨ad, e, hb, _⟩ := h.2 (by omega)
    injection e with e; subst e; exact Nat.lt_of_lt_of_le hb hB
  have JC : Hid (Calls Try.prog 65 #[.slice (some ⟨b, o, none⟩) n c, .string ⟨#[]⟩] w fun e w' => e = .returned (.string (bs (joinL ss))) ∧ Below w.heap.size w w') := Lib.hid (by
    have := Try.strings_Join b o c ss ⟨#[]⟩ w hcells hbk (by omega) (by omega) (by show (Lib.join _ []).length ≤ _; rw [join_lib]; exact hj)
    rw [hl] at this
    refine this.mono fun e w' ⟨he, hb⟩ => ⟨?_, hb⟩
    rw [he]
    show Ending.returned (.string (bs (Lib.join _ []))) = _
    rw [join_lib])
  have HX : Hid (∀ k : Nat, (joinL ss).length = (bs (joinL ss)).size ∧ (bs (joinL ss)).extract 0 k = bs ((joinL ss).take k)) := Lib.hid (fun k => ⟨by rw [bs_size], by rw [← bs_of ((bs (joinL ss)).extract 0 k), Lib.extract_data, bs_data]; simp⟩)
  have HL := Lib.hid hl
  clear h hcells hJ HJ hbk
  by_cases hx0 : x < 0
  · have X : Hid (wholeR ss x = (ByteArray.empty, 1)) := Lib.hid (wholeR_no (by rintro ⟨_, _, _, a, _⟩; omega))
    clear hl ha
    go_enter Try.func45, Try.ntmps45
    go_wp2_with fail
    refine (alike_any _ n c ss _ _ HH.out hn).mono ?_; rintro e w' ⟨rfl, rfl⟩
    rw [HA.out]
    go_wp2_with fail
    refine JC.out.mono ?_; rintro e w1 ⟨rfl, hb1⟩
    have HB1 := Lib.hid hb1
    clear hb1
    go_wp2
    go_ret2
    exact ⟨by rw [X.out]; rfl, HB1.out⟩
  obtain ⟨k, rfl⟩ : ∃ k : Nat, x = k := ⟨x.toNat, by omega⟩
  obtain ⟨T, hT⟩ : ∃ T, bs (joinL ss) = T := ⟨_, rfl⟩
  have hTs : T.size = (joinL ss).length := by rw [← hT, bs_size]
  have hTj : T.size ≤ 140737488355328 := by omega
  rw [hT] at JC HX
  by_cases hx3 : T.size < k
  · have X : Hid (wholeR ss (k : Int) = (ByteArray.empty, 1)) := Lib.hid (wholeR_no (by rintro ⟨_, _, _, _, a⟩; omega))
    clear hl ha hT hTs
    go_enter Try.func45, Try.ntmps45
    go_wp2_with fail
    refine (alike_any _ n c ss _ _ HH.out hn).mono ?_; rintro e w' ⟨rfl, rfl⟩
    rw [HA.out]
    go_wp2_with fail
    refine JC.out.mono ?_; rintro e w1 ⟨rfl, hb1⟩
    have HB1 := Lib.hid hb1
    clear hb1
    go_wp2
    go_ret2
    exact ⟨by rw [X.out]; rfl, HB1.out⟩
  · have hx4 : k ≤ T.size := by omega
    have X : Hid (wholeR ss (k : Int) = (bs ((joinL ss).take k), 0)) := Lib.hid (by
      have := wholeR_yes (l := ss) (n := (k : Int)) ⟨by omega, by omega, ha, by omega, by omega⟩
      rw [Int.toNat_natCast] at this; exact this)
    clear hl ha hT hTs hx3
    go_enter Try.func45, Try.ntmps45
    go_wp2_with fail
    refine (alike_any _ n c ss _ _ HH.out hn).mono ?_; rintro e w' ⟨rfl, rfl⟩
    rw [HA.out]
    go_wp2_with fail
    refine JC.out.mono ?_; rintro e w1 ⟨rfl, hb1⟩
    have HB1 := Lib.hid hb1
    clear hb1
    go_wp2
    go_ret2
    exact ⟨by rw [X.out, ← (HX.out k).2]; rfl, HB1.out⟩
end Go.Proofs.Ythlnnclpfgokjaa
