/- Several texts of the claim joined into one (part 6): plain facts and walks. No conditions but those that each theorem tells. -/
import Derived.Test.YtpfccicahfncbaaMgPackBack5
import Derived.Test.YtpfccicahfncbaaPkBMPackBack
namespace Go.Proofs.Ytpfccicahfncbaa
open Go.RowKit Wir Dig
set_option linter.unusedVariables false
set_option linter.unusedSimpArgs false
theorem entsV_length (L : List (Nat × PObj)) : (entsV L).length = L.length * 35 := by
  induction L with
  | nil => rfl
  | cons q L ih =>
    show ((entA q.1 q.2).toList ++ entsV L).length = _
    rw [List.length_append, Array.length_toList, entA_size, ih, List.length_cons]; omega
theorem entsV_get (L : List (Nat × PObj)) (i j : Nat) (h : i < L.length) (hj : j < 35) : (entsV L)[i * 35 + j]? = (entA (L[i]).1 (L[i]).2)[j]? := by
  induction L generalizing i with
  | nil => simp at h
  | cons q L ih =>
    have e : entsV (q :: L) = (entA q.1 q.2).toList ++ entsV L := rfl
    have hz : (entA q.1 q.2).toList.length = 35 := by rw [Array.length_toList, entA_size]
    rw [e]
    cases i with
    | zero =>
      rw [List.getElem?_append_left (by rw [hz]; omega), Nat.zero_mul, Nat.zero_add, Array.getElem?_toList]; rfl
    | succ i =>
      rw [List.getElem?_append_right (by rw [hz]; omega), hz, show (i + 1) * 35 + j - 35 = i * 35 + j from by omega, ih i (by simpa using h)]
      rfl
theorem entA_tail (off : Nat) (o : PObj) : (entA off o)[32]? = some (.int .u8 (o.1.toNat : Int)) ∧ (entA off o)[33]? = some (.int .i64 (off : Int)) ∧ (entA off o)[34]? = some (.int .i64 (o.2.size : Int)) := by
  have hz := nmA_size o
  unfold entA
  refine ⟨?_, ?_, ?_⟩ <;> rw [Array.getElem?_append_right (by omega), hz] <;> rfl
/-- The i-th entry's cells. -/
theorem ent_cells {w : World} {B n : Nat} {A : Option Addr} {L : List (Nat × PObj)} (h : Reads w B 35 A n (entsV L)) (i : Nat) (hi : i < n) :
    ∃ (ad : Addr) (hl : i < L.length), A = some ad ∧ ad.block < B ∧ w.cell? ⟨(ad.add (i * 35)).block, (ad.add (i * 35)).off + 32, none⟩ = some (.int .u8 ((L[i]).2.1.toNat : Int)) ∧ w.cell? ⟨(ad.add (i * 35)).block, (ad.add (i * 35)).off + 33, none⟩ = some (.int .i64 ((L[i]).1 : Int)) ∧ w.cell? ⟨(ad.add (i * 35)).block, (ad.add (i * 35)).off + 34, none⟩ = some (.int .i64 ((L[i]).2.2.size : Int)) := by
  obtain ⟨ad, e, hb, hc⟩ := h.2 (by omega)
  have hl : i < L.length := by have := h.1; rw [entsV_length] at this; omega
  obtain ⟨t1, t2, t3⟩ := entA_tail (L[i]).1 (L[i]).2
  refine ⟨ad, hl, e, hb, ?_, ?_, ?_⟩
  · show w.cell? ((ad.add (i * 35)).add 32) = _
    rw [add_of_add]; exact hc _ _ (by rw [entsV_get L i 32 hl (by omega)]; exact t1)
  · show w.cell? ((ad.add (i * 35)).add 33) = _
    rw [add_of_add]; exact hc _ _ (by rw [entsV_get L i 33 hl (by omega)]; exact t2)
  · show w.cell? ((ad.add (i * 35)).add 34) = _
    rw [add_of_add]; exact hc _ _ (by rw [entsV_get L i 34 hl (by omega)]; exact t3)
def oneO : PObj := (1, ⟨#[97, 98]⟩)
theorem one_bld : (bldR [oneO]).2 = 0 ∧ (bldR [oneO]).1.size ≤ 1000 ∧ 4 ≤ (bldR [oneO]).1.size ∧ fstF ((bldR [oneO]).1.extract 4 (bldR [oneO]).1.size) = some (oneO, trlB 1) := by
  have ht := trlB_size 1
  have hb : badO 0 markPk oneO = false := by
    refine (badO_iff 0 markPk oneO).2 ⟨by decide, by omega, ?_⟩
    show 4 + (9 + 2) + (trlB (0 + 1)).size ≤ _
    rw [Nat.zero_add]; omega
  have e : bldR [oneO] = (markPk ++ recB oneO ++ trlB 1, 0) := by
    unfold bldR
    rw [bldF_on hb (by simp)]; rfl
  have hz : (bldR [oneO]).1.size = 15 + (trlB 1).size := by
    rw [e]
    show (markPk ++ recB oneO ++ trlB 1).size = _
    rw [ByteArray.size_append, ByteArray.size_append, recB_size]; rfl
  refine ⟨by rw [e], by omega, by omega, ?_⟩
  have e2 : (bldR [oneO]).1 = markPk ++ (recB oneO ++ trlB 1) := by rw [e]; exact ByteArray.append_assoc
  rw [e2, ex_right markPk (recB oneO ++ trlB 1) 4 rfl]
  exact fst_rec _ _ (by decide)
set_option maxRecDepth 100000 in
set_option maxHeartbeats 1000000 in
theorem pkAwake_any (w : World) : Calls Try.prog 12 #[] w fun e w' => e = .returned (.bool true) ∧ Below w.heap.size w w' := by
  obtain ⟨h1, h2, h3, h4⟩ := one_bld
  have hsc := scan_build [oneO] h1
  have BW := Lib.hid (fun (W : World) => build_any (some ⟨W.heap.size, 0, none⟩) 1 1 [oneO] (W.alloc (.cells #[.int .u8 1, .string ⟨#[97, 98]⟩] 30)) (W.heap.size + 1) (reads_new W #[.int .u8 1, .string ⟨#[97, 98]⟩] 30 2 rfl) (by simp) (by omega) (fun o ho => by simp at ho; subst ho; decide))
  rw [h1] at BW
  obtain ⟨P, hP⟩ : ∃ P, (bldR [oneO]).1 = P := ⟨_, rfl⟩
  rw [hP] at BW h2 h3 h4 hsc
  have SC := Lib.hid (fun W => scan_any P W (by omega))
  have RD := Lib.hid (fun W => read_any P 4 W (by omega) h3)
  rw [rdV_some h4] at RD
  rw [hsc] at SC
  have SC : Hid (∀ W, Calls Try.prog 13 #[.string P] W fun e w' => ∃ v, e = .returned (.tuple #[v, .int .i64 0]) ∧ w'.ownsRow W.heap.size 44 35 v 1 (entsV [(4, oneO)]) ∧ Below W.heap.size W w') := SC
  have RD : Hid (∀ W, Calls Try.prog 24 #[.string P, .int .i64 4] W fun e w' => e = .returned (.tuple #[.agg #[.int .u8 1, .string ⟨#[97, 98]⟩], .int .i64 0]) ∧ Below W.heap.size W w') := RD
  clear hP h1 h4 hsc
  go_enter Try.func12, Try.ntmps12
  go_wp2_with fail
  (with_reducible refine (BW.out _).mono ?_)
  rintro e w1 ⟨rfl, hb1⟩
  have HB1 : Hid (Below w.heap.size w w1) := Lib.hid (((Below.refl w.heap.size w).alloc (Nat.le_refl _) _).trans (hb1.mono (by simp)))
  clear hb1 BW
  go_wp2_with fail
  (with_reducible refine (SC.out _).mono ?_)
  rintro e w2 ⟨v, rfl, ho2, hb2⟩
  obtain ⟨g, c, rfl, hc⟩ := own_slice ho2 (Nat.le_refl _)
  have hr2 := Reads.of_own ho2
  obtain ⟨ad, hl, had, hab, a32, a33, a34⟩ := ent_cells (L := [(4, oneO)]) hr2 0 Nat.zero_lt_one
  obtain rfl := Option.some.inj had
  have HC : Hid (∀ W, Below w2.heap.size w2 W → W.cell? ⟨g, 33, none⟩ = some (.int .i64 4) ∧ W.cell? ⟨g, 34, none⟩ = some (.int .i64 2)) := Lib.hid (fun W hW => by
    rw [hW.cell (p := ⟨g, 33, none⟩) hab, hW.cell (p := ⟨g, 34, none⟩) hab]
    constructor
    · exact a33
    · exact a34)
  have HB2 : Hid (Below w.heap.size w w2) := Lib.hid (HB1.out.trans (hb2.mono HB1.out.size))
  clear SC ho2 hb2 hr2 had hab a32 a33 a34 hl
  go_wp2_with fail
  (with_reducible refine (RD.out _).mono ?_)
  rintro e w3 ⟨rfl, hb3⟩
  have HN : Hid (Below w2.heap.size w2 (w3.alloc (.cells #[.int .u8 1, .string ⟨#[97, 98]⟩] 30)) ∧ Blk (w3.alloc (.cells #[.int .u8 1, .string ⟨#[97, 98]⟩] 30)) w3.heap.size 30 #[.int .u8 1, .string ⟨#[97, 98]⟩]) := Lib.hid ⟨hb3.alloc hb3.size _, Blk.new _ _ _⟩
  clear hb3 RD
  go_upto_region 4 with fail
  generalize w3.alloc (.cells #[.int .u8 1, .string ⟨#[97, 98]⟩] 30) = w4 at HN ⊢
  obtain ⟨a33, a34⟩ := HC.out _ HN.out.1
  have b0 := HN.out.2.cell 0
  have b1 := HN.out.2.cell 1
  go_wp2
  go_ret
  exact ⟨rfl, HB2.out.trans (HN.out.1.mono HB2.out.size)⟩
end Go.Proofs.Ytpfccicahfncbaa
