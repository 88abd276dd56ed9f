/- Several texts of the claim joined into one (part 8): plain facts and walks. No conditions but those that each theorem tells. -/
import Derived.Test.YtpfccicahfncbaaMgPackBack7
import Derived.Test.YtpfccicahfncbaaPackSpansWMPackBack
import Derived.Test.YtpfccicahfncbaaDig4
import Derived.Test.YtpfccicahfncbaaMgPackBack2
import Derived.Test.YtpfccicahfncbaaHex2
import Derived.Deep.DeepCutAuto
import Derived.Test.YtpfccicahfncbaaIndexB
import Derived.Stop.BytesEq
import Derived.Test.YtpfccicahfncbaaMgPackBack3
namespace Go.Proofs.Ytpfccicahfncbaa
open Go.RowKit Wir Dig
set_option linter.unusedVariables false
theorem markB_short {s : ByteArray} (h : s.size < 4) : markB s = false := by
  cases hm : markB s with
  | false => rfl
  | true => have := markB_size hm; omega
/-- How many records of a pack are whole within its first n bytes. -/
def wholeN (l : List PObj) (n : Nat) : Nat := if n < 4 then 0 else wholes l (n - 4)
theorem cut_pack {l : List PObj} (h : (bldR l).2 = 0) {n : Nat} (hn : n < (bldR l).1.size) (h4 : ¬ n < 4) :
    ∃ t, (bldR l).1.extract 0 n = markPk ++ (recsB (l.take (wholeN l n)) ++ t) ∧ unF t = none := by
  obtain ⟨b1, b2, b3, b4⟩ := bld_bytes h
  have hm : markPk.size = 4 := rfl
  have hs := ByteArray.size_append (a := markPk) (b := recsB l ++ trlB l.length)
  rw [b1] at hn ⊢
  obtain ⟨t, h1, h2⟩ := cut_recs l l.length (n - 4) b2 (by omega)
  refine ⟨t, ?_, h2⟩
  rw [ex_over _ _ _ (by omega) (by omega), hm, h1, wholeN, if_neg h4]
theorem salvage_cut {l : List PObj} (h : (bldR l).2 = 0) {n : Nat} (hn : n < (bldR l).1.size) : svR ((bldR l).1.extract 0 n) = entsAt 4 (l.take (wholeN l n)) := by
  obtain ⟨b1, b2, b3, b4⟩ := bld_bytes h
  by_cases h4 : n < 4
  · rw [wholeN, if_pos h4, List.take_zero, svR, markB_short (by rw [pre_size (by omega)]; exact h4)]
    rfl
  · obtain ⟨t, h1, h2⟩ := cut_pack h hn h4
    rw [h1]
    exact salvage_recs _ t (fstF_none h2) (fun o ho => b2 o (List.mem_of_mem_take ho)) (by rw [List.length_take]; omega)
theorem scan_cut {l : List PObj} (h : (bldR l).2 = 0) {n : Nat} (hn : n < (bldR l).1.size) : scR ((bldR l).1.extract 0 n) = ([], 4) := by
  obtain ⟨b1, b2, b3, b4⟩ := bld_bytes h
  obtain ⟨_, _, _, hnd, _⟩ := bld_ok l 0 markPk [] h
  have hsz : ((bldR l).1.extract 0 n).size = n := pre_size (by omega)
  by_cases h4 : n < 4
  · rw [scR, if_pos (Or.inl (markB_short (by rw [hsz]; exact h4)))]
  · obtain ⟨t, h1, h2⟩ := cut_pack h hn h4
    generalize (bldR l).1.extract 0 n = s at *
    have hs := ByteArray.size_append (a := markPk) (b := recsB (l.take (wholeN l n)) ++ t)
    have hm : markPk.size = 4 := rfl
    have hx : s.extract 4 s.size = recsB (l.take (wholeN l n)) ++ t := by rw [h1]; exact ex_right markPk _ 4 rfl
    have hsc : scnF s.size (s.size + 1) (s.extract 4 s.size) [] [] = (entsAt 4 (l.take (wholeN l n)), t) := by
      rw [← h1] at hs
      rw [hx, scn_recs _ _ _ t [] [] (by omega) (by omega) (fstF_none h2) (fun o ho => b2 o (List.mem_of_mem_take ho)) (fun _ _ h => by simp at h) (by rw [List.map_take]; exact hnd.sublist (List.take_sublist _ _)) (by rw [List.length_take]; simp; omega), List.nil_append]
      congr 2
      omega
    rw [scR, if_neg (by rw [h1, markB_app, ← h1]; simp; omega), hsc, if_neg]
    intro e
    dsimp only at e
    rw [e] at h2
    rw [trl_frame] at h2
    cases h2
end Go.Proofs.Ytpfccicahfncbaa
namespace Go.Proofs.Ytpfccicahfncbaa
open Go.RowKit Wir Dig
set_option linter.unusedVariables false
theorem ex_mid (x y z : ByteArray) (a b : Nat) (ha : a = x.size) (hb : b = x.size + y.size) : (x ++ (y ++ z)).extract a b = y := by
  subst ha hb
  have h1 := ByteArray.size_append (a := x) (b := y ++ z)
  have h2 := ByteArray.size_append (a := y) (b := z)
  have e : ((x ++ (y ++ z)).extract x.size (x.size + y.size)).size = y.size := by rw [ByteArray.size_extract]; omega
  refine ext_byteAt e fun i hi => ?_
  rw [e] at hi
  rw [byteAt_part _ _ _ _ (by omega) (by omega), byteAt_app, if_neg (by omega), byteAt_app, if_pos (by omega)]
  congr 1; omega
theorem back_at {l : List PObj} (he : (bldR l).2 = 0) (k : Nat) (hk : k < l.length) :
    (∃ r, fstF ((bldR l).1.extract (endAt l k) (bldR l).1.size) = some (l[k], r)) ∧ fstF ((bldR l).1.extract (endAt l k) (endAt l k + (9 + (l[k]).2.size))) = some (l[k], ByteArray.empty) ∧ endAt l k + (9 + (l[k]).2.size) ≤ (bldR l).1.size := by
  obtain ⟨b1, b2, b3, b4⟩ := bld_bytes he
  have hok := b2 _ (List.getElem_mem hk)
  have hd : l = l.take k ++ l[k] :: l.drop (k + 1) := by rw [List.getElem_cons_drop hk, List.take_append_drop]
  have hr : recsB l = recsB (l.take k) ++ (recB l[k] ++ recsB (l.drop (k + 1))) := by
    conv => lhs; rw [hd]
    rw [recsB_app, recsB]
  have hs : (bldR l).1 = (markPk ++ recsB (l.take k)) ++ (recB l[k] ++ (recsB (l.drop (k + 1)) ++ trlB l.length)) := by
    rw [b1, hr]; simp only [ByteArray.append_assoc]
  have hz : endAt l k = (markPk ++ recsB (l.take k)).size := by rw [ByteArray.size_append]; rfl
  have hq := recB_size l[k]
  have s1 := ByteArray.size_append (a := markPk ++ recsB (l.take k)) (b := recB l[k] ++ (recsB (l.drop (k + 1)) ++ trlB l.length))
  have s2 := ByteArray.size_append (a := recB l[k]) (b := recsB (l.drop (k + 1)) ++ trlB l.length)
  rw [hs, hz]
  refine ⟨⟨recsB (l.drop (k + 1)) ++ trlB l.length, ?_⟩, ?_, by omega⟩
  · rw [ex_right _ _ _ rfl]
    exact fst_rec _ _ hok
  · rw [ex_mid _ _ _ _ _ rfl (by rw [hq])]
    have := fst_rec l[k] ByteArray.empty hok
    rwa [ByteArray.append_empty] at this
theorem cut_iff (l : List PObj) (n i : Nat) (hi : i < l.length) : (i < wholeN l n ↔ endAt l i + (9 + (l[i]).2.size) ≤ n) := by
  rw [← endAt_next l i hi, wholeN, endAt]
  by_cases h4 : n < 4
  · rw [if_pos h4]; constructor <;> intro h <;> omega
  · rw [if_neg h4, wholes_iff l (n - 4) i hi]
    constructor <;> intro h <;> omega
theorem wholeN_le (l : List PObj) (n : Nat) : wholeN l n ≤ l.length := by
  unfold wholeN
  split
  · omega
  · exact wholes_le l _
theorem left_at (l : List PObj) (m i : Nat) (him : i < m) (hm : m ≤ l.length) : (entsAt 4 (l.take m))[i]? = some (endAt l i, l[i]'(by omega)) := by
  rw [entsAt_get (l.take m) 4 i (by rw [List.length_take]; omega), List.take_take, Nat.min_eq_left (by omega), List.getElem_take]
  rfl
theorem bldF_code : ∀ (l : List PObj) (i : Nat) (s : ByteArray) (S : List (Array Value)), (bldF i s S l).2 = 0 ∨ (bldF i s S l).2 = 1 ∨ (bldF i s S l).2 = 7
  | [], i, s, S => Or.inl (by rw [bldF])
  | o :: l, i, s, S => by
    cases hb : badO i s o with
    | true => rw [bldF_bad hb]; exact Or.inr (Or.inl rfl)
    | false =>
      by_cases hm : nmA o ∈ S
      · rw [bldF_there hb hm]; exact Or.inr (Or.inr rfl)
      · rw [bldF_on hb hm]; exact bldF_code l _ _ _
theorem bld_four {l : List PObj} (h : (bldR l).2 = 0) : 4 ≤ (bldR l).1.size := by
  obtain ⟨b1, _⟩ := bld_bytes h
  rw [b1]
  have := ByteArray.size_append (a := markPk) (b := recsB l ++ trlB l.length)
  have hm : markPk.size = 4 := rfl
  omega
end Go.Proofs.Ytpfccicahfncbaa
namespace Go.Proofs.Ytpfccicahfncbaa
open Go.RowKit Dig
set_option linter.unusedVariables false
set_option linter.unusedSimpArgs false
attribute [local go_sem ↓] execOp_ld32 execOp_st32
attribute [local go_sem] run_ld32 run_st32
/-- A pack's label. -/
def labB (I : Nat → UInt8) : ByteArray := (⟨#[112, 97, 99, 107, 45]⟩ : ByteArray) ++ bs (textL I) ++ ⟨#[46, 112, 107]⟩
theorem textL_small (I : Nat → UInt8) : (bs (textL I)).size ≤ 1000 := by
  rw [bs_size]; unfold textL; rw [hexL_len]; simp
set_option maxRecDepth 100000 in
theorem label_any (I : Nat → UInt8) (w : World) :
    Calls Try.prog 29 #[.agg (idA I)] w fun e w' => e = .returned (.string (labB I)) ∧ Below w.heap.size w w' := by
  have R : Hid ((w.alloc (.cells (idA I) 42)).rowIs w.heap.size 42 32 (u8V I) ∧ Below w.heap.size w (w.alloc (.cells (idA I) 42))) := Lib.hid ⟨id_row w I _, (Below.refl _ _).alloc (Nat.le_refl _) _⟩
  have T := Lib.hid (fun W => text_any I W)
  have E : Hid ((⟨#[112, 97, 99, 107, 45]⟩ : ByteArray) ++ bs (textL I) ++ ⟨#[46, 112, 107]⟩ = labB I) := Lib.hid rfl
  have hts : (bs (textL I)).size ≤ 1000 := textL_small I
  generalize bs (textL I) = t at *
  have his := idA_size I
  go_enter Try.func29, Try.ntmps29
  go_upto_region 1 with fail
  generalize w.alloc (.cells (idA I) 42) = w1 at R ⊢
  have o1 := ok32_of R.out.1 (Nat.le_refl 32)
  have r1 := row32_id R.out.1
  go_wp2_with fail
  (with_reducible refine (T.out _).mono ?_)
  rintro e w2 ⟨rfl, hb2⟩
  have HB := Lib.hid (R.out.2.trans (hb2.mono R.out.2.size))
  clear hb2 T o1 r1
  go_wp2
  go_ret
  exact ⟨by rw [← E.out]; rfl, HB.out⟩
set_option maxRecDepth 100000 in
theorem fits_any (u s : ByteArray) (w : World) (hs : s.size ≤ 1152921504606846976) :
    Calls Try.prog 30 #[.string u, .string s] w fun e w' => e = .returned (.bool (u.toList == (labB (shaF (byteAt s) s.size)).toList)) ∧ Below w.heap.size w w' := by
  have D := Lib.hid (fun W => digSum_any s W hs)
  have T := Lib.hid (fun W => label_any (shaF (byteAt s) s.size) W)
  generalize shaF (byteAt s) s.size = I at *
  generalize labB I = t at *
  generalize idA I = J at *
  go_enter Try.func30, Try.ntmps30
  go_wp2_with fail
  (with_reducible refine (D.out _).mono ?_)
  rintro e w1 ⟨rfl, hb1⟩
  have HB1 : Hid (Below w.heap.size w w1) := Lib.hid hb1
  clear hb1 D
  go_wp2_with fail
  (with_reducible refine (T.out _).mono ?_)
  rintro e w2 ⟨rfl, hb2⟩
  have HB := Lib.hid (HB1.out.trans (hb2.mono HB1.out.size))
  clear hb2 T
  go_wp2
  go_ret
  exact ⟨rfl, HB.out⟩
end Go.Proofs.Ytpfccicahfncbaa
namespace Go.Proofs.Ytpfccicahfncbaa
open Go.RowKit Dig
set_option linter.unusedVariables false
def zI : Nat → UInt8 := fun _ => 0
theorem zero_lit : (#[.int .u8 0, .int .u8 0, .int .u8 0, .int .u8 0, .int .u8 0, .int .u8 0, .int .u8 0, .int .u8 0, .int .u8 0, .int .u8 0, .int .u8 0, .int .u8 0, .int .u8 0, .int .u8 0, .int .u8 0, .int .u8 0, .int .u8 0, .int .u8 0, .int .u8 0, .int .u8 0, .int .u8 0, .int .u8 0, .int .u8 0, .int .u8 0, .int .u8 0, .int .u8 0, .int .u8 0, .int .u8 0, .int .u8 0, .int .u8 0, .int .u8 0, .int .u8 0] : Array Value) = idA zI := by kernel_rfl
theorem zero_put {w w1 : World} (b : Below w.heap.size w w1) (r : w1.rowIs w.heap.size 42 32 (fun _ => .int .u8 0)) :
    ok32 w1 w.heap.size 0 = true ∧ (put32 w1 w.heap.size 0 (idA zI)).heap[w.heap.size]? = some (.cells (idA zI) 42 (0, 0)) ∧ Below w.heap.size w (put32 w1 w.heap.size 0 (idA zI)) :=
  ⟨ok32_of r (by omega), id_put zI r b (Nat.le_refl _)⟩
theorem zero_one (w : World) : (w.alloc zeroId).rowIs w.heap.size 42 32 (fun _ => .int .u8 0) ∧ Below w.heap.size w (w.alloc zeroId) :=
  ⟨zeros_row w (T := 42) (c := _) (n := 32) (z := .int .u8 0) (by rfl), (Below.refl _ _).alloc (Nat.le_refl _) _⟩
end Go.Proofs.Ytpfccicahfncbaa
namespace Go.Proofs.Ytpfccicahfncbaa
open Go.RowKit
set_option linter.unusedVariables false
attribute [local go_sem ↓] execOp_ld32 execOp_st32
attribute [local go_sem] run_ld32 run_st32
theorem run_ld32_cells (w : World) (g : Nat) (I : Nat → UInt8) (h : ∀ j, j < 32 → w.cell? ⟨g, j, none⟩ = some (.int .u8 ((I j).toNat : Int))) :
    (ld32 (.pointer (some ⟨g, 0, none⟩))).run Try.prog w = .ok (.value (.agg (idA I))) w := by
  have hl : (idA I).toList.length = 32 := by rw [Array.length_toList, idA_size]
  have := run_loadCells_list (P := Try.prog) w ⟨g, 0, none⟩ (idA I).toList (fun j v hv => by
    have hj : j < 32 := by
      rcases Nat.lt_or_ge j 32 with h | h
      · exact h
      · rw [List.getElem?_eq_none (by rw [hl]; exact h)] at hv; cases hv
    rw [add0, h j hj]
    rw [Array.getElem?_toList, idA_get I j hj] at hv
    exact hv)
  rw [hl] at this
  unfold ld32
  simp only [Instr.loadAt, Instr.sureAddr, loadVar, Sem.run_bind, Sem.run_pure, Result.andThen, run_isAgg32, run_size32, if_true, this]
theorem run_arrayAt32 (g cap : Nat) (W : World) : (Instr.arrayAt 42 (.slice (some ⟨g, 0, none⟩) 32 cap)).run Try.prog W = .ok (.pointer (some ⟨g, 0, none⟩)) W := by
  have ht : Try.prog.underlying 42 = some (.array 32 5) := by kernel_rfl
  simp [Instr.arrayAt, run_underlying ht, go_sem]
def idOf (s : ByteArray) : Nat → UInt8 := fun k => (unL s 32).getD k 0
set_option maxRecDepth 100000 in
set_option maxHeartbeats 0 in
theorem parse64_any (s : ByteArray) (w : World) (hs : s.size = 64) (hok : ∀ j, j < 64 → 0 ≤ dvB (byteAt s j)) :
    Calls Try.prog 66 #[.string s] w fun e w' => e = .returned (.tuple #[.agg (idA (idOf s)), .int .i64 0]) ∧ Below w.heap.size w w' := by
  have Z := zero_one w
  have hz : (w.alloc zeroId).heap.size = w.heap.size + 1 := by simp
  have f1 := idA_full (idOf s)
  have HZ := Lib.hid (And.intro Z hz)
  have HOK := Lib.hid hok
  clear Z hz hok
  go_enter Try.func66, Try.ntmps66
  go_wp2_with fail
  refine (unhex64_any s (w.alloc zeroId) hs HOK.out).mono ?_; rintro e w1 ⟨rfl, hb⟩
  have R1 : Hid (w1.rowIs w.heap.size 42 32 (fun _ => .int .u8 0) ∧ Below w.heap.size w w1) := Lib.hid ⟨HZ.out.1.1.of_block (hb.block _ (by have := HZ.out.2; omega)), HZ.out.1.2.trans (hb.mono (by have := HZ.out.2; omega))⟩
  clear hb
  obtain ⟨r, hr⟩ : ∃ r, bs (unL s 32) = r := ⟨_, rfl⟩
  have hrs : r.size = 32 := by rw [← hr, bs_size, unL_len]
  have HR := Lib.hid hr
  rw [hr]
  clear hr
  have AR := fun g cap W => run_arrayAt32 g cap W
  have KX : Hid (∀ cap w2, bufIs w2 5 w1.heap.size r.size cap (fun j => .int .u8 ((r.data.toList.getD j 0).toNat : Int)) → w1.grownBy w2 none → (ld32 (.pointer (some ⟨w1.heap.size, 0, none⟩))).run Try.prog w2 = .ok (.value (.agg (idA (idOf s)))) w2 ∧ ok32 w2 w.heap.size 0 = true ∧ Hid ((put32 w2 w.heap.size 0 (idA (idOf s))).heap[w.heap.size]? = some (.cells (idA (idOf s)) 42 (0, 0)) ∧ Below w.heap.size w (put32 w2 w.heap.size 0 (idA (idOf s))))) := Lib.hid (fun cap w2 hc2 hg2 => by
    have LD := run_ld32_cells w2 w1.heap.size (idOf s) (fun j hj => by
      rw [hc2.cell (by omega)]
      show some (Value.int .u8 ((byteAt r j).toNat : Int)) = _
      rw [← HR.out, bytes_bs]; rfl)
    have RW : w2.rowIs w.heap.size 42 32 (fun _ => .int .u8 0) := R1.out.1.of_block (hg2.block _ R1.out.1.lt (by simp))
    have BB : Below w.heap.size w w2 := below_grown R1.out.2 hg2 (fun g hg => by cases hg)
    exact ⟨LD, ok32_of RW (by omega), Lib.hid (id_put (idOf s) RW BB (Nat.le_refl _))⟩)
  go_wp2_with (with_reducible refine conv_bytes_wp (e := 5) (by kernel_rfl) (by kernel_rfl) (by kernel_rfl) rfl _ rfl r rfl ?_; intro cap w2 hc2 hg2; have LD := (KX.out cap w2 hc2 hg2).1; have o2 := (KX.out cap w2 hc2 hg2).2.1; have HP := (KX.out cap w2 hc2 hg2).2.2; clear hc2 hg2)
  refine bodyPost_ret (results_row_tmp (p := 2) (u := 3) rfl _ _ w.heap.size 42 (idA (idOf s)) (0, 0) rfl HP.out.1 Try.underlying42 (by rw [idA_size]; kernel_rfl)) rfl ⟨?_, HP.out.2⟩
  rfl
/-- A name in digits is read as the name. -/
theorem text_back (I : Nat → UInt8) : (bs (textL I)).size = 64 ∧ (∀ j, j < 64 → 0 ≤ dvB (byteAt (bs (textL I)) j)) ∧ ∀ k, k < 32 → idOf (bs (textL I)) k = I k := by
  have hb : ∀ k, k < 32 → (textL I).getD (2 * k) 0 = digF ((I k).toNat / 16) ∧ (textL I).getD (2 * k + 1) 0 = digF ((I k).toNat % 16) := by
    have g : ∀ (l : List UInt8) (k : Nat), k < l.length → (hexL l).getD (2 * k) 0 = digF ((l.getD k 0).toNat / 16) ∧ (hexL l).getD (2 * k + 1) 0 = digF ((l.getD k 0).toNat % 16) := by
      intro l
      induction l with
      | nil => intro k hk; simp at hk
      | cons a l ih =>
        intro k hk
        cases k with
        | zero => exact ⟨rfl, rfl⟩
        | succ k =>
          have := ih k (by simpa using hk)
          exact this
    intro k hk
    have := g ((List.range 32).map I) k (by simpa using hk)
    unfold textL
    simpa [List.getD, hk] using this
  have hsz : (bs (textL I)).size = 64 := by rw [bs_size]; unfold textL; rw [hexL_len]; simp
  refine ⟨hsz, fun j hj => ?_, fun k hk => ?_⟩
  · rw [bytes_bs]
    obtain ⟨k, hk⟩ : ∃ k, j = 2 * k ∨ j = 2 * k + 1 := ⟨j / 2, by omega⟩
    have h2 := hb k (by omega)
    have hI := (I k).toNat_lt
    rcases hk with rfl | rfl
    · rw [h2.1, dv_dig _ (by omega)]; omega
    · rw [h2.2, dv_dig _ (by omega)]; omega
  · have h2 := hb k hk
    have hI := (I k).toNat_lt
    unfold idOf unL hv
    simp only [List.getD_eq_getElem?_getD, List.getElem?_map, List.getElem?_range hk, Option.map_some, Option.getD_some]
    rw [bytes_bs, bytes_bs, h2.1, h2.2, dv_dig _ (by omega), dv_dig _ (by omega)]
    have e : 16 * ((((I k).toNat / 16 : Nat) : Int)).toNat + ((((I k).toNat % 16 : Nat) : Int)).toNat = (I k).toNat := by omega
    rw [e]
    exact UInt8.ofNat_toNat
end Go.Proofs.Ytpfccicahfncbaa
namespace Go.Proofs.Ytpfccicahfncbaa
open Go.RowKit Dig
set_option linter.unusedVariables false
attribute [local go_sem ↓] execOp_ld32 execOp_st32
attribute [local go_sem] run_ld32 run_st32
def eqB (I J : Nat → UInt8) : Bool := (List.range 32).map I == (List.range 32).map J
theorem eq_ids (I J : Nat → UInt8) (w : World) : (Op.equalIn 10000 42 (.agg (idA I)) (.agg (idA J))).run Try.prog w = .ok (eqB I J) w := by
  have h := run_equalIn_bytes (P := Try.prog) w 9998 42 5 32 (by kernel_rfl) (by kernel_rfl) (fun w => by kernel_rfl) ((List.range 32).map I) ((List.range 32).map J) (by simp) (by simp)
  have e : ∀ I : Nat → UInt8, (((List.range 32).map I).map Extern.Stop.cell).toArray = idA I := fun I => by
    unfold idA; rw [List.map_map]; rfl
  rw [e I, e J] at h
  exact h
theorem eqB_same (I : Nat → UInt8) : eqB I I = true := by unfold eqB; exact beq_self_eq_true _
theorem new_id (w : World) (I : Nat → UInt8) : ok32 (w.alloc zeroId) w.heap.size 0 = true ∧ (put32 (w.alloc zeroId) w.heap.size 0 (idA I)).rowIs w.heap.size 42 32 (u8V I) ∧ Below w.heap.size w (put32 (w.alloc zeroId) w.heap.size 0 (idA I)) := by
  have z := zeros_row w (T := 42) (c := _) (n := 32) (z := .int .u8 0) (by rfl)
  have z' : (w.alloc zeroId).rowIs w.heap.size 42 32 (fun _ => .int .u8 0) := z
  obtain ⟨q1, q2⟩ := put32_row z' 0 (idA I) (by omega) (idA_full I)
  refine ⟨ok32_of z' (by omega), q1.congr (fun i hi => ?_), below_grown ((Below.refl _ _).alloc (Nat.le_refl _) _) q2 (fun g hg => by cases hg; exact Nat.le_refl _)⟩
  rw [if_pos (by omega), Nat.sub_zero, List.getD_eq_getElem?_getD, Array.getElem?_toList, idA_get I i hi]; rfl
theorem text_v {I : Nat → UInt8} {t : ByteArray} (hT : bs (textL I) = t) (w : World) :
    Calls Try.prog 67 #[.agg (idA I)] w fun e w' => e = .returned (.string t) ∧ Below w.heap.size w w' := by
  rw [← hT]; exact text_any I w
theorem parse_v {I : Nat → UInt8} {t : ByteArray} (hT : bs (textL I) = t) (w : World) :
    Calls Try.prog 66 #[.string t] w fun e w' => e = .returned (.tuple #[.agg (idA I), .int .i64 0]) ∧ Below w.heap.size w w' := by
  obtain ⟨h1, h2, h3⟩ := text_back I
  rw [hT] at h1 h2 h3
  rw [← idA_congr h3]
  exact parse64_any t w h1 h2
end Go.Proofs.Ytpfccicahfncbaa
namespace Go.Proofs.Ytpfccicahfncbaa
open Go.RowKit Dig
set_option linter.unusedVariables false
set_option linter.unusedSimpArgs false
attribute [local go_sem ↓] execOp_ld32 execOp_st32
attribute [local go_sem] run_ld32 run_st32
theorem cutp_any (a t : ByteArray) (w : World) : Calls Try.prog 64 #[.string (a ++ t), .string a] w fun e w' => e = .returned (.tuple #[.string t, .bool true]) ∧ w = w' := by
  refine (Try.strings_CutPrefix (a ++ t) a w).mono ?_
  rintro e w' ⟨rfl, rfl⟩
  have h : Lib.hasPrefix (a ++ t).data.toList a.data.toList = true := by
    rw [ByteArray.data_append, Array.toList_append]; unfold Lib.hasPrefix
    rw [List.isPrefixOf_iff_prefix]; exact List.prefix_append _ _
  have h2 : (⟨(Lib.trimPrefix (a ++ t).data.toList a.data.toList).toArray⟩ : ByteArray) = t := by
    unfold Lib.trimPrefix
    rw [if_pos h, ByteArray.data_append, Array.toList_append, List.drop_left]
  rw [h, h2]
  exact ⟨rfl, rfl⟩
theorem cuts_any (t b : ByteArray) (w : World) (hs : (t ++ b).size ≤ 9223372036854775807) : Calls Try.prog 65 #[.string (t ++ b), .string b] w fun e w' => e = .returned (.tuple #[.string t, .bool true]) ∧ w = w' := by
  refine (Try.strings_CutSuffix (t ++ b) b w hs).mono ?_
  rintro e w' ⟨rfl, rfl⟩
  have h : Lib.hasSuffix (t ++ b).data.toList b.data.toList = true := by
    rw [ByteArray.data_append, Array.toList_append]; unfold Lib.hasSuffix
    rw [List.isSuffixOf_iff_suffix]; exact List.suffix_append _ _
  have h2 : (⟨(Lib.trimSuffix (t ++ b).data.toList b.data.toList).toArray⟩ : ByteArray) = t := by
    unfold Lib.trimSuffix
    rw [if_pos h, ByteArray.data_append, Array.toList_append, List.length_append, Nat.add_sub_cancel, List.take_left]
  rw [h, h2]
  exact ⟨rfl, rfl⟩
set_option maxRecDepth 100000 in
theorem psum_any (I : Nat → UInt8) (w : World) :
    Calls Try.prog 28 #[.string (labB I)] w fun e w' => e = .returned (.tuple #[.agg (idA I), .int .i64 0]) ∧ Below w.heap.size w w' := by
  obtain ⟨t, ht⟩ : ∃ t, bs (textL I) = t := ⟨_, rfl⟩
  have hts : t.size ≤ 1000 := by rw [← ht]; exact textL_small I
  have C1 := Lib.hid (fun W => cutp_any (⟨#[112, 97, 99, 107, 45]⟩ : ByteArray) (t ++ ⟨#[46, 112, 107]⟩) W)
  have C2 := Lib.hid (fun W => cuts_any t (⟨#[46, 112, 107]⟩ : ByteArray) W (by rw [ByteArray.size_append]; show t.size + 3 ≤ _; omega))
  have C3 := Lib.hid (fun W => parse_v ht W)
  obtain ⟨L, hL⟩ : ∃ L, labB I = L := ⟨_, rfl⟩
  have hL2 : (⟨#[112, 97, 99, 107, 45]⟩ : ByteArray) ++ (t ++ ⟨#[46, 112, 107]⟩) = L := by rw [← hL, labB, ht, ByteArray.append_assoc]
  rw [hL2] at C1
  rw [hL]
  obtain ⟨L2, hM⟩ : ∃ L2, t ++ ⟨#[46, 112, 107]⟩ = L2 := ⟨_, rfl⟩
  rw [hM] at C1 C2
  clear hL hL2 hM ht
  have N1 := Lib.hid (fun W : World => new_id W I)
  have HF := idA_full I
  have Z := zero_one w
  have HZ : Hid ((w.alloc zeroId).rowIs w.heap.size 42 32 (fun _ => .int .u8 0) ∧ Below w.heap.size w (w.alloc zeroId)) := Lib.hid Z
  clear Z
  go_enter Try.func28, Try.ntmps28
  go_wp2_with fail
  change Calls _ _ _ (w.alloc zeroId) _
  (with_reducible refine (C1.out _).mono ?_)
  rintro e w' ⟨rfl, rfl⟩
  go_wp2_with fail
  (with_reducible refine (C2.out _).mono ?_)
  rintro e w' ⟨rfl, rfl⟩
  go_wp2_with fail
  (with_reducible refine (C3.out _).mono ?_)
  rintro e w1 ⟨rfl, hb1⟩
  obtain ⟨o1, n2, n3⟩ := N1.out w1
  have hlt := HZ.out.1.lt
  have R1 : Hid ((put32 (w1.alloc zeroId) w1.heap.size 0 (idA I)).rowIs w.heap.size 42 32 (fun _ => .int .u8 0) ∧ (put32 (w1.alloc zeroId) w1.heap.size 0 (idA I)).rowIs w1.heap.size 42 32 (u8V I) ∧ Below w.heap.size w (put32 (w1.alloc zeroId) w1.heap.size 0 (idA I))) := Lib.hid (by
    have a := HZ.out.1.of_block (hb1.block _ HZ.out.1.lt)
    have b := HZ.out.2.trans (hb1.mono HZ.out.2.size)
    exact ⟨a.of_block (n3.block _ a.lt), n2, b.trans (n3.mono b.size)⟩)
  clear n2 n3 hb1 C1 C2 C3
  unfold zeroId at o1
  go_upto_region 4 with fail
  change Code.wp _ _ _ _ (put32 (w1.alloc zeroId) w1.heap.size 0 (idA I))
  generalize put32 (w1.alloc zeroId) w1.heap.size 0 (idA I) = w3 at R1 ⊢
  clear o1
  have o2 := ok32_of R1.out.1 (off := 0) (by omega)
  have o3 := ok32_of R1.out.2.1 (off := 0) (by omega)
  have r3 := row32_id R1.out.2.1
  have HP := Lib.hid (id_put I R1.out.1 R1.out.2.2 (Nat.le_refl _))
  go_wp2
  exact bodyPost_ret (results_row_tmp (p := 2) (u := 3) rfl _ _ w.heap.size 42 (idA I) (0, 0) rfl HP.out.1 Try.underlying42 (by rw [idA_size]; kernel_rfl)) rfl ⟨rfl, HP.out.2⟩
end Go.Proofs.Ytpfccicahfncbaa
namespace Go.Proofs.Ytpfccicahfncbaa
open Go.RowKit Wir Dig
set_option linter.unusedVariables false
set_option linter.unusedSimpArgs false
/-- What One tells of a record's bytes. -/
def oneV (s : ByteArray) : Value := match fstF s with
  | none => .tuple #[zeroO, .int .i64 4]
  | some (o, r) => if r.size = 0 then .tuple #[objA o, .int .i64 0] else .tuple #[zeroO, .int .i64 4]
theorem oneV_none {s : ByteArray} (h : fstF s = none) : oneV s = .tuple #[zeroO, .int .i64 4] := by rw [oneV, h]
theorem oneV_more {s r : ByteArray} {o : PObj} (h : fstF s = some (o, r)) (hr : ¬ r.size = 0) : oneV s = .tuple #[zeroO, .int .i64 4] := by rw [oneV, h]; simp only; rw [if_neg hr]
theorem oneV_some {s r : ByteArray} {o : PObj} (h : fstF s = some (o, r)) (hr : r.size = 0) : oneV s = .tuple #[objA o, .int .i64 0] := by rw [oneV, h]; simp only; rw [if_pos hr]
set_option maxRecDepth 100000 in
set_option maxHeartbeats 1000000 in
theorem one_any (s : ByteArray) (w : World) (hs : s.size ≤ 140737488355328) :
    Calls Try.prog 25 #[.string s] w fun e w' => e = .returned (oneV s) ∧ Below w.heap.size w w' := by
  have F := Lib.hid (fun W => pkFirst_any s W hs)
  have B0 : Hid (Blk (w.alloc (.cells #[.int .u8 0, .string ByteArray.empty] 30)) w.heap.size 30 #[.int .u8 0, .string ByteArray.empty] ∧ Below w.heap.size w (w.alloc (.cells #[.int .u8 0, .string ByteArray.empty] 30))) := Lib.hid ⟨Blk.new _ _ _, (Below.refl _ _).alloc (Nat.le_refl _) _⟩
  cases hf : fstF s with
  | none =>
    have E := Lib.hid (oneV_none hf)
    rw [fstV_none hf] at F
    unfold zeroO at F
    clear hf
    go_enter Try.func25, Try.ntmps25
    go_wp2_with fail
    change Calls _ _ _ (w.alloc (.cells #[.int .u8 0, .string ByteArray.empty] 30)) _
    (with_reducible refine (F.out _).mono ?_)
    rintro e w1 ⟨rfl, hb1⟩
    have B1 : Hid (Blk (w1.alloc (.cells #[.int .u8 0, .string ByteArray.empty] 30)) w.heap.size 30 #[.int .u8 0, .string ByteArray.empty] ∧ Below w.heap.size w (w1.alloc (.cells #[.int .u8 0, .string ByteArray.empty] 30))) := Lib.hid ⟨(B0.out.1.below hb1 B0.out.1.lt).alloc _, (B0.out.2.trans (hb1.mono B0.out.2.size)).alloc (B0.out.2.trans (hb1.mono B0.out.2.size)).size _⟩
    clear hb1 F B0
    go_upto_region 2 with fail
    generalize w1.alloc (.cells #[.int .u8 0, .string ByteArray.empty] 30) = w2 at B1 ⊢
    have c0 := B1.out.1.cell 0
    have c1 := B1.out.1.cell 1
    have f0 := B1.out.1.frozen 0
    have f1 := B1.out.1.frozen 1
    go_wp2
    have HF := Lib.hid ((B1.out.1.set_ 0 (.int .u8 0)).set_ 1 (.string ByteArray.empty))
    have HB := Lib.hid ((B1.out.2.setCell (p := ⟨w.heap.size, 0, none⟩) (Nat.le_refl _) (.int .u8 0)).setCell (p := ⟨w.heap.size, 1, none⟩) (Nat.le_refl _) (.string ByteArray.empty))
    exact bodyPost_ret (results_obj_tmp (p := 2) (u := 3) rfl _ _ w.heap.size 30 #[.int .u8 0, .string ByteArray.empty] (0, 0) rfl HF.out Try.underlying30 (by kernel_rfl)) rfl ⟨by rw [E.out]; rfl, HB.out⟩
  | some q =>
    obtain ⟨o, r⟩ := q
    by_cases hr0 : r.size = 0
    · have E := Lib.hid (oneV_some hf hr0)
      rw [fstV_some hf] at F
      unfold objA at F
      obtain rfl : r = ByteArray.empty := ext_byteAt (by rw [hr0]; rfl) (fun i hi => absurd hi (by omega))
      clear hf hr0
      go_enter Try.func25, Try.ntmps25
      go_wp2_with fail
      change Calls _ _ _ (w.alloc (.cells #[.int .u8 0, .string ByteArray.empty] 30)) _
      (with_reducible refine (F.out _).mono ?_)
      rintro e w1 ⟨rfl, hb1⟩
      have hlt : w.heap.size < w1.heap.size := Nat.lt_of_lt_of_le B0.out.1.lt hb1.size
      have B1 : Hid (Blk (w1.alloc (.cells #[.int .u8 (o.1.toNat : Int), .string o.2] 30)) w.heap.size 30 #[.int .u8 0, .string ByteArray.empty] ∧ Below w.heap.size w (w1.alloc (.cells #[.int .u8 (o.1.toNat : Int), .string o.2] 30)) ∧ Blk (w1.alloc (.cells #[.int .u8 (o.1.toNat : Int), .string o.2] 30)) w1.heap.size 30 #[.int .u8 (o.1.toNat : Int), .string o.2]) := Lib.hid ⟨(B0.out.1.below hb1 B0.out.1.lt).alloc _, (B0.out.2.trans (hb1.mono B0.out.2.size)).alloc (B0.out.2.trans (hb1.mono B0.out.2.size)).size _, Blk.new _ _ _⟩
      clear hb1 F B0
      go_upto_region 2 with fail
      generalize w1.alloc (.cells #[.int .u8 (o.1.toNat : Int), .string o.2] 30) = w2 at B1 ⊢
      have c0 := B1.out.1.cell 0
      have c1 := B1.out.1.cell 1
      have f0 := B1.out.1.frozen 0
      have f1 := B1.out.1.frozen 1
      have d0 := B1.out.2.2.cell 0
      have d1 := B1.out.2.2.cell 1
      go_wp2
      have HF := Lib.hid ((B1.out.1.set_ 0 (.int .u8 (o.1.toNat : Int))).set_ 1 (.string o.2))
      have HB := Lib.hid ((B1.out.2.1.setCell (p := ⟨w.heap.size, 0, none⟩) (Nat.le_refl _) (.int .u8 (o.1.toNat : Int))).setCell (p := ⟨w.heap.size, 1, none⟩) (Nat.le_refl _) (.string o.2))
      exact bodyPost_ret (results_obj_tmp (p := 2) (u := 3) rfl _ _ w.heap.size 30 #[.int .u8 (o.1.toNat : Int), .string o.2] (0, 0) rfl HF.out Try.underlying30 (by kernel_rfl)) rfl ⟨by rw [E.out]; rfl, HB.out⟩
    · have E := Lib.hid (oneV_more hf hr0)
      rw [fstV_some hf] at F
      unfold objA at F
      have hne : r.toList.isEmpty = false := toList_some (by omega)
      clear hf hr0
      go_enter Try.func25, Try.ntmps25
      go_wp2_with fail
      change Calls _ _ _ (w.alloc (.cells #[.int .u8 0, .string ByteArray.empty] 30)) _
      (with_reducible refine (F.out _).mono ?_)
      rintro e w1 ⟨rfl, hb1⟩
      have hlt : w.heap.size < w1.heap.size := Nat.lt_of_lt_of_le B0.out.1.lt hb1.size
      have B1 : Hid (Blk (w1.alloc (.cells #[.int .u8 (o.1.toNat : Int), .string o.2] 30)) w.heap.size 30 #[.int .u8 0, .string ByteArray.empty] ∧ Below w.heap.size w (w1.alloc (.cells #[.int .u8 (o.1.toNat : Int), .string o.2] 30)) ∧ Blk (w1.alloc (.cells #[.int .u8 (o.1.toNat : Int), .string o.2] 30)) w1.heap.size 30 #[.int .u8 (o.1.toNat : Int), .string o.2]) := Lib.hid ⟨(B0.out.1.below hb1 B0.out.1.lt).alloc _, (B0.out.2.trans (hb1.mono B0.out.2.size)).alloc (B0.out.2.trans (hb1.mono B0.out.2.size)).size _, Blk.new _ _ _⟩
      clear hb1 F B0
      go_upto_region 2 with fail
      generalize w1.alloc (.cells #[.int .u8 (o.1.toNat : Int), .string o.2] 30) = w2 at B1 ⊢
      have c0 := B1.out.1.cell 0
      have c1 := B1.out.1.cell 1
      have f0 := B1.out.1.frozen 0
      have f1 := B1.out.1.frozen 1
      go_wp2
      have HF := Lib.hid ((B1.out.1.set_ 0 (.int .u8 0)).set_ 1 (.string ByteArray.empty))
      have HB := Lib.hid ((B1.out.2.1.setCell (p := ⟨w.heap.size, 0, none⟩) (Nat.le_refl _) (.int .u8 0)).setCell (p := ⟨w.heap.size, 1, none⟩) (Nat.le_refl _) (.string ByteArray.empty))
      exact bodyPost_ret (results_obj_tmp (p := 2) (u := 3) rfl _ _ w.heap.size 30 #[.int .u8 0, .string ByteArray.empty] (0, 0) rfl HF.out Try.underlying30 (by kernel_rfl)) rfl ⟨by rw [E.out]; rfl, HB.out⟩
end Go.Proofs.Ytpfccicahfncbaa
namespace Go.Proofs.Ytpfccicahfncbaa
open Go.RowKit Wir Dig
set_option linter.unusedVariables false
def eqT (d : Nat) (xs ys : Array Value) : List (Bool × TypeId × Nat) → Sem Bool
  | [] => pure true
  | (n, t, off) :: fs =>
    if n = true then do
      let a ← part t xs off
      let b ← part t ys off
      let r ← Op.equalIn d t a b
      if (!r) = true then pure false else eqT d xs ys fs
    else eqT d xs ys fs
theorem eqT_of (d : Nat) (xs ys : Array Value) : ∀ fs : List Field, Op.eqFields d xs ys fs = eqT d xs ys (fs.map fun f => (f.name != "_", f.type, f.offset))
  | [] => rfl
  | f :: fs => by
    rw [Op.eqFields, List.map_cons, eqT, eqT_of d xs ys fs]
    by_cases h : f.name = "_"
    · rw [if_neg (by simp [h]), if_neg (by simp [h])]
    · rw [if_pos h, if_pos (by simp [h])]
theorem eqT_step {P : Program} {d : Nat} {xs ys : Array Value} {t : TypeId} {off : Nat} {fs : List (Bool × TypeId × Nat)} {w : World} {a b : Value} (h1 : (part t xs off).run P w = .ok a w) (h2 : (part t ys off).run P w = .ok b w) (h3 : (Op.equalIn d t a b).run P w = .ok true w) :
    (eqT d xs ys ((true, t, off) :: fs)).run P w = (eqT d xs ys fs).run P w := by
  rw [eqT, if_pos rfl]
  simp only [Sem.run_bind, h1, h2, h3, Result.andThen, Bool.not_true, Bool.false_eq_true, if_false]
theorem eqE_fields : (Try.prog.fieldsOf 44).toList.map (fun f => (f.name != "_", f.type, f.offset)) = [(true, 42, 0), (true, 5, 32), (true, 3, 33), (true, 3, 34)] := by kernel_rfl
theorem part32 (vs ws : Array Value) (h : vs.size = 32) (w : World) : (part 42 (vs ++ ws) 0).run Try.prog w = .ok (.agg vs) w := by
  unfold part
  simp only [Sem.run_bind, Result.andThen, run_isAgg32, run_size32, if_true, Sem.run_pure]
  rw [Nat.zero_add, ← h, Array.extract_append]
  simp
theorem part_one (t : TypeId) (vs ws : Array Value) (h : vs.size = 32) (k : Nat) (v : Value) (hv : ws[k]? = some v) (ha : ∀ w, (isAgg t).run Try.prog w = .ok false w) (w : World) : (part t (vs ++ ws) (32 + k)).run Try.prog w = .ok v w := by
  unfold part
  have e : (vs ++ ws)[32 + k]? = some v := by rw [Array.getElem?_append, if_neg (by omega), h, Nat.add_sub_cancel_left]; exact hv
  simp only [Sem.run_bind, Result.andThen, ha, Bool.false_eq_true, if_false, e, Sem.run_pure]
theorem eq_ents (off : Nat) (o : PObj) (w : World) : (Op.equalIn 10000 44 (.agg (entA off o)) (.agg (entA off o))).run Try.prog w = .ok true w := by
  have hid : ∀ W, (Op.equalIn 9999 42 (.agg (nmA o)) (.agg (nmA o))).run Try.prog W = .ok true W := fun W => by
    have h := run_equalIn_bytes (P := Try.prog) W 9997 42 5 32 (by kernel_rfl) (by kernel_rfl) (fun w => by kernel_rfl) ((List.range 32).map (nmF o)) ((List.range 32).map (nmF o)) (by simp) (by simp)
    have e : (((List.range 32).map (nmF o)).map Extern.Stop.cell).toArray = nmA o := by unfold nmA idA; rw [List.map_map]; rfl
    rw [e, beq_self_eq_true] at h
    exact h
  have hs := nmA_size o
  refine (run_equalIn_struct w 9999 _ _ _ (by kernel_rfl) (by kernel_rfl)).trans ?_
  rw [eqT_of, eqE_fields]
  unfold entA
  generalize nmA o = vs at *
  obtain ⟨xs, hx⟩ : ∃ xs : Array Value, #[.int .u8 (o.1.toNat : Int), .int .i64 (off : Int), .int .i64 (o.2.size : Int)] = xs := ⟨_, rfl⟩
  rw [hx]
  have p0 := part32 vs xs hs
  have p1 : ∀ w, (part 5 (vs ++ xs) 32).run Try.prog w = .ok (.int .u8 (o.1.toNat : Int)) w := part_one 5 vs xs hs 0 _ (by rw [← hx]; rfl) (fun w => by kernel_rfl)
  have p2 : ∀ w, (part 3 (vs ++ xs) 33).run Try.prog w = .ok (.int .i64 (off : Int)) w := part_one 3 vs xs hs 1 _ (by rw [← hx]; rfl) (fun w => by kernel_rfl)
  have p3 : ∀ w, (part 3 (vs ++ xs) 34).run Try.prog w = .ok (.int .i64 (o.2.size : Int)) w := part_one 3 vs xs hs 2 _ (by rw [← hx]; rfl) (fun w => by kernel_rfl)
  have q1 : ∀ (x : Int) W, (Op.equalIn 9999 5 (.int .u8 x) (.int .u8 x)).run Try.prog W = .ok true W := fun x W => by
    rw [run_equalIn_int W 9998 _ .u8 .u8 _ _ (by kernel_rfl), beq_self_eq_true]
  have q2 : ∀ (x : Int) W, (Op.equalIn 9999 3 (.int .i64 x) (.int .i64 x)).run Try.prog W = .ok true W := fun x W => by
    rw [run_equalIn_int W 9998 _ .i64 .i64 _ _ (by kernel_rfl), beq_self_eq_true]
  rw [eqT_step (p0 w) (p0 w) (hid w), eqT_step (p1 w) (p1 w) (q1 _ w), eqT_step (p2 w) (p2 w) (q2 _ w), eqT_step (p3 w) (p3 w) (q2 _ w), eqT, Sem.run_pure]
def neqE (x y : Operand) (a b : Value) : Sem Next := do
  let v ← (do eqGuard .neq 44 x y a b; binOp .neq 44 a b)
  pure (.value v)
theorem execOp_neqE (ρ : Operand → Value) (dst : Option Tmp) (x y : Operand) (yt ty : TypeId) (pos : String) (after : Array Edge) (guard : Option (Nat × Bool)) :
    execOp ρ { dst, op := .binOp .neq 44 x y yt, type := ty, pos, after, guard } = neqE x y (ρ x) (ρ y) := rfl
theorem run_neqE (x y : Operand) (off : Nat) (o : PObj) (w : World) : (neqE x y (.agg (entA off o)) (.agg (entA off o))).run Try.prog w = .ok (.value (.bool false)) w := by
  unfold neqE
  have h1 := run_eqGuard_agg (P := Try.prog) w .neq 44 x y (entA off o) (entA off o) (by kernel_rfl)
  have h2 : (binOp .neq 44 (.agg (entA off o)) (.agg (entA off o))).run Try.prog w = .ok (.bool false) w := by
    refine (run_neq_struct (P := Try.prog) w 44 (entA off o) (entA off o)).trans ?_
    rw [eq_ents off o w, Result.andThen_ok]
    rfl
  generalize entA off o = N at *
  rw [Sem.run_bind, Sem.run_bind, h1, Result.andThen_ok, h2, Result.andThen_ok, Sem.run_pure]
end Go.Proofs.Ytpfccicahfncbaa
