/- Several texts of the claim joined into one (part 7): plain facts and walks. No conditions but those that each theorem tells. -/
import Derived.Test.YtpfccicahfncbaaMgPackBack5
import Derived.Test.YtpfccicahfncbaaSlv1MPackBack
import Derived.Test.YtpfccicahfncbaaMgPackBack6
import Derived.BigQuiet
import Derived.Deep.DeepCutAuto
namespace Go.Proofs.Ytpfccicahfncbaa
open Go.RowKit Wir Dig
set_option linter.unusedVariables false
set_option linter.unusedSimpArgs false
/-- Records, as Salvage goes through them: the entries. -/
def slvF (N : Nat) : Nat → ByteArray → List (Nat × PObj) → List (Nat × PObj)
  | 0, s, L => L
  | f + 1, s, L => match fstF s with
    | none => L
    | some (o, r) => if L.length < 65536 then slvF N f r (L ++ [(N - s.size, o)]) else L
theorem slvF_none {N f : Nat} {s : ByteArray} {L : List (Nat × PObj)} (h : fstF s = none) : slvF N (f + 1) s L = L := by rw [slvF, h]
theorem slvF_stop {N f : Nat} {s r : ByteArray} {o : PObj} {L : List (Nat × PObj)} (h : fstF s = some (o, r)) (hx : ¬ L.length < 65536) : slvF N (f + 1) s L = L := by rw [slvF, h]; simp only; rw [if_neg hx]
theorem slvF_on {N f : Nat} {s r : ByteArray} {o : PObj} {L : List (Nat × PObj)} (h : fstF s = some (o, r)) (h1 : L.length < 65536) : slvF N (f + 1) s L = slvF N f r (L ++ [(N - s.size, o)]) := by
  rw [slvF, h]; simp only; rw [if_pos h1]
theorem slvF_len (N : Nat) : ∀ (f : Nat) (s : ByteArray) (L : List (Nat × PObj)), L.length ≤ 65536 → (slvF N f s L).length ≤ 65536
  | 0, s, L, h => by rw [slvF]; exact h
  | f + 1, s, L, h => by
    cases hf : fstF s with
    | none => rw [slvF_none hf]; exact h
    | some q =>
      obtain ⟨o, r⟩ := q
      by_cases hx : L.length < 65536
      · rw [slvF_on hf hx]
        exact slvF_len N f r _ (by rw [List.length_append]; simp; omega)
      · rw [slvF_stop hf hx]; exact h
set_option maxRecDepth 100000 in
set_option maxHeartbeats 1000000 in
theorem recordsV_any (s : ByteArray) (base lb : Nat) (v : Value) (w : World) (h : ScJ w base lb v []) (h4 : 4 ≤ s.size) (hs : s.size ≤ 140737488355328) :
    Calls Try.prog 40 #[.string s, .func (.func 43) #[] #[.pointer (some ⟨lb, 0, none⟩)]] w fun e w' => ∃ v' r', e = .returned (.string r') ∧ ScJ w' base lb v' (slvF s.size (s.size + 1) (s.extract 4 s.size) []) ∧ Below base w w' := by
  have HH := Lib.hid h
  have h4i : (4 : Int) ≤ (s.size : Int) := by omega
  clear h
  go_enter Try.func40, Try.ntmps40
  go_wp2
  obtain ⟨T, hT⟩ : ∃ T, slvF s.size (s.size + 1) (s.extract 4 s.size) [] = T := ⟨_, rfl⟩
  have HT := Lib.hid hT
  have hr0 : (s.extract 4 s.size).size < s.size + 1 := by rw [ByteArray.size_extract]; omega
  clear hT
  go_loopw [5] (fun u5 wr => ∃ (r : ByteArray) (L : List (Nat × PObj)) (v : Value) (f : Nat), u5 = .string r ∧ r.size < f ∧ r.size ≤ s.size ∧ Hid (ScJ wr base lb v L ∧ Below base w wr ∧ slvF s.size f r L = T) ∧ L.length ≤ 65536) (fun u5 _ => strLen u5)
  case atStart => exact ⟨_, [], v, s.size + 1, rfl, hr0, by omega, Lib.hid ⟨HH.out, Below.refl _ _, HT.out⟩, by simp⟩
  case round =>
    obtain ⟨r, L, v, f, rfl, hrf, hrs, HK, hL⟩ := hrel
    obtain ⟨f, rfl⟩ : ∃ k, f = k + 1 := ⟨f - 1, by omega⟩
    have F := Lib.hid (fun W => pkFirst_any r W (by omega))
    cases hf : fstF r with
    | none =>
      have E := Lib.hid ((slvF_none (N := s.size) (f := f) (L := L) hf).symm.trans HK.out.2.2)
      rw [fstV_none hf] at F
      unfold zeroO at F
      clear hf
      go_wp2_with fail
      (with_reducible refine (F.out _).mono ?_)
      rintro e w1 ⟨rfl, hb1⟩
      have HF : Hid (ScJ (w1.alloc (.cells #[.int .u8 0, .string ByteArray.empty] 30)) base lb v L ∧ Below base w (w1.alloc (.cells #[.int .u8 0, .string ByteArray.empty] 30))) := Lib.hid ⟨(HK.out.1.below hb1).below ((Below.refl _ _).alloc (Nat.le_refl _) _), ((HK.out.2.1.trans (hb1.mono HK.out.1.2.2.2)).alloc (HK.out.1.below hb1).2.2.2 _)⟩
      clear hb1 F
      go_wp2
      go_ret
      exact ⟨v, _, rfl, by rw [HT.out, ← E.out]; exact HF.out.1, HF.out.2⟩
    | some q =>
      obtain ⟨o, r'⟩ := q
      have hok := fstF_ok hf
      have hzo := (okO_iff o).1 hok.1
      have C : Hid (∀ W, ScJ W base lb v L → Calls Try.prog 43 #[.int .i64 ((s.size : Int) - (r.size : Int)), .agg #[.int .u8 (o.1.toNat : Int), .string o.2], .pointer (some ⟨lb, 0, none⟩)] W fun e w' => ∃ v', e = .returned (.bool (decide (L.length < 65536))) ∧ ScJ w' base lb v' (if L.length < 65536 then L ++ [(s.size - r.size, o)] else L) ∧ Below base W w') := Lib.hid (fun W h1 => by
        have := salvageF_any (s.size - r.size) o base lb v L W h1 hL hzo.2.2 (by omega)
        rw [show ((s.size - r.size : Nat) : Int) = (s.size : Int) - (r.size : Int) from by omega] at this
        exact this)
      have ES := Lib.hid (fun hx => (slvF_stop (N := s.size) (f := f) (L := L) hf hx).symm.trans HK.out.2.2)
      have EO := Lib.hid (fun h1 => (slvF_on (N := s.size) (f := f) (L := L) hf h1).symm.trans HK.out.2.2)
      rw [fstV_some hf] at F
      unfold objA at F
      have hr' := hok.2
      have hsub : IntKind.i64.wrap ((s.size : Int) - (r.size : Int)) = (s.size : Int) - (r.size : Int) := wrap_small _ (by omega)
      clear hf hok
      go_wp2_with fail
      (with_reducible refine (F.out _).mono ?_)
      rintro e w1 ⟨rfl, hb1⟩
      have HF : Hid (ScJ (w1.alloc (.cells #[.int .u8 (o.1.toNat : Int), .string o.2] 30)) base lb v L ∧ Below base w (w1.alloc (.cells #[.int .u8 (o.1.toNat : Int), .string o.2] 30))) := Lib.hid ⟨(HK.out.1.below hb1).below ((Below.refl _ _).alloc (Nat.le_refl _) _), ((HK.out.2.1.trans (hb1.mono HK.out.1.2.2.2)).alloc (HK.out.1.below hb1).2.2.2 _)⟩
      have HQ := Lib.hid (Blk.new w1 30 #[.int .u8 (o.1.toNat : Int), .string o.2])
      clear hb1 F
      go_upto_region 3 with fail
      generalize w1.alloc (.cells #[.int .u8 (o.1.toNat : Int), .string o.2] 30) = w2 at HF HQ ⊢
      have y0 := HQ.out.cell 0
      have y1 := HQ.out.cell 1
      go_wp2_with fail
      (with_reducible refine (C.out _ HF.out.1).mono ?_)
      rintro e w3 ⟨v3, rfl, h3, hb3⟩
      have H3 := Lib.hid h3
      have HB3 : Hid (Below base w w3) := Lib.hid (HF.out.2.trans hb3)
      clear h3 hb3 C y0 y1
      by_cases hst : L.length < 65536
      · have E := Lib.hid (EO.out hst)
        rw [if_pos hst] at H3
        have h2 : L.length + 1 ≤ 65536 := by omega
        rw [decide_eq_true hst]
        clear ES EO hst
        go_wp2
        go_roundw
        case rel => exact ⟨r', L ++ [(s.size - r.size, o)], v3, f, rfl, by omega, by omega, Lib.hid ⟨H3.out, HB3.out, E.out⟩, by rw [List.length_append]; exact h2⟩
        case measure => simp [strLen]; omega
      · have E := Lib.hid (ES.out hst)
        rw [if_neg hst] at H3
        rw [decide_eq_false hst]
        clear ES EO hst
        go_wp2
        go_ret
        exact ⟨v3, _, rfl, by rw [HT.out, ← E.out]; exact H3.out, HB3.out⟩
/-- What Salvage tells. -/
def svR (s : ByteArray) : List (Nat × PObj) := if markB s = true then slvF s.size (s.size + 1) (s.extract 4 s.size) [] else []
set_option maxRecDepth 100000 in
set_option maxHeartbeats 1000000 in
theorem salvage_any (s : ByteArray) (w : World) (hs : s.size ≤ 140737488355328) :
    Calls Try.prog 15 #[.string s] w fun e w' => ∃ v, e = .returned v ∧ w'.ownsRow w.heap.size 44 35 v (svR s).length (entsV (svR s)) ∧ Below w.heap.size w w' := by
  have P : Hid (∀ W, Calls Try.prog 39 #[.string s, .string ⟨#[109, 112, 107, 49]⟩] W fun e w' => e = .returned (.bool (markB s)) ∧ w' = W) := Lib.hid (fun W => Try.strings_HasPrefix s markPk W)
  have hmf : ∀ (fn : Fn) (first cap : Array Value) (w : World), (Instr.makeFunc fn first cap).run Try.prog w = .ok (.func fn first cap) w := fun _ _ _ _ => rfl
  cases hm : markB s with
  | false =>
    have E : Hid (svR s = []) := Lib.hid (by rw [svR, hm]; rfl)
    rw [E.out]
    rw [hm] at P
    clear hm
    go_enter Try.func15, Try.ntmps15
    go_wp2_with fail
    (with_reducible refine (P.out _).mono ?_)
    rintro e w1 ⟨rfl, rfl⟩
    go_wp2
    go_ret
    exact ⟨_, rfl, World.ownsRow_nil _ _ _ _, Below.refl _ _⟩
  | true =>
    have h4 := markB_size hm
    have E : Hid (svR s = slvF s.size (s.size + 1) (s.extract 4 s.size) []) := Lib.hid (by rw [svR, if_pos hm])
    rw [E.out]
    rw [hm] at P
    have R := Lib.hid (fun lb v W h => recordsV_any s w.heap.size lb v W h h4 hs)
    have hlen := slvF_len s.size (s.size + 1) (s.extract 4 s.size) [] (by simp)
    generalize slvF s.size (s.size + 1) (s.extract 4 s.size) [] = L at *
    clear hm
    go_enter Try.func15, Try.ntmps15
    go_wp2_with fail
    (with_reducible refine (P.out _).mono ?_)
    rintro e w1 ⟨rfl, rfl⟩
    clear P
    go_upto_region 4 with fail
    have HI : Hid (ScJ (w1.alloc (.cells #[.slice none 0 0] 36)) w1.heap.size w1.heap.size (.slice none 0 0) []) := Lib.hid ⟨Blk.new w1 _ _, World.ownsRow_nil _ _ _ _, Nat.le_refl _, by simp⟩
    have HB0 : Hid (Below w1.heap.size w1 (w1.alloc (.cells #[.slice none 0 0] 36))) := Lib.hid ((Below.refl _ _).alloc (Nat.le_refl _) _)
    generalize w1.alloc (.cells #[.slice none 0 0] 36) = w2 at HI HB0 ⊢
    have C := Lib.hid (R.out _ _ _ HI.out)
    clear R
    go_wp2_with fail
    (with_reducible refine C.out.mono ?_)
    rintro e w3 ⟨v3, r3, rfl, hi3, hb3⟩
    obtain ⟨nv, cv, Av, rfl⟩ := own_value hi3.2.1
    obtain rfl : nv = L.length := own_len hi3.2.1
    have HI3 := Lib.hid hi3
    have HB3 := Lib.hid (HB0.out.trans hb3)
    have l0 := hi3.1.cell 0
    clear hi3 hb3 C HI HB0
    go_wp2
    go_ret
    exact ⟨_, rfl, HI3.out.2.1, HB3.out⟩
end Go.Proofs.Ytpfccicahfncbaa
namespace Go.Proofs.Ytpfccicahfncbaa
open Go.RowKit Wir Dig
set_option linter.unusedVariables false
set_option linter.unusedSimpArgs false
theorem entA_cells (off : Nat) (o : PObj) (w : World) : Blk (w.alloc (.cells (entA off o) 44)) w.heap.size 44 (entA off o) := Blk.new _ _ _
theorem span_any (off : Nat) (o : PObj) (w : World) (ho : o.2.size ≤ 140737488355328) :
    Calls Try.prog 14 #[.agg (entA off o)] w fun e w' => e = .returned (.tuple #[.int .i64 (off : Int), .int .i64 (9 + (o.2.size : Int))]) ∧ Below w.heap.size w w' := by
  have hes := entA_size off o
  have HB : Hid (Blk (w.alloc (.cells (entA off o) 44)) w.heap.size 44 (entA off o) ∧ Below w.heap.size w (w.alloc (.cells (entA off o) 44))) := Lib.hid ⟨Blk.new _ _ _, (Below.refl _ _).alloc (Nat.le_refl _) _⟩
  have HT := Lib.hid (entA_tail off o)
  go_enter Try.func14, Try.ntmps14
  go_upto_region 1 with fail
  generalize w.alloc (.cells (entA off o) 44) = w1 at HB ⊢
  have c3 : w1.cell? ⟨w.heap.size, 33, none⟩ = some (.int .i64 (off : Int)) := (HB.out.1.cell 33).trans HT.out.2.1
  have c4 : w1.cell? ⟨w.heap.size, 34, none⟩ = some (.int .i64 (o.2.size : Int)) := (HB.out.1.cell 34).trans HT.out.2.2
  have v1 : IntKind.i64.wrap (9 + (o.2.size : Int)) = 9 + (o.2.size : Int) := by rw [IntKind.wrap_i64]; omega
  go_quiet (fail)
  go_wp2
  go_ret2
  exact ⟨rfl, below_drewN HB.out.2 _⟩
theorem unF_small {s : ByteArray} (h : s.size < 8) : unF s = none := by rw [unF, if_pos (Or.inl h)]
theorem fst_small {s : ByteArray} (h : s.size < 8) : fstF s = none := fstF_none (unF_small h)
theorem slv_recs : ∀ (l : List PObj) (N f : Nat) (t : ByteArray) (L : List (Nat × PObj)), (recsB l ++ t).size < f → (recsB l ++ t).size ≤ N → fstF t = none → (∀ o ∈ l, okO o = true) → L.length + l.length ≤ 65536 →
    slvF N f (recsB l ++ t) L = L ++ entsAt (N - (recsB l ++ t).size) l
  | [], N, f, t, L, hf, hN, ht, _, _ => by
    obtain ⟨f, rfl⟩ : ∃ k, f = k + 1 := ⟨f - 1, by omega⟩
    rw [recsB, ByteArray.empty_append, slvF_none ht, entsAt, List.append_nil]
  | o :: l, N, f, t, L, hf, hN, ht, h1, h4 => by
    obtain ⟨f, rfl⟩ : ∃ k, f = k + 1 := ⟨f - 1, by omega⟩
    have e : recsB (o :: l) ++ t = recB o ++ (recsB l ++ t) := by rw [recsB, ByteArray.append_assoc]
    have hz : (recsB (o :: l) ++ t).size = 9 + o.2.size + (recsB l ++ t).size := by rw [e, ByteArray.size_append, recB_size]
    have hfst : fstF (recsB (o :: l) ++ t) = some (o, recsB l ++ t) := by rw [e]; exact fst_rec o _ (h1 o (List.mem_cons_self ..))
    rw [List.length_cons] at h4
    rw [slvF_on hfst (by omega), slv_recs l N f t _ (by omega) (by omega) ht (fun x hx => h1 x (List.mem_cons_of_mem _ hx)) (by rw [List.length_append]; simp only [List.length_cons, List.length_nil]; omega)]
    rw [entsAt, List.append_assoc, hz]
    rw [show N - (9 + o.2.size + (recsB l ++ t).size) + (9 + o.2.size) = N - (recsB l ++ t).size from by omega]
    rfl
/-- What Salvage tells of records behind the mark, whatever is cut off behind them. -/
theorem salvage_recs (l : List PObj) (t : ByteArray) (ht : fstF t = none) (h1 : ∀ o ∈ l, okO o = true) (h2 : l.length ≤ 65536) : svR (markPk ++ (recsB l ++ t)) = entsAt 4 l := by
  have hx : (markPk ++ (recsB l ++ t)).extract 4 (markPk ++ (recsB l ++ t)).size = recsB l ++ t := ex_right markPk _ 4 rfl
  have hz : (markPk ++ (recsB l ++ t)).size = 4 + (recsB l ++ t).size := by rw [ByteArray.size_append]; rfl
  rw [svR, if_pos (markB_app _), hx, slv_recs l _ _ t [] (by omega) (by omega) ht h1 (by simp; omega), List.nil_append]
  congr 1
  omega
/-- Where the i-th record begins. -/
def endAt (l : List PObj) (i : Nat) : Nat := 4 + (recsB (l.take i)).size
theorem recsB_app (a b : List PObj) : recsB (a ++ b) = recsB a ++ recsB b := by
  induction a with
  | nil => rw [List.nil_append, recsB, ByteArray.empty_append]
  | cons o a ih => rw [List.cons_append, recsB, recsB, ih, ByteArray.append_assoc]
theorem endAt_next (l : List PObj) (i : Nat) (h : i < l.length) : endAt l (i + 1) = endAt l i + (9 + (l[i]).2.size) := by
  unfold endAt
  rw [List.take_add_one, List.getElem?_eq_getElem h, recsB_app, ByteArray.size_append]
  show _ + (_ + (recB l[i] ++ ByteArray.empty).size) = _
  rw [ByteArray.append_empty, recB_size]; omega
theorem entsAt_get (l : List PObj) (k i : Nat) (h : i < l.length) : (entsAt k l)[i]? = some (k + (recsB (l.take i)).size, l[i]) := by
  induction l generalizing k i with
  | nil => simp at h
  | cons o l ih =>
    cases i with
    | zero => rfl
    | succ i =>
      rw [entsAt, List.getElem?_cons_succ, ih _ _ (by simpa using h)]
      rw [List.take_succ_cons, recsB, ByteArray.size_append, recB_size, List.getElem_cons_succ]
      congr 2; omega
end Go.Proofs.Ytpfccicahfncbaa
namespace Go.Proofs.Ytpfccicahfncbaa
open Go.RowKit Wir Dig
set_option linter.unusedVariables false
theorem beN_congr {F G : Nat → UInt8} : ∀ {k : Nat}, (∀ i, i < k → F i = G i) → beN F k = beN G k
  | 0, _ => rfl
  | k + 1, h => by rw [beN, beN, beN_congr (fun i hi => h i (by omega)), h k (by omega)]
theorem pre_size {s : ByteArray} {k : Nat} (h : k ≤ s.size) : (s.extract 0 k).size = k := by rw [ByteArray.size_extract]; omega
/-- A frame that is cut short is none. -/
theorem unF_cut (p r : ByteArray) (k : Nat) (hp : p.size ≤ 67108864) (hk : k < (frmB p).size) : unF ((frmB p ++ r).extract 0 k) = none := by
  have hz := frmB_size p
  have hs : (frmB p ++ r).size = 8 + p.size + r.size := by rw [ByteArray.size_append, hz]
  have hc : ((frmB p ++ r).extract 0 k).size = k := pre_size (by omega)
  by_cases h8 : k < 8
  · exact unF_small (by rw [hc]; exact h8)
  · have e1 : frmB p ++ r = hdB p ++ (bs (beK 4 (crcF p).toNat) ++ (p ++ r)) := by unfold frmB; rw [ByteArray.append_assoc, ByteArray.append_assoc]
    have n0 : fixV (frmB p ++ r) 4 = p.size := by rw [e1]; exact fix_word _ _ (by omega)
    have n1 : fixV ((frmB p ++ r).extract 0 k) 4 = p.size := by
      rw [← n0, fixV, fixV, if_neg (by omega), if_neg (by omega)]
      exact beN_congr fun i hi => by rw [byteAt_part _ _ _ _ (by omega) (by omega), Nat.zero_add]
    have hx : (((frmB p ++ r).extract 0 k).extract 8 ((frmB p ++ r).extract 0 k).size).size = k - 8 := by rw [ByteArray.size_extract, hc]; omega
    rw [unF, if_neg (by rw [n1, hc]; omega), if_pos (by rw [n1, hx]; omega)]
theorem ex_over (a b : ByteArray) (k : Nat) (h : a.size ≤ k) (hk : k ≤ (a ++ b).size) : (a ++ b).extract 0 k = a ++ b.extract 0 (k - a.size) := by
  have hs := ByteArray.size_append (a := a) (b := b)
  have h1 : ((a ++ b).extract 0 k).size = k := pre_size hk
  have h2 : (a ++ b.extract 0 (k - a.size)).size = k := by rw [ByteArray.size_append, pre_size (by omega)]; omega
  refine ext_byteAt (by rw [h1, h2]) fun i hi => ?_
  rw [h1] at hi
  rw [byteAt_part _ _ _ _ (by omega) hk, Nat.zero_add, byteAt_app, byteAt_app]
  by_cases hia : i < a.size
  · rw [if_pos hia, if_pos hia]
  · rw [if_neg hia, if_neg hia, byteAt_part _ _ _ _ (by omega) (by omega), Nat.zero_add]
/-- How many records are whole within so many bytes. -/
def wholes : List PObj → Nat → Nat
  | [], _ => 0
  | o :: l, m => if m < 9 + o.2.size then 0 else wholes l (m - (9 + o.2.size)) + 1
theorem wholes_le : ∀ (l : List PObj) (m : Nat), wholes l m ≤ l.length
  | [], _ => Nat.le_refl _
  | o :: l, m => by
    rw [wholes]
    split
    · exact Nat.zero_le _
    · have := wholes_le l (m - (9 + o.2.size)); rw [List.length_cons]; omega
theorem wholes_iff : ∀ (l : List PObj) (m i : Nat), i < l.length → (i < wholes l m ↔ (recsB (l.take (i + 1))).size ≤ m)
  | [], _, i, h => by simp at h
  | o :: l, m, i, h => by
    rw [List.take_succ_cons, recsB, ByteArray.size_append, recB_size, wholes]
    by_cases hm : m < 9 + o.2.size
    · rw [if_pos hm]; constructor <;> intro h' <;> omega
    · rw [if_neg hm]
      cases i with
      | zero =>
        rw [List.take_zero, recsB]
        show 0 < _ ↔ 9 + o.2.size + 0 ≤ m
        constructor <;> intro h' <;> omega
      | succ i =>
        have := wholes_iff l (m - (9 + o.2.size)) i (by simpa using h)
        constructor
        · intro h'
          have := this.1 (by omega)
          omega
        · intro h'
          have := this.2 (by omega)
          omega
/-- Records and a trailer, cut short: the whole records, and a rest that is no frame. -/
theorem cut_recs : ∀ (l : List PObj) (N m : Nat), (∀ o ∈ l, okO o = true) → m < (recsB l ++ trlB N).size → ∃ t, (recsB l ++ trlB N).extract 0 m = recsB (l.take (wholes l m)) ++ t ∧ unF t = none
  | [], N, m, _, hm => by
    rw [recsB, ByteArray.empty_append] at hm ⊢
    have ht := putL_le N
    have := unF_cut (trlS N) ByteArray.empty m (by rw [trlS_size]; omega) hm
    rw [ByteArray.append_empty] at this
    exact ⟨(trlB N).extract 0 m, by rw [List.take_nil, recsB, ByteArray.empty_append], this⟩
  | o :: l, N, m, h, hm => by
    have hz := (okO_iff o).1 (h o (List.mem_cons_self ..))
    have e : recsB (o :: l) ++ trlB N = recB o ++ (recsB l ++ trlB N) := by rw [recsB, ByteArray.append_assoc]
    have hr := recB_size o
    rw [e] at hm ⊢
    rw [ByteArray.size_append] at hm
    by_cases hc : m < 9 + o.2.size
    · have := unF_cut (recS o) (recsB l ++ trlB N) m (by rw [recS_size]; omega) (by show m < (recB o).size; omega)
      exact ⟨(recB o ++ (recsB l ++ trlB N)).extract 0 m, by rw [wholes, if_pos hc, List.take_zero, recsB, ByteArray.empty_append], this⟩
    · obtain ⟨t, h1, h2⟩ := cut_recs l N (m - (9 + o.2.size)) (fun x hx => h x (List.mem_cons_of_mem _ hx)) (by omega)
      refine ⟨t, ?_, h2⟩
      rw [ex_over _ _ _ (by omega) (by rw [ByteArray.size_append]; omega), hr, h1, wholes, if_neg hc, List.take_succ_cons, recsB, ByteArray.append_assoc]
theorem trl_frame (n : Nat) : unF (trlB n) = some (trlS n, ByteArray.empty) := by
  have ht := putL_le n
  have := unF_frame (trlS n) ByteArray.empty (by rw [trlS_size]; omega)
  rw [ByteArray.append_empty] at this
  exact this
end Go.Proofs.Ytpfccicahfncbaa
