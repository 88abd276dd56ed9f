/- Attributes there and back, plainly. No conditions but those told. -/
import Derived.Test.YtpfccicahfncbaaAttRStr
import Derived.Test.YtpfccicahfncbaaExt
namespace Go.Proofs.Ytpfccicahfncbaa
open Go.RowKit Wir
set_option linter.unusedVariables false
theorem short_at (n : Nat) (hn : n < 18446744073709551616) (r : ByteArray) : short (byteAt (bs (putL n) ++ r)) (bs (putL n) ++ r).size = (n, ((putL n).length : Int)) := by
  have h64 : (2 : Nat) ^ 64 = 18446744073709551616 := by decide
  have h := short_put (byteAt (bs (putL n) ++ r)) (bs (putL n) ++ r).size 9 11 0 0 n (by rw [Nat.mul_zero, Nat.pow_zero, Nat.mul_one, h64]; exact hn) (by omega) (by omega) (fun _ => rfl) (fun j hj => by
    have hz : (bs (putL n)).size = (putN 9 n).length := bs_size _
    refine ⟨by rw [ByteArray.size_append]; omega, ?_⟩
    rw [Nat.zero_add, byteAt_app, if_pos (by omega)]
    exact byteAt_list _ _)
  rw [Nat.mul_zero, Nat.pow_zero, Nat.mul_one, Nat.zero_add] at h
  refine h.trans ?_
  show (n, ((0 : Nat) : Int) + ((putN 9 n).length : Nat)) = (n, ((putN 9 n).length : Int))
  congr 1; omega
theorem uint_at (n : Nat) (hn : n < 18446744073709551616) (r : ByteArray) : uintE (bs (putL n) ++ r) = 0 ∧ uintS (bs (putL n) ++ r) = r := by
  have h := short_at n hn r
  unfold uintE uintS
  rw [h]
  have hl : ¬ ((putL n).length : Int) < 0 := by omega
  dsimp only
  rw [if_neg hl, if_neg hl, Int.toNat_natCast]
  exact ⟨rfl, ex_right _ _ _ (bs_size _).symm⟩
theorem text_at (t r : ByteArray) (m : Nat) (ht : t.size < 18446744073709551616) (hm : t.size ≤ m) : txB (txL t ++ r) m = true ∧ txT (txL t ++ r) m = t ∧ txS (txL t ++ r) m = r := by
  have e : txL t ++ r = bs (putL t.size) ++ (t ++ r) := by rw [txL, ByteArray.append_assoc]
  have h := short_at t.size ht (t ++ r)
  have hz : (bs (putL t.size)).size = (putL t.size).length := bs_size _
  have h1 := ByteArray.size_append (a := bs (putL t.size)) (b := t ++ r)
  have h2 := ByteArray.size_append (a := t) (b := r)
  rw [e]
  have hb : txB (bs (putL t.size) ++ (t ++ r)) m = true := by
    unfold txB
    rw [h]
    dsimp only
    rw [decide_eq_true_eq, Int.toNat_natCast]
    exact ⟨by omega, hm, by omega⟩
  refine ⟨hb, ?_, ?_⟩
  · rw [txT, if_pos hb, h]
    dsimp only
    rw [Int.toNat_natCast]
    have := ex_left t r t.size rfl
    have hx : (bs (putL t.size) ++ (t ++ r)).extract (putL t.size).length ((putL t.size).length + t.size) = t := by
      refine ext_byteAt (by rw [ByteArray.size_extract]; omega) fun i hi => ?_
      rw [ByteArray.size_extract] at hi
      rw [byteAt_part _ _ _ _ (by omega) (by omega), byteAt_app, if_neg (by omega), byteAt_app, if_pos (by omega)]
      congr 1; omega
    exact hx
  · rw [txS, if_pos hb, h]
    dsimp only
    rw [Int.toNat_natCast]
    refine ext_byteAt (by rw [ByteArray.size_extract]; omega) fun i hi => ?_
    rw [ByteArray.size_extract] at hi
    rw [byteAt_part _ _ _ _ (by omega) (by omega), byteAt_app, if_neg (by omega), byteAt_app, if_neg (by omega)]
    congr 1; omega
theorem num_at (n m : Nat) (r : ByteArray) (hn : n ≤ m) (hm : m < 18446744073709551616) : numS (bs (putL n) ++ r, true) m = (r, true) ∧ numN (bs (putL n) ++ r, true) = n := by
  obtain ⟨h1, h2⟩ := uint_at n (by omega) r
  have h3 := short_at n (by omega) r
  unfold numS numN
  dsimp only
  rw [h1, h2, h3]
  dsimp only
  rw [decide_eq_true hn]
  exact ⟨rfl, rfl⟩
theorem tk_at (t r : ByteArray) (m : Nat) (ht : t.size ≤ m) (hm : m < 18446744073709551616) : tkS (txL t ++ r, true) m = (r, true) ∧ txT (txL t ++ r) m = t ∧ txS (txL t ++ r) m = r := by
  obtain ⟨h1, h2, h3⟩ := text_at t r m (by omega) ht
  unfold tkS
  dsimp only
  rw [h1, h3]
  exact ⟨rfl, h2, rfl⟩
theorem rdXs_lay : ∀ (l : List (ByteArray × ByteArray)) (r : ByteArray) (L : List (ByteArray × ByteArray)), (∀ p ∈ l, p.1.size ≤ 255 ∧ p.2.size ≤ 4096) → rdXs l.length (layX l ++ r, true) L = (L ++ l, (r, true))
  | [], r, L, _ => by rw [layX, ByteArray.empty_append, List.append_nil]; rfl
  | p :: l, r, L, h => by
    obtain ⟨h1, h2⟩ := h p (List.mem_cons_self ..)
    have e : layX (p :: l) ++ r = txL p.1 ++ (txL p.2 ++ (layX l ++ r)) := by rw [layX]; simp only [ByteArray.append_assoc]
    obtain ⟨a1, a2, a3⟩ := tk_at p.1 (txL p.2 ++ (layX l ++ r)) 255 h1 (by omega)
    obtain ⟨b1, b2, b3⟩ := tk_at p.2 (layX l ++ r) 4096 h2 (by omega)
    rw [e, List.length_cons, rdXs, if_pos rfl]
    dsimp only
    rw [a1, b1, a2, a3, b2, rdXs_lay l r _ (fun q hq => h q (List.mem_cons_of_mem _ hq)), List.append_assoc]
    rfl
theorem one_at (b : UInt8) (r : ByteArray) : takeE (⟨#[b]⟩ ++ r) 1 = 0 ∧ takeS (⟨#[b]⟩ ++ r) 1 = r ∧ fixV (⟨#[b]⟩ ++ r) 1 = b.toNat := by
  have hz : (⟨#[b]⟩ : ByteArray).size = 1 := rfl
  have hs := ByteArray.size_append (a := (⟨#[b]⟩ : ByteArray)) (b := r)
  have h1 : ¬ (⟨#[b]⟩ ++ r : ByteArray).size < 1 := by omega
  refine ⟨if_neg h1, (if_neg h1).trans (ex_right _ _ _ hz.symm), (if_neg h1).trans ?_⟩
  have h0 : byteAt (⟨#[b]⟩ ++ r) 0 = b := by
    rw [byteAt_app, if_pos (by omega)]; rfl
  rw [beN, beN, h0]; omega
theorem layA_form (a : Att) : layA a = ⟨#[a.nd]⟩ ++ (bs (putL a.md.toNat) ++ (bs (putL a.ui.toNat) ++ (bs (putL a.gi.toNat) ++ (bs (putL a.mt.toNat) ++ ((if a.nd.toNat = 3 then txL a.tg else ByteArray.empty) ++ (bs (putL a.xs.length) ++ (layX a.xs ++ ByteArray.empty))))))) := by
  unfold layA
  simp only [numsB, ByteArray.append_assoc, ByteArray.append_empty]
theorem rdR_lay {a : Att} (h : chkA a = 0) : rdR (layA a) = (a, 0) := by
  obtain ⟨h1, h2, h3⟩ := chkA_zero h
  obtain ⟨q1, q2, q3, q4, q5⟩ := chk1_false h1
  obtain ⟨s1, s2, s3, s4⟩ := chk2_false h2
  have hX := chkX_sizes a.xs _ h3
  have hui := a.ui.toNat_lt
  have hgi := a.gi.toNat_lt
  have hf := layA_form a
  obtain ⟨o1, o2, o3⟩ := one_at a.nd (bs (putL a.md.toNat) ++ (bs (putL a.ui.toNat) ++ (bs (putL a.gi.toNat) ++ (bs (putL a.mt.toNat) ++ ((if a.nd.toNat = 3 then txL a.tg else ByteArray.empty) ++ (bs (putL a.xs.length) ++ (layX a.xs ++ ByteArray.empty)))))))
  rw [← hf] at o1 o2 o3
  obtain ⟨m1, n1⟩ := num_at a.md.toNat 4095 (bs (putL a.ui.toNat) ++ (bs (putL a.gi.toNat) ++ (bs (putL a.mt.toNat) ++ ((if a.nd.toNat = 3 then txL a.tg else ByteArray.empty) ++ (bs (putL a.xs.length) ++ (layX a.xs ++ ByteArray.empty)))))) q3 (by omega)
  obtain ⟨m2, n2⟩ := num_at a.ui.toNat 4294967295 (bs (putL a.gi.toNat) ++ (bs (putL a.mt.toNat) ++ ((if a.nd.toNat = 3 then txL a.tg else ByteArray.empty) ++ (bs (putL a.xs.length) ++ (layX a.xs ++ ByteArray.empty))))) (by omega) (by omega)
  obtain ⟨m3, n3⟩ := num_at a.gi.toNat 4294967295 (bs (putL a.mt.toNat) ++ ((if a.nd.toNat = 3 then txL a.tg else ByteArray.empty) ++ (bs (putL a.xs.length) ++ (layX a.xs ++ ByteArray.empty)))) (by omega) (by omega)
  obtain ⟨m4, n4⟩ := num_at a.mt.toNat 1099511627776 ((if a.nd.toNat = 3 then txL a.tg else ByteArray.empty) ++ (bs (putL a.xs.length) ++ (layX a.xs ++ ByteArray.empty))) (by omega) (by omega)
  obtain ⟨m6, n6⟩ := num_at a.xs.length 16 (layX a.xs ++ ByteArray.empty) s4 (by omega)
  have e1 : p1 (layA a) = (_, true) := congrArg (fun x => (x, true)) o2
  have e2 : p2 (layA a) = _ := (congrArg (fun q => numS q 4095) e1).trans m1
  have e3 : p3 (layA a) = _ := (congrArg (fun q => numS q 4294967295) e2).trans m2
  have e4 : p4 (layA a) = _ := (congrArg (fun q => numS q 4294967295) e3).trans m3
  have e5 : p5 (layA a) = _ := (congrArg (fun q => numS q 1099511627776) e4).trans m4
  have e6 : p6 (layA a) = (bs (putL a.xs.length) ++ (layX a.xs ++ ByteArray.empty), true) := by
    by_cases hn : a.nd.toNat = 3
    · rw [p6, o3, if_pos hn, e5, if_pos hn]
      exact (tk_at a.tg _ 1024 s2 (by omega)).1
    · rw [p6, o3, if_neg hn, e5, if_neg hn, ByteArray.empty_append]
  have et : rdT (layA a) = a.tg := by
    by_cases hn : a.nd.toNat = 3
    · rw [rdT, o3, if_pos hn, e5, if_pos hn]
      exact (tk_at a.tg _ 1024 s2 (by omega)).2.1
    · rw [rdT, o3, if_neg hn]
      rw [decide_eq_false hn] at s1
      have : a.tg.toList.isEmpty = true := by
        cases hx : a.tg.toList.isEmpty with
        | true => rfl
        | false => rw [hx] at s1; cases s1
      rw [ByteArray.toList_eq, List.isEmpty_iff] at this
      exact (ByteArray.ext (Array.ext' this)).symm
  have e7 : p7 (layA a) = (layX a.xs ++ ByteArray.empty, true) := (congrArg (fun q => numS q 16) e6).trans m6
  have eL : rdL (layA a) = (a.xs, (ByteArray.empty, true)) := by
    rw [rdL, e6, e7, n6]
    exact rdXs_lay a.xs ByteArray.empty [] hX
  have eA : rdA (layA a) = a := by
    rw [rdA, et, eL, rdA0, o3, e1, e2, e3, e4, n1, n2, n3, n4]
    obtain ⟨x1, x2, x3, x4, x5, x6, x7⟩ := a
    dsimp only at *
    have w1 : wrap64 ((x5.toNat : Nat) : Int) = x5 := by unfold wrap64; omega
    rw [w1, UInt8.ofNat_toNat, UInt32.ofNat_toNat, UInt32.ofNat_toNat, UInt32.ofNat_toNat]
  have eO : rdOK (layA a) = true := by
    rw [rdOK, o1, eL, eA, h]
    rfl
  rw [rdR, if_pos eO, eA]
theorem layA_inj {a b : Att} (ha : chkA a = 0) (hb : chkA b = 0) (h : layA a = layA b) : a = b := by
  have h1 := rdR_lay ha
  rw [h, rdR_lay hb] at h1
  exact (congrArg Prod.fst h1).symm
/-- The bytes of sets one behind the other, each with its length ahead. -/
def catL : List Att → ByteArray
  | [] => ByteArray.empty
  | a :: l => txL (layA a) ++ catL l
theorem strF_ok : ∀ (l : List Att) (s : ByteArray), (∀ a ∈ l, chkA a = 0) → strF s l = (s ++ catL l, 0)
  | [], s, _ => by rw [strF, catL, ByteArray.append_empty]
  | a :: l, s, h => by
    rw [strF, if_pos (h a (List.mem_cons_self ..)), strF_ok l _ (fun x hx => h x (List.mem_cons_of_mem _ hx)), catL, ByteArray.append_assoc]
theorem rsF_cat : ∀ (l : List Att) (r : ByteArray) (L : List Att), (∀ a ∈ l, chkA a = 0) → rsF l.length (catL l ++ r) L = some (L ++ l, r)
  | [], r, L, _ => by rw [catL, ByteArray.empty_append, List.append_nil]; rfl
  | a :: l, r, L, h => by
    have ha := h a (List.mem_cons_self ..)
    have hz := layA_size ha
    have e : catL (a :: l) ++ r = txL (layA a) ++ (catL l ++ r) := by rw [catL, ByteArray.append_assoc]
    have hs := ByteArray.size_append (a := txL (layA a)) (b := catL l ++ r)
    have ht := txL_size (layA a)
    obtain ⟨t1, t2, t3⟩ := text_at (layA a) (catL l ++ r) (txL (layA a) ++ (catL l ++ r)).size (by omega) (by omega)
    rw [e, List.length_cons, rsF, t2, rdR_lay ha, if_pos ⟨t1, rfl⟩, t3, rsF_cat l r _ (fun x hx => h x (List.mem_cons_of_mem _ hx)), List.append_assoc]
    rfl
theorem rsR_str {l : List Att} (h1 : 1 ≤ l.length) (h2 : l.length ≤ 257) (h : ∀ a ∈ l, chkA a = 0) : (strR l).2 = 0 ∧ rsR (strR l).1 = (l, 0) := by
  have e : strR l = (bs (putL l.length) ++ catL l, 0) := by rw [strR, if_neg (by omega), strF_ok l _ h]
  rw [e]
  refine ⟨rfl, ?_⟩
  dsimp only
  obtain ⟨u1, u2⟩ := uint_at l.length (by omega) (catL l)
  have u3 := short_at l.length (by omega) (catL l)
  have hc := rsF_cat l ByteArray.empty [] h
  rw [ByteArray.append_empty, List.nil_append] at hc
  rw [rsR, u1, u2, u3]
  dsimp only
  rw [if_pos ⟨rfl, h1, h2⟩, hc, rsE]
  exact if_pos rfl
end Go.Proofs.Ytpfccicahfncbaa
