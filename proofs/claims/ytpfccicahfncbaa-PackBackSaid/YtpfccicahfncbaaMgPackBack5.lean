/- Several texts of the claim joined into one (part 5): plain facts and walks. No conditions but those that each theorem tells. -/
import Derived.Test.YtpfccicahfncbaaRcdMPackBack
import Derived.Test.YtpfccicahfncbaaMgPackBack3
import Derived.Lib.Bytes2
import Derived.Test.YtpfccicahfncbaaMgPackBack2
namespace Go.Proofs.Ytpfccicahfncbaa
open Go.RowKit Wir Dig
set_option linter.unusedVariables false
set_option linter.unusedSimpArgs false
def markB (s : ByteArray) : Bool := Lib.hasPrefix s.data.toList markPk.data.toList
theorem markB_size {s : ByteArray} (h : markB s = true) : 4 ≤ s.size := by
  have h := Lib.hasPrefix_le h
  rw [Array.length_toList, Array.length_toList] at h
  exact h
theorem toList_ne {a b : ByteArray} (h : a ≠ b) : (a.toList == b.toList) = false := by
  rw [ByteArray.toList_eq, ByteArray.toList_eq, beq_eq_false_iff_ne]
  intro e
  apply h
  cases a; cases b
  simp only at e
  rw [ByteArray.mk.injEq]
  exact Array.ext' e
/-- What Scan tells. -/
noncomputable def scR (s : ByteArray) : List (Nat × PObj) × Int :=
  if markB s = false ∨ 67108864 < s.size then ([], 4)
  else if (scnF s.size (s.size + 1) (s.extract 4 s.size) [] []).2 = trlB (scnF s.size (s.size + 1) (s.extract 4 s.size) [] []).1.length then ((scnF s.size (s.size + 1) (s.extract 4 s.size) [] []).1, 0) else ([], 4)
theorem scnF_len (N : Nat) : ∀ (f : Nat) (s : ByteArray) (L : List (Nat × PObj)) (S : List (Array Value)), L.length ≤ 65536 → (scnF N f s L S).1.length ≤ 65537
  | 0, s, L, S, h => by rw [scnF]; show L.length ≤ _; omega
  | f + 1, s, L, S, h => by
    cases hf : fstF s with
    | none => rw [scnF_none hf]; show L.length ≤ _; omega
    | some q =>
      obtain ⟨o, r⟩ := q
      by_cases hx : nmA o ∈ S ∨ 65536 < L.length + 1
      · rw [scnF_stop hf hx]; show (L ++ _).length ≤ _; rw [List.length_append]; simp; omega
      · rw [scnF_on hf (fun h => hx (Or.inl h)) (by omega)]
        exact scnF_len N f r _ _ (by rw [List.length_append]; simp; omega)
set_option maxRecDepth 100000 in
set_option maxHeartbeats 1000000 in
theorem scan_any (s : ByteArray) (w : World) (hs : s.size ≤ 140737488355328) :
    Calls Try.prog 13 #[.string s] w fun e w' => ∃ v, e = .returned (.tuple #[v, .int .i64 (scR s).2]) ∧ w'.ownsRow w.heap.size 44 35 v (scR s).1.length (entsV (scR s).1) ∧ Below w.heap.size w w' := by
  have P : Hid (∀ W, Calls Try.prog 39 #[.string s, .string ⟨#[109, 112, 107, 49]⟩] W fun e w' => e = .returned (.bool (markB s)) ∧ w' = W) := Lib.hid (fun W => Try.strings_HasPrefix s markPk W)
  have hmm := run_mk Try.prog 85
  have hmf : ∀ (fn : Fn) (first cap : Array Value) (w : World), (Instr.makeFunc fn first cap).run Try.prog w = .ok (.func fn first cap) w := fun _ _ _ _ => rfl
  by_cases hb : markB s = false ∨ 67108864 < s.size
  · have E : Hid (scR s = ([], 4)) := Lib.hid (by rw [scR, if_pos hb])
    rw [E.out]
    cases hm : markB s with
    | false =>
      rw [hm] at P
      clear hb hm
      go_enter Try.func13, Try.ntmps13
      go_wp2_with fail
      (with_reducible refine (P.out _).mono ?_)
      rintro e w1 ⟨rfl, rfl⟩
      go_wp2
      go_ret2
      exact ⟨_, rfl, World.ownsRow_nil _ _ _ _, Below.refl _ _⟩
    | true =>
      have hbig : 67108864 < s.size := by rcases hb with h | h; rw [hm] at h; cases h; exact h
      rw [hm] at P
      clear hb hm
      go_enter Try.func13, Try.ntmps13
      go_wp2_with fail
      (with_reducible refine (P.out _).mono ?_)
      rintro e w1 ⟨rfl, rfl⟩
      go_wp2
      go_ret2
      exact ⟨_, rfl, World.ownsRow_nil _ _ _ _, Below.refl _ _⟩
  · have hm : markB s = true := by cases hm : markB s with | true => rfl | false => exact absurd (Or.inl hm) hb
    have hsz : s.size ≤ 67108864 := by omega
    have h4 := markB_size hm
    have E : Hid (scR s = if (scnF s.size (s.size + 1) (s.extract 4 s.size) [] []).2 = trlB (scnF s.size (s.size + 1) (s.extract 4 s.size) [] []).1.length then ((scnF s.size (s.size + 1) (s.extract 4 s.size) [] []).1, 0) else ([], 4)) := Lib.hid (by rw [scR, if_neg hb])
    have hlen := scnF_len s.size (s.size + 1) (s.extract 4 s.size) [] [] (by simp)
    rw [hm] at P
    have R := Lib.hid (fun mb lb m v W h hS => recordsS_any s w.heap.size mb lb m v W h hS h4 (by omega))
    generalize scnF s.size (s.size + 1) (s.extract 4 s.size) [] [] = T at *
    obtain ⟨L, r⟩ := T
    clear hb hm
    go_enter Try.func13, Try.ntmps13
    go_wp2_with fail
    (with_reducible refine (P.out _).mono ?_)
    rintro e w1 ⟨rfl, rfl⟩
    clear P
    go_upto_region 5 with fail
    have A1 : ((w1.alloc (.cells #[.slice none 0 0] 36)).alloc (.map #[] 0)).heap.size = w1.heap.size + 1 + 1 := by simp
    have A0 : (w1.alloc (.cells #[.slice none 0 0] 36)).heap.size = w1.heap.size + 1 := by simp
    have HS0 : SeenC ((w1.alloc (.cells #[.slice none 0 0] 36)).alloc (.map #[] 0)) (w1.heap.size + 1) 0 [] := by rw [← A0]; exact SeenC.made _
    have HS : SeenC (((w1.alloc (.cells #[.slice none 0 0] 36)).alloc (.map #[] 0)).alloc (.cells #[.map (some (w1.heap.size + 1))] 85)) (w1.heap.size + 1) 0 [] := HS0.below ((Below.refl _ _).alloc (Nat.le_refl _) _)
    have HM : Blk (((w1.alloc (.cells #[.slice none 0 0] 36)).alloc (.map #[] 0)).alloc (.cells #[.map (some (w1.heap.size + 1))] 85)) (w1.heap.size + 1 + 1) 85 #[.map (some (w1.heap.size + 1))] := by rw [← A1]; exact Blk.new _ _ _
    have HI : Hid (ScI (((w1.alloc (.cells #[.slice none 0 0] 36)).alloc (.map #[] 0)).alloc (.cells #[.map (some (w1.heap.size + 1))] 85)) w1.heap.size (w1.heap.size + 1 + 1) w1.heap.size (w1.heap.size + 1) (.slice none 0 0) []) := Lib.hid ⟨HM, ((Blk.new w1 _ _).alloc _).alloc _, World.ownsRow_nil _ _ _ _, by omega, by omega, by omega, by simp; omega⟩
    have HSS := Lib.hid HS
    have HB0 : Hid (Below w1.heap.size w1 (((w1.alloc (.cells #[.slice none 0 0] 36)).alloc (.map #[] 0)).alloc (.cells #[.map (some (w1.heap.size + 1))] 85))) := Lib.hid ((((Below.refl _ _).alloc (Nat.le_refl _) _).alloc (by simp) _).alloc (by simp; omega) _)
    clear hmm A0 A1 HS0 HS HM
    generalize ((w1.alloc (.cells #[.slice none 0 0] 36)).alloc (.map #[] 0)).alloc (.cells #[.map (some (w1.heap.size + 1))] 85) = w2 at HI HSS HB0 ⊢
    obtain ⟨m, hm⟩ : ∃ m, w1.heap.size + 1 = m := ⟨_, rfl⟩
    rw [hm] at HI HSS ⊢
    obtain ⟨mb, hmb⟩ : ∃ mb, m + 1 = mb := ⟨_, rfl⟩
    rw [hmb] at HI ⊢
    clear hmb hm
    have C := Lib.hid (R.out _ _ _ _ _ HI.out HSS.out)
    clear R
    go_wp2_with fail
    (with_reducible refine C.out.mono ?_)
    rintro e w3 ⟨v3, rfl, hi3, hb3⟩
    obtain ⟨nv, cv, Av, rfl⟩ := own_value hi3.2.2.1
    obtain rfl : nv = L.length := own_len hi3.2.2.1
    have HI3 := Lib.hid hi3
    have HB3 := Lib.hid (HB0.out.trans hb3)
    have l0 := hi3.2.1.cell 0
    have T3 := Lib.hid (fun W => trailer_any L.length W (by have : L.length ≤ 65537 := hlen; omega))
    clear hi3 hb3 C HI HSS HB0

    have hll : L.length ≤ 65537 := hlen
    clear hlen
    go_wp2_with fail
    (with_reducible refine (T3.out _).mono ?_)
    rintro e w4 ⟨rfl, hb4⟩
    have HI4 := Lib.hid (HI3.out.below hb4)
    have HB4 := Lib.hid (HB3.out.trans (hb4.mono HI3.out.2.2.2.2.2.2))
    have l0 := HI4.out.2.1.cell 0
    clear hb4 T3
    by_cases hr : r = trlB L.length
    · have ER : Hid (scR s = (L, 0)) := Lib.hid (by rw [E.out, if_pos hr])
      have hne : (r.toList == (trlB L.length).toList) = true := by rw [hr]; exact beq_self_eq_true _
      clear hr
      go_wp2
      go_ret2
      rw [ER.out]
      exact ⟨_, rfl, HI4.out.2.2.1, HB4.out⟩
    · have ER : Hid (scR s = ([], 4)) := Lib.hid (by rw [E.out, if_neg hr])
      have hne : (r.toList == (trlB L.length).toList) = false := toList_ne hr
      clear hr
      go_wp2
      go_ret2
      rw [ER.out]
      exact ⟨_, rfl, World.ownsRow_nil _ _ _ _, HB4.out⟩
end Go.Proofs.Ytpfccicahfncbaa
namespace Go.Proofs.Ytpfccicahfncbaa
open Go.RowKit Wir Dig
set_option linter.unusedVariables false
set_option linter.unusedSimpArgs false
/-- What Read tells of a place within. -/
def rdV (s : ByteArray) (off : Nat) : Value := match fstF (s.extract off s.size) with
  | none => .tuple #[zeroO, .int .i64 4]
  | some (o, _) => .tuple #[objA o, .int .i64 0]
theorem rdV_none {s : ByteArray} {off : Nat} (h : fstF (s.extract off s.size) = none) : rdV s off = .tuple #[zeroO, .int .i64 4] := by rw [rdV, h]
theorem rdV_some {s r : ByteArray} {off : Nat} {o : PObj} (h : fstF (s.extract off s.size) = some (o, r)) : rdV s off = .tuple #[objA o, .int .i64 0] := by rw [rdV, h]
set_option maxRecDepth 100000 in
set_option maxHeartbeats 1000000 in
theorem read_any (s : ByteArray) (off : Nat) (w : World) (hs : s.size ≤ 140737488355328) (ho : off ≤ s.size) :
    Calls Try.prog 24 #[.string s, .int .i64 (off : Int)] w fun e w' => e = .returned (rdV s off) ∧ Below w.heap.size w w' := by
  have F := Lib.hid (fun W => pkFirst_any (s.extract off s.size) W (by rw [ByteArray.size_extract]; omega))
  have B0 : Hid (Blk (w.alloc (.cells #[.int .u8 0, .string ByteArray.empty] 30)) w.heap.size 30 #[.int .u8 0, .string ByteArray.empty] ∧ Below w.heap.size w (w.alloc (.cells #[.int .u8 0, .string ByteArray.empty] 30))) := Lib.hid ⟨Blk.new _ _ _, (Below.refl _ _).alloc (Nat.le_refl _) _⟩
  have hoi : (off : Int) ≤ (s.size : Int) := by omega
  cases hf : fstF (s.extract off s.size) with
  | none =>
    have E := Lib.hid (rdV_none hf)
    rw [fstV_none hf] at F
    unfold zeroO at F
    clear hf
    go_enter Try.func24, Try.ntmps24
    go_wp2_with fail
    change Calls _ _ _ (w.alloc (.cells #[.int .u8 0, .string ByteArray.empty] 30)) _
    (with_reducible refine (F.out _).mono ?_)
    rintro e w1 ⟨rfl, hb1⟩
    have B1 : Hid (Blk (w1.alloc (.cells #[.int .u8 0, .string ByteArray.empty] 30)) w.heap.size 30 #[.int .u8 0, .string ByteArray.empty] ∧ Below w.heap.size w (w1.alloc (.cells #[.int .u8 0, .string ByteArray.empty] 30))) := Lib.hid ⟨(B0.out.1.below hb1 B0.out.1.lt).alloc _, (B0.out.2.trans (hb1.mono B0.out.2.size)).alloc (B0.out.2.trans (hb1.mono B0.out.2.size)).size _⟩
    clear hb1 F B0
    go_upto_region 4 with fail
    generalize w1.alloc (.cells #[.int .u8 0, .string ByteArray.empty] 30) = w2 at B1 ⊢
    have c0 := B1.out.1.cell 0
    have c1 := B1.out.1.cell 1
    have f0 := B1.out.1.frozen 0
    have f1 := B1.out.1.frozen 1
    go_wp2
    have HF := Lib.hid ((B1.out.1.set_ 0 (.int .u8 0)).set_ 1 (.string ByteArray.empty))
    have HB := Lib.hid ((B1.out.2.setCell (p := ⟨w.heap.size, 0, none⟩) (Nat.le_refl _) (.int .u8 0)).setCell (p := ⟨w.heap.size, 1, none⟩) (Nat.le_refl _) (.string ByteArray.empty))
    exact bodyPost_ret (results_obj_tmp (p := 4) (u := 5) rfl _ _ w.heap.size 30 #[.int .u8 0, .string ByteArray.empty] (0, 0) rfl HF.out Try.underlying30 (by kernel_rfl)) rfl ⟨by rw [E.out]; rfl, HB.out⟩
  | some q =>
    obtain ⟨o, r⟩ := q
    have E := Lib.hid (rdV_some hf)
    rw [fstV_some hf] at F
    unfold objA at F
    clear hf
    go_enter Try.func24, Try.ntmps24
    go_wp2_with fail
    change Calls _ _ _ (w.alloc (.cells #[.int .u8 0, .string ByteArray.empty] 30)) _
    (with_reducible refine (F.out _).mono ?_)
    rintro e w1 ⟨rfl, hb1⟩
    have hlt : w.heap.size < w1.heap.size := Nat.lt_of_lt_of_le B0.out.1.lt hb1.size
    have B1 : Hid (Blk (w1.alloc (.cells #[.int .u8 (o.1.toNat : Int), .string o.2] 30)) w.heap.size 30 #[.int .u8 0, .string ByteArray.empty] ∧ Below w.heap.size w (w1.alloc (.cells #[.int .u8 (o.1.toNat : Int), .string o.2] 30)) ∧ Blk (w1.alloc (.cells #[.int .u8 (o.1.toNat : Int), .string o.2] 30)) w1.heap.size 30 #[.int .u8 (o.1.toNat : Int), .string o.2]) := Lib.hid ⟨(B0.out.1.below hb1 B0.out.1.lt).alloc _, (B0.out.2.trans (hb1.mono B0.out.2.size)).alloc (B0.out.2.trans (hb1.mono B0.out.2.size)).size _, Blk.new _ _ _⟩
    clear hb1 F B0
    go_upto_region 4 with fail
    generalize w1.alloc (.cells #[.int .u8 (o.1.toNat : Int), .string o.2] 30) = w2 at B1 ⊢
    have c0 := B1.out.1.cell 0
    have c1 := B1.out.1.cell 1
    have f0 := B1.out.1.frozen 0
    have f1 := B1.out.1.frozen 1
    have d0 := B1.out.2.2.cell 0
    have d1 := B1.out.2.2.cell 1
    go_wp2
    have HF := Lib.hid ((B1.out.1.set_ 0 (.int .u8 (o.1.toNat : Int))).set_ 1 (.string o.2))
    have HB := Lib.hid ((B1.out.2.1.setCell (p := ⟨w.heap.size, 0, none⟩) (Nat.le_refl _) (.int .u8 (o.1.toNat : Int))).setCell (p := ⟨w.heap.size, 1, none⟩) (Nat.le_refl _) (.string o.2))
    exact bodyPost_ret (results_obj_tmp (p := 4) (u := 5) rfl _ _ w.heap.size 30 #[.int .u8 (o.1.toNat : Int), .string o.2] (0, 0) rfl HF.out Try.underlying30 (by kernel_rfl)) rfl ⟨by rw [E.out]; rfl, HB.out⟩
end Go.Proofs.Ytpfccicahfncbaa
namespace Go.Proofs.Ytpfccicahfncbaa
open Go.RowKit Wir Dig
set_option linter.unusedVariables false
theorem ex_right (a b : ByteArray) (n : Nat) (h : n = a.size) : (a ++ b).extract n (a ++ b).size = b := by
  subst h
  have e : ((a ++ b).extract a.size (a ++ b).size).size = b.size := by rw [ByteArray.size_extract, ByteArray.size_append]; omega
  refine ext_byteAt e fun i hi => ?_
  rw [e] at hi
  rw [byteAt_part _ _ _ _ (by rw [ByteArray.size_append]; omega) (Nat.le_refl _), byteAt_app, if_neg (by omega)]
  congr 1; omega
theorem ex_left (a b : ByteArray) (n : Nat) (h : n = a.size) : (a ++ b).extract 0 n = a := by
  subst h
  have e : ((a ++ b).extract 0 a.size).size = a.size := by rw [ByteArray.size_extract, ByteArray.size_append]; omega
  refine ext_byteAt e fun i hi => ?_
  rw [e] at hi
  rw [byteAt_part _ _ _ _ (by omega) (by rw [ByteArray.size_append]; omega), Nat.zero_add, byteAt_app, if_pos hi]
theorem byteAt_list (l : List UInt8) (j : Nat) : byteAt (bs l) j = l.getD j 0 := by unfold byteAt; rw [bs_data]
theorem fix_word (n : Nat) (x : ByteArray) (h : n < 4294967296) : fixV (bs (beK 4 n) ++ x) 4 = n := by
  have hz : (bs (beK 4 n)).size = 4 := by rw [bs_size, beK_length _ _ (by omega)]
  have B : ∀ j, j < 4 → (byteAt (bs (beK 4 n) ++ x) j).toNat = n / 2 ^ (8 * (4 - 1 - j)) % 256 := fun j hj => by
    rw [byteAt_app, if_pos (by omega), byteAt_list, beK_at _ _ _ (by omega) hj, UInt8.toNat_ofNat']
  rw [fixV, if_neg (by rw [ByteArray.size_append]; omega)]
  have b0 := B 0 (by omega)
  have b1 := B 1 (by omega)
  have b2 := B 2 (by omega)
  have b3 := B 3 (by omega)
  show (((0 * 256 + (byteAt _ 0).toNat) * 256 + (byteAt _ 1).toNat) * 256 + (byteAt _ 2).toNat) * 256 + (byteAt _ 3).toNat = n
  rw [b0, b1, b2, b3]
  simp only [show 8 * (4 - 1 - 0) = 24 from rfl, show 8 * (4 - 1 - 1) = 16 from rfl, show 8 * (4 - 1 - 2) = 8 from rfl, show 8 * (4 - 1 - 3) = 0 from rfl, Nat.reducePow, Nat.div_one]
  omega
theorem unF_frame (p r : ByteArray) (h : p.size ≤ 67108864) : unF (frmB p ++ r) = some (p, r) := by
  have hc := (crcF p).toNat_lt
  have z1 := hdB_size p
  have z2 : (bs (beK 4 (crcF p).toNat)).size = 4 := by rw [bs_size, beK_length _ _ (by omega)]
  have e1 : frmB p ++ r = hdB p ++ (bs (beK 4 (crcF p).toNat) ++ (p ++ r)) := by unfold frmB; rw [ByteArray.append_assoc, ByteArray.append_assoc]
  have e2 : frmB p ++ r = (hdB p ++ bs (beK 4 (crcF p).toNat)) ++ (p ++ r) := by rw [e1, ByteArray.append_assoc]
  have hz : (frmB p ++ r).size = 8 + p.size + r.size := by rw [ByteArray.size_append, frmB_size]
  have n1 : fixV (frmB p ++ r) 4 = p.size := by rw [e1]; exact fix_word _ _ (by omega)
  have x8 : (frmB p ++ r).extract 8 (frmB p ++ r).size = p ++ r := by rw [e2]; exact ex_right _ _ _ (by rw [ByteArray.size_append]; omega)
  have x4 : (frmB p ++ r).extract 4 (frmB p ++ r).size = bs (beK 4 (crcF p).toNat) ++ (p ++ r) := by rw [e1]; exact ex_right _ _ _ (by omega)
  have x0 : (frmB p ++ r).extract 0 4 = hdB p := by rw [e1]; exact ex_left _ _ _ (by omega)
  have xr : (frmB p ++ r).extract (8 + p.size) (frmB p ++ r).size = r := ex_right _ _ _ (by rw [frmB_size])
  have xp : (p ++ r).extract 0 p.size = p := ex_left _ _ _ rfl
  have n2 : fixV (bs (beK 4 (crcF p).toNat) ++ (p ++ r)) 4 = (crcF p).toNat := fix_word _ _ (by omega)
  rw [unF, if_neg (by rw [n1]; omega), if_neg (by rw [n1, x8, ByteArray.size_append]; omega), n1, x8, x4, x0, xr, xp, n2, if_neg (by rw [onC_on]; exact not_not_intro rfl)]
theorem fst_rec (o : PObj) (r : ByteArray) (h : okO o = true) : fstF (recB o ++ r) = some (o, r) := by
  have hz := (okO_iff o).1 h
  have hs := recS_size o
  have hu := unF_frame (recS o) r (by omega)
  have e0 : byteAt (recS o) 0 = o.1 := by unfold recS; rw [byteAt_app, if_pos (by rw [bs_size]; exact Nat.zero_lt_one), byteAt_list]; rfl
  have e1 : (recS o).extract 1 (recS o).size = o.2 := by unfold recS; exact ex_right _ _ _ (by rw [bs_size]; rfl)
  have := fstF_some (s := recB o ++ r) hu (by omega) (by rw [e0, e1]; exact h)
  rw [e0, e1] at this
  exact this
theorem fst_trl (n : Nat) (r : ByteArray) : fstF (trlB n ++ r) = none := by
  have hs := trlS_size n
  have hl := putL_le n
  have hu := unF_frame (trlS n) r (by omega)
  have e0 : byteAt (trlS n) 0 = 0 := by unfold trlS; rw [byteAt_app, if_pos (by decide)]; rfl
  refine fstF_bad (s := trlB n ++ r) hu (by omega) ?_
  cases hb : okO (byteAt (trlS n) 0, (trlS n).extract 1 (trlS n).size) with
  | false => rfl
  | true => have := ((okO_iff _).1 hb).1; rw [e0] at this; exact absurd this (show ¬ 1 ≤ (0 : UInt8).toNat from by decide)
/-- Records, one behind the other. -/
def recsB : List PObj → ByteArray
  | [] => ByteArray.empty
  | o :: l => recB o ++ recsB l
def entsAt : Nat → List PObj → List (Nat × PObj)
  | _, [] => []
  | k, o :: l => (k, o) :: entsAt (k + (9 + o.2.size)) l
theorem entsAt_length (k : Nat) (l : List PObj) : (entsAt k l).length = l.length := by
  induction l generalizing k with
  | nil => rfl
  | cons o l ih => rw [entsAt, List.length_cons, ih, List.length_cons]
/-- What can be packed. -/
theorem bld_ok : ∀ (l : List PObj) (i : Nat) (s : ByteArray) (S : List (Array Value)), (bldF i s S l).2 = 0 →
    (bldF i s S l).1 = s ++ recsB l ++ trlB (i + l.length) ∧ (∀ o ∈ l, okO o = true) ∧ (∀ o ∈ l, ¬ nmA o ∈ S) ∧ (l.map nmA).Nodup ∧ (l ≠ [] → i + l.length ≤ 65536 ∧ (bldF i s S l).1.size ≤ 67108864)
  | [], i, s, S, h => by
    refine ⟨?_, by simp, by simp, by simp, fun h => absurd rfl h⟩
    rw [bldF]
    show s ++ trlB i = _
    rw [recsB, ByteArray.append_empty]; rfl
  | o :: l, i, s, S, h => by
    cases hb : badO i s o with
    | true => rw [bldF_bad hb] at h; cases h
    | false =>
      by_cases hm : nmA o ∈ S
      · rw [bldF_there hb hm] at h; cases h
      · rw [bldF_on hb hm] at h ⊢
        obtain ⟨h1, h2, h3, h4, h5⟩ := bld_ok l (i + 1) (s ++ recB o) (nmA o :: S) h
        have hbb := (badO_iff i s o).1 hb
        refine ⟨?_, ?_, ?_, ?_, fun _ => ?_⟩
        · rw [h1, recsB, List.length_cons, show i + 1 + l.length = i + (l.length + 1) from by omega]
          simp only [ByteArray.append_assoc]
        · intro x hx
          rcases List.mem_cons.1 hx with rfl | hx
          · exact hbb.1
          · exact h2 x hx
        · intro x hx
          rcases List.mem_cons.1 hx with rfl | hx
          · exact hm
          · exact fun h => h3 x hx (List.mem_cons_of_mem _ h)
        · rw [List.map_cons, List.nodup_cons]
          refine ⟨fun hx => ?_, h4⟩
          obtain ⟨y, hy, e⟩ := List.mem_map.1 hx
          exact h3 y hy (by rw [e]; exact List.mem_cons_self ..)
        · cases l with
          | nil =>
            refine ⟨by simp only [List.length_cons, List.length_nil]; omega, ?_⟩
            rw [h1, recsB, ByteArray.append_empty]
            rw [ByteArray.size_append, ByteArray.size_append, recB_size]
            show s.size + _ + (trlB (i + 1)).size ≤ _
            omega
          | cons x l =>
            have := h5 (by simp)
            refine ⟨by rw [List.length_cons]; omega, this.2⟩
theorem scn_recs : ∀ (l : List PObj) (N f : Nat) (t : ByteArray) (L : List (Nat × PObj)) (S : List (Array Value)), (recsB l ++ t).size < f → (recsB l ++ t).size ≤ N → fstF t = none → (∀ o ∈ l, okO o = true) → (∀ o ∈ l, ¬ nmA o ∈ S) → (l.map nmA).Nodup → L.length + l.length ≤ 65536 →
    scnF N f (recsB l ++ t) L S = (L ++ entsAt (N - (recsB l ++ t).size) l, t)
  | [], N, f, t, L, S, hf, hN, ht, _, _, _, _ => by
    obtain ⟨f, rfl⟩ : ∃ k, f = k + 1 := ⟨f - 1, by omega⟩
    rw [recsB, ByteArray.empty_append, scnF_none ht, entsAt, List.append_nil]
  | o :: l, N, f, t, L, S, hf, hN, ht, h1, h2, h3, h4 => by
    obtain ⟨f, rfl⟩ : ∃ k, f = k + 1 := ⟨f - 1, by omega⟩
    have e : recsB (o :: l) ++ t = recB o ++ (recsB l ++ t) := by rw [recsB, ByteArray.append_assoc]
    have hz : (recsB (o :: l) ++ t).size = 9 + o.2.size + (recsB l ++ t).size := by rw [e, ByteArray.size_append, recB_size]
    have hfst : fstF (recsB (o :: l) ++ t) = some (o, recsB l ++ t) := by rw [e]; exact fst_rec o _ (h1 o (List.mem_cons_self ..))
    rw [List.map_cons, List.nodup_cons] at h3
    rw [List.length_cons] at h4
    rw [scnF_on hfst (h2 o (List.mem_cons_self ..)) (by omega), scn_recs l N f t _ _ (by omega) (by omega) ht (fun x hx => h1 x (List.mem_cons_of_mem _ hx)) (fun x hx hm => ?_) h3.2 (by rw [List.length_append]; simp only [List.length_cons, List.length_nil]; omega)]
    · rw [entsAt, List.append_assoc, hz]
      rw [show N - (9 + o.2.size + (recsB l ++ t).size) + (9 + o.2.size) = N - (recsB l ++ t).size from by omega]
      rfl
    · rcases List.mem_cons.1 hm with hm | hm
      · exact h3.1 (by rw [← hm]; exact List.mem_map_of_mem hx)
      · exact h2 x (List.mem_cons_of_mem _ hx) hm
theorem markB_app (s : ByteArray) : markB (markPk ++ s) = true := by
  unfold markB Lib.hasPrefix
  rw [List.isPrefixOf_iff_prefix, ByteArray.data_append, Array.toList_append]
  exact List.prefix_append _ _
theorem trl_empty (n : Nat) : trlB n ++ ByteArray.empty = trlB n := ByteArray.append_empty
/-- What Scan tells of what Build told. -/
theorem scan_build (l : List PObj) (h : (bldR l).2 = 0) : scR (bldR l).1 = (entsAt 4 l, 0) := by
  obtain ⟨h1, h2, h3, h4, h5⟩ := bld_ok l 0 markPk [] h
  have hs : (bldR l).1 = markPk ++ (recsB l ++ trlB l.length) := by
    show (bldF 0 markPk [] l).1 = _
    rw [h1, Nat.zero_add, ByteArray.append_assoc]
  have hz : (bldR l).1.size = 4 + (recsB l ++ trlB l.length).size := by rw [hs, ByteArray.size_append]; rfl
  have hbig : (bldR l).1.size ≤ 67108864 ∧ l.length ≤ 65536 := by
    cases l with
    | nil =>
      have := trlB_size 0
      refine ⟨?_, by simp⟩
      rw [hz, recsB, ByteArray.empty_append]
      show 4 + (trlB 0).size ≤ _
      omega
    | cons o l => have := h5 (by simp); exact ⟨this.2, by omega⟩
  have hx : (bldR l).1.extract 4 (bldR l).1.size = recsB l ++ trlB l.length := by rw [hs]; exact ex_right _ _ _ rfl
  have hm : markB (bldR l).1 = true := by rw [hs]; exact markB_app _
  have hscn : scnF (bldR l).1.size ((bldR l).1.size + 1) ((bldR l).1.extract 4 (bldR l).1.size) [] [] = (entsAt 4 l, trlB l.length) := by
    rw [hx, scn_recs l _ _ _ [] [] (by omega) (by omega) (by rw [← trl_empty]; exact fst_trl _ _) h2 (fun _ _ h => by simp at h) h4 (by simp; omega)]
    rw [List.nil_append]
    congr 2
    omega
  rw [scR, if_neg (by rw [hm]; simp; omega), hscn, if_pos (by rw [entsAt_length])]
end Go.Proofs.Ytpfccicahfncbaa
