/- Several texts of the claim joined into one (part 2): plain facts and walks. No conditions but those that each theorem tells. -/
import Derived.Test.YtfoandpcoakcjaaMgParityTablesUpto1
import Derived.BigQuiet
import Derived.Deep.DeepCutAuto
import Derived.Test.YtfoandpcoakcjaaRead
import Derived.Test.YtfoandpcoakcjaaTake1
import Derived.Test.YtfoandpcoakcjaaDig4
import Derived.Test.YtfoandpcoakcjaaHex2
namespace Go.Proofs.Ytfoandpcoakcjaa
open Go.RowKit Wir
set_option linter.unusedVariables false
/-- The payload of the frame at the front, and what stands behind it. -/
def unF (s : ByteArray) : Option (ByteArray × ByteArray) :=
  if s.size < 8 ∨ 67108864 < fixV s 4 then none
  else if (s.extract 8 s.size).size < fixV s 4 then none
  else if (onC (onC 0 (s.extract 0 4)) ((s.extract 8 s.size).extract 0 (fixV s 4))).toNat ≠ fixV (s.extract 4 s.size) 4 then none
  else some ((s.extract 8 s.size).extract 0 (fixV s 4), s.extract (8 + fixV s 4) s.size)
def unV (s : ByteArray) : Value := match unF s with
  | none => .tuple #[.string ByteArray.empty, .string ByteArray.empty, .int .i64 4]
  | some q => .tuple #[.string q.1, .string q.2, .int .i64 0]
theorem unV_none {s : ByteArray} (h : unF s = none) : unV s = .tuple #[.string ByteArray.empty, .string ByteArray.empty, .int .i64 4] := by unfold unV; rw [h]
theorem unV_some {s p r : ByteArray} (h : unF s = some (p, r)) : unV s = .tuple #[.string p, .string r, .int .i64 0] := by unfold unV; rw [h]
theorem takeS_on {s : ByteArray} {k : Nat} (h : k ≤ s.size) : takeS s k = s.extract k s.size := by rw [takeS, if_neg (by omega)]
theorem takeE_on {s : ByteArray} {k : Nat} (h : k ≤ s.size) : takeE s k = 0 := by rw [takeE, if_neg (by omega)]
theorem takeE_off {s : ByteArray} {k : Nat} (h : s.size < k) : takeE s k = 4 := by rw [takeE, if_pos h]
theorem byteAt_part (s : ByteArray) (f t i : Nat) (hi : i < t - f) (ht : t ≤ s.size) : byteAt (s.extract f t) i = byteAt s (f + i) := by
  have h1 : i < (s.extract f t).size := by rw [ByteArray.size_extract]; omega
  rw [← byteAt_get _ _ h1, ← byteAt_get _ _ (show f + i < s.size by omega), ByteArray.getElem_extract]
theorem extract_extract4 (s : ByteArray) (h : 8 ≤ s.size) : (s.extract 4 s.size).extract 4 (s.extract 4 s.size).size = s.extract 8 s.size := by
  have e : (s.extract 4 s.size).size = s.size - 4 := by rw [ByteArray.size_extract]; omega
  refine ext_byteAt (by simp only [ByteArray.size_extract]; omega) fun i hi => ?_
  have hi' : i < s.size - 8 := by simp only [ByteArray.size_extract] at hi; omega
  rw [byteAt_part _ _ _ _ (by rw [e]; omega) (Nat.le_refl _), byteAt_part _ _ _ _ (by omega) (Nat.le_refl _), byteAt_part _ _ _ _ (by omega) (Nat.le_refl _)]
  congr 1; omega
theorem takeS_le (s : ByteArray) (k : Nat) : (takeS s k).size ≤ s.size := by
  unfold takeS
  split
  · exact Nat.le_refl _
  · rw [ByteArray.size_extract]; omega
theorem fixed4_any (s : ByteArray) (R : Nat) (w : World) (h : Rdr w R s) (hs : s.size ≤ 9223372036854775807) :
    Calls Try.prog 57 #[.pointer (some ⟨R, 0, none⟩), .int .i64 4] w
      fun e w' => e = .returned (.tuple #[.int .u64 (fixV s 4 : Int), .int .i64 (takeE s 4)]) ∧ Rdr w' R (takeS s 4) ∧ ∀ B, B ≤ R → Below B w w' := fixed_any s R 4 w h hs (by omega) (by omega)
theorem fix4_lt (s : ByteArray) : fixV s 4 < 4294967296 := by
  unfold fixV
  split
  · omega
  · exact beN_lt _ 4
set_option maxRecDepth 100000 in
set_option maxHeartbeats 1000000 in
theorem unframe_any (s : ByteArray) (w : World) (hs : s.size ≤ 140737488355328) :
    Calls Try.prog 30 #[.string s] w fun e w' => e = .returned (unV s) ∧ Below w.heap.size w w' := by
  have N1 := Lib.hid (fun W => newReader_any s W)
  have F1 := Lib.hid (fun R W h => fixed4_any s R W h (by omega))
  have hz4 : (takeS s 4).size ≤ s.size := takeS_le s 4
  have F2 := Lib.hid (fun R W h => fixed4_any (takeS s 4) R W h (by omega))
  have U0 := Lib.hid (rfl : unF s = unF s)
  obtain ⟨n, hn⟩ : ∃ n, fixV s 4 = n := ⟨_, rfl⟩
  obtain ⟨c, hc⟩ : ∃ c, fixV (takeS s 4) 4 = c := ⟨_, rfl⟩
  rw [hn] at F1
  rw [hc] at F2
  have HN := Lib.hid hn
  have HC := Lib.hid hc
  have hn32 : n < 4294967296 := by rw [← hn]; exact fix4_lt s
  have hc32 : c < 4294967296 := by rw [← hc]; exact fix4_lt _
  clear hn hc U0
  go_enter Try.func30, Try.ntmps30
  go_wp2_with fail
  (with_reducible refine (N1.out _).mono ?_)
  rintro e w1 ⟨rfl, hr1, hb1⟩
  have R1 := Lib.hid hr1
  have B1 : Hid (Below w.heap.size w w1) := Lib.hid hb1
  clear hr1 hb1 N1
  go_wp2_with fail
  (with_reducible refine (F1.out _ _ R1.out).mono ?_)
  rintro e w2 ⟨rfl, hr2, hb2⟩
  have R2 := Lib.hid hr2
  have B2 : Hid (Below w.heap.size w w2) := Lib.hid (B1.out.trans (hb2 _ (Nat.le_refl _)))
  clear hr2 hb2 F1 R1 B1
  go_wp2_with fail
  (with_reducible refine (F2.out _ _ R2.out).mono ?_)
  rintro e w3 ⟨rfl, hr3, hb3⟩
  have R3 := Lib.hid hr3
  have B3 : Hid (Below w.heap.size w w3) := Lib.hid (B2.out.trans (hb3 _ (Nat.le_refl _)))
  clear hr3 hb3 F2 R2 B2
  by_cases h8 : s.size < 8
  · have E := Lib.hid (unV_none (show unF s = none by rw [unF, if_pos (Or.inl h8)]))
    go_wp2
    go_ret3
    exact ⟨by rw [E.out]; rfl, B3.out⟩
  by_cases hm : 67108864 < n
  · have E := Lib.hid (unV_none (show unF s = none by rw [unF, if_pos (Or.inr (by rw [HN.out]; exact hm))]))
    go_wp2
    go_ret3
    exact ⟨by rw [E.out]; rfl, B3.out⟩
  have e4 : takeS s 4 = s.extract 4 s.size := takeS_on (by omega)
  have e8 : takeS (takeS s 4) 4 = s.extract 8 s.size := by
    rw [e4, takeS_on (by rw [ByteArray.size_extract]; omega), extract_extract4 s (by omega)]
  rw [e8] at R3
  rw [e4] at HC
  have hr : (s.extract 8 s.size).size = s.size - 8 := by rw [ByteArray.size_extract]; omega
  have UN : Hid ((s.extract 8 s.size).size < n → unF s = none) := Lib.hid (fun h => by rw [unF, if_neg (by rw [HN.out]; omega), if_pos (by rw [HN.out]; exact h)])
  have UC : Hid (¬ (s.extract 8 s.size).size < n → (onC (onC 0 (s.extract 0 4)) ((s.extract 8 s.size).extract 0 n)).toNat ≠ c → unF s = none) := Lib.hid (fun h h' => by rw [unF, if_neg (by rw [HN.out]; omega), if_neg (by rw [HN.out]; exact h), if_pos (by rw [HN.out, HC.out]; exact h')])
  have US : Hid (¬ (s.extract 8 s.size).size < n → (onC (onC 0 (s.extract 0 4)) ((s.extract 8 s.size).extract 0 n)).toNat = c → unF s = some ((s.extract 8 s.size).extract 0 n, s.extract (8 + n) s.size)) := Lib.hid (fun h h' => by rw [unF, if_neg (by rw [HN.out]; omega), if_neg (by rw [HN.out]; exact h), if_neg (by rw [HN.out, HC.out]; exact not_not_intro h'), HN.out])
  obtain ⟨r, hrr⟩ : ∃ r, s.extract 8 s.size = r := ⟨_, rfl⟩
  rw [hrr] at R3 UN UC US hr
  have hcv := Lib.hid hrr
  have T6 := Lib.hid (fun R W h => take_any' r R n W h (by omega) (by omega))
  clear e4 e8 hrr hz4
  by_cases hrn : r.size < n
  · have E := Lib.hid (unV_none (UN.out hrn))
    rw [takeE_off hrn] at T6
    clear UN UC US hrn
    go_wp2_with fail
    (with_reducible refine (T6.out _ _ R3.out).mono ?_)
    rintro e w4 ⟨rfl, hr4, hb4⟩
    have B4 : Hid (Below w.heap.size w w4) := Lib.hid (B3.out.trans (hb4 _ (Nat.le_refl _)))
    clear hr4 hb4 T6
    go_wp2
    go_ret3
    exact ⟨by rw [E.out]; rfl, B4.out⟩
  · have hps : (r.extract 0 n).size = n := by rw [ByteArray.size_extract]; omega
    rw [takeE_on (by omega), show tkR r n = r.extract 0 n from by rw [tkR, if_neg hrn]] at T6
    have hC := UC.out hrn
    have hS := US.out hrn
    have UC' := Lib.hid hC
    have US' := Lib.hid hS
    clear UN UC US hC hS
    obtain ⟨p, hp⟩ : ∃ p, r.extract 0 n = p := ⟨_, rfl⟩
    rw [hp] at T6 UC' US' hps
    clear hp
    have C1 := Lib.hid (fun W => crc_any (s.extract 0 4) W (by rw [ByteArray.size_extract]; omega))
    have C2 := Lib.hid (fun x W => on_any x p W (by omega))
    obtain ⟨x, hx⟩ : ∃ x, onC 0 (s.extract 0 4) = x := ⟨_, rfl⟩
    rw [hx] at C1 UC' US'
    clear hx
    obtain ⟨y, hy⟩ : ∃ y, onC x p = y := ⟨_, rfl⟩
    have C2' := Lib.hid (fun W => C2.out x W)
    rw [hy] at C2' UC' US'
    have hy32 := y.toNat_lt
    clear hy C2
    have h4i : (4 : Int) ≤ (s.size : Int) := by omega
    go_wp2_with fail
    (with_reducible refine (T6.out _ _ R3.out).mono ?_)
    rintro e w4 ⟨rfl, hr4, hb4⟩
    have B4 : Hid (Below w.heap.size w w4) := Lib.hid (B3.out.trans (hb4 _ (Nat.le_refl _)))
    clear hr4 hb4 T6
    go_wp2_with fail
    (with_reducible refine (C1.out _).mono ?_)
    rintro e w5 ⟨rfl, hb5⟩
    have B5 : Hid (Below w.heap.size w w5) := Lib.hid (B4.out.trans (hb5.mono B4.out.size))
    clear hb5 C1
    go_wp2_with fail
    (with_reducible refine (C2'.out _).mono ?_)
    rintro e w6 ⟨rfl, hb6⟩
    have B6 : Hid (Below w.heap.size w w6) := Lib.hid (B5.out.trans (hb6.mono B5.out.size))
    clear hb6 C2'
    by_cases hyc : y.toNat = c
    · have E := Lib.hid (unV_some (US'.out hyc))
      have hyi : ((y.toNat : Int) != (c : Int)) = false := by rw [bne_eq_false_iff_eq]; omega
      have h8n : (8 : Int) + (n : Int) ≤ (s.size : Int) := by omega
      have v1 : IntKind.i64.wrap (8 + (n : Int)) = 8 + (n : Int) := by rw [IntKind.wrap_i64]; omega
      have v2 : IntKind.i64.wrap (8 + (p.size : Int)) = 8 + (n : Int) := by rw [hps]; exact v1
      clear hyc
      go_upto_region 9 with fail
      go_quiet (fail)
      go_wp2
      go_ret3
      exact ⟨by rw [E.out]; rfl, below_drewN B6.out _⟩
    · have E := Lib.hid (unV_none (UC'.out hyc))
      have hyi : ((y.toNat : Int) != (c : Int)) = true := by rw [bne_iff_ne]; omega
      clear hyc
      go_wp2
      go_ret3
      exact ⟨by rw [E.out]; rfl, B6.out⟩
end Go.Proofs.Ytfoandpcoakcjaa
namespace Go.Proofs.Ytfoandpcoakcjaa
open Go.RowKit Wir
set_option linter.unusedVariables false
structure Tbl where
  da : Int
  pa : Int
  sz : Int
  ids : List Idn
def zTbl : Tbl := ⟨0, 0, 0, []⟩
/-- A table as a value: its sums lie at v. -/
def tblA (t : Tbl) (v : Value) : Array Value := #[.int .i64 t.da, .int .i64 t.pa, .int .i64 t.sz, v]
def uniB (d p : Int) : Bool := decide (1 ≤ d) && (decide (d ≤ 32) && (decide (1 ≤ p) && decide (p ≤ 64 - d)))
theorem uniB_iff (d p : Int) : uniB d p = true ↔ 1 ≤ d ∧ d ≤ 32 ∧ 1 ≤ p ∧ p ≤ 64 - d := by
  simp [uniB]
def mayB (t : Tbl) : Bool := uniB t.da t.pa && (decide (0 ≤ t.sz) && (decide (t.sz ≤ 67108864) && decide ((t.ids.length : Int) = t.da + t.pa)))
theorem mayB_iff (t : Tbl) : mayB t = true ↔ (1 ≤ t.da ∧ t.da ≤ 32 ∧ 1 ≤ t.pa ∧ t.pa ≤ 64 - t.da) ∧ 0 ≤ t.sz ∧ t.sz ≤ 67108864 ∧ (t.ids.length : Int) = t.da + t.pa := by
  simp [mayB, uniB_iff, Bool.and_eq_true]
def idB (I : Idn) : ByteArray := bs ((List.range 32).map I)
theorem idB_size (I : Idn) : (idB I).size = 32 := by rw [idB, bs_size]; simp
/-- Names one behind the other. -/
def idsB : List Idn → ByteArray
  | [] => ByteArray.empty
  | I :: L => idB I ++ idsB L
theorem idsB_size (L : List Idn) : (idsB L).size = L.length * 32 := by
  induction L with
  | nil => rfl
  | cons I L ih => rw [idsB, ByteArray.size_append, ih, idB_size, List.length_cons]; omega
theorem idsB_snoc (L : List Idn) (I : Idn) : idsB (L ++ [I]) = idsB L ++ idB I := by
  induction L with
  | nil => rw [List.nil_append, idsB, idsB, idsB, ByteArray.append_empty, ByteArray.empty_append]
  | cons J L ih => rw [List.cons_append, idsB, idsB, ih, ByteArray.append_assoc]
theorem idsB_take (L : List Idn) (k : Nat) (h : k < L.length) : idsB (L.take (k + 1)) = idsB (L.take k) ++ idB L[k] := by
  rw [List.take_add_one, List.getElem?_eq_getElem h]
  exact idsB_snoc _ _
/-- The four numbers ahead of the sums. -/
def tblH (t : Tbl) : ByteArray := bs (putL 1) ++ bs (putL t.da.toNat) ++ bs (putL t.pa.toNat) ++ bs (putL t.sz.toNat)
def tblS (t : Tbl) : ByteArray := tblH t ++ idsB t.ids
def encR (t : Tbl) : ByteArray × Int := if mayB t = true then (frmB (tblS t), 0) else (ByteArray.empty, 1)
theorem tblS_size {t : Tbl} (h : mayB t = true) : (tblS t).size ≤ 4096 := by
  obtain ⟨⟨h1, h2, h3, h4⟩, h5, h6, h7⟩ := (mayB_iff t).1 h
  have b (n : Nat) : (bs (putL n)).size ≤ 10 := by have := putN_length 9 n; rw [bs_size]; show (putN 9 n).length ≤ _; omega
  have b1 := b 1
  have b2 := b t.da.toNat
  have b3 := b t.pa.toNat
  have b4 := b t.sz.toNat
  have b5 := idsB_size t.ids
  rw [tblS, tblH, ByteArray.size_append, ByteArray.size_append, ByteArray.size_append, ByteArray.size_append]
  omega
/-- The number at the front, and what stands behind it. -/
def nvN (s : ByteArray) : Nat := (short (byteAt s) s.size).1
def nok (s : ByteArray) : Bool := decide (uintE s = 0) && decide (nvN s ≤ 67108864)
def nxK : Nat → ByteArray → ByteArray
  | 0, s => s
  | k + 1, s => uintS (nxK k s)
/-- Are the first k numbers there, and not too great? -/
def noks (k : Nat) (s : ByteArray) : Bool := (List.range k).all fun i => nok (nxK i s)
theorem noks_step (k : Nat) (s : ByteArray) : noks (k + 1) s = (noks k s && nok (nxK k s)) := by
  unfold noks
  rw [List.range_succ, List.all_append, List.all_cons, List.all_nil, Bool.and_true]
theorem noks_less {k m : Nat} {s : ByteArray} (hk : k ≤ m) (h : noks m s = true) : noks k s = true := by
  unfold noks at h ⊢
  rw [List.all_eq_true] at h ⊢
  exact fun i hi => h i (by rw [List.mem_range] at hi ⊢; omega)
def sumsF (r : ByteArray) (n : Nat) : List Idn := (List.range n).map fun i => fun k => byteAt r (32 * i + k)
theorem sumsF_length (r : ByteArray) (n : Nat) : (sumsF r n).length = n := by simp [sumsF]
def sayT (s : ByteArray) : Tbl := ⟨nvN (nxK 1 s), nvN (nxK 2 s), nvN (nxK 3 s), sumsF (nxK 4 s) (nvN (nxK 1 s) + nvN (nxK 2 s))⟩
def sayB (s : ByteArray) : Bool := noks 4 s && (decide (nvN s = 1) && (uniB (nvN (nxK 1 s)) (nvN (nxK 2 s)) && decide ((nxK 4 s).size = 32 * (nvN (nxK 1 s) + nvN (nxK 2 s)))))
/-- The table that a payload says. -/
def sayR (s : ByteArray) : Tbl × Bool := if sayB s = true then (sayT s, true) else (zTbl, false)
/-- The table that bytes say. -/
def decR (s : ByteArray) : Tbl × Int := match unF s with
  | none => (zTbl, 4)
  | some q => if q.2.size = 0 then (if (sayR q.1).2 = true then ((sayR q.1).1, 0) else (zTbl, 4)) else (zTbl, 4)
theorem decR_none {s : ByteArray} (h : unF s = none) : decR s = (zTbl, 4) := by unfold decR; rw [h]
theorem decR_some {s p r : ByteArray} (h : unF s = some (p, r)) : decR s = if r.size = 0 then (if (sayR p).2 = true then ((sayR p).1, 0) else (zTbl, 4)) else (zTbl, 4) := by unfold decR; rw [h]
end Go.Proofs.Ytfoandpcoakcjaa
namespace Go.Proofs.Ytfoandpcoakcjaa
open Go.RowKit Wir
set_option linter.unusedVariables false
set_option linter.unusedSimpArgs false
theorem uni_cases (d p : Int) : (uniB d p = false ∧ (d < 1 ∨ (1 ≤ d ∧ 32 < d) ∨ (1 ≤ d ∧ d ≤ 32 ∧ p < 1) ∨ (1 ≤ d ∧ d ≤ 32 ∧ 1 ≤ p ∧ 64 - d < p))) ∨ (uniB d p = true ∧ 1 ≤ d ∧ d ≤ 32 ∧ 1 ≤ p ∧ p ≤ 64 - d) := by
  cases h : uniB d p with
  | true => exact .inr ⟨rfl, (uniB_iff d p).1 h⟩
  | false =>
    refine .inl ⟨rfl, ?_⟩
    have : ¬ (1 ≤ d ∧ d ≤ 32 ∧ 1 ≤ p ∧ p ≤ 64 - d) := fun h' => by rw [(uniB_iff d p).2 h'] at h; cases h
    omega
theorem units_any (d p : Int) (w : World) : Calls Try.prog 27 #[.int .i64 d, .int .i64 p] w fun e w' => e = .returned (.bool (uniB d p)) ∧ w' = w := by
  rcases uni_cases d p with ⟨E, h | ⟨h, h'⟩ | ⟨h, h', h2⟩ | ⟨h, h', h2, h3⟩⟩ | ⟨E, h, h', h2, h3⟩
  all_goals
    have HE := Lib.hid E
    clear E
    go_enter Try.func27, Try.ntmps27
    go_wp2
    go_ret
    exact ⟨by rw [HE.out]; first | rfl | (simp; omega), rfl⟩
theorem runits_any (d p : Int) (w : World) : Calls Try.prog 26 #[.int .i64 d, .int .i64 p] w fun e w' => e = .returned (.bool (uniB d p)) ∧ w' = w := by
  rcases uni_cases d p with ⟨E, h | ⟨h, h'⟩ | ⟨h, h', h2⟩ | ⟨h, h', h2, h3⟩⟩ | ⟨E, h, h', h2, h3⟩
  all_goals
    have HE := Lib.hid E
    clear E
    go_enter Try.func26, Try.ntmps26
    go_wp2
    go_ret
    exact ⟨by rw [HE.out]; first | rfl | (simp; omega), rfl⟩
theorem may_cases (t : Tbl) : (mayB t = false ∧ ((uniB t.da t.pa = false) ∨ (uniB t.da t.pa = true ∧ t.sz < 0) ∨ (uniB t.da t.pa = true ∧ 0 ≤ t.sz ∧ 67108864 < t.sz) ∨ ((uniB t.da t.pa = true ∧ 1 ≤ t.da ∧ t.da ≤ 32 ∧ 1 ≤ t.pa ∧ t.pa ≤ 64 - t.da) ∧ 0 ≤ t.sz ∧ t.sz ≤ 67108864 ∧ (t.ids.length : Int) ≠ t.da + t.pa))) ∨
    (mayB t = true ∧ (uniB t.da t.pa = true ∧ 1 ≤ t.da ∧ t.da ≤ 32 ∧ 1 ≤ t.pa ∧ t.pa ≤ 64 - t.da) ∧ 0 ≤ t.sz ∧ t.sz ≤ 67108864 ∧ (t.ids.length : Int) = t.da + t.pa) := by
  cases h : mayB t with
  | true =>
    obtain ⟨h1, h2, h3, h4⟩ := (mayB_iff t).1 h
    exact .inr ⟨rfl, ⟨(uniB_iff _ _).2 h1, h1⟩, h2, h3, h4⟩
  | false =>
    refine .inl ⟨rfl, ?_⟩
    cases hu : uniB t.da t.pa with
    | false => exact .inl rfl
    | true =>
      have h1 := (uniB_iff _ _).1 hu
      have : ¬ (0 ≤ t.sz ∧ t.sz ≤ 67108864 ∧ (t.ids.length : Int) = t.da + t.pa) := fun h' => by rw [(mayB_iff t).2 ⟨h1, h'⟩] at h; cases h
      by_cases a : t.sz < 0
      · exact .inr (.inl ⟨rfl, a⟩)
      · by_cases b : 67108864 < t.sz
        · exact .inr (.inr (.inl ⟨rfl, by omega, b⟩))
        · exact .inr (.inr (.inr ⟨⟨rfl, h1⟩, by omega, by omega, by omega⟩))
theorem tbl_cells {w : World} {g : Nat} {T : TypeId} {t : Tbl} {v : Value} (h : Blk w g T (tblA t v)) : w.cell? ⟨g, 0, none⟩ = some (.int .i64 t.da) ∧ w.cell? ⟨g, 1, none⟩ = some (.int .i64 t.pa) ∧ w.cell? ⟨g, 2, none⟩ = some (.int .i64 t.sz) ∧ w.cell? ⟨g, 3, none⟩ = some v := ⟨h.cell 0, h.cell 1, h.cell 2, h.cell 3⟩
set_option maxHeartbeats 1000000 in
theorem rmay_any (t : Tbl) (A : Option Addr) (c : Nat) (w : World) : Calls Try.prog 8 #[.agg (tblA t (.slice A t.ids.length c))] w fun e w' => e = .returned (.bool (mayB t)) ∧ Below w.heap.size w w' := by
  have BX : Hid (Blk (w.alloc (.cells (tblA t (.slice A t.ids.length c)) 25)) w.heap.size 25 (tblA t (.slice A t.ids.length c)) ∧ Below w.heap.size w (w.alloc (.cells (tblA t (.slice A t.ids.length c)) 25))) := Lib.hid ⟨Blk.new _ _ _, (Below.refl _ _).alloc (Nat.le_refl _) _⟩
  have US := Lib.hid (fun W => runits_any t.da t.pa W)
  have MC := may_cases t
  go_enter Try.func8, Try.ntmps8
  go_upto_region 1 with fail
  change Code.wp _ _ _ _ (w.alloc (.cells (tblA t (.slice A t.ids.length c)) 25))
  generalize w.alloc (.cells (tblA t (.slice A t.ids.length c)) 25) = w1 at BX ⊢
  obtain ⟨c0, c1, c2, c3⟩ := tbl_cells BX.out.1
  rcases MC with ⟨E, h | ⟨h, h'⟩ | ⟨h, h', h2⟩ | ⟨⟨h, q1, q2, q3, q4⟩, h', h2, h3⟩⟩ | ⟨E, ⟨h, q1, q2, q3, q4⟩, h', h2, h3⟩
  all_goals
    have HE := Lib.hid E
    clear E
    rw [h] at US
    clear h
    go_wp2_with fail
    (with_reducible refine (US.out _).mono ?_)
    rintro e w2 ⟨rfl, rfl⟩
    go_wp2
    go_ret
    exact ⟨by rw [HE.out]; first | rfl | (simp; omega), BX.out.2⟩
def chkT (t : Tbl) : Int := if mayB t = true then 0 else 1
set_option maxHeartbeats 1000000 in
theorem tchk_any (t : Tbl) (A : Option Addr) (c : Nat) (w : World) : Calls Try.prog 9 #[.agg (tblA t (.slice A t.ids.length c))] w fun e w' => e = .returned (.int .i64 (chkT t)) ∧ Below w.heap.size w w' := by
  have BX : Hid (Blk (w.alloc (.cells (tblA t (.slice A t.ids.length c)) 29)) w.heap.size 29 (tblA t (.slice A t.ids.length c)) ∧ Below w.heap.size w (w.alloc (.cells (tblA t (.slice A t.ids.length c)) 29))) := Lib.hid ⟨Blk.new _ _ _, (Below.refl _ _).alloc (Nat.le_refl _) _⟩
  have US := Lib.hid (fun W => units_any t.da t.pa W)
  have MC := may_cases t
  go_enter Try.func9, Try.ntmps9
  go_upto_region 1 with fail
  change Code.wp _ _ _ _ (w.alloc (.cells (tblA t (.slice A t.ids.length c)) 29))
  generalize w.alloc (.cells (tblA t (.slice A t.ids.length c)) 29) = w1 at BX ⊢
  obtain ⟨c0, c1, c2, c3⟩ := tbl_cells BX.out.1
  rcases MC with ⟨E, h | ⟨h, h'⟩ | ⟨h, h', h2⟩ | ⟨⟨h, q1, q2, q3, q4⟩, h', h2, h3⟩⟩ | ⟨E, ⟨h, q1, q2, q3, q4⟩, h', h2, h3⟩
  all_goals
    have HE : Hid (chkT t = if mayB t = true then 0 else 1) := Lib.hid rfl
    rw [E] at HE
    clear E
    rw [h] at US
    clear h
    try have hb : ((t.ids.length : Int) != t.da + t.pa) = true := by rw [bne_iff_ne]; exact h3
    go_wp2_with fail
    (with_reducible refine (US.out _).mono ?_)
    rintro e w2 ⟨rfl, rfl⟩
    go_wp2
    go_ret
    exact ⟨by rw [HE.out]; first | rfl | (simp; omega), BX.out.2⟩
end Go.Proofs.Ytfoandpcoakcjaa
namespace Go.Proofs.Ytfoandpcoakcjaa
open Go.RowKit Wir
set_option linter.unusedVariables false
set_option linter.unusedSimpArgs false
/-- What `with` makes of a closure's answer. -/
def wtE (s : ByteArray) (z : Int) : Int := if z < 0 ∨ (s.size : Int) < z then 4 else 0
def wtS (s : ByteArray) (z : Int) : ByteArray := if z < 0 ∨ (s.size : Int) < z then s else s.extract z.toNat s.size
set_option maxHeartbeats 1000000 in
theorem with_uint (s : ByteArray) (R b1 : Nat) (z : Int) (w a : World) (X : World → Prop) (hX : ∀ W v, X W → X (W.setCell ⟨R, 0, none⟩ v)) (h : Rdr w R s) (hs : s.size ≤ 9223372036854775807) (hz : -1 ≤ z)
    (hF : Calls Try.prog 90 #[.string s, .pointer (some ⟨b1, 0, none⟩)] w fun e w1 => e = .returned (.int .i64 z) ∧ Rdr w1 R s ∧ a.grownBy w1 (some R) ∧ X w1) :
    Calls Try.prog 87 #[.pointer (some ⟨R, 0, none⟩), .func (.func 90) #[] #[.pointer (some ⟨b1, 0, none⟩)]] w
      fun e w' => e = .returned (.int .i64 (wtE s z)) ∧ Rdr w' R (wtS s z) ∧ a.grownBy w' (some R) ∧ X w' := by
  have c0 : w.cell? ⟨R, 0, none⟩ = some (.string s) := h.cell 0
  have F := Lib.hid hF
  have HX := Lib.hid hX
  clear h hF hX
  by_cases hb : z < 0 ∨ (s.size : Int) < z
  · have E1 : Hid (wtE s z = 4) := Lib.hid (if_pos hb)
    have E2 : Hid (wtS s z = s) := Lib.hid (if_pos hb)
    go_enter Try.func87, Try.ntmps87
    go_wp2_with fail
    (with_reducible refine F.out.mono ?_)
    rintro e w1 ⟨rfl, hr1, hg1, hx1⟩
    have R1 := Lib.hid hr1
    have G1 := Lib.hid hg1
    have X1 := Lib.hid hx1
    clear hr1 hg1 hx1
    have hb' : z < 0 ∨ (0 ≤ z ∧ (s.size : Int) < z) := by omega
    clear hb
    rcases hb' with h | ⟨h, h'⟩
    · have d1 : decide (z < 0) = true := decide_eq_true h
      go_wp2
      go_ret
      exact ⟨by rw [E1.out]; rfl, by rw [E2.out]; exact R1.out, G1.out, X1.out⟩
    · have d1 : decide (z < 0) = false := by rw [decide_eq_false_iff_not]; omega
      have d2 : decide ((s.size : Int) < z) = true := decide_eq_true h'
      have c1 : w1.cell? ⟨R, 0, none⟩ = some (.string s) := R1.out.cell 0
      go_wp2
      go_ret
      exact ⟨by rw [E1.out]; rfl, by rw [E2.out]; exact R1.out, G1.out, X1.out⟩
  · have E1 : Hid (wtE s z = 0) := Lib.hid (if_neg hb)
    obtain ⟨m, rfl⟩ : ∃ m : Nat, z = (m : Int) := ⟨z.toNat, by omega⟩
    have E2 : Hid (wtS s (m : Int) = s.extract m s.size) := Lib.hid ((if_neg hb).trans (by rw [Int.toNat_natCast]))
    have hms : m ≤ s.size := by omega
    clear hb
    go_enter Try.func87, Try.ntmps87
    go_wp2_with fail
    (with_reducible refine F.out.mono ?_)
    rintro e w1 ⟨rfl, hr1, hg1, hx1⟩
    have R1 := Lib.hid hr1
    have G1 := Lib.hid hg1
    have X1 := Lib.hid hx1
    clear hr1 hg1 hx1
    have c1 : w1.cell? ⟨R, 0, none⟩ = some (.string s) := R1.out.cell 0
    have f1 : w1.frozen? ⟨R, 0, none⟩ = false := R1.out.frozen 0
    go_wp2
    go_ret
    exact ⟨by rw [E1.out]; rfl, by rw [E2.out]; exact R1.out.set_ 0 _, only_setCell G1.out (p := ⟨R, 0, none⟩) (.inl rfl) _, HX.out _ _ X1.out⟩
set_option maxHeartbeats 1000000 in
theorem with_take (s : ByteArray) (R b1 b2 : Nat) (z : Int) (w a : World) (X : World → Prop) (hX : ∀ W v, X W → X (W.setCell ⟨R, 0, none⟩ v)) (h : Rdr w R s) (hs : s.size ≤ 9223372036854775807) (hz : -1 ≤ z)
    (hF : Calls Try.prog 89 #[.string s, .pointer (some ⟨b1, 0, none⟩), .pointer (some ⟨b2, 0, none⟩)] w fun e w1 => e = .returned (.int .i64 z) ∧ Rdr w1 R s ∧ a.grownBy w1 (some R) ∧ X w1) :
    Calls Try.prog 87 #[.pointer (some ⟨R, 0, none⟩), .func (.func 89) #[] #[.pointer (some ⟨b1, 0, none⟩), .pointer (some ⟨b2, 0, none⟩)]] w
      fun e w' => e = .returned (.int .i64 (wtE s z)) ∧ Rdr w' R (wtS s z) ∧ a.grownBy w' (some R) ∧ X w' := by
  have c0 : w.cell? ⟨R, 0, none⟩ = some (.string s) := h.cell 0
  have F := Lib.hid hF
  have HX := Lib.hid hX
  clear h hF hX
  by_cases hb : z < 0 ∨ (s.size : Int) < z
  · have E1 : Hid (wtE s z = 4) := Lib.hid (if_pos hb)
    have E2 : Hid (wtS s z = s) := Lib.hid (if_pos hb)
    go_enter Try.func87, Try.ntmps87
    go_wp2_with fail
    (with_reducible refine F.out.mono ?_)
    rintro e w1 ⟨rfl, hr1, hg1, hx1⟩
    have R1 := Lib.hid hr1
    have G1 := Lib.hid hg1
    have X1 := Lib.hid hx1
    clear hr1 hg1 hx1
    have hb' : z < 0 ∨ (0 ≤ z ∧ (s.size : Int) < z) := by omega
    clear hb
    rcases hb' with h | ⟨h, h'⟩
    · have d1 : decide (z < 0) = true := decide_eq_true h
      go_wp2
      go_ret
      exact ⟨by rw [E1.out]; rfl, by rw [E2.out]; exact R1.out, G1.out, X1.out⟩
    · have d1 : decide (z < 0) = false := by rw [decide_eq_false_iff_not]; omega
      have d2 : decide ((s.size : Int) < z) = true := decide_eq_true h'
      have c1 : w1.cell? ⟨R, 0, none⟩ = some (.string s) := R1.out.cell 0
      go_wp2
      go_ret
      exact ⟨by rw [E1.out]; rfl, by rw [E2.out]; exact R1.out, G1.out, X1.out⟩
  · have E1 : Hid (wtE s z = 0) := Lib.hid (if_neg hb)
    obtain ⟨m, rfl⟩ : ∃ m : Nat, z = (m : Int) := ⟨z.toNat, by omega⟩
    have E2 : Hid (wtS s (m : Int) = s.extract m s.size) := Lib.hid ((if_neg hb).trans (by rw [Int.toNat_natCast]))
    have hms : m ≤ s.size := by omega
    clear hb
    go_enter Try.func87, Try.ntmps87
    go_wp2_with fail
    (with_reducible refine F.out.mono ?_)
    rintro e w1 ⟨rfl, hr1, hg1, hx1⟩
    have R1 := Lib.hid hr1
    have G1 := Lib.hid hg1
    have X1 := Lib.hid hx1
    clear hr1 hg1 hx1
    have c1 : w1.cell? ⟨R, 0, none⟩ = some (.string s) := R1.out.cell 0
    have f1 : w1.frozen? ⟨R, 0, none⟩ = false := R1.out.frozen 0
    go_wp2
    go_ret
    exact ⟨by rw [E1.out]; rfl, by rw [E2.out]; exact R1.out.set_ 0 _, only_setCell G1.out (p := ⟨R, 0, none⟩) (.inl rfl) _, HX.out _ _ X1.out⟩
theorem wt_uint (s : ByteArray) : wtE s (short (byteAt s) s.size).2 = uintE s ∧ wtS s (short (byteAt s) s.size).2 = uintS s := by
  obtain ⟨_, _, b3⟩ := shG_bound (byteAt s) s.size 11 0 0 (by decide) (by omega)
  change (short (byteAt s) s.size).2 ≤ s.size at b3
  have e : ((short (byteAt s) s.size).2 < 0 ∨ (s.size : Int) < (short (byteAt s) s.size).2) ↔ (short (byteAt s) s.size).2 < 0 := by omega
  simp only [wtE, wtS, uintE, uintS, e]
  exact ⟨trivial, trivial⟩
theorem wt_take (s : ByteArray) (k : Nat) : wtE s (k : Int) = takeE s k ∧ wtS s (k : Int) = takeS s k := by
  have e : ((k : Int) < 0 ∨ (s.size : Int) < (k : Int)) ↔ s.size < k := by omega
  simp only [wtE, wtS, takeE, takeS, e, Int.toNat_natCast]
  exact ⟨trivial, trivial⟩
theorem short_lo (s : ByteArray) : -1 ≤ (short (byteAt s) s.size).2 := (shG_bound (byteAt s) s.size 11 0 0 (by decide) (by omega)).2.1
theorem short_64 (s : ByteArray) : (short (byteAt s) s.size).1 < 18446744073709551616 := by
  have h : (short (byteAt s) s.size).1 < 2 ^ 64 := (shG_bound (byteAt s) s.size 11 0 0 (by decide) (by omega)).1
  have e : (2 : Nat) ^ 64 = 18446744073709551616 := by decide
  omega
theorem grown_refl (w : World) (row : Option Nat) : w.grownBy w row := ⟨rfl, rfl, rfl, Nat.le_refl _, fun _ _ _ => rfl⟩
theorem uint_g (s : ByteArray) (R : Nat) (w : World) (h : Rdr w R s) (hs : s.size ≤ 9223372036854775807) :
    Calls Try.prog 59 #[.pointer (some ⟨R, 0, none⟩)] w
      fun e w' => e = .returned (.tuple #[.int .u64 ((short (byteAt s) s.size).1 : Int), .int .i64 (uintE s)]) ∧ Rdr w' R (uintS s) ∧ w.grownBy w' (some R) := by
  have hlt := h.lt
  have HB := Lib.hid (Blk.new w 57 #[.int .u64 0])
  have F := uintF_any s w.heap.size _ (w.alloc (.cells #[.int .u64 0] 57)) HB.out hs
  have W := Lib.hid (with_uint s R w.heap.size _ (w.alloc (.cells #[.int .u64 0] 57)) w (fun W => Blk W w.heap.size 57 #[.int .u64 ((short (byteAt s) s.size).1 : Int)]) (fun W v hW => hW.far (p := ⟨R, 0, none⟩) (by show w.heap.size ≠ R; omega) v) (Blk.alloc h _) hs (short_lo s) (F.mono (fun e w1 ⟨he, hw⟩ => ⟨he, by rw [hw]; exact Blk.far (Blk.alloc h _) (p := ⟨w.heap.size, 0, none⟩) (by show R ≠ w.heap.size; omega) _, by rw [hw]; exact only_setCell (only_alloc (grown_refl w (some R)) _) (p := ⟨w.heap.size, 0, none⟩) (.inr (Nat.le_refl _)) _, by rw [hw]; exact HB.out.set_ 0 _⟩)))
  rw [(wt_uint s).1, (wt_uint s).2] at W
  have hmf : ∀ (fn : Fn) (first cap : Array Value) (w : World), (Instr.makeFunc fn first cap).run Try.prog w = .ok (.func fn first cap) w := fun _ _ _ _ => rfl
  clear h F
  go_enter Try.func59, Try.ntmps59
  go_wp2_with fail
  (with_reducible refine W.out.mono ?_)
  rintro e w1 ⟨rfl, hr1, hg1, hb1⟩
  have R1 := Lib.hid hr1
  have G1 := Lib.hid hg1
  have c1 : w1.cell? ⟨w.heap.size, 0, none⟩ = some (.int .u64 ((short (byteAt s) s.size).1 : Int)) := hb1.cell 0
  clear hr1 hg1 hb1 W
  go_wp2
  go_ret2
  exact ⟨rfl, R1.out, G1.out⟩
theorem take_g (s : ByteArray) (R n : Nat) (w : World) (h : Rdr w R s) (hs : s.size ≤ 9223372036854775807) (hn : n ≤ s.size) :
    Calls Try.prog 58 #[.pointer (some ⟨R, 0, none⟩), .int .i64 (n : Int)] w
      fun e w' => e = .returned (.tuple #[.string (s.extract 0 n), .int .i64 0]) ∧ Rdr w' R (takeS s n) ∧ w.grownBy w' (some R) := by
  have hlt := h.lt
  have hmf : ∀ (fn : Fn) (first cap : Array Value) (w : World), (Instr.makeFunc fn first cap).run Try.prog w = .ok (.func fn first cap) w := fun _ _ _ _ => rfl
  have HN0 := Blk.new w 3 #[.int .i64 (n : Int)]
  have HN := HN0.alloc (.cells #[.string ⟨#[]⟩] 9)
  have HT := Blk.new (w.alloc (.cells #[.int .i64 (n : Int)] 3)) 9 #[.string ⟨#[]⟩]
  rw [show (w.alloc (.cells #[.int .i64 (n : Int)] 3)).heap.size = w.heap.size + 1 from by simp] at HT
  have HR : Rdr ((w.alloc (.cells #[.int .i64 (n : Int)] 3)).alloc (.cells #[.string ⟨#[]⟩] 9)) R s := (Blk.alloc h _).alloc _
  have HG : w.grownBy ((w.alloc (.cells #[.int .i64 (n : Int)] 3)).alloc (.cells #[.string ⟨#[]⟩] 9)) (some R) := only_alloc (only_alloc (grown_refl w (some R)) _) _
  have W : Hid (Calls Try.prog 87 #[.pointer (some ⟨R, 0, none⟩), .func (.func 89) #[] #[.pointer (some ⟨w.heap.size, 0, none⟩), .pointer (some ⟨w.heap.size + 1, 0, none⟩)]] ((w.alloc (.cells #[.int .i64 (n : Int)] 3)).alloc (.cells #[.string ⟨#[]⟩] 9))
      fun e w' => e = .returned (.int .i64 (takeE s n)) ∧ Rdr w' R (takeS s n) ∧ w.grownBy w' (some R) ∧ Blk w' (w.heap.size + 1) 9 #[.string (tk s n)]) := Lib.hid (by
    rw [← (wt_take s n).1, ← (wt_take s n).2]
    refine with_take s R w.heap.size (w.heap.size + 1) _ _ w (fun W => Blk W (w.heap.size + 1) 9 #[.string (tk s n)]) (fun W v hW => hW.far (p := ⟨R, 0, none⟩) (by show w.heap.size + 1 ≠ R; omega) v) HR hs (by omega) ?_
    exact (takeF_any s _ _ n _ _ HN HT hs (by omega)).mono (fun e w1 ⟨he, hw⟩ => ⟨he, by rw [hw]; exact Blk.far HR (p := ⟨w.heap.size + 1, 0, none⟩) (by show R ≠ w.heap.size + 1; omega) _, by rw [hw]; exact only_setCell HG (p := ⟨w.heap.size + 1, 0, none⟩) (.inr (Nat.le_succ _)) _, by rw [hw]; exact HT.set_ 0 _⟩))
  have c0 : (w.alloc (.cells #[.int .i64 (n : Int)] 3)).cell? ⟨w.heap.size, 0, none⟩ = some (.int .i64 (n : Int)) := HN0.cell 0
  clear h HN0 HN HT HR HG
  go_enter Try.func58, Try.ntmps58
  go_wp2_with fail
  (with_reducible refine W.out.mono ?_)
  rintro e w1 ⟨rfl, hr1, hg1, hb1⟩
  have R1 := Lib.hid hr1
  have G1 := Lib.hid hg1
  have c1 : w1.cell? ⟨w.heap.size + 1, 0, none⟩ = some (.string (tk s n)) := hb1.cell 0
  clear hr1 hg1 hb1 W c0
  have M := Lib.hid (tk_le s n hn)
  have E0 : takeE s n = 0 := by rw [takeE, if_neg (by omega)]
  rw [E0]
  clear E0
  go_wp2
  go_ret2
  exact ⟨by rw [← M.out]; rfl, R1.out, G1.out⟩
end Go.Proofs.Ytfoandpcoakcjaa
namespace Go.Proofs.Ytfoandpcoakcjaa
open Go.RowKit Wir
set_option linter.unusedVariables false
theorem shG_fail (F : Nat → UInt8) (L : Nat) : ∀ f i acc, (shG F L f i acc).2 < 0 → (shG F L f i acc).1 = 0
  | 0, _, _, _ => rfl
  | f + 1, i, acc, h => by
    unfold shG at h ⊢
    by_cases h1 : i < L ∧ i < 10
    · rw [if_pos h1] at h ⊢
      by_cases h2 : (i = 9 ∧ 1 < (F i).toNat) ∨ (0 < i ∧ (F i).toNat = 0)
      · rw [if_pos h2]
      · rw [if_neg h2] at h ⊢
        by_cases h3 : (F i).toNat < 128
        · rw [if_pos h3] at h
          simp at h
          omega
        · rw [if_neg h3] at h ⊢
          exact shG_fail F L f (i + 1) _ h
    · rw [if_neg h1]
theorem shG_pos (F : Nat → UInt8) (L : Nat) : ∀ f i acc, (shG F L f i acc).2 < 0 ∨ 1 ≤ (shG F L f i acc).2
  | 0, _, _ => .inl (by simp [shG])
  | f + 1, i, acc => by
    unfold shG
    by_cases h1 : i < L ∧ i < 10
    · rw [if_pos h1]
      by_cases h2 : (i = 9 ∧ 1 < (F i).toNat) ∨ (0 < i ∧ (F i).toNat = 0)
      · rw [if_pos h2]; exact .inl (by simp)
      · rw [if_neg h2]
        by_cases h3 : (F i).toNat < 128
        · rw [if_pos h3]; exact .inr (by simp; omega)
        · rw [if_neg h3]; exact shG_pos F L f (i + 1) _
    · rw [if_neg h1]; exact .inl (by simp)
/-- How many bytes it has; 0: there is none. -/
def rk (s : ByteArray) : Int := if (short (byteAt s) s.size).2 < 0 then 0 else (short (byteAt s) s.size).2
theorem pow7 (i b : Nat) (hi : i < 10) (hb : b < 256) (h9 : ¬ (i = 9 ∧ 1 < b)) : b % 128 * 2 ^ (7 * i) ≤ 9223372036854775808 := by
  by_cases h : i = 9
  · subst h
    have h2 : b % 128 * 2 ^ (7 * 9) ≤ 1 * 2 ^ (7 * 9) := Nat.mul_le_mul (by omega) (Nat.le_refl _)
    have e : 1 * 2 ^ (7 * 9) = 9223372036854775808 := by decide
    omega
  · have h1 : 2 ^ (7 * i) ≤ 2 ^ 56 := Nat.pow_le_pow_right (by omega) (by omega)
    have h2 : b % 128 * 2 ^ (7 * i) ≤ 127 * 2 ^ 56 := Nat.mul_le_mul (by omega) h1
    have e : 127 * 2 ^ 56 ≤ 9223372036854775808 := by decide
    omega
theorem acc63 (i acc : Nat) (hi : i < 10) (h : acc < 2 ^ (7 * i)) : acc < 9223372036854775808 := by
  have h1 : 2 ^ (7 * i) ≤ 2 ^ 63 := Nat.pow_le_pow_right (by omega) (by omega)
  have e : 2 ^ 63 = 9223372036854775808 := by decide
  omega
theorem acc_next (a x k : Nat) (ha : a < 2 ^ (7 * k)) : a + x % 128 * 2 ^ (7 * k) < 2 ^ (7 * (k + 1)) := by
  rw [Nat.mul_add, Nat.pow_add]
  have h : x % 128 * 2 ^ (7 * k) ≤ 127 * 2 ^ (7 * k) := Nat.mul_le_mul_right _ (by omega)
  show _ < 2 ^ (7 * k) * 128
  omega
set_option maxRecDepth 100000 in
set_option maxHeartbeats 0 in
theorem rshort_any (s : ByteArray) (w : World) (hs : s.size ≤ 9223372036854775807) :
    Calls Try.prog 86 #[.string s] w fun e w' => e = .returned (.tuple #[.int .u64 ((short (byteAt s) s.size).1 : Int), .int .i64 (rk s)]) ∧ w = w' := by
  go_enter Try.func86, Try.ntmps86
  go_wp2
  go_loopw [4, 5, 6] (fun n i _ wr => ∃ k acc : Nat, k ≤ 10 ∧ k ≤ s.size ∧ i = .int .i64 (k : Int) ∧ n = .int .u64 (acc : Int) ∧ Hid (acc < 2 ^ (7 * k) ∧ short (byteAt s) s.size = shG (byteAt s) s.size (11 - k) k acc) ∧ w = wr) (fun _ i _ _ => 10 - (intOf i).toNat)
  case atStart => exact ⟨0, 0, by omega, by omega, rfl, rfl, Lib.hid ⟨by decide, rfl⟩, rfl⟩
  case round =>
    obtain ⟨k, acc, hk, hks, rfl, rfl, HS, rfl⟩ := hrel
    by_cases h1 : k < s.size
    · by_cases h2 : k < 10
      · have h1i : (k : Int) < (s.size : Int) := by omega
        have h2i : (k : Int) < 10 := by omega
        obtain ⟨b, hb⟩ : ∃ b, byteAt s k = b := ⟨_, rfl⟩
        have gk : s[k] = b := (byteAt_get s k h1).trans hb
        have hbl := b.toNat_lt
        have ST : Hid (short (byteAt s) s.size = if (k = 9 ∧ 1 < b.toNat) ∨ (0 < k ∧ b.toNat = 0) then (0, -1) else if b.toNat < 128 then (acc + b.toNat % 128 * 2 ^ (7 * k), (k : Int) + 1) else shG (byteAt s) s.size (11 - (k + 1)) (k + 1) (acc + b.toNat % 128 * 2 ^ (7 * k))) := Lib.hid (by
          rw [HS.out.2, show 11 - k = (11 - (k + 1)) + 1 by omega, shG, if_pos ⟨h1, h2⟩, hb])
        clear hb
        have hvl : b.toNat < 256 := by omega
        by_cases hk9 : k = 9
        · subst hk9
          rw [show ((9 : Nat) : Int) = 9 from rfl]
          have ha63 := acc63 9 acc h2 HS.out.1
          have V2 : IntKind.u64.wrap ((acc : Int) + 9223372036854775808) = (acc : Int) + 9223372036854775808 := by rw [IntKind.wrap_u64]; omega
          have W2 : ((acc : Int) + 9223372036854775808) % 18446744073709551616 = (acc : Int) + 9223372036854775808 := by omega
          have V0 : IntKind.u64.wrap (acc : Int) = (acc : Int) := by rw [IntKind.wrap_u64]; omega
          have W0 : (acc : Int) % 18446744073709551616 = (acc : Int) := by omega
          have h1i' : (9 : Int) < (s.size : Int) := by omega
          by_cases hb1 : 1 < b.toNat
          · have X : Hid (short (byteAt s) s.size = (0, -1)) := Lib.hid (by rw [ST.out, if_pos (.inl ⟨rfl, hb1⟩)])
            have XK : Hid (rk s = 0) := Lib.hid (by unfold rk; rw [X.out]; rfl)
            have e2 : (1 : Int) < (b.toNat : Int) := by omega
            have V3 : IntKind.u64.wrap (b.toNat : Int) = (b.toNat : Int) := by rw [IntKind.wrap_u64]; omega
            have W3 : (b.toNat : Int) % 18446744073709551616 = (b.toNat : Int) := by omega
            clear hb1
            go_wp2
            go_ret2
            exact ⟨by rw [X.out, XK.out]; rfl, rfl⟩
          · by_cases hb0 : b.toNat = 0
            · have X : Hid (short (byteAt s) s.size = (0, -1)) := Lib.hid (by rw [ST.out, if_pos (.inr ⟨by omega, hb0⟩)])
              have XK : Hid (rk s = 0) := Lib.hid (by unfold rk; rw [X.out]; rfl)
              have e0 : (b.toNat : Int) = 0 := by omega
              clear hb1
              go_wp2
              go_ret2
              exact ⟨by rw [X.out, XK.out]; rfl, rfl⟩
            · have hb : b.toNat = 1 := by omega
              have X : Hid (short (byteAt s) s.size = (acc + 9223372036854775808, 10)) := Lib.hid (by rw [ST.out, if_neg (by omega), if_pos (by omega), hb]; rfl)
              have XK : Hid (rk s = 10) := Lib.hid (by unfold rk; rw [X.out]; rfl)
              have e0 : (b.toNat : Int) = 1 := by omega
              clear hb1 hb0
              go_wp2
              go_ret2
              exact ⟨by rw [X.out, XK.out]; first | rfl | simp, rfl⟩
        · have h9 : ¬ (k = 9 ∧ 1 < b.toNat) := fun h => hk9 h.1
          have e9 : ¬ (k : Int) = 9 := by omega
          obtain ⟨m, hm⟩ : ∃ m, 7 * k = m := ⟨_, rfl⟩
          have hm64 : m < 64 := by omega
          have hmi : 7 * (k : Int) = (m : Int) := by omega
          obtain ⟨r, hr⟩ : ∃ r, b.toNat % 128 = r := ⟨_, rfl⟩
          obtain ⟨x, hx⟩ : ∃ x, r * 2 ^ m = x := ⟨_, rfl⟩
          obtain ⟨y, hy⟩ : ∃ y, acc + x = y := ⟨_, rfl⟩
          have hx63 : x ≤ 9223372036854775808 := by rw [← hx, ← hr, ← hm]; exact pow7 k b.toNat h2 hvl h9
          have ha63 := acc63 k acc h2 HS.out.1
          have E1 : (b.toNat : Int) % 128 = (r : Int) := by omega
          have E2 : (r : Int) * 2 ^ m = (x : Int) := by rw [← hx]; simp
          have E3 : (acc : Int) + (x : Int) = (y : Int) := by omega
          have W1 : (x : Int) % 18446744073709551616 = (x : Int) := by omega
          have W2 : (y : Int) % 18446744073709551616 = (y : Int) := by omega
          have V1 : IntKind.u64.wrap (x : Int) = (x : Int) := by rw [IntKind.wrap_u64]; omega
          have V2 : IntKind.u64.wrap (y : Int) = (y : Int) := by rw [IntKind.wrap_u64]; omega
          have V3 : IntKind.u64.wrap (b.toNat : Int) = (b.toNat : Int) := by rw [IntKind.wrap_u64]; omega
          have W3 : (b.toNat : Int) % 18446744073709551616 = (b.toNat : Int) := by omega
          have HY : Hid (acc + b.toNat % 128 * 2 ^ (7 * k) = y ∧ y < 2 ^ (7 * (k + 1))) := Lib.hid (by
            have e : acc + b.toNat % 128 * 2 ^ (7 * k) = y := by rw [hr, hm, hx, hy]
            exact ⟨e, by rw [← e]; exact acc_next acc b.toNat k HS.out.1⟩)
          have HY0 : Hid (b.toNat = 0 → y = acc) := Lib.hid (fun h => by rw [← hy, ← hx, ← hr, h]; simp)
          clear hr hx hy hm hx63 ha63
          by_cases h128 : b.toNat < 128
          · have e128 : (b.toNat : Int) < 128 := by omega
            by_cases h0 : b.toNat = 0
            · by_cases hk0 : k = 0
              · have X : Hid (short (byteAt s) s.size = (y, (k : Int) + 1)) := Lib.hid (by rw [ST.out, if_neg (by omega), if_pos h128, HY.out.1])
                have XK : Hid (rk s = (k : Int) + 1) := Lib.hid (by unfold rk; rw [X.out, if_neg (by show ¬ (k : Int) + 1 < 0; omega)])
                subst hk0
                have e0 : (b.toNat : Int) = 0 := by omega
                go_wp2
                go_ret2
                exact ⟨by rw [X.out, XK.out]; first | rfl | (rw [HY0.out h0]; first | rfl | simp) | simp, rfl⟩
              · have X : Hid (short (byteAt s) s.size = (0, -1)) := Lib.hid (by rw [ST.out, if_pos (.inr ⟨by omega, h0⟩)])
                have XK : Hid (rk s = 0) := Lib.hid (by unfold rk; rw [X.out]; rfl)
                have e0 : (b.toNat : Int) = 0 := by omega
                have ek : (0 : Int) < (k : Int) := by omega
                go_wp2
                go_ret2
                exact ⟨by rw [X.out, XK.out]; rfl, rfl⟩
            · have X : Hid (short (byteAt s) s.size = (y, (k : Int) + 1)) := Lib.hid (by rw [ST.out, if_neg (by omega), if_pos h128, HY.out.1])
              have XK : Hid (rk s = (k : Int) + 1) := Lib.hid (by unfold rk; rw [X.out, if_neg (by show ¬ (k : Int) + 1 < 0; omega)])
              have e0 : ¬ (b.toNat : Int) = 0 := by omega
              go_wp2
              go_ret2
              exact ⟨by rw [X.out, XK.out]; first | rfl | simp, rfl⟩
          · have e128 : ¬ (b.toNat : Int) < 128 := by omega
            have HN : Hid (y < 2 ^ (7 * (k + 1)) ∧ short (byteAt s) s.size = shG (byteAt s) s.size (11 - (k + 1)) (k + 1) y) := Lib.hid ⟨HY.out.2, by rw [ST.out, if_neg (by omega), if_neg h128, HY.out.1]⟩
            go_wp2
            go_roundw
            case rel => exact ⟨k + 1, y, by omega, by omega, by go_num, by first | rfl | go_num, HN, by first | rfl | trivial⟩
            case measure => simp [intOf]; omega
      · have h1i : (k : Int) < (s.size : Int) := by omega
        have h2i : ¬ (k : Int) < 10 := by omega
        have X : Hid (short (byteAt s) s.size = (0, -1)) := Lib.hid (by rw [HS.out.2, shG_end _ _ _ _ _ (by omega)])
        have XK : Hid (rk s = 0) := Lib.hid (by unfold rk; rw [X.out]; rfl)
        go_wp2
        go_ret2
        exact ⟨by rw [X.out, XK.out]; rfl, rfl⟩
    · have h1i : ¬ (k : Int) < (s.size : Int) := by omega
      have X : Hid (short (byteAt s) s.size = (0, -1)) := Lib.hid (by rw [HS.out.2, shG_end _ _ _ _ _ (by omega)])
      have XK : Hid (rk s = 0) := Lib.hid (by unfold rk; rw [X.out]; rfl)
      go_wp2
      go_ret2
      exact ⟨by rw [X.out, XK.out]; rfl, rfl⟩
def RRdr (w : World) (R : Nat) (s : ByteArray) : Prop := Blk w R 101 #[.string s]
set_option maxRecDepth 100000 in
set_option maxHeartbeats 0 in
theorem ruint_any (s : ByteArray) (R : Nat) (w : World) (h : RRdr w R s) (hs : s.size ≤ 9223372036854775807) :
    Calls Try.prog 55 #[.pointer (some ⟨R, 0, none⟩)] w
      fun e w' => e = .returned (.tuple #[.int .u64 ((short (byteAt s) s.size).1 : Int), .int .i64 (uintE s)]) ∧ RRdr w' R (uintS s) ∧ ∀ B, B ≤ R → Below B w w' := by
  have c0 : w.cell? ⟨R, 0, none⟩ = some (.string s) := h.cell 0
  have f0 : w.frozen? ⟨R, 0, none⟩ = false := h.frozen 0
  have HR := Lib.hid h
  have SB := Lib.hid (shG_bound (byteAt s) s.size 11 0 0 (by decide) (by omega))
  have SP := Lib.hid (shG_pos (byteAt s) s.size 11 0 0)
  have SF := Lib.hid (shG_fail (byteAt s) s.size 11 0 0)
  clear h
  by_cases hneg : (short (byteAt s) s.size).2 < 0
  · have EK : Hid (rk s = 0) := Lib.hid (if_pos hneg)
    have EE : Hid (uintE s = 4) := Lib.hid (if_pos hneg)
    have ES : Hid (uintS s = s) := Lib.hid (if_pos hneg)
    have EN : Hid ((short (byteAt s) s.size).1 = 0) := Lib.hid (SF.out hneg)
    clear hneg
    go_enter Try.func55, Try.ntmps55
    go_wp2_with fail
    refine (rshort_any s _ hs).mono ?_; rintro e w' ⟨rfl, rfl⟩
    rw [EK.out, EN.out]
    go_wp2
    go_ret2
    exact ⟨by rw [EE.out, EN.out]; rfl, by rw [ES.out]; exact HR.out, fun B _ => Below.refl _ _⟩
  · obtain ⟨k, hk⟩ : ∃ k : Nat, (short (byteAt s) s.size).2 = (k : Int) := ⟨(short (byteAt s) s.size).2.toNat, by omega⟩
    have hk1 : 1 ≤ k := by have h := SP.out; have : (short (byteAt s) s.size).2 = (shG (byteAt s) s.size 11 0 0).2 := rfl; rw [← this, hk] at h; omega
    have hkl : k ≤ s.size := by have h := SB.out.2.2; have : (short (byteAt s) s.size).2 = (shG (byteAt s) s.size 11 0 0).2 := rfl; rw [← this, hk] at h; omega
    have EK : Hid (rk s = (k : Int)) := Lib.hid (by unfold rk; rw [if_neg hneg, hk])
    have EE : Hid (uintE s = 0) := Lib.hid (if_neg hneg)
    have ES : Hid (uintS s = s.extract k s.size) := Lib.hid (by unfold uintS; rw [if_neg hneg, hk]; rfl)
    have hk0 : ¬ (k : Int) = 0 := by omega
    have hkli : (k : Int) ≤ (s.size : Int) := by omega
    obtain ⟨N, hN⟩ : ∃ N, (short (byteAt s) s.size).1 = N := ⟨_, rfl⟩
    have HN := Lib.hid hN
    clear hneg hk hN
    go_enter Try.func55, Try.ntmps55
    go_wp2_with fail
    refine (rshort_any s _ hs).mono ?_; rintro e w' ⟨rfl, rfl⟩
    rw [EK.out, HN.out]
    go_wp2
    go_ret2
    refine ⟨by rw [EE.out, HN.out]; rfl, ?_, fun B hB => (Below.refl _ _).setCell (by show B ≤ R; exact hB) _⟩
    rw [ES.out]
    exact HR.out.set_ 0 _
end Go.Proofs.Ytfoandpcoakcjaa
namespace Go.Proofs.Ytfoandpcoakcjaa
open Go.RowKit Wir
set_option linter.unusedVariables false
set_option maxRecDepth 100000 in
set_option maxHeartbeats 0 in
theorem ruint_g (s : ByteArray) (R : Nat) (w : World) (h : RRdr w R s) (hs : s.size ≤ 9223372036854775807) :
    Calls Try.prog 55 #[.pointer (some ⟨R, 0, none⟩)] w
      fun e w' => e = .returned (.tuple #[.int .u64 ((short (byteAt s) s.size).1 : Int), .int .i64 (uintE s)]) ∧ RRdr w' R (uintS s) ∧ w.grownBy w' (some R) := by
  have c0 : w.cell? ⟨R, 0, none⟩ = some (.string s) := h.cell 0
  have f0 : w.frozen? ⟨R, 0, none⟩ = false := h.frozen 0
  have HR := Lib.hid h
  have SB := Lib.hid (shG_bound (byteAt s) s.size 11 0 0 (by decide) (by omega))
  have SP := Lib.hid (shG_pos (byteAt s) s.size 11 0 0)
  have SF := Lib.hid (shG_fail (byteAt s) s.size 11 0 0)
  clear h
  by_cases hneg : (short (byteAt s) s.size).2 < 0
  · have EK : Hid (rk s = 0) := Lib.hid (if_pos hneg)
    have EE : Hid (uintE s = 4) := Lib.hid (if_pos hneg)
    have ES : Hid (uintS s = s) := Lib.hid (if_pos hneg)
    have EN : Hid ((short (byteAt s) s.size).1 = 0) := Lib.hid (SF.out hneg)
    clear hneg
    go_enter Try.func55, Try.ntmps55
    go_wp2_with fail
    refine (rshort_any s _ hs).mono ?_; rintro e w' ⟨rfl, rfl⟩
    rw [EK.out, EN.out]
    go_wp2
    go_ret2
    exact ⟨by rw [EE.out, EN.out]; rfl, by rw [ES.out]; exact HR.out, ⟨rfl, rfl, rfl, Nat.le_refl _, fun _ _ _ => rfl⟩⟩
  · obtain ⟨k, hk⟩ : ∃ k : Nat, (short (byteAt s) s.size).2 = (k : Int) := ⟨(short (byteAt s) s.size).2.toNat, by omega⟩
    have hk1 : 1 ≤ k := by have h := SP.out; have : (short (byteAt s) s.size).2 = (shG (byteAt s) s.size 11 0 0).2 := rfl; rw [← this, hk] at h; omega
    have hkl : k ≤ s.size := by have h := SB.out.2.2; have : (short (byteAt s) s.size).2 = (shG (byteAt s) s.size 11 0 0).2 := rfl; rw [← this, hk] at h; omega
    have EK : Hid (rk s = (k : Int)) := Lib.hid (by unfold rk; rw [if_neg hneg, hk])
    have EE : Hid (uintE s = 0) := Lib.hid (if_neg hneg)
    have ES : Hid (uintS s = s.extract k s.size) := Lib.hid (by unfold uintS; rw [if_neg hneg, hk]; rfl)
    have hk0 : ¬ (k : Int) = 0 := by omega
    have hkli : (k : Int) ≤ (s.size : Int) := by omega
    obtain ⟨N, hN⟩ : ∃ N, (short (byteAt s) s.size).1 = N := ⟨_, rfl⟩
    have HN := Lib.hid hN
    clear hneg hk hN
    go_enter Try.func55, Try.ntmps55
    go_wp2_with fail
    refine (rshort_any s _ hs).mono ?_; rintro e w' ⟨rfl, rfl⟩
    rw [EK.out, HN.out]
    go_wp2
    go_ret2
    refine ⟨by rw [EE.out, HN.out]; rfl, ?_, only_setCell ⟨rfl, rfl, rfl, Nat.le_refl _, fun _ _ _ => rfl⟩ (p := ⟨R, 0, none⟩) (.inl rfl) _⟩
    rw [ES.out]
    exact HR.out.set_ 0 _
end Go.Proofs.Ytfoandpcoakcjaa
namespace Go.Proofs.Ytfoandpcoakcjaa
open Go.RowKit Wir
set_option linter.unusedVariables false
def set4 (w : World) (g : Nat) (a b c d : Value) : World := (((w.setCell ⟨g, 0, none⟩ a).setCell ⟨g, 1, none⟩ b).setCell ⟨g, 2, none⟩ c).setCell ⟨g, 3, none⟩ d
theorem set4_blk {w : World} {g : Nat} {T : TypeId} {x0 x1 x2 x3 : Value} (h : Blk w g T #[x0, x1, x2, x3]) (a b c d : Value) : Blk (set4 w g a b c d) g T #[a, b, c, d] := (((h.set_ 0 a).set_ 1 b).set_ 2 c).set_ 3 d
theorem set4_below {B : Nat} {w0 w : World} {g : Nat} (h : Below B w0 w) (hB : B ≤ g) (a b c d : Value) : Below B w0 (set4 w g a b c d) :=
  (((h.setCell (p := ⟨g, 0, none⟩) hB a).setCell (p := ⟨g, 1, none⟩) hB b).setCell (p := ⟨g, 2, none⟩) hB c).setCell (p := ⟨g, 3, none⟩) hB d
theorem set4_grown (w : World) (g : Nat) (a b c d : Value) : w.grownBy (set4 w g a b c d) (some g) :=
  only_setCell (only_setCell (only_setCell (only_setCell (grown_refl w (some g)) (p := ⟨g, 0, none⟩) (.inl rfl) a) (p := ⟨g, 1, none⟩) (.inl rfl) b) (p := ⟨g, 2, none⟩) (.inl rfl) c) (p := ⟨g, 3, none⟩) (.inl rfl) d
def nv4 (s : ByteArray) (k i : Nat) : Int := if i < k then (nvN (nxK i s) : Int) else 0
def arr4 (k : Nat) (s : ByteArray) : Array Value := #[.int .i64 (nv4 s k 0), .int .i64 (nv4 s k 1), .int .i64 (nv4 s k 2), .int .i64 (nv4 s k 3)]
theorem arr4_set (k : Nat) (s : ByteArray) (hk : k < 4) : (arr4 k s).setIfInBounds k (.int .i64 (nvN (nxK k s) : Int)) = arr4 (k + 1) s := by
  obtain h | h | h | h : k = 0 ∨ k = 1 ∨ k = 2 ∨ k = 3 := by omega
  all_goals (subst h; simp [arr4, nv4])
theorem uintS_sz (s : ByteArray) : (uintS s).size ≤ s.size := by
  unfold uintS
  split
  · exact Nat.le_refl _
  · rw [ByteArray.size_extract]; omega
theorem nxK_size : ∀ (k : Nat) (s : ByteArray), (nxK k s).size ≤ s.size
  | 0, s => Nat.le_refl _
  | k + 1, s => Nat.le_trans (uintS_sz _) (nxK_size k s)
/-- What holds while the four numbers are read. T: the reader's type, TT: the table's. -/
structure PyI (T TT : TypeId) (w wr : World) (k : Nat) (s : ByteArray) (rb R nb : Nat) : Prop where
  res : Blk wr rb TT (tblA zTbl (.slice none 0 0))
  rd : Blk wr R T #[.string (nxK k s)]
  arr : Blk wr nb 60 (arr4 k s)
  below : Below w.heap.size w wr
  lo : w.heap.size ≤ rb ∧ rb < R ∧ R < nb
theorem PyI.store {T TT : TypeId} {w wr w' : World} {k : Nat} {s : ByteArray} {rb R nb : Nat} (h : PyI T TT w wr k s rb R nb) (hk : k < 4) (hr : Blk w' R T #[.string (uintS (nxK k s))]) (hg : wr.grownBy w' (some R)) :
    (Blk w' nb 60 (arr4 k s)) ∧ (Blk w' rb TT (tblA zTbl (.slice none 0 0))) ∧ Below w.heap.size w w' ∧ PyI T TT w (w'.setCell ⟨nb, k, none⟩ (.int .i64 (nvN (nxK k s) : Int))) (k + 1) s rb R nb := by
  have e1 : rb ≠ R := by have := h.lo; omega
  have e2 : nb ≠ R := by have := h.lo; omega
  have a1 := h.arr.grown hg (by intro e; injection e with e; exact e2 e)
  have a2 := h.res.grown hg (by intro e; injection e with e; exact e1 e)
  have a3 : Below w.heap.size w w' := h.below.grown hg h.below.size (fun g e => by injection e with e; have := h.lo; omega)
  refine ⟨a1, a2, a3, a2.far (p := ⟨nb, k, none⟩) (by have := h.lo; show rb ≠ nb; omega) _, hr.far (p := ⟨nb, k, none⟩) (by have := h.lo; show R ≠ nb; omega) _, ?_, a3.setCell (p := ⟨nb, k, none⟩) (by have := h.lo; show w.heap.size ≤ nb; omega) _, h.lo⟩
  have a4 := a1.set_ k (.int .i64 (nvN (nxK k s) : Int))
  rw [arr4_set k s hk] at a4
  exact a4
theorem arr_cells {w : World} {nb k : Nat} {s : ByteArray} (h : Blk w nb 60 (arr4 k s)) : w.cell? ⟨nb, 0, none⟩ = some (.int .i64 (nv4 s k 0)) ∧ w.cell? ⟨nb, 1, none⟩ = some (.int .i64 (nv4 s k 1)) ∧ w.cell? ⟨nb, 2, none⟩ = some (.int .i64 (nv4 s k 2)) ∧ w.cell? ⟨nb, 3, none⟩ = some (.int .i64 (nv4 s k 3)) := ⟨h.cell 0, h.cell 1, h.cell 2, h.cell 3⟩
theorem arr_one {w : World} {nb k : Nat} {s : ByteArray} (h : Blk w nb 60 (arr4 k s)) (i : Nat) (hi : i < 4) : ∃ u, w.cell? ⟨nb, i, none⟩ = some u := by
  have := h.cell i
  obtain h0 | h0 | h0 | h0 : i = 0 ∨ i = 1 ∨ i = 2 ∨ i = 3 := by omega
  all_goals (subst h0; exact ⟨_, this⟩)
theorem say_no {s : ByteArray} (h : noks 4 s = false) : sayR s = (zTbl, false) := if_neg (by unfold sayB; rw [h, Bool.false_and]; decide)
theorem results_tbl {fn : Func} {p u : Tmp} {ty : TypeId} {fs : Array Field} (h : fn.results = #[.cell p ty, .tmp u]) (tmps : Array Value) {P : Program} (w : World) (g : Nat) (t : TypeId) (cs : Array Value) (fr : Nat × Nat)
    (hp : tmps.getD p undef = .pointer (some ⟨g, 0, none⟩)) (hg : w.heap[g]? = some (.cells cs t fr))
    (hu : P.underlying ty = some (.struct fs)) (hi : (P.info? ty).map (·.size) = some cs.size) :
    (results fn tmps).run P w = .ok (.tuple #[.agg cs, tmps.getD u undef]) w := by
  have hp' : tmps[p]?.getD undef = .pointer (some ⟨g, 0, none⟩) := by simpa using hp
  simp [results, h, hp', asAddr, run_loadVar_row w g t ty cs fr (.struct fs) hg hu rfl hi]
end Go.Proofs.Ytfoandpcoakcjaa
namespace Go.Proofs.Ytfoandpcoakcjaa
open Go.RowKit Dig
set_option linter.unusedVariables false
def zI : Nat → UInt8 := fun _ => 0
theorem zero_lit : (#[.int .u8 0, .int .u8 0, .int .u8 0, .int .u8 0, .int .u8 0, .int .u8 0, .int .u8 0, .int .u8 0, .int .u8 0, .int .u8 0, .int .u8 0, .int .u8 0, .int .u8 0, .int .u8 0, .int .u8 0, .int .u8 0, .int .u8 0, .int .u8 0, .int .u8 0, .int .u8 0, .int .u8 0, .int .u8 0, .int .u8 0, .int .u8 0, .int .u8 0, .int .u8 0, .int .u8 0, .int .u8 0, .int .u8 0, .int .u8 0, .int .u8 0, .int .u8 0] : Array Value) = idA zI := by kernel_rfl
theorem zero_put {w w1 : World} (b : Below w.heap.size w w1) (r : w1.rowIs w.heap.size 27 32 (fun _ => .int .u8 0)) :
    ok32 w1 w.heap.size 0 = true ∧ (put32 w1 w.heap.size 0 (idA zI)).heap[w.heap.size]? = some (.cells (idA zI) 27 (0, 0)) ∧ Below w.heap.size w (put32 w1 w.heap.size 0 (idA zI)) :=
  ⟨ok32_of r (by omega), id_put zI r b (Nat.le_refl _)⟩
theorem zero_one (w : World) : (w.alloc zeroId).rowIs w.heap.size 27 32 (fun _ => .int .u8 0) ∧ Below w.heap.size w (w.alloc zeroId) :=
  ⟨zeros_row w (T := 27) (c := _) (n := 32) (z := .int .u8 0) (by rfl), (Below.refl _ _).alloc (Nat.le_refl _) _⟩
end Go.Proofs.Ytfoandpcoakcjaa
