/- Walk: attrs.Put. -/
import Derived.Test.YtpfccicahfncbaaDoorAttChk
import Derived.Deep.RegionHeld3
import Derived.Deep.DeepCutAuto
namespace Go.Proofs.YtpfccicahfncbaaDoor
open Go.RowKit Wir
set_option linter.unusedVariables false
set_option linter.unusedSimpArgs false
/-- Short numbers one behind the other. -/
def numsB : List Nat → ByteArray
  | [] => ByteArray.empty
  | n :: l => bs (putL n) ++ numsB l
theorem numsB_app (a b : List Nat) : numsB (a ++ b) = numsB a ++ numsB b := by
  induction a with
  | nil => rw [List.nil_append, numsB, ByteArray.empty_append]
  | cons n a ih => rw [List.cons_append, numsB, numsB, ih, ByteArray.append_assoc]
theorem numsB_size (l : List Nat) : (numsB l).size ≤ 10 * l.length := by
  induction l with
  | nil => exact Nat.le_refl _
  | cons n l ih =>
    have := putN_length 9 n
    rw [numsB, ByteArray.size_append, bs_size, List.length_cons]
    show (putN 9 n).length + _ ≤ _
    omega
def numV (l : List Nat) : List Value := l.map fun n : Nat => .int .u64 (n : Int)
set_option maxRecDepth 100000 in
theorem putF_any (A : Option Addr) (n c : Nat) (L : List Nat) (sb : Nat) (s : ByteArray) (w : World) (B : Nat) (hr : Reads w B 1 A n (numV L)) (hB : B ≤ w.heap.size) (hAb : ∀ ad, A = some ad → ad.block ≠ sb) (hs : Blk w sb 9 #[.string s]) (hl : ∀ x ∈ L, x < 18446744073709551616) (hz : s.size ≤ 1152921504606846976) (hn : n ≤ 16777216) :
    Calls Tryd.prog 38 #[.slice A n c, .pointer (some ⟨sb, 0, none⟩)] w fun e w' => e = .returned (.tuple #[]) ∧ Blk w' sb 9 #[.string (s ++ numsB L)] ∧ ∀ B, B ≤ sb → Below B w w' := by
  have hL : L.length = n := by have := hr.1; rw [numV, List.length_map, Nat.mul_one] at this; exact this
  have HR := Lib.hid hr
  have HLs := Lib.hid hl
  have HLn := Lib.hid hL
  have HS := Lib.hid hs
  have HAb := Lib.hid hAb
  clear hr hl hs hAb
  go_enter Tryd.func38, Tryd.ntmps38
  go_wp2
  go_loopw [7] (fun i wr => ∃ k : Nat, k ≤ n ∧ i = .int .i64 k ∧ Hid (Blk wr sb 9 #[.string (s ++ numsB (L.take k))]) ∧ Hid (∀ B, B ≤ sb → Below B w wr) ∧ Hid (∀ p : Addr, p.block < B → p.block ≠ sb → wr.cell? p = w.cell? p)) (fun i _ => n - (intOf i).toNat)
  case atStart => exact ⟨0, by omega, rfl, Lib.hid (by rw [List.take_zero, numsB, ByteArray.append_empty]; exact HS.out), Lib.hid (fun B _ => Below.refl _ _), Lib.hid (fun _ _ _ => rfl)⟩
  case round =>
    obtain ⟨k, hk, rfl, HK, HQ, HC⟩ := hrel
    by_cases hlt : k < n
    · obtain ⟨ad, rfl, hbl, hc⟩ := HR.out.2 (by omega)
      have hkL : k < L.length := by omega
      have hx : wr.cell? (ad.add k) = some (.int .u64 (L[k] : Int)) := by
        rw [HC.out _ (by rw [block_of_add]; exact hbl) (by rw [block_of_add]; exact HAb.out _ rfl)]
        exact hc k _ (by rw [numV, List.getElem?_map, List.getElem?_eq_getElem hkL]; rfl)
      have hx64 := HLs.out _ (List.getElem_mem hkL)
      have E1 : Hid (s ++ numsB (L.take (k + 1)) = s ++ numsB (L.take k) ++ bs (putL L[k])) := Lib.hid (by
        rw [List.take_add_one, List.getElem?_eq_getElem hkL, numsB_app, ByteArray.append_assoc]
        show _ = s ++ (numsB _ ++ _)
        rw [Option.toList_some, numsB, numsB, ByteArray.append_empty])
      have hz2 : (s ++ numsB (L.take k)).size ≤ 1152921504774619136 := by
        have := numsB_size (L.take k)
        rw [ByteArray.size_append]
        rw [List.length_take] at this
        omega
      obtain ⟨x, hxx⟩ : ∃ x, L[k] = x := ⟨_, rfl⟩
      rw [hxx] at hx hx64 E1
      obtain ⟨t, ht⟩ : ∃ t, s ++ numsB (L.take k) = t := ⟨_, rfl⟩
      rw [ht] at HK E1 hz2
      clear hxx ht hc hkL
      have c0 : wr.cell? ⟨sb, 0, none⟩ = some (.string t) := HK.out.cell 0
      have PU := Lib.hid (fun W => put_any t x W hx64 (by omega))
      have hki : (k : Int) < (n : Int) := by omega
      have hlt2 := HK.out.lt
      go_wp2_with fail
      (with_reducible refine (PU.out _).mono ?_)
      rintro e w1 ⟨rfl, hb1⟩
      have HK1 : Hid (Blk w1 sb 9 #[.string t]) := Lib.hid (HK.out.below hb1 HK.out.lt)
      have HBb := Lib.hid hb1
      clear hb1 PU c0
      have f0 : w1.frozen? ⟨sb, 0, none⟩ = false := HK1.out.frozen 0
      have d0 : w1.cell? ⟨sb, 0, none⟩ = some (.string t) := HK1.out.cell 0
      go_wp2
      go_roundw
      case rel => exact ⟨k + 1, by omega, by go_num, by rw [E1.out]; exact Lib.hid (HK1.out.set_ 0 _), Lib.hid (fun B' hB' => ((HQ.out B' hB').trans (HBb.out.mono (by omega))).setCell (p := ⟨sb, 0, none⟩) hB' _), Lib.hid (fun p hp hp2 => by
        have hle := (HQ.out 0 (Nat.zero_le _)).size
        refine (World.cell?_setCell_other _ ⟨sb, 0, none⟩ p _ (fun h => hp2 (congrArg Addr.block h).symm)).trans ?_
        rw [HBb.out.cell (by omega)]
        exact HC.out p hp hp2)⟩
      case measure => simp [intOf]; omega
    · obtain rfl : k = n := by omega
      have E1 : Hid (L.take k = L) := Lib.hid (List.take_of_length_le (by rw [HLn.out]; exact Nat.le_refl _))
      rw [E1.out] at HK
      go_wp2
      go_end0
      exact ⟨rfl, HK.out, HQ.out⟩
def layX : List (ByteArray × ByteArray) → ByteArray
  | [] => ByteArray.empty
  | p :: l => txL p.1 ++ (txL p.2 ++ layX l)
theorem layX_app (a b : List (ByteArray × ByteArray)) : layX (a ++ b) = layX a ++ layX b := by
  induction a with
  | nil => rw [List.nil_append, layX, ByteArray.empty_append]
  | cons p a ih => rw [List.cons_append, layX, layX, ih]; simp only [ByteArray.append_assoc]
/-- The bytes of a set of attributes. -/
def layA (a : Att) : ByteArray := ⟨#[a.nd]⟩ ++ numsB [a.md.toNat, a.ui.toNat, a.gi.toNat, a.mt.toNat] ++ (if a.nd.toNat = 3 then txL a.tg else ByteArray.empty) ++ numsB [a.xs.length] ++ layX a.xs
def putR (a : Att) : ByteArray := if chkA a = 0 then layA a else ByteArray.empty
theorem byte_cv (wr : World) (u : UInt8) (x : Int) (hx : x = (u.toNat : Int)) (j : Nat) (hj : j < 1) : (wr.alloc (.cells #[.int .u8 x] 5)).cell? (({ block := wr.heap.size, off := 0 } : Addr).add j) = some (.int .u8 (([u].getD j 0).toNat : Int)) := by
  obtain rfl : j = 0 := by omega
  rw [add0, hx]
  exact (World.rowIs_alloc wr #[.int .u8 (u.toNat : Int)] 5 (fun _ => .int .u8 (u.toNat : Int)) (fun i hi => by
    have : i = 0 := by simpa using hi
    subst this; rfl)).cell (i := 0) (by simp)
theorem reads_row (w : World) (cs : Array Value) (e : TypeId) (n : Nat) (h : cs.size = n) (hn : 0 < n) : Reads (w.alloc (.cells cs e)) (w.heap.size + 1) 1 (some ⟨w.heap.size, 0, none⟩) n cs.toList :=
  ⟨by rw [Array.length_toList, h, Nat.mul_one], fun _ => (reads_new w cs e n h).2 (by omega)⟩
theorem nmE_size {s : ByteArray} (h : nmE s = 0) : s.size ≤ 255 := by
  unfold nmE at h
  by_cases hc : (whR s).2 = false ∨ (whR s).1 < 1 ∨ 64 < (whR s).1 ∨ 255 < s.size ∨ dots s = true
  · rw [if_pos hc] at h; cases h
  · rcases Nat.lt_or_ge 255 s.size with h' | h'
    · exact absurd (.inr (.inr (.inr (.inl h')))) hc
    · exact h'
theorem chkX_sizes : ∀ (l : List (ByteArray × ByteArray)) (last : ByteArray), chkX last l = true → ∀ p ∈ l, p.1.size ≤ 255 ∧ p.2.size ≤ 4096
  | [], _, _, p, hp => by cases hp
  | q :: l, last, h, p, hp => by
    rw [chkX] at h
    simp only [Bool.and_eq_true, decide_eq_true_eq] at h
    obtain ⟨⟨⟨h1, h2⟩, h3⟩, h4⟩ := h
    rcases List.mem_cons.1 hp with rfl | hp
    · exact ⟨nmE_size h1, h2⟩
    · exact chkX_sizes l _ h4 p hp
theorem txL_size (t : ByteArray) : t.size + 1 ≤ (txL t).size ∧ (txL t).size ≤ t.size + 10 := by
  have := putN_length 9 t.size
  rw [txL, ByteArray.size_append, bs_size]
  show _ + 1 ≤ (putN 9 t.size).length + _ ∧ (putN 9 t.size).length + _ ≤ _
  omega
theorem layX_size : ∀ (l : List (ByteArray × ByteArray)), (∀ p ∈ l, p.1.size ≤ 255 ∧ p.2.size ≤ 4096) → (layX l).size ≤ 4371 * l.length
  | [], _ => Nat.le_refl _
  | p :: l, h => by
    have h1 := h p (List.mem_cons_self ..)
    have h2 := layX_size l (fun q hq => h q (List.mem_cons_of_mem _ hq))
    have a := txL_size p.1
    have b := txL_size p.2
    rw [layX, ByteArray.size_append, ByteArray.size_append, List.length_cons]
    omega
theorem layX_take (l : List (ByteArray × ByteArray)) (k : Nat) (hk : k < l.length) : layX (l.take (k + 1)) = layX (l.take k) ++ (txL (l[k]).1 ++ txL (l[k]).2) := by
  rw [List.take_add_one, List.getElem?_eq_getElem hk, layX_app, Option.toList_some, layX, layX, ByteArray.append_empty]
theorem chkA_zero {a : Att} (h : chkA a = 0) : chk1 a = false ∧ chk2 a = false ∧ chkX ByteArray.empty a.xs = true := by
  rw [chkA] at h
  by_cases hc : chk1 a = true ∨ chk2 a = true ∨ chkX ByteArray.empty a.xs = false
  · rw [if_pos hc] at h; cases h
  · refine ⟨?_, ?_, ?_⟩
    · cases e : chk1 a with
      | false => rfl
      | true => exact absurd (.inl e) hc
    · cases e : chk2 a with
      | false => rfl
      | true => exact absurd (.inr (.inl e)) hc
    · cases e : chkX ByteArray.empty a.xs with
      | true => rfl
      | false => exact absurd (.inr (.inr e)) hc
theorem chk1_false {a : Att} (h : chk1 a = false) : 1 ≤ a.nd.toNat ∧ a.nd.toNat ≤ 3 ∧ a.md.toNat ≤ 4095 ∧ 0 ≤ a.mt ∧ a.mt ≤ 1099511627776 := by
  simp only [chk1, Bool.or_eq_false_iff, decide_eq_false_iff_not] at h
  omega
theorem chk2_false {a : Att} (h : chk2 a = false) : (decide (a.nd.toNat = 3) = !a.tg.toList.isEmpty) ∧ a.tg.size ≤ 1024 ∧ nul a.tg = false ∧ a.xs.length ≤ 16 := by
  simp only [chk2, Bool.or_eq_false_iff, decide_eq_false_iff_not] at h
  obtain ⟨⟨⟨q1, q2⟩, q3⟩, q4⟩ := h
  refine ⟨?_, by omega, q3, by omega⟩
  generalize decide (a.nd.toNat = 3) = x at *
  generalize a.tg.toList.isEmpty = y at *
  cases x <;> cases y <;> first | rfl | cases q1
set_option maxRecDepth 100000 in
set_option maxHeartbeats 1000000 in
theorem attPut_any (a : Att) (A : Option Addr) (n c : Nat) (w : World) (B : Nat) (hr : Reads w B 2 A n (xtV a.xs)) (hB : B ≤ w.heap.size) (hf : a.fit) (hn : n ≤ 4611686018427387904) (ht : a.tg.size ≤ 4611686018427387904) (hz : ∀ p ∈ a.xs, p.1.size ≤ 4611686018427387904 ∧ p.2.size ≤ 4611686018427387904) :
    Calls Tryd.prog 14 #[.agg (attV a A n c)] w fun e w' => e = .returned (.tuple #[.string (putR a), .int .i64 (chkA a)]) ∧ Below w.heap.size w w' := by
  have HR := Lib.hid hr
  have HZ := Lib.hid hz
  have HL := Lib.hid hr.xtLen
  have HB0 : Hid (Blk (w.alloc (.cells (attV a A n c) 27)) w.heap.size 27 (attV a A n c) ∧ Below w.heap.size w (w.alloc (.cells (attV a A n c) 27))) := Lib.hid ⟨Blk.new _ _ _, (Below.refl _ _).alloc (Nat.le_refl _) _⟩
  have hmf : ∀ (fn : Fn) (first cap : Array Value) (w : World), (Instr.makeFunc fn first cap).run Tryd.prog w = .ok (.func fn first cap) w := fun _ _ _ _ => rfl
  have CH := Lib.hid (fun W hb => attChk_any a A n c W B (HR.out.below (Below.mono hb hB)) (Nat.le_trans hB hb.size) hf hn ht hz)
  clear hr hz
  go_enter Tryd.func14, Tryd.ntmps14
  go_upto_region 1 with fail
  generalize w.alloc (.cells (attV a A n c) 27) = w1 at HB0 ⊢
  obtain ⟨c0, c1, c2, c3, c4, c5, c6⟩ := att_cells a A n c w1 _ HB0.out.1
  go_wp2_with fail
  change Calls _ _ #[.agg (attV a A n c)] _ _
  (with_reducible refine (CH.out w1 HB0.out.2).mono ?_)
  rintro e w2 ⟨rfl, hb2⟩
  have HB2 : Hid (Blk w2 w.heap.size 27 (attV a A n c) ∧ Below w.heap.size w w2) := Lib.hid ⟨HB0.out.1.below hb2 HB0.out.1.lt, HB0.out.2.trans (hb2.mono HB0.out.2.size)⟩
  clear c0 c1 c2 c3 c4 c5 c6 hb2 HB0 CH
  by_cases hch : chkA a = 0
  · have E : Hid (putR a = layA a) := Lib.hid (by rw [putR, if_pos hch])
    obtain ⟨k1, k2, k3⟩ := chkA_zero hch
    obtain ⟨j1, j2, j3, j4, j5⟩ := chk1_false k1
    obtain ⟨j6, j7, j8, j9⟩ := chk2_false k2
    have K3 := Lib.hid k3
    clear k1 k2 k3 j6 j8
    have hmt : ∃ mt : Nat, a.mt = (mt : Int) ∧ mt ≤ 1099511627776 := ⟨a.mt.toNat, by omega, by omega⟩
    obtain ⟨mt, hmt1, hmt2⟩ := hmt
    have HC0 := Lib.hid hch
    rw [hch]
    obtain ⟨c0, c1, c2, c3, c4, c5, c6⟩ := att_cells a A n c w2 _ HB2.out.1
    rw [hmt1] at c4
    have LA : Hid (layA a = ⟨#[a.nd]⟩ ++ numsB [a.md.toNat, a.ui.toNat, a.gi.toNat, mt] ++ (if a.nd.toNat = 3 then txL a.tg else ByteArray.empty) ++ numsB [n] ++ layX a.xs) := Lib.hid (by rw [layA, HL.out, hmt1]; rfl)
    have HMT := Lib.hid hmt1
    clear hch hmt1
    have RC := Lib.hid (fun j hj => byte_cv w2 a.nd (a.nd.toNat : Int) rfl j hj)
    have hlt2 := HB2.out.1.lt
    go_upto_region 6 with (with_reducible refine conv_str_wp (e := 5) (by kernel_rfl) (by kernel_rfl) (by kernel_rfl) rfl _ rfl ⟨w2.heap.size, 0, none⟩ 1 1 rfl [a.nd] rfl RC.out ?_)
    obtain ⟨s0, hs0⟩ : ∃ s0, bs [a.nd] = s0 := ⟨_, rfl⟩
    have hz0 : s0.size = 1 := by rw [← hs0, bs_size]; rfl
    rw [show (⟨#[a.nd]⟩ : ByteArray) = s0 from hs0] at LA
    rw [hs0]
    have HB3 : Hid (Blk ((w2.alloc (.cells #[.int .u8 (a.nd.toNat : Int)] 5)).alloc (.cells #[.string s0] 9)) (w2.heap.size + 1) 9 #[.string s0] ∧ Blk ((w2.alloc (.cells #[.int .u8 (a.nd.toNat : Int)] 5)).alloc (.cells #[.string s0] 9)) w.heap.size 27 (attV a A n c) ∧ Below w.heap.size w ((w2.alloc (.cells #[.int .u8 (a.nd.toNat : Int)] 5)).alloc (.cells #[.string s0] 9)) ∧ w.heap.size < w2.heap.size + 1) := Lib.hid ⟨by
      have := Blk.new (w2.alloc (.cells #[.int .u8 (a.nd.toNat : Int)] 5)) 9 #[.string s0]
      rwa [show (w2.alloc (.cells #[.int .u8 (a.nd.toNat : Int)] 5)).heap.size = w2.heap.size + 1 from by simp] at this, (HB2.out.1.alloc _).alloc _, (HB2.out.2.alloc HB2.out.2.size _).alloc (by have := HB2.out.2.size; simp; omega) _, by omega⟩
    generalize (w2.alloc (.cells #[.int .u8 (a.nd.toNat : Int)] 5)).alloc (.cells #[.string s0] 9) = w3 at HB3 ⊢
    generalize w2.heap.size + 1 = sb at HB3 ⊢
    clear c0 c1 c2 c3 c4 c5 c6 RC HB2 hs0 hlt2
    have hsb := HB3.out.2.2.2
    obtain ⟨c0, c1, c2, c3, c4, c5, c6⟩ := att_cells a A n c w3 _ HB3.out.2.1
    have hb2 := a.md.toNat_lt
    have hb3 := a.ui.toNat_lt
    have hb4 := a.gi.toNat_lt
    rw [HMT.out] at c4
    have hr4 := reads_row w3 #[.int .u64 (a.md.toNat : Int), .int .u64 (a.ui.toNat : Int), .int .u64 (a.gi.toNat : Int), .int .u64 (mt : Int)] 62 4 rfl (by omega)
    have P4 := Lib.hid (putF_any (some ⟨w3.heap.size, 0, none⟩) 4 4 [a.md.toNat, a.ui.toNat, a.gi.toNat, mt] sb s0 (w3.alloc (.cells #[.int .u64 (a.md.toNat : Int), .int .u64 (a.ui.toNat : Int), .int .u64 (a.gi.toNat : Int), .int .u64 (mt : Int)] 62)) (w3.heap.size + 1) hr4 (by simp) (fun ad h => by injection h with h; rw [← h]; have := HB3.out.1.lt; show w3.heap.size ≠ sb; omega) (HB3.out.1.alloc _) (fun x hx => by
      have hb2 := a.md.toNat_lt
      have hb3 := a.ui.toNat_lt
      have hb4 := a.gi.toNat_lt
      simp only [List.mem_cons, List.not_mem_nil, or_false] at hx
      omega) (by omega) (by omega))
    clear hr4
    go_wp2_with fail
    (with_reducible refine P4.out.mono ?_)
    rintro e w4 ⟨rfl, hk4, hq4⟩
    have HB4 : Hid (Blk w4 sb 9 #[.string (s0 ++ numsB [a.md.toNat, a.ui.toNat, a.gi.toNat, mt])] ∧ Blk w4 w.heap.size 27 (attV a A n c) ∧ Below w.heap.size w w4) := Lib.hid ⟨hk4, (HB3.out.2.1.alloc _).below (hq4 sb (Nat.le_refl _)) hsb, (HB3.out.2.2.1.alloc HB3.out.2.2.1.size _).trans (hq4 _ (by omega))⟩
    have hn1 := numsB_size [a.md.toNat, a.ui.toNat, a.gi.toNat, mt]
    obtain ⟨s1, hs1⟩ : ∃ s1, s0 ++ numsB [a.md.toNat, a.ui.toNat, a.gi.toNat, mt] = s1 := ⟨_, rfl⟩
    rw [hs1] at HB4 LA
    have hz1 : s1.size ≤ 50 := by rw [← hs1, ByteArray.size_append]; simp only [List.length_cons, List.length_nil] at hn1; omega
    clear hs1 hn1 hk4 hq4 P4 HB3 c0 c1 c2 c3 c4 c5 c6 hb2 hb3 hb4
    obtain ⟨c0, c1, c2, c3, c4, c5, c6⟩ := att_cells a A n c w4 _ HB4.out.2.1
    have d0 : w4.cell? ⟨sb, 0, none⟩ = some (.string s1) := HB4.out.1.cell 0
    obtain ⟨s2, hs2⟩ : ∃ s2, (s1 ++ if a.nd.toNat = 3 then txL a.tg else ByteArray.empty) = s2 := ⟨_, rfl⟩
    rw [hs2] at LA
    have HS2 := Lib.hid hs2
    clear hs2
    go_upto_if 36 with fail
    go_cut [40] (fun v40 wx => Hid (Blk wx sb 9 #[.string s2] ∧ Blk wx w.heap.size 27 (attV a A n c) ∧ Below w.heap.size w wx))
    case first =>
      by_cases h3 : a.nd.toNat = 3
      · have q3 : ((a.nd.toNat : Int) == 3) = true := by rw [beq_iff_eq]; omega
        have E2 : Hid (s1 ++ txL a.tg = s2) := Lib.hid (by rw [← HS2.out, if_pos h3])
        have PT := Lib.hid (fun W => putText_any s1 a.tg W (by omega) (by omega))
        rw [E2.out] at PT
        clear h3
        go_wp2_with fail
        (with_reducible refine (PT.out _).mono ?_)
        rintro e w5 ⟨rfl, hb5⟩
        have HB5 : Hid (Blk w5 sb 9 #[.string s1] ∧ Blk w5 w.heap.size 27 (attV a A n c) ∧ Below w.heap.size w w5) := Lib.hid ⟨HB4.out.1.below hb5 HB4.out.1.lt, HB4.out.2.1.below hb5 HB4.out.2.1.lt, HB4.out.2.2.trans (hb5.mono HB4.out.2.2.size)⟩
        clear hb5 PT d0
        have d0 : w5.cell? ⟨sb, 0, none⟩ = some (.string s1) := HB5.out.1.cell 0
        have f0 : w5.frozen? ⟨sb, 0, none⟩ = false := HB5.out.1.frozen 0
        go_wp2
        go_meet
        exact Lib.hid ⟨HB5.out.1.set_ 0 _, HB5.out.2.1.far (p := ⟨sb, 0, none⟩) (by show w.heap.size ≠ sb; omega) _, HB5.out.2.2.setCell (p := ⟨sb, 0, none⟩) (by show w.heap.size ≤ sb; omega) _⟩
      · have q3 : ((a.nd.toNat : Int) == 3) = false := by rw [beq_eq_false_iff_ne]; omega
        have E2 : Hid (s1 = s2) := Lib.hid (by rw [← HS2.out, if_neg h3, ByteArray.append_empty])
        clear h3
        go_wp2
        go_meet
        rw [← E2.out]
        exact HB4
    case rest =>
      have HB6 := hcut
      have hz2 : s2.size ≤ 2000 := by
        rw [← HS2.out]
        split
        · have := putN_length 9 a.tg.size
          rw [txL, ByteArray.size_append, ByteArray.size_append, bs_size]
          show _ + ((putN 9 a.tg.size).length + _) ≤ _
          omega
        · rw [ByteArray.append_empty]; omega
      clear hcut HS2 HB4 d0 c0 c1 c2 c3 c4 c5 c6 hz1
      have d0 : wc.cell? ⟨sb, 0, none⟩ = some (.string s2) := HB6.out.1.cell 0
      have c6 : wc.cell? ⟨w.heap.size, 6, none⟩ = some (.slice A n c) := HB6.out.2.1.cell 6
      have hn16 : n ≤ 16 := by have := HL.out; omega
      have hr1 := reads_row wc #[.int .u64 (n : Int)] 62 1 rfl (by omega)
      have P1 := Lib.hid (putF_any (some ⟨wc.heap.size, 0, none⟩) 1 1 [n] sb s2 (wc.alloc (.cells #[.int .u64 (n : Int)] 62)) (wc.heap.size + 1) hr1 (by simp) (fun ad h => by injection h with h; rw [← h]; have := HB6.out.1.lt; show wc.heap.size ≠ sb; omega) (HB6.out.1.alloc _) (fun x hx => by
        simp only [List.mem_cons, List.not_mem_nil, or_false] at hx
        omega) (by omega) (by omega))
      clear hr1
      go_wp2_with fail
      (with_reducible refine P1.out.mono ?_)
      rintro e w5 ⟨rfl, hk5, hq5⟩
      have HB7 : Hid (Blk w5 sb 9 #[.string (s2 ++ numsB [n])] ∧ Blk w5 w.heap.size 27 (attV a A n c) ∧ Below w.heap.size w w5) := Lib.hid ⟨hk5, (HB6.out.2.1.alloc _).below (hq5 sb (Nat.le_refl _)) hsb, (HB6.out.2.2.alloc HB6.out.2.2.size _).trans (hq5 _ (by omega))⟩
      have hn1 := numsB_size [n]
      obtain ⟨s3, hs3⟩ : ∃ s3, s2 ++ numsB [n] = s3 := ⟨_, rfl⟩
      rw [hs3] at HB7 LA
      have hz3 : s3.size ≤ 2010 := by rw [← hs3, ByteArray.size_append]; simp only [List.length_cons, List.length_nil] at hn1; omega
      clear hs3 hn1 hk5 hq5 P1 HB6 c6 d0
      have c6 : w5.cell? ⟨w.heap.size, 6, none⟩ = some (.slice A n c) := HB7.out.2.1.cell 6
      have SZ := Lib.hid (chkX_sizes a.xs _ K3.out)
      go_wp2_with fail
      go_loopw [51] (fun i wr => ∃ k : Nat, k ≤ n ∧ i = .int .i64 k ∧ Hid (Blk wr sb 9 #[.string (s3 ++ layX (a.xs.take k))] ∧ Below w.heap.size w wr)) (fun i _ => n - (intOf i).toNat)
      case atStart => exact ⟨0, by omega, rfl, Lib.hid ⟨by rw [List.take_zero, layX, ByteArray.append_empty]; exact HB7.out.1, HB7.out.2.2⟩⟩
      case round =>
        obtain ⟨k, hk, rfl, HK⟩ := hrel
        by_cases hlt : k < n
        · obtain ⟨ad, hkl, rfl, hbl, x0, x1⟩ := xt_cells HR.out k hlt
          have HT := Lib.hid (layX_take a.xs k hkl)
          obtain ⟨z1, z2⟩ := SZ.out _ (List.getElem_mem hkl)
          have hzl : (layX (a.xs.take k)).size ≤ 4371 * 16 := by
            have h1 := layX_size (a.xs.take k) (fun p hp => SZ.out p (List.mem_of_mem_take hp))
            have h2 : (a.xs.take k).length ≤ 16 := by rw [List.length_take]; omega
            omega
          have y0 : wr.cell? (ad.add (k * 2)) = some (.string (a.xs[k]).1) := by rw [HK.out.2.cell (by rw [block_of_add]; omega)]; exact x0
          have y1 : wr.cell? ⟨(ad.add (k * 2)).block, (ad.add (k * 2)).off + 1, none⟩ = some (.string (a.xs[k]).2) := by
            show wr.cell? ((ad.add (k * 2)).add 1) = _
            rw [HK.out.2.cell (by rw [block_of_add, block_of_add]; omega)]; exact x1
          obtain ⟨x, hx⟩ : ∃ x, a.xs[k] = x := ⟨_, rfl⟩
          rw [hx] at HT z1 z2 y0 y1
          obtain ⟨t, htt⟩ : ∃ t, s3 ++ layX (a.xs.take k) = t := ⟨_, rfl⟩
          have HT2 : Hid (s3 ++ layX (a.xs.take (k + 1)) = t ++ txL x.1 ++ txL x.2) := Lib.hid (by rw [HT.out, ← htt]; simp only [ByteArray.append_assoc])
          have hzt : t.size ≤ 100000 := by rw [← htt, ByteArray.size_append]; omega
          rw [htt] at HK
          clear hx x0 x1 htt HT hzl c6
          have hki : (k : Int) < (n : Int) := by omega
          have T1 := Lib.hid (fun W => putText_any t x.1 W (by omega) (by omega))
          have zt := txL_size x.1
          have T2 := Lib.hid (fun W => putText_any (t ++ txL x.1) x.2 W (by rw [ByteArray.size_append]; omega) (by omega))
          rw [← HT2.out] at T2
          clear zt
          go_upto_region 13 with fail
          have BN : Hid (Blk (wr.alloc (.cells #[.string x.1, .string x.2] 43)) wr.heap.size 43 #[.string x.1, .string x.2] ∧ Blk (wr.alloc (.cells #[.string x.1, .string x.2] 43)) sb 9 #[.string t] ∧ Below w.heap.size w (wr.alloc (.cells #[.string x.1, .string x.2] 43))) := Lib.hid ⟨Blk.new _ _ _, HK.out.1.alloc _, HK.out.2.alloc HK.out.2.size _⟩
          have hne : sb ≠ wr.heap.size := by have := HK.out.1.lt; omega
          generalize wr.alloc (.cells #[.string x.1, .string x.2] 43) = w6 at BN ⊢
          generalize wr.heap.size = xb at BN hne ⊢
          have KS : Hid (∀ W, Below w6.heap.size w6 W → Blk W sb 9 #[.string t] ∧ W.cell? ⟨xb, 0, none⟩ = some (.string x.1) ∧ W.cell? ⟨xb, 1, none⟩ = some (.string x.2)) := Lib.hid (fun W hW => by
            have a := BN.out.1.below hW BN.out.1.lt
            have b := BN.out.2.1.below hW BN.out.2.1.lt
            exact ⟨b, a.cell 0, a.cell 1⟩)
          have HB0 : Hid (Below w6.heap.size w6 w6.drew) := Lib.hid (Below.refl _ _).drew
          have SA := (KS.out _ HB0.out).2
          have d0 : w6.drew.cell? ⟨sb, 0, none⟩ = some (.string t) := (KS.out _ HB0.out).1.cell 0
          refine wp_region_held_drew (S := fun w' => w'.cell? ⟨xb, 0, none⟩ = some (.string x.1) ∧ w'.cell? ⟨xb, 1, none⟩ = some (.string x.2)) (by kernel_rfl) (by exact SA) (fun hHeld => ?_)
          refine wpAnyH_take (i := 1) (oi := { dst := some 56, op := .fieldAddr 43 (.tmp 8) 0, type := 0, pos := "attrs.go:84", after := #[], guard := none }) (v := _) rfl (by as_aux_lemma => kernel_rfl) (by as_aux_lemma => kernel_rfl) (by as_aux_lemma => kernel_rfl) (fun _ _ _ h => h) (Or.inl ⟨by kernel_rfl, by (intro w hSw; (try dsimp only at hSw); go_simp; first | done | with_reducible rfl)⟩) (by assumption) ?_
          (try simp only [List.getElem_toArray, List.getElem_cons_succ, List.getElem_cons_zero, Act.put, List.setIfInBounds_toArray, List.set_cons_zero, List.set_cons_succ])
          refine wpAnyH_take (i := 2) (oi := { dst := some 57, op := .load 9 (.tmp 56), type := 9, pos := "attrs.go:84", after := #[{ on := 1, ground := .data }], guard := none }) (v := _) rfl (by as_aux_lemma => kernel_rfl) (by as_aux_lemma => kernel_rfl) (by as_aux_lemma => kernel_rfl) (fun _ _ _ h => h) (Or.inl ⟨by kernel_rfl, by (intro w hSw; (try dsimp only at hSw); go_simp; first | done | with_reducible rfl)⟩) (by assumption) ?_
          (try simp only [List.getElem_toArray, List.getElem_cons_succ, List.getElem_cons_zero, Act.put, List.setIfInBounds_toArray, List.set_cons_zero, List.set_cons_succ])
          refine wpAnyH_take (i := 4) (oi := { dst := some 59, op := .fieldAddr 43 (.tmp 8) 1, type := 0, pos := "attrs.go:84", after := #[], guard := none }) (v := _) rfl (by as_aux_lemma => kernel_rfl) (by as_aux_lemma => kernel_rfl) (by as_aux_lemma => kernel_rfl) (fun _ _ _ h => h) (Or.inl ⟨by kernel_rfl, by (intro w hSw; (try dsimp only at hSw); go_simp; first | done | with_reducible rfl)⟩) (by assumption) ?_
          (try simp only [List.getElem_toArray, List.getElem_cons_succ, List.getElem_cons_zero, Act.put, List.setIfInBounds_toArray, List.set_cons_zero, List.set_cons_succ])
          refine wpAnyH_take (i := 5) (oi := { dst := some 60, op := .load 9 (.tmp 59), type := 9, pos := "attrs.go:84", after := #[{ on := 4, ground := .data }], guard := none }) (v := _) rfl (by as_aux_lemma => kernel_rfl) (by as_aux_lemma => kernel_rfl) (by as_aux_lemma => kernel_rfl) (fun _ _ _ h => h) (Or.inl ⟨by kernel_rfl, by (intro w hSw; (try dsimp only at hSw); go_simp; first | done | with_reducible rfl)⟩) (by assumption) ?_
          (try simp only [List.getElem_toArray, List.getElem_cons_succ, List.getElem_cons_zero, Act.put, List.setIfInBounds_toArray, List.set_cons_zero, List.set_cons_succ])
          refine wpAnyH_ready (rs := [0]) (by as_aux_lemma => kernel_rfl) (by simp) (AllReadyH.cons rfl (fun K hK => ?_) AllReadyH.nil)
          try simp only [List.getElem_toArray, List.getElem_cons_succ, List.getElem_cons_zero]
          go_simp
          refine hK.out _ _ (by exact SA) (fun hHeld => ?_)
          clear hK K
          (try simp only [List.getElem_toArray, List.getElem_cons_succ, List.getElem_cons_zero, Act.put, List.setIfInBounds_toArray, List.set_cons_zero, List.set_cons_succ])
          refine wpAnyH_ready (rs := [3]) (by as_aux_lemma => kernel_rfl) (by simp) (AllReadyH.cons rfl (fun K hK => ?_) AllReadyH.nil)
          try simp only [List.getElem_toArray, List.getElem_cons_succ, List.getElem_cons_zero]
          go_simp
          go_at_call 26
          refine (T1.out _).mono ?_
          rintro e wn ⟨rfl, hbn⟩
          have HB1 := Lib.hid (HB0.out.trans (hbn.mono HB0.out.size))
          have SA := (KS.out _ HB1.out).2
          clear hbn
          go_simp
          refine hK.out _ _ (by exact SA) (fun hHeld => ?_)
          clear hK K
          (try simp only [List.getElem_toArray, List.getElem_cons_succ, List.getElem_cons_zero, Act.put, List.setIfInBounds_toArray, List.set_cons_zero, List.set_cons_succ])
          refine wpAnyH_ready (rs := [6]) (by as_aux_lemma => kernel_rfl) (by simp) (AllReadyH.cons rfl (fun K hK => ?_) AllReadyH.nil)
          try simp only [List.getElem_toArray, List.getElem_cons_succ, List.getElem_cons_zero]
          go_simp
          go_at_call 26
          refine (T2.out _).mono ?_
          rintro e wm ⟨rfl, hbm⟩
          have HB2' := Lib.hid (HB1.out.trans (hbm.mono HB1.out.size))
          have hsbk := (KS.out _ HB2'.out).1
          have SA := (KS.out _ HB2'.out).2
          have HSB := Lib.hid hsbk
          have d1 : wm.cell? ⟨sb, 0, none⟩ = some (.string t) := hsbk.cell 0
          have f1 : wm.frozen? ⟨sb, 0, none⟩ = false := hsbk.frozen 0
          clear hbm hsbk
          go_simp
          refine hK.out _ _ (by exact SA) (fun hHeld => ?_)
          clear hK K
          (try simp only [List.getElem_toArray, List.getElem_cons_succ, List.getElem_cons_zero, Act.put, List.setIfInBounds_toArray, List.set_cons_zero, List.set_cons_succ])
          refine wpAnyH_ready (rs := [7]) (by as_aux_lemma => kernel_rfl) (by simp) (AllReadyH.cons rfl (fun K hK => ?_) AllReadyH.nil)
          try simp only [List.getElem_toArray, List.getElem_cons_succ, List.getElem_cons_zero]
          go_simp
          have SA : (wm.setCell ⟨sb, 0, none⟩ (.string (s3 ++ layX (a.xs.take (k + 1))))).cell? ⟨xb, 0, none⟩ = some (.string x.1) ∧ (wm.setCell ⟨sb, 0, none⟩ (.string (s3 ++ layX (a.xs.take (k + 1))))).cell? ⟨xb, 1, none⟩ = some (.string x.2) := by
            refine ⟨(World.cell?_setCell_other _ _ _ _ (fun h => hne (congrArg Addr.block h))).trans SA.1, (World.cell?_setCell_other _ _ _ _ (fun h => hne (congrArg Addr.block h))).trans SA.2⟩
          refine hK.out _ _ (by exact SA) (fun hHeld => ?_)
          clear hK K
          (try simp only [List.getElem_toArray, List.getElem_cons_succ, List.getElem_cons_zero, Act.put, List.setIfInBounds_toArray, List.set_cons_zero, List.set_cons_succ])
          refine wpAnyH_done (by as_aux_lemma => kernel_rfl) ?_ _
          have HK' : Hid (Blk (wm.setCell ⟨sb, 0, none⟩ (.string (s3 ++ layX (a.xs.take (k + 1))))) sb 9 #[.string (s3 ++ layX (a.xs.take (k + 1)))] ∧ Below w.heap.size w (wm.setCell ⟨sb, 0, none⟩ (.string (s3 ++ layX (a.xs.take (k + 1)))))) := Lib.hid ⟨HSB.out.set_ 0 _, (BN.out.2.2.trans (HB2'.out.mono BN.out.2.2.size)).setCell (p := ⟨sb, 0, none⟩) (by show w.heap.size ≤ sb; omega) _⟩
          go_wp2
          go_roundw
          case rel => exact ⟨k + 1, by omega, by go_num, HK'⟩
          case measure => simp [intOf]; omega
        · obtain rfl : k = n := by omega
          have F : Hid (s3 ++ layX a.xs = layA a) := Lib.hid LA.out.symm
          have HK2 : Hid (Blk wr sb 9 #[.string (layA a)] ∧ Below w.heap.size w wr) := Lib.hid (by
            have := HK.out
            rw [List.take_of_length_le (by rw [HL.out]; exact Nat.le_refl _), F.out] at this
            exact this)
          have d0 : wr.cell? ⟨sb, 0, none⟩ = some (.string (layA a)) := HK2.out.1.cell 0
          rw [← E.out] at d0
          go_wp2
          go_ret2
          exact ⟨by rw [HC0.out]; rfl, HK2.out.2⟩
  · have E : Hid (putR a = ByteArray.empty) := Lib.hid (by rw [putR, if_neg hch])
    have hch1 : (chkA a != 0) = true := by rw [bne_iff_ne]; exact hch
    clear hch
    go_wp2
    go_ret2
    exact ⟨by rw [E.out]; rfl, HB2.out.2⟩
end Go.Proofs.YtpfccicahfncbaaDoor
