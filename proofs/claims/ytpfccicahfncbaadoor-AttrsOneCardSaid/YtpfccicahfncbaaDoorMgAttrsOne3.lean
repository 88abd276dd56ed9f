/- Several texts of the claim joined into one (part 3): plain facts and walks. No conditions but those that each theorem tells. -/
import Derived.Test.YtpfccicahfncbaaDoorMgAttrsOne2
import Derived.Deep.RegionHeld3
import Derived.Deep.DeepCutAuto
import Derived.Test.YtpfccicahfncbaaDoorMgAttrsOne1
import Derived.OpenShut
import Derived.ChangeSame
import Derived.Lib.SmallJoins
namespace Go.Proofs.YtpfccicahfncbaaDoor
open Go.RowKit Wir
set_option linter.unusedVariables false
set_option linter.unusedSimpArgs false
/-- Short numbers one behind the other. -/
def numsB : List Nat → ByteArray
  | [] => ByteArray.empty
  | n :: l => bs (putL n) ++ numsB l
theorem numsB_app (a b : List Nat) : numsB (a ++ b) = numsB a ++ numsB b := by
  induction a with
  | nil => rw [List.nil_append, numsB, ByteArray.empty_append]
  | cons n a ih => rw [List.cons_append, numsB, numsB, ih, ByteArray.append_assoc]
theorem numsB_size (l : List Nat) : (numsB l).size ≤ 10 * l.length := by
  induction l with
  | nil => exact Nat.le_refl _
  | cons n l ih =>
    have := putN_length 9 n
    rw [numsB, ByteArray.size_append, bs_size, List.length_cons]
    show (putN 9 n).length + _ ≤ _
    omega
def numV (l : List Nat) : List Value := l.map fun n : Nat => .int .u64 (n : Int)
set_option maxRecDepth 100000 in
theorem putF_any (A : Option Addr) (n c : Nat) (L : List Nat) (sb : Nat) (s : ByteArray) (w : World) (B : Nat) (hr : Reads w B 1 A n (numV L)) (hB : B ≤ w.heap.size) (hAb : ∀ ad, A = some ad → ad.block ≠ sb) (hs : Blk w sb 9 #[.string s]) (hl : ∀ x ∈ L, x < 18446744073709551616) (hz : s.size ≤ 1152921504606846976) (hn : n ≤ 16777216) :
    Calls Tryd.prog 38 #[.slice A n c, .pointer (some ⟨sb, 0, none⟩)] w fun e w' => e = .returned (.tuple #[]) ∧ Blk w' sb 9 #[.string (s ++ numsB L)] ∧ ∀ B, B ≤ sb → Below B w w' := by
  have hL : L.length = n := by have := hr.1; rw [numV, List.length_map, Nat.mul_one] at this; exact this
  have HR := Lib.hid hr
  have HLs := Lib.hid hl
  have HLn := Lib.hid hL
  have HS := Lib.hid hs
  have HAb := Lib.hid hAb
  clear hr hl hs hAb
  go_enter Tryd.func38, Tryd.ntmps38
  go_wp2
  go_loopw [7] (fun i wr => ∃ k : Nat, k ≤ n ∧ i = .int .i64 k ∧ Hid (Blk wr sb 9 #[.string (s ++ numsB (L.take k))]) ∧ Hid (∀ B, B ≤ sb → Below B w wr) ∧ Hid (∀ p : Addr, p.block < B → p.block ≠ sb → wr.cell? p = w.cell? p)) (fun i _ => n - (intOf i).toNat)
  case atStart => exact ⟨0, by omega, rfl, Lib.hid (by rw [List.take_zero, numsB, ByteArray.append_empty]; exact HS.out), Lib.hid (fun B _ => Below.refl _ _), Lib.hid (fun _ _ _ => rfl)⟩
  case round =>
    obtain ⟨k, hk, rfl, HK, HQ, HC⟩ := hrel
    by_cases hlt : k < n
    · obtain ⟨ad, rfl, hbl, hc⟩ := HR.out.2 (by omega)
      have hkL : k < L.length := by omega
      have hx : wr.cell? (ad.add k) = some (.int .u64 (L[k] : Int)) := by
        rw [HC.out _ (by rw [block_of_add]; exact hbl) (by rw [block_of_add]; exact HAb.out _ rfl)]
        exact hc k _ (by rw [numV, List.getElem?_map, List.getElem?_eq_getElem hkL]; rfl)
      have hx64 := HLs.out _ (List.getElem_mem hkL)
      have E1 : Hid (s ++ numsB (L.take (k + 1)) = s ++ numsB (L.take k) ++ bs (putL L[k])) := Lib.hid (by
        rw [List.take_add_one, List.getElem?_eq_getElem hkL, numsB_app, ByteArray.append_assoc]
        show _ = s ++ (numsB _ ++ _)
        rw [Option.toList_some, numsB, numsB, ByteArray.append_empty])
      have hz2 : (s ++ numsB (L.take k)).size ≤ 1152921504774619136 := by
        have := numsB_size (L.take k)
        rw [ByteArray.size_append]
        rw [List.length_take] at this
        omega
      obtain ⟨x, hxx⟩ : ∃ x, L[k] = x := ⟨_, rfl⟩
      rw [hxx] at hx hx64 E1
      obtain ⟨t, ht⟩ : ∃ t, s ++ numsB (L.take k) = t := ⟨_, rfl⟩
      rw [ht] at HK E1 hz2
      clear hxx ht hc hkL
      have c0 : wr.cell? ⟨sb, 0, none⟩ = some (.string t) := HK.out.cell 0
      have PU := Lib.hid (fun W => put_any t x W hx64 (by omega))
      have hki : (k : Int) < (n : Int) := by omega
      have hlt2 := HK.out.lt
      go_wp2_with fail
      (with_reducible refine (PU.out _).mono ?_)
      rintro e w1 ⟨rfl, hb1⟩
      have HK1 : Hid (Blk w1 sb 9 #[.string t]) := Lib.hid (HK.out.below hb1 HK.out.lt)
      have HBb := Lib.hid hb1
      clear hb1 PU c0
      have f0 : w1.frozen? ⟨sb, 0, none⟩ = false := HK1.out.frozen 0
      have d0 : w1.cell? ⟨sb, 0, none⟩ = some (.string t) := HK1.out.cell 0
      go_wp2
      go_roundw
      case rel => exact ⟨k + 1, by omega, by go_num, by rw [E1.out]; exact Lib.hid (HK1.out.set_ 0 _), Lib.hid (fun B' hB' => ((HQ.out B' hB').trans (HBb.out.mono (by omega))).setCell (p := ⟨sb, 0, none⟩) hB' _), Lib.hid (fun p hp hp2 => by
        have hle := (HQ.out 0 (Nat.zero_le _)).size
        refine (World.cell?_setCell_other _ ⟨sb, 0, none⟩ p _ (fun h => hp2 (congrArg Addr.block h).symm)).trans ?_
        rw [HBb.out.cell (by omega)]
        exact HC.out p hp hp2)⟩
      case measure => simp [intOf]; omega
    · obtain rfl : k = n := by omega
      have E1 : Hid (L.take k = L) := Lib.hid (List.take_of_length_le (by rw [HLn.out]; exact Nat.le_refl _))
      rw [E1.out] at HK
      go_wp2
      go_end0
      exact ⟨rfl, HK.out, HQ.out⟩
def layX : List (ByteArray × ByteArray) → ByteArray
  | [] => ByteArray.empty
  | p :: l => txL p.1 ++ (txL p.2 ++ layX l)
theorem layX_app (a b : List (ByteArray × ByteArray)) : layX (a ++ b) = layX a ++ layX b := by
  induction a with
  | nil => rw [List.nil_append, layX, ByteArray.empty_append]
  | cons p a ih => rw [List.cons_append, layX, layX, ih]; simp only [ByteArray.append_assoc]
/-- The bytes of a set of attributes. -/
def layA (a : Att) : ByteArray := ⟨#[a.nd]⟩ ++ numsB [a.md.toNat, a.ui.toNat, a.gi.toNat, a.mt.toNat] ++ (if a.nd.toNat = 3 then txL a.tg else ByteArray.empty) ++ numsB [a.xs.length] ++ layX a.xs
def putR (a : Att) : ByteArray := if chkA a = 0 then layA a else ByteArray.empty
theorem byte_cv (wr : World) (u : UInt8) (x : Int) (hx : x = (u.toNat : Int)) (j : Nat) (hj : j < 1) : (wr.alloc (.cells #[.int .u8 x] 5)).cell? (({ block := wr.heap.size, off := 0 } : Addr).add j) = some (.int .u8 (([u].getD j 0).toNat : Int)) := by
  obtain rfl : j = 0 := by omega
  rw [add0, hx]
  exact (World.rowIs_alloc wr #[.int .u8 (u.toNat : Int)] 5 (fun _ => .int .u8 (u.toNat : Int)) (fun i hi => by
    have : i = 0 := by simpa using hi
    subst this; rfl)).cell (i := 0) (by simp)
theorem reads_row (w : World) (cs : Array Value) (e : TypeId) (n : Nat) (h : cs.size = n) (hn : 0 < n) : Reads (w.alloc (.cells cs e)) (w.heap.size + 1) 1 (some ⟨w.heap.size, 0, none⟩) n cs.toList :=
  ⟨by rw [Array.length_toList, h, Nat.mul_one], fun _ => (reads_new w cs e n h).2 (by omega)⟩
theorem nmE_size {s : ByteArray} (h : nmE s = 0) : s.size ≤ 255 := by
  unfold nmE at h
  by_cases hc : (whR s).2 = false ∨ (whR s).1 < 1 ∨ 64 < (whR s).1 ∨ 255 < s.size ∨ dots s = true
  · rw [if_pos hc] at h; cases h
  · rcases Nat.lt_or_ge 255 s.size with h' | h'
    · exact absurd (.inr (.inr (.inr (.inl h')))) hc
    · exact h'
theorem chkX_sizes : ∀ (l : List (ByteArray × ByteArray)) (last : ByteArray), chkX last l = true → ∀ p ∈ l, p.1.size ≤ 255 ∧ p.2.size ≤ 4096
  | [], _, _, p, hp => by cases hp
  | q :: l, last, h, p, hp => by
    rw [chkX] at h
    simp only [Bool.and_eq_true, decide_eq_true_eq] at h
    obtain ⟨⟨⟨h1, h2⟩, h3⟩, h4⟩ := h
    rcases List.mem_cons.1 hp with rfl | hp
    · exact ⟨nmE_size h1, h2⟩
    · exact chkX_sizes l _ h4 p hp
theorem txL_size (t : ByteArray) : t.size + 1 ≤ (txL t).size ∧ (txL t).size ≤ t.size + 10 := by
  have := putN_length 9 t.size
  rw [txL, ByteArray.size_append, bs_size]
  show _ + 1 ≤ (putN 9 t.size).length + _ ∧ (putN 9 t.size).length + _ ≤ _
  omega
theorem layX_size : ∀ (l : List (ByteArray × ByteArray)), (∀ p ∈ l, p.1.size ≤ 255 ∧ p.2.size ≤ 4096) → (layX l).size ≤ 4371 * l.length
  | [], _ => Nat.le_refl _
  | p :: l, h => by
    have h1 := h p (List.mem_cons_self ..)
    have h2 := layX_size l (fun q hq => h q (List.mem_cons_of_mem _ hq))
    have a := txL_size p.1
    have b := txL_size p.2
    rw [layX, ByteArray.size_append, ByteArray.size_append, List.length_cons]
    omega
theorem layX_take (l : List (ByteArray × ByteArray)) (k : Nat) (hk : k < l.length) : layX (l.take (k + 1)) = layX (l.take k) ++ (txL (l[k]).1 ++ txL (l[k]).2) := by
  rw [List.take_add_one, List.getElem?_eq_getElem hk, layX_app, Option.toList_some, layX, layX, ByteArray.append_empty]
theorem chkA_zero {a : Att} (h : chkA a = 0) : chk1 a = false ∧ chk2 a = false ∧ chkX ByteArray.empty a.xs = true := by
  rw [chkA] at h
  by_cases hc : chk1 a = true ∨ chk2 a = true ∨ chkX ByteArray.empty a.xs = false
  · rw [if_pos hc] at h; cases h
  · refine ⟨?_, ?_, ?_⟩
    · cases e : chk1 a with
      | false => rfl
      | true => exact absurd (.inl e) hc
    · cases e : chk2 a with
      | false => rfl
      | true => exact absurd (.inr (.inl e)) hc
    · cases e : chkX ByteArray.empty a.xs with
      | true => rfl
      | false => exact absurd (.inr (.inr e)) hc
theorem chk1_false {a : Att} (h : chk1 a = false) : 1 ≤ a.nd.toNat ∧ a.nd.toNat ≤ 3 ∧ a.md.toNat ≤ 4095 ∧ 0 ≤ a.mt ∧ a.mt ≤ 1099511627776 := by
  simp only [chk1, Bool.or_eq_false_iff, decide_eq_false_iff_not] at h
  omega
theorem chk2_false {a : Att} (h : chk2 a = false) : (decide (a.nd.toNat = 3) = !a.tg.toList.isEmpty) ∧ a.tg.size ≤ 1024 ∧ nul a.tg = false ∧ a.xs.length ≤ 16 := by
  simp only [chk2, Bool.or_eq_false_iff, decide_eq_false_iff_not] at h
  obtain ⟨⟨⟨q1, q2⟩, q3⟩, q4⟩ := h
  refine ⟨?_, by omega, q3, by omega⟩
  generalize decide (a.nd.toNat = 3) = x at *
  generalize a.tg.toList.isEmpty = y at *
  cases x <;> cases y <;> first | rfl | cases q1
set_option maxRecDepth 100000 in
set_option maxHeartbeats 1000000 in
theorem attPut_any (a : Att) (A : Option Addr) (n c : Nat) (w : World) (B : Nat) (hr : Reads w B 2 A n (xtV a.xs)) (hB : B ≤ w.heap.size) (hf : a.fit) (hn : n ≤ 4611686018427387904) (ht : a.tg.size ≤ 4611686018427387904) (hz : ∀ p ∈ a.xs, p.1.size ≤ 4611686018427387904 ∧ p.2.size ≤ 4611686018427387904) :
    Calls Tryd.prog 14 #[.agg (attV a A n c)] w fun e w' => e = .returned (.tuple #[.string (putR a), .int .i64 (chkA a)]) ∧ Below w.heap.size w w' := by
  have HR := Lib.hid hr
  have HZ := Lib.hid hz
  have HL := Lib.hid hr.xtLen
  have HB0 : Hid (Blk (w.alloc (.cells (attV a A n c) 27)) w.heap.size 27 (attV a A n c) ∧ Below w.heap.size w (w.alloc (.cells (attV a A n c) 27))) := Lib.hid ⟨Blk.new _ _ _, (Below.refl _ _).alloc (Nat.le_refl _) _⟩
  have hmf : ∀ (fn : Fn) (first cap : Array Value) (w : World), (Instr.makeFunc fn first cap).run Tryd.prog w = .ok (.func fn first cap) w := fun _ _ _ _ => rfl
  have CH := Lib.hid (fun W hb => attChk_any a A n c W B (HR.out.below (Below.mono hb hB)) (Nat.le_trans hB hb.size) hf hn ht hz)
  clear hr hz
  go_enter Tryd.func14, Tryd.ntmps14
  go_upto_region 1 with fail
  generalize w.alloc (.cells (attV a A n c) 27) = w1 at HB0 ⊢
  obtain ⟨c0, c1, c2, c3, c4, c5, c6⟩ := att_cells a A n c w1 _ HB0.out.1
  go_wp2_with fail
  change Calls _ _ #[.agg (attV a A n c)] _ _
  (with_reducible refine (CH.out w1 HB0.out.2).mono ?_)
  rintro e w2 ⟨rfl, hb2⟩
  have HB2 : Hid (Blk w2 w.heap.size 27 (attV a A n c) ∧ Below w.heap.size w w2) := Lib.hid ⟨HB0.out.1.below hb2 HB0.out.1.lt, HB0.out.2.trans (hb2.mono HB0.out.2.size)⟩
  clear c0 c1 c2 c3 c4 c5 c6 hb2 HB0 CH
  by_cases hch : chkA a = 0
  · have E : Hid (putR a = layA a) := Lib.hid (by rw [putR, if_pos hch])
    obtain ⟨k1, k2, k3⟩ := chkA_zero hch
    obtain ⟨j1, j2, j3, j4, j5⟩ := chk1_false k1
    obtain ⟨j6, j7, j8, j9⟩ := chk2_false k2
    have K3 := Lib.hid k3
    clear k1 k2 k3 j6 j8
    have hmt : ∃ mt : Nat, a.mt = (mt : Int) ∧ mt ≤ 1099511627776 := ⟨a.mt.toNat, by omega, by omega⟩
    obtain ⟨mt, hmt1, hmt2⟩ := hmt
    have HC0 := Lib.hid hch
    rw [hch]
    obtain ⟨c0, c1, c2, c3, c4, c5, c6⟩ := att_cells a A n c w2 _ HB2.out.1
    rw [hmt1] at c4
    have LA : Hid (layA a = ⟨#[a.nd]⟩ ++ numsB [a.md.toNat, a.ui.toNat, a.gi.toNat, mt] ++ (if a.nd.toNat = 3 then txL a.tg else ByteArray.empty) ++ numsB [n] ++ layX a.xs) := Lib.hid (by rw [layA, HL.out, hmt1]; rfl)
    have HMT := Lib.hid hmt1
    clear hch hmt1
    have RC := Lib.hid (fun j hj => byte_cv w2 a.nd (a.nd.toNat : Int) rfl j hj)
    have hlt2 := HB2.out.1.lt
    go_upto_region 6 with (with_reducible refine conv_str_wp (e := 5) (by kernel_rfl) (by kernel_rfl) (by kernel_rfl) rfl _ rfl ⟨w2.heap.size, 0, none⟩ 1 1 rfl [a.nd] rfl RC.out ?_)
    obtain ⟨s0, hs0⟩ : ∃ s0, bs [a.nd] = s0 := ⟨_, rfl⟩
    have hz0 : s0.size = 1 := by rw [← hs0, bs_size]; rfl
    rw [show (⟨#[a.nd]⟩ : ByteArray) = s0 from hs0] at LA
    rw [hs0]
    have HB3 : Hid (Blk ((w2.alloc (.cells #[.int .u8 (a.nd.toNat : Int)] 5)).alloc (.cells #[.string s0] 9)) (w2.heap.size + 1) 9 #[.string s0] ∧ Blk ((w2.alloc (.cells #[.int .u8 (a.nd.toNat : Int)] 5)).alloc (.cells #[.string s0] 9)) w.heap.size 27 (attV a A n c) ∧ Below w.heap.size w ((w2.alloc (.cells #[.int .u8 (a.nd.toNat : Int)] 5)).alloc (.cells #[.string s0] 9)) ∧ w.heap.size < w2.heap.size + 1) := Lib.hid ⟨by
      have := Blk.new (w2.alloc (.cells #[.int .u8 (a.nd.toNat : Int)] 5)) 9 #[.string s0]
      rwa [show (w2.alloc (.cells #[.int .u8 (a.nd.toNat : Int)] 5)).heap.size = w2.heap.size + 1 from by simp] at this, (HB2.out.1.alloc _).alloc _, (HB2.out.2.alloc HB2.out.2.size _).alloc (by have := HB2.out.2.size; simp; omega) _, by omega⟩
    generalize (w2.alloc (.cells #[.int .u8 (a.nd.toNat : Int)] 5)).alloc (.cells #[.string s0] 9) = w3 at HB3 ⊢
    generalize w2.heap.size + 1 = sb at HB3 ⊢
    clear c0 c1 c2 c3 c4 c5 c6 RC HB2 hs0 hlt2
    have hsb := HB3.out.2.2.2
    obtain ⟨c0, c1, c2, c3, c4, c5, c6⟩ := att_cells a A n c w3 _ HB3.out.2.1
    have hb2 := a.md.toNat_lt
    have hb3 := a.ui.toNat_lt
    have hb4 := a.gi.toNat_lt
    rw [HMT.out] at c4
    have hr4 := reads_row w3 #[.int .u64 (a.md.toNat : Int), .int .u64 (a.ui.toNat : Int), .int .u64 (a.gi.toNat : Int), .int .u64 (mt : Int)] 62 4 rfl (by omega)
    have P4 := Lib.hid (putF_any (some ⟨w3.heap.size, 0, none⟩) 4 4 [a.md.toNat, a.ui.toNat, a.gi.toNat, mt] sb s0 (w3.alloc (.cells #[.int .u64 (a.md.toNat : Int), .int .u64 (a.ui.toNat : Int), .int .u64 (a.gi.toNat : Int), .int .u64 (mt : Int)] 62)) (w3.heap.size + 1) hr4 (by simp) (fun ad h => by injection h with h; rw [← h]; have := HB3.out.1.lt; show w3.heap.size ≠ sb; omega) (HB3.out.1.alloc _) (fun x hx => by
      have hb2 := a.md.toNat_lt
      have hb3 := a.ui.toNat_lt
      have hb4 := a.gi.toNat_lt
      simp only [List.mem_cons, List.not_mem_nil, or_false] at hx
      omega) (by omega) (by omega))
    clear hr4
    go_wp2_with fail
    (with_reducible refine P4.out.mono ?_)
    rintro e w4 ⟨rfl, hk4, hq4⟩
    have HB4 : Hid (Blk w4 sb 9 #[.string (s0 ++ numsB [a.md.toNat, a.ui.toNat, a.gi.toNat, mt])] ∧ Blk w4 w.heap.size 27 (attV a A n c) ∧ Below w.heap.size w w4) := Lib.hid ⟨hk4, (HB3.out.2.1.alloc _).below (hq4 sb (Nat.le_refl _)) hsb, (HB3.out.2.2.1.alloc HB3.out.2.2.1.size _).trans (hq4 _ (by omega))⟩
    have hn1 := numsB_size [a.md.toNat, a.ui.toNat, a.gi.toNat, mt]
    obtain ⟨s1, hs1⟩ : ∃ s1, s0 ++ numsB [a.md.toNat, a.ui.toNat, a.gi.toNat, mt] = s1 := ⟨_, rfl⟩
    rw [hs1] at HB4 LA
    have hz1 : s1.size ≤ 50 := by rw [← hs1, ByteArray.size_append]; simp only [List.length_cons, List.length_nil] at hn1; omega
    clear hs1 hn1 hk4 hq4 P4 HB3 c0 c1 c2 c3 c4 c5 c6 hb2 hb3 hb4
    obtain ⟨c0, c1, c2, c3, c4, c5, c6⟩ := att_cells a A n c w4 _ HB4.out.2.1
    have d0 : w4.cell? ⟨sb, 0, none⟩ = some (.string s1) := HB4.out.1.cell 0
    obtain ⟨s2, hs2⟩ : ∃ s2, (s1 ++ if a.nd.toNat = 3 then txL a.tg else ByteArray.empty) = s2 := ⟨_, rfl⟩
    rw [hs2] at LA
    have HS2 := Lib.hid hs2
    clear hs2
    go_upto_if 36 with fail
    go_cut [40] (fun v40 wx => Hid (Blk wx sb 9 #[.string s2] ∧ Blk wx w.heap.size 27 (attV a A n c) ∧ Below w.heap.size w wx))
    case first =>
      by_cases h3 : a.nd.toNat = 3
      · have q3 : ((a.nd.toNat : Int) == 3) = true := by rw [beq_iff_eq]; omega
        have E2 : Hid (s1 ++ txL a.tg = s2) := Lib.hid (by rw [← HS2.out, if_pos h3])
        have PT := Lib.hid (fun W => putText_any s1 a.tg W (by omega) (by omega))
        rw [E2.out] at PT
        clear h3
        go_wp2_with fail
        (with_reducible refine (PT.out _).mono ?_)
        rintro e w5 ⟨rfl, hb5⟩
        have HB5 : Hid (Blk w5 sb 9 #[.string s1] ∧ Blk w5 w.heap.size 27 (attV a A n c) ∧ Below w.heap.size w w5) := Lib.hid ⟨HB4.out.1.below hb5 HB4.out.1.lt, HB4.out.2.1.below hb5 HB4.out.2.1.lt, HB4.out.2.2.trans (hb5.mono HB4.out.2.2.size)⟩
        clear hb5 PT d0
        have d0 : w5.cell? ⟨sb, 0, none⟩ = some (.string s1) := HB5.out.1.cell 0
        have f0 : w5.frozen? ⟨sb, 0, none⟩ = false := HB5.out.1.frozen 0
        go_wp2
        go_meet
        exact Lib.hid ⟨HB5.out.1.set_ 0 _, HB5.out.2.1.far (p := ⟨sb, 0, none⟩) (by show w.heap.size ≠ sb; omega) _, HB5.out.2.2.setCell (p := ⟨sb, 0, none⟩) (by show w.heap.size ≤ sb; omega) _⟩
      · have q3 : ((a.nd.toNat : Int) == 3) = false := by rw [beq_eq_false_iff_ne]; omega
        have E2 : Hid (s1 = s2) := Lib.hid (by rw [← HS2.out, if_neg h3, ByteArray.append_empty])
        clear h3
        go_wp2
        go_meet
        rw [← E2.out]
        exact HB4
    case rest =>
      have HB6 := hcut
      have hz2 : s2.size ≤ 2000 := by
        rw [← HS2.out]
        split
        · have := putN_length 9 a.tg.size
          rw [txL, ByteArray.size_append, ByteArray.size_append, bs_size]
          show _ + ((putN 9 a.tg.size).length + _) ≤ _
          omega
        · rw [ByteArray.append_empty]; omega
      clear hcut HS2 HB4 d0 c0 c1 c2 c3 c4 c5 c6 hz1
      have d0 : wc.cell? ⟨sb, 0, none⟩ = some (.string s2) := HB6.out.1.cell 0
      have c6 : wc.cell? ⟨w.heap.size, 6, none⟩ = some (.slice A n c) := HB6.out.2.1.cell 6
      have hn16 : n ≤ 16 := by have := HL.out; omega
      have hr1 := reads_row wc #[.int .u64 (n : Int)] 62 1 rfl (by omega)
      have P1 := Lib.hid (putF_any (some ⟨wc.heap.size, 0, none⟩) 1 1 [n] sb s2 (wc.alloc (.cells #[.int .u64 (n : Int)] 62)) (wc.heap.size + 1) hr1 (by simp) (fun ad h => by injection h with h; rw [← h]; have := HB6.out.1.lt; show wc.heap.size ≠ sb; omega) (HB6.out.1.alloc _) (fun x hx => by
        simp only [List.mem_cons, List.not_mem_nil, or_false] at hx
        omega) (by omega) (by omega))
      clear hr1
      go_wp2_with fail
      (with_reducible refine P1.out.mono ?_)
      rintro e w5 ⟨rfl, hk5, hq5⟩
      have HB7 : Hid (Blk w5 sb 9 #[.string (s2 ++ numsB [n])] ∧ Blk w5 w.heap.size 27 (attV a A n c) ∧ Below w.heap.size w w5) := Lib.hid ⟨hk5, (HB6.out.2.1.alloc _).below (hq5 sb (Nat.le_refl _)) hsb, (HB6.out.2.2.alloc HB6.out.2.2.size _).trans (hq5 _ (by omega))⟩
      have hn1 := numsB_size [n]
      obtain ⟨s3, hs3⟩ : ∃ s3, s2 ++ numsB [n] = s3 := ⟨_, rfl⟩
      rw [hs3] at HB7 LA
      have hz3 : s3.size ≤ 2010 := by rw [← hs3, ByteArray.size_append]; simp only [List.length_cons, List.length_nil] at hn1; omega
      clear hs3 hn1 hk5 hq5 P1 HB6 c6 d0
      have c6 : w5.cell? ⟨w.heap.size, 6, none⟩ = some (.slice A n c) := HB7.out.2.1.cell 6
      have SZ := Lib.hid (chkX_sizes a.xs _ K3.out)
      go_wp2_with fail
      go_loopw [51] (fun i wr => ∃ k : Nat, k ≤ n ∧ i = .int .i64 k ∧ Hid (Blk wr sb 9 #[.string (s3 ++ layX (a.xs.take k))] ∧ Below w.heap.size w wr)) (fun i _ => n - (intOf i).toNat)
      case atStart => exact ⟨0, by omega, rfl, Lib.hid ⟨by rw [List.take_zero, layX, ByteArray.append_empty]; exact HB7.out.1, HB7.out.2.2⟩⟩
      case round =>
        obtain ⟨k, hk, rfl, HK⟩ := hrel
        by_cases hlt : k < n
        · obtain ⟨ad, hkl, rfl, hbl, x0, x1⟩ := xt_cells HR.out k hlt
          have HT := Lib.hid (layX_take a.xs k hkl)
          obtain ⟨z1, z2⟩ := SZ.out _ (List.getElem_mem hkl)
          have hzl : (layX (a.xs.take k)).size ≤ 4371 * 16 := by
            have h1 := layX_size (a.xs.take k) (fun p hp => SZ.out p (List.mem_of_mem_take hp))
            have h2 : (a.xs.take k).length ≤ 16 := by rw [List.length_take]; omega
            omega
          have y0 : wr.cell? (ad.add (k * 2)) = some (.string (a.xs[k]).1) := by rw [HK.out.2.cell (by rw [block_of_add]; omega)]; exact x0
          have y1 : wr.cell? ⟨(ad.add (k * 2)).block, (ad.add (k * 2)).off + 1, none⟩ = some (.string (a.xs[k]).2) := by
            show wr.cell? ((ad.add (k * 2)).add 1) = _
            rw [HK.out.2.cell (by rw [block_of_add, block_of_add]; omega)]; exact x1
          obtain ⟨x, hx⟩ : ∃ x, a.xs[k] = x := ⟨_, rfl⟩
          rw [hx] at HT z1 z2 y0 y1
          obtain ⟨t, htt⟩ : ∃ t, s3 ++ layX (a.xs.take k) = t := ⟨_, rfl⟩
          have HT2 : Hid (s3 ++ layX (a.xs.take (k + 1)) = t ++ txL x.1 ++ txL x.2) := Lib.hid (by rw [HT.out, ← htt]; simp only [ByteArray.append_assoc])
          have hzt : t.size ≤ 100000 := by rw [← htt, ByteArray.size_append]; omega
          rw [htt] at HK
          clear hx x0 x1 htt HT hzl c6
          have hki : (k : Int) < (n : Int) := by omega
          have T1 := Lib.hid (fun W => putText_any t x.1 W (by omega) (by omega))
          have zt := txL_size x.1
          have T2 := Lib.hid (fun W => putText_any (t ++ txL x.1) x.2 W (by rw [ByteArray.size_append]; omega) (by omega))
          rw [← HT2.out] at T2
          clear zt
          go_upto_region 13 with fail
          have BN : Hid (Blk (wr.alloc (.cells #[.string x.1, .string x.2] 43)) wr.heap.size 43 #[.string x.1, .string x.2] ∧ Blk (wr.alloc (.cells #[.string x.1, .string x.2] 43)) sb 9 #[.string t] ∧ Below w.heap.size w (wr.alloc (.cells #[.string x.1, .string x.2] 43))) := Lib.hid ⟨Blk.new _ _ _, HK.out.1.alloc _, HK.out.2.alloc HK.out.2.size _⟩
          have hne : sb ≠ wr.heap.size := by have := HK.out.1.lt; omega
          generalize wr.alloc (.cells #[.string x.1, .string x.2] 43) = w6 at BN ⊢
          generalize wr.heap.size = xb at BN hne ⊢
          have KS : Hid (∀ W, Below w6.heap.size w6 W → Blk W sb 9 #[.string t] ∧ W.cell? ⟨xb, 0, none⟩ = some (.string x.1) ∧ W.cell? ⟨xb, 1, none⟩ = some (.string x.2)) := Lib.hid (fun W hW => by
            have a := BN.out.1.below hW BN.out.1.lt
            have b := BN.out.2.1.below hW BN.out.2.1.lt
            exact ⟨b, a.cell 0, a.cell 1⟩)
          have HB0 : Hid (Below w6.heap.size w6 w6.drew) := Lib.hid (Below.refl _ _).drew
          have SA := (KS.out _ HB0.out).2
          have d0 : w6.drew.cell? ⟨sb, 0, none⟩ = some (.string t) := (KS.out _ HB0.out).1.cell 0
          refine wp_region_held_drew (S := fun w' => w'.cell? ⟨xb, 0, none⟩ = some (.string x.1) ∧ w'.cell? ⟨xb, 1, none⟩ = some (.string x.2)) (by kernel_rfl) (by exact SA) (fun hHeld => ?_)
          refine wpAnyH_take (i := 1) (oi := { dst := some 56, op := .fieldAddr 43 (.tmp 8) 0, type := 0, pos := "attrs.go:84", after := #[], guard := none }) (v := _) rfl (by as_aux_lemma => kernel_rfl) (by as_aux_lemma => kernel_rfl) (by as_aux_lemma => kernel_rfl) (fun _ _ _ h => h) (Or.inl ⟨by kernel_rfl, by (intro w hSw; (try dsimp only at hSw); go_simp; first | done | with_reducible rfl)⟩) (by assumption) ?_
          (try simp only [List.getElem_toArray, List.getElem_cons_succ, List.getElem_cons_zero, Act.put, List.setIfInBounds_toArray, List.set_cons_zero, List.set_cons_succ])
          refine wpAnyH_take (i := 2) (oi := { dst := some 57, op := .load 9 (.tmp 56), type := 9, pos := "attrs.go:84", after := #[{ on := 1, ground := .data }], guard := none }) (v := _) rfl (by as_aux_lemma => kernel_rfl) (by as_aux_lemma => kernel_rfl) (by as_aux_lemma => kernel_rfl) (fun _ _ _ h => h) (Or.inl ⟨by kernel_rfl, by (intro w hSw; (try dsimp only at hSw); go_simp; first | done | with_reducible rfl)⟩) (by assumption) ?_
          (try simp only [List.getElem_toArray, List.getElem_cons_succ, List.getElem_cons_zero, Act.put, List.setIfInBounds_toArray, List.set_cons_zero, List.set_cons_succ])
          refine wpAnyH_take (i := 4) (oi := { dst := some 59, op := .fieldAddr 43 (.tmp 8) 1, type := 0, pos := "attrs.go:84", after := #[], guard := none }) (v := _) rfl (by as_aux_lemma => kernel_rfl) (by as_aux_lemma => kernel_rfl) (by as_aux_lemma => kernel_rfl) (fun _ _ _ h => h) (Or.inl ⟨by kernel_rfl, by (intro w hSw; (try dsimp only at hSw); go_simp; first | done | with_reducible rfl)⟩) (by assumption) ?_
          (try simp only [List.getElem_toArray, List.getElem_cons_succ, List.getElem_cons_zero, Act.put, List.setIfInBounds_toArray, List.set_cons_zero, List.set_cons_succ])
          refine wpAnyH_take (i := 5) (oi := { dst := some 60, op := .load 9 (.tmp 59), type := 9, pos := "attrs.go:84", after := #[{ on := 4, ground := .data }], guard := none }) (v := _) rfl (by as_aux_lemma => kernel_rfl) (by as_aux_lemma => kernel_rfl) (by as_aux_lemma => kernel_rfl) (fun _ _ _ h => h) (Or.inl ⟨by kernel_rfl, by (intro w hSw; (try dsimp only at hSw); go_simp; first | done | with_reducible rfl)⟩) (by assumption) ?_
          (try simp only [List.getElem_toArray, List.getElem_cons_succ, List.getElem_cons_zero, Act.put, List.setIfInBounds_toArray, List.set_cons_zero, List.set_cons_succ])
          refine wpAnyH_ready (rs := [0]) (by as_aux_lemma => kernel_rfl) (by simp) (AllReadyH.cons rfl (fun K hK => ?_) AllReadyH.nil)
          try simp only [List.getElem_toArray, List.getElem_cons_succ, List.getElem_cons_zero]
          go_simp
          refine hK.out _ _ (by exact SA) (fun hHeld => ?_)
          clear hK K
          (try simp only [List.getElem_toArray, List.getElem_cons_succ, List.getElem_cons_zero, Act.put, List.setIfInBounds_toArray, List.set_cons_zero, List.set_cons_succ])
          refine wpAnyH_ready (rs := [3]) (by as_aux_lemma => kernel_rfl) (by simp) (AllReadyH.cons rfl (fun K hK => ?_) AllReadyH.nil)
          try simp only [List.getElem_toArray, List.getElem_cons_succ, List.getElem_cons_zero]
          go_simp
          go_at_call 26
          refine (T1.out _).mono ?_
          rintro e wn ⟨rfl, hbn⟩
          have HB1 := Lib.hid (HB0.out.trans (hbn.mono HB0.out.size))
          have SA := (KS.out _ HB1.out).2
          clear hbn
          go_simp
          refine hK.out _ _ (by exact SA) (fun hHeld => ?_)
          clear hK K
          (try simp only [List.getElem_toArray, List.getElem_cons_succ, List.getElem_cons_zero, Act.put, List.setIfInBounds_toArray, List.set_cons_zero, List.set_cons_succ])
          refine wpAnyH_ready (rs := [6]) (by as_aux_lemma => kernel_rfl) (by simp) (AllReadyH.cons rfl (fun K hK => ?_) AllReadyH.nil)
          try simp only [List.getElem_toArray, List.getElem_cons_succ, List.getElem_cons_zero]
          go_simp
          go_at_call 26
          refine (T2.out _).mono ?_
          rintro e wm ⟨rfl, hbm⟩
          have HB2' := Lib.hid (HB1.out.trans (hbm.mono HB1.out.size))
          have hsbk := (KS.out _ HB2'.out).1
          have SA := (KS.out _ HB2'.out).2
          have HSB := Lib.hid hsbk
          have d1 : wm.cell? ⟨sb, 0, none⟩ = some (.string t) := hsbk.cell 0
          have f1 : wm.frozen? ⟨sb, 0, none⟩ = false := hsbk.frozen 0
          clear hbm hsbk
          go_simp
          refine hK.out _ _ (by exact SA) (fun hHeld => ?_)
          clear hK K
          (try simp only [List.getElem_toArray, List.getElem_cons_succ, List.getElem_cons_zero, Act.put, List.setIfInBounds_toArray, List.set_cons_zero, List.set_cons_succ])
          refine wpAnyH_ready (rs := [7]) (by as_aux_lemma => kernel_rfl) (by simp) (AllReadyH.cons rfl (fun K hK => ?_) AllReadyH.nil)
          try simp only [List.getElem_toArray, List.getElem_cons_succ, List.getElem_cons_zero]
          go_simp
          have SA : (wm.setCell ⟨sb, 0, none⟩ (.string (s3 ++ layX (a.xs.take (k + 1))))).cell? ⟨xb, 0, none⟩ = some (.string x.1) ∧ (wm.setCell ⟨sb, 0, none⟩ (.string (s3 ++ layX (a.xs.take (k + 1))))).cell? ⟨xb, 1, none⟩ = some (.string x.2) := by
            refine ⟨(World.cell?_setCell_other _ _ _ _ (fun h => hne (congrArg Addr.block h))).trans SA.1, (World.cell?_setCell_other _ _ _ _ (fun h => hne (congrArg Addr.block h))).trans SA.2⟩
          refine hK.out _ _ (by exact SA) (fun hHeld => ?_)
          clear hK K
          (try simp only [List.getElem_toArray, List.getElem_cons_succ, List.getElem_cons_zero, Act.put, List.setIfInBounds_toArray, List.set_cons_zero, List.set_cons_succ])
          refine wpAnyH_done (by as_aux_lemma => kernel_rfl) ?_ _
          have HK' : Hid (Blk (wm.setCell ⟨sb, 0, none⟩ (.string (s3 ++ layX (a.xs.take (k + 1))))) sb 9 #[.string (s3 ++ layX (a.xs.take (k + 1)))] ∧ Below w.heap.size w (wm.setCell ⟨sb, 0, none⟩ (.string (s3 ++ layX (a.xs.take (k + 1)))))) := Lib.hid ⟨HSB.out.set_ 0 _, (BN.out.2.2.trans (HB2'.out.mono BN.out.2.2.size)).setCell (p := ⟨sb, 0, none⟩) (by show w.heap.size ≤ sb; omega) _⟩
          go_wp2
          go_roundw
          case rel => exact ⟨k + 1, by omega, by go_num, HK'⟩
          case measure => simp [intOf]; omega
        · obtain rfl : k = n := by omega
          have F : Hid (s3 ++ layX a.xs = layA a) := Lib.hid LA.out.symm
          have HK2 : Hid (Blk wr sb 9 #[.string (layA a)] ∧ Below w.heap.size w wr) := Lib.hid (by
            have := HK.out
            rw [List.take_of_length_le (by rw [HL.out]; exact Nat.le_refl _), F.out] at this
            exact this)
          have d0 : wr.cell? ⟨sb, 0, none⟩ = some (.string (layA a)) := HK2.out.1.cell 0
          rw [← E.out] at d0
          go_wp2
          go_ret2
          exact ⟨by rw [HC0.out]; rfl, HK2.out.2⟩
  · have E : Hid (putR a = ByteArray.empty) := Lib.hid (by rw [putR, if_neg hch])
    have hch1 : (chkA a != 0) = true := by rw [bne_iff_ne]; exact hch
    clear hch
    go_wp2
    go_ret2
    exact ⟨by rw [E.out]; rfl, HB2.out.2⟩
end Go.Proofs.YtpfccicahfncbaaDoor
namespace Go.Proofs.YtpfccicahfncbaaDoor
open Go.RowKit Wir
set_option linter.unusedVariables false
/-- A set of attributes, and where its list lies. -/
structure AttM where
  a : Att
  A : Option Addr
  n : Nat
  c : Nat
def AttM.v (q : AttM) : List Value := (attV q.a q.A q.n q.c).toList
def attsV (M : List AttM) : List Value := M.flatMap AttM.v
theorem attM_len (q : AttM) : q.v.length = 7 := rfl
theorem attsV_length (M : List AttM) : (attsV M).length = M.length * 7 := by
  induction M with
  | nil => rfl
  | cons q M ih =>
    show (q.v ++ attsV M).length = _
    rw [List.length_append, ih, List.length_cons, attM_len]
    omega
theorem attsV_app (a b : List AttM) : attsV (a ++ b) = attsV a ++ attsV b := by unfold attsV; rw [List.flatMap_append]
theorem attsV_get (M : List AttM) (i j : Nat) (h : i < M.length) (hj : j < 7) : (attsV M)[i * 7 + j]? = (M[i]).v[j]? := by
  induction M generalizing i with
  | nil => simp at h
  | cons q M ih =>
    have e : attsV (q :: M) = q.v ++ attsV M := rfl
    rw [e]
    cases i with
    | zero => rw [Nat.zero_mul, Nat.zero_add, List.getElem?_append_left (by rw [attM_len]; exact hj)]; rfl
    | succ i =>
      rw [List.getElem?_append_right (by rw [attM_len]; omega), attM_len, show (i + 1) * 7 + j - 7 = i * 7 + j from by omega, ih i (by simpa using h), List.getElem_cons_succ]
theorem attsV_take (M : List AttM) (k : Nat) (hk : k < M.length) : attsV (M.take (k + 1)) = attsV (M.take k) ++ (M[k]).v := by
  rw [List.take_add_one, List.getElem?_eq_getElem hk, attsV_app]
  show _ ++ ((M[k]).v ++ []) = _
  rw [List.append_nil]
theorem attsV_one (M : List AttM) : ∀ u ∈ attsV M, u.oneCell' = true := fun u hu => by
  obtain ⟨q, _, hq⟩ := List.mem_flatMap.1 hu
  simp only [AttM.v, attV, List.mem_cons, List.not_mem_nil, or_false] at hq
  rcases hq with rfl | rfl | rfl | rfl | rfl | rfl | rfl <;> rfl
theorem Reads.attLen {w : World} {B n : Nat} {A : Option Addr} {M : List AttM} (h : Reads w B 7 A n (attsV M)) : M.length = n := by
  have := h.1; rw [attsV_length] at this; omega
/-- The i-th set's cells. -/
theorem atts_cells {w : World} {B n : Nat} {A : Option Addr} {M : List AttM} (h : Reads w B 7 A n (attsV M)) (i : Nat) (hi : i < n) :
    ∃ (ad : Addr) (hl : i < M.length), A = some ad ∧ ad.block < B ∧ ∀ j, j < 7 → w.cell? ((ad.add (i * 7)).add j) = (M[i]).v[j]? := by
  obtain ⟨ad, e, hb, hc⟩ := h.2 (by omega)
  have hl : i < M.length := by have := h.attLen; omega
  refine ⟨ad, hl, e, hb, fun j hj => ?_⟩
  have hz : j < (M[i]).v.length := by rw [attM_len]; exact hj
  rw [add_of_add, List.getElem?_eq_getElem hz]
  exact hc _ _ ((attsV_get M i j hl hj).trans (List.getElem?_eq_getElem hz))
/-- The lists of all of them read as they should. -/
def AllRd (w : World) (B : Nat) (M : List AttM) : Prop := ∀ q ∈ M, Reads w B 2 q.A q.n (xtV q.a.xs)
theorem AllRd.below {w w' : World} {B : Nat} {M : List AttM} (h : AllRd w B M) (hb : Below B w w') : AllRd w' B M := fun q hq => (h q hq).below hb
/-- Sizes that a set of attributes in memory has. -/
def Att.sized (a : Att) : Prop := a.fit ∧ a.tg.size ≤ 140737488355328 ∧ ∀ p ∈ a.xs, p.1.size ≤ 140737488355328 ∧ p.2.size ≤ 140737488355328
/-- A stream, s being there already. -/
def strF : ByteArray → List Att → ByteArray × Int
  | s, [] => (s, 0)
  | s, a :: l => if chkA a = 0 then strF (s ++ txL (layA a)) l else (ByteArray.empty, 1)
def strR (l : List Att) : ByteArray × Int := if l.length < 1 ∨ 257 < l.length then (ByteArray.empty, 1) else strF (bs (putL l.length)) l
theorem chkA_or (a : Att) : chkA a = 0 ∨ chkA a = 1 := by
  unfold chkA
  split
  · exact .inr rfl
  · exact .inl rfl
theorem layA_size {a : Att} (h : chkA a = 0) : (layA a).size ≤ 80000 := by
  obtain ⟨h1, h2, h3⟩ := chkA_zero h
  obtain ⟨_, q2, _, q4⟩ := chk2_false h2
  have a1 := numsB_size [a.md.toNat, a.ui.toNat, a.gi.toNat, a.mt.toNat]
  have a2 := numsB_size [a.xs.length]
  have a3 := layX_size a.xs (chkX_sizes a.xs _ h3)
  have a4 := txL_size a.tg
  have a5 : (if a.nd.toNat = 3 then txL a.tg else ByteArray.empty).size ≤ 1034 := by
    split
    · omega
    · exact Nat.zero_le _
  have a6 : (⟨#[a.nd]⟩ : ByteArray).size = 1 := rfl
  rw [layA, ByteArray.size_append, ByteArray.size_append, ByteArray.size_append, ByteArray.size_append]
  simp only [List.length_cons, List.length_nil] at a1 a2
  omega
end Go.Proofs.YtpfccicahfncbaaDoor
namespace Go.Proofs.YtpfccicahfncbaaDoor
open Go.RowKit Wir
/-- A set of attributes as a law is handed it. -/
def AttM.good (W : World) (q : AttM) : Prop := Reads W W.heap.size 2 q.A q.n (xtV q.a.xs) ∧ q.a.sized ∧ q.n * 32 ≤ 140737488351232 ∧ q.n ≤ q.c
end Go.Proofs.YtpfccicahfncbaaDoor
namespace Go.Proofs.YtpfccicahfncbaaDoor
open Go.RowKit Go.WideShapes Go.ChangeShapes
theorem u32_of_wf {n : Int} (h : (Lit.int .u32 n).wf = true) : ∃ a : UInt32, n = (a.toNat : Int) := by
  have h := bounds_u32 h
  refine ⟨UInt32.ofNat n.toNat, ?_⟩
  rw [UInt32.toNat_ofNat']
  omega
theorem lit_reach {s : ByteArray} (h : s.data.toList.length ≤ reachBytes) : s.size ≤ 140737488355328 := by
  have := str_reach h
  omega
section
variable {H : Type} {enc : TypeId × Value → H} {W : World}
theorem weights_in {P : Program} {e : TypeId} : ∀ (l : List (DataW H)) (d : DataW H), d ∈ l → ∀ n ∈ d.weights P e, n ∈ DataW.weightsAll P e l
  | [], _, h, _, _ => by cases h
  | x :: r, d, h, n, hn => by
    simp only [DataW.weightsAll, List.mem_append]
    rcases List.mem_cons.1 h with rfl | h
    · exact .inl hn
    · exact .inr (weights_in r d h n hn)
set_option maxRecDepth 100000 in
theorem xattr_open {base fuel : Nat} {L : List Value} {x : DataW H × List MemPlace} {sp : Nat → Bool} {held : Bool}
    (hd : DataW.trod enc Tryd.prog W base sp held fuel 60 L = some x) : ∃ p : ByteArray × ByteArray, L = xtC p ∧ x.1 = .agg [.lit (.string p.1.data.toList), .lit (.string p.2.data.toList)] := by
  have hu := Tryd.underlying60
  obtain ⟨y0, y1, m, rfl, hlen, e0, e1⟩ := trod_struct2 hu hd
  have h2 : L.length = 2 := by rw [hlen]; kernel_rfl
  obtain ⟨s, hS, hy0, hz0⟩ := DataW.trod_string (P := Tryd.prog) Tryd.underlying9 e0
  obtain ⟨t, hT, hy1, hz1⟩ := DataW.trod_string (P := Tryd.prog) Tryd.underlying9 e1
  have k1 : Tryd.prog.cellsOf 9 = 1 := by kernel_rfl
  have hS' : (L.drop 0).take 1 = [.string s] := by rw [← k1]; exact hS
  have hT' : (L.drop 1).take 1 = [.string t] := by rw [← k1]; exact hT
  refine ⟨(s, t), ?_, by rw [hy0, hy1]⟩
  match L, h2, hS', hT' with
  | [x, y], _, h1, h2 =>
    simp at h1 h2
    rw [h1, h2]; rfl
set_option maxRecDepth 100000 in
theorem xs_open {base fuel : Nat} {cs : List Value} {x : DataW H × List MemPlace} {sp : Nat → Bool} {held : Bool}
    (hd : DataW.trod enc Tryd.prog W base sp held fuel 29 cs = some x)
    (hall : ∀ n ∈ x.1.weights Tryd.prog 29, n ≤ reachBytes) (mem : ∀ p ∈ x.2, p.block < W.heap.size) :
    ∃ (A : Option Addr) (n c : Nat) (l : List (ByteArray × ByteArray)), cs = [.slice A n c] ∧ Reads W W.heap.size 2 A n (xtV l) ∧ n * 32 ≤ 140737488351232 ∧ (∀ p ∈ l, p.1.size ≤ 140737488355328 ∧ p.2.size ≤ 140737488355328) ∧ n ≤ c := by
  have hu := Tryd.underlying29
  have huo := Tryd.underlying60
  have k2 : Tryd.prog.cellsOf 60 = 2 := by kernel_rfl
  have k32 : Tryd.prog.bytesOf 60 = 32 := by kernel_rfl
  rcases DataW.trod_slice (P := Tryd.prog) hu hd with ⟨h0, hx⟩ | ⟨a, len, cap, elems, rest, n, _, h0, hx, hb, hl, hm, hlen, hel, hsp, hns⟩
  · exact ⟨none, 0, 0, [], h0, Reads.none_, by omega, (fun p hp => by cases hp), Nat.le_refl _⟩
  · rw [k2] at hel
    rw [hx] at hall mem
    dsimp only at hall mem
    have each : ∀ i, ∃ o : ByteArray × ByteArray, i < len → (o.1.size ≤ 140737488355328 ∧ o.2.size ≤ 140737488355328) ∧ W.cell? (a.add (i * 2)) = some (.string o.1) ∧ W.cell? ((a.add (i * 2)).add 1) = some (.string o.2) := fun i => by
      by_cases hi : i < len
      · have h := hel i hi
        rw [List.getElem?_eq_getElem (by omega), Option.bind_eq_some_iff] at h
        obtain ⟨cs', h1, h2⟩ := h
        obtain ⟨o, rfl, hy⟩ := xattr_open h2
        obtain ⟨q1, q2, q3⟩ := World.cells?_some h1
        have g0 := q3 0 (by show 0 < 2; omega)
        have g1 := q3 1 (by show 1 < 2; omega)
        have hw : ∀ n ∈ (elems[i]'(by omega)).1.weights Tryd.prog 60, n ≤ reachBytes := fun n hn => hall n (by
          have := weights_in (P := Tryd.prog) _ _ (List.mem_map_of_mem (f := (·.1)) (List.getElem_mem (show i < elems.length by omega))) n hn
          simp only [DataW.weights, hu, List.mem_cons, List.mem_append]
          exact .inr (.inl this))
        rw [hy] at hw
        refine ⟨o, fun _ => ⟨⟨lit_reach (hw _ ?_), lit_reach (hw _ ?_)⟩, ?_, ?_⟩⟩
        · simp [DataW.weights, huo, DataW.weightsEach]
        · simp [DataW.weights, huo, DataW.weightsEach]
        · simpa [Addr.add, xtC] using g0
        · simpa [xtC] using g1
      · exact ⟨(ByteArray.empty, ByteArray.empty), fun h => absurd h hi⟩
    obtain ⟨S, hS⟩ : ∃ S : Nat → ByteArray × ByteArray, ∀ i, i < len → ((S i).1.size ≤ 140737488355328 ∧ (S i).2.size ≤ 140737488355328) ∧ W.cell? (a.add (i * 2)) = some (.string (S i).1) ∧ W.cell? ((a.add (i * 2)).add 1) = some (.string (S i).2) := ⟨fun i => Classical.choose (each i), fun i => Classical.choose_spec (each i)⟩
    have hlb : len * 32 ≤ 140737488351232 := by
      have := hall ((elems.length + rest.length) * 32) (by simp [DataW.weights, hu, k32])
      unfold reachBytes at this
      omega
    refine ⟨some a, len, cap, (List.range len).map S, h0, ⟨by rw [xtV_length]; simp, fun hn => ⟨a, rfl, ?_, fun k u hk => ?_⟩⟩, hlb, fun x hx' => ?_, hl⟩
    · exact mem _ (List.mem_append_left _ (MemPlace.mem_row.2 ⟨0, by rw [k2]; omega, rfl⟩))
    · have hk2 : k < len * 2 := by
        have := (List.getElem?_eq_some_iff.1 hk).1
        rw [xtV_length] at this
        simpa using this
      obtain ⟨i, hi⟩ : ∃ i, k = i * 2 ∨ k = i * 2 + 1 := ⟨k / 2, by omega⟩
      have hil : i < len := by omega
      obtain ⟨e0, e1⟩ := xtV_get ((List.range len).map S) i (by simpa using hil)
      have hc := (hS i hil).2
      rw [show ((List.range len).map S)[i]'(by simpa using hil) = S i from by simp] at e0 e1
      rcases hi with rfl | rfl
      · rw [e0] at hk
        rw [← Option.some.inj hk]
        exact hc.1
      · rw [e1] at hk
        rw [← Option.some.inj hk, ← add_of_add]
        exact hc.2
    · obtain ⟨i, hi, rfl⟩ := List.mem_map.1 hx'
      exact (hS i (List.mem_range.1 hi)).1
set_option maxRecDepth 100000 in
theorem att_open {base fuel : Nat} {L : List Value} {x : DataW H × List MemPlace} {sp : Nat → Bool} {held : Bool}
    (hd : DataW.trod enc Tryd.prog W base sp held fuel 31 L = some x)
    (hall : ∀ n ∈ x.1.weights Tryd.prog 31, n ≤ reachBytes) (mem : ∀ p ∈ x.2, p.block < W.heap.size) :
    ∃ q : AttM, L = q.v ∧ q.good W := by
  have hu := Tryd.underlying31
  obtain ⟨xs, m, _, hx, hlen, hxs, hel⟩ := DataW.trod_struct (P := Tryd.prog) hu hd
  have h7 : L.length = 7 := by rw [hlen]; kernel_rfl
  have hxs7 : xs.length = 7 := hxs
  have e0 := hel 0 _ rfl
  have e1 := hel 1 _ rfl
  have e2 := hel 2 _ rfl
  have e3 := hel 3 _ rfl
  have e4 := hel 4 _ rfl
  have e5 := hel 5 _ rfl
  have e6 := hel 6 _ rfl
  clear hel hxs hlen
  match xs, hxs7 with
  | [x0, x1, x2, x3, x4, x5, x6], _ =>
  simp only [List.getElem?_cons_zero, List.getElem?_cons_succ] at e0 e1 e2 e3 e4 e5 e6
  obtain ⟨a0, b0, _, w0⟩ := DataW.trod_int (P := Tryd.prog) Tryd.underlying5 e0
  obtain ⟨a1, b1, _, w1⟩ := DataW.trod_int (P := Tryd.prog) Tryd.underlying24 e1
  obtain ⟨a2, b2, _, w2⟩ := DataW.trod_int (P := Tryd.prog) Tryd.underlying24 e2
  obtain ⟨a3, b3, _, w3⟩ := DataW.trod_int (P := Tryd.prog) Tryd.underlying24 e3
  obtain ⟨a4, b4, _, w4⟩ := DataW.trod_int (P := Tryd.prog) Tryd.underlying2 e4
  obtain ⟨t, b5, hy, hz⟩ := DataW.trod_string (P := Tryd.prog) Tryd.underlying9 e5
  rw [hx] at hall mem
  simp only [DataW.weights, hu] at hall
  have h5 : t.size ≤ 140737488355328 := lit_reach (hall _ (by rw [hy]; simp [DataW.weights, DataW.weightsEach]))
  obtain ⟨A, n, c, l, b6, hr, hn, hs, hc⟩ := xs_open e6 (fun n hn => hall n (by simp [DataW.weightsEach]; simp [hn])) (fun p hp => mem p (by simp [hp]))
  have k0 : Tryd.prog.cellsOf 5 = 1 := by kernel_rfl
  have k1 : Tryd.prog.cellsOf 24 = 1 := by kernel_rfl
  have k4 : Tryd.prog.cellsOf 2 = 1 := by kernel_rfl
  have k5 : Tryd.prog.cellsOf 9 = 1 := by kernel_rfl
  have k6 : Tryd.prog.cellsOf 29 = 1 := by kernel_rfl
  have c0 : (L.drop 0).take 1 = [.int .u8 a0] := by rw [← k0]; exact b0
  have c1 : (L.drop 1).take 1 = [.int .u32 a1] := by rw [← k1]; exact b1
  have c2 : (L.drop 2).take 1 = [.int .u32 a2] := by rw [← k1]; exact b2
  have c3 : (L.drop 3).take 1 = [.int .u32 a3] := by rw [← k1]; exact b3
  have c4 : (L.drop 4).take 1 = [.int .i64 a4] := by rw [← k4]; exact b4
  have c5 : (L.drop 5).take 1 = [.string t] := by rw [← k5]; exact b5
  have c6 : (L.drop 6).take 1 = [.slice A n c] := by rw [← k6]; exact b6
  obtain ⟨u0, rfl⟩ := u8_of_wf w0
  obtain ⟨u1, rfl⟩ := u32_of_wf w1
  obtain ⟨u2, rfl⟩ := u32_of_wf w2
  obtain ⟨u3, rfl⟩ := u32_of_wf w3
  have hb := bounds_i64 w4
  refine ⟨⟨⟨u0, u1, u2, u3, a4, t, l⟩, A, n, c⟩, ?_, hr, ⟨hb, h5, hs⟩, hn, hc⟩
  match L, h7, c0, c1, c2, c3, c4, c5, c6 with
  | [l0, l1, l2, l3, l4, l5, l6], _, h0, h1, h2, h3, h4, h5, h6 =>
    simp at h0 h1 h2 h3 h4 h5 h6
    rw [h0, h1, h2, h3, h4, h5, h6]; rfl
def attZ : AttM := ⟨⟨0, 0, 0, 0, 0, ByteArray.empty, []⟩, none, 0, 0⟩
set_option maxRecDepth 100000 in
theorem open_atts {base0 base : Nat} {r : Reach} {v : Value} {d : DataW H} {ps : List MemPlace} {ts : List TypeId} {ds : List (DataW H)} {held : Bool}
    (hval : Value.okWide Tryd.prog W r base0 22 v) (hd : DataW.Trod enc Tryd.prog W base (fun _ => true) held 22 v d ps)
    (hsz : (DataW.weightsEach Tryd.prog ts ds).all (· ≤ reachBytes) = true) (j : Nat) (hts : ts[j]? = some 22) (hds : ds[j]? = some d) (mem : ∀ x ∈ ps, x.block < W.heap.size) :
    ∃ (A : Option Addr) (n c : Nat) (M : List AttM), v = .slice A n c ∧ Reads W W.heap.size 7 A n (attsV M) ∧ n * 64 ≤ 140737488351232 ∧ (∀ q ∈ M, q.good W) ∧ n ≤ c := by
  have hu := Tryd.underlying22
  obtain ⟨a0, len, cap, rfl⟩ := okWide_slice (P := Tryd.prog) hu hval
  obtain ⟨fuel, hf⟩ := hd
  have k7 : Tryd.prog.cellsOf 31 = 7 := by kernel_rfl
  have k64 : Tryd.prog.bytesOf 31 = 64 := by kernel_rfl
  have hcs : (Value.slice a0 len cap).cells.toList = [.slice a0 len cap] := rfl
  rw [hcs] at hf
  rcases DataW.trod_slice (P := Tryd.prog) hu hf with ⟨h0, hx⟩ | ⟨a, len', cap', elems, rest, n, _, h0, hx, hb, hl, hm, hlen, hel, hsp, hns⟩
  · simp at h0
    obtain ⟨rfl, rfl, rfl⟩ := h0
    exact ⟨none, 0, 0, [], rfl, Reads.none_, by omega, (fun q hq => by cases hq), Nat.le_refl _⟩
  · simp at h0
    obtain ⟨rfl, rfl, rfl⟩ := h0
    rw [k7] at hel
    simp only [Prod.mk.injEq] at hx
    have hall : ∀ n ∈ d.weights Tryd.prog 22, n ≤ reachBytes := fun n hn => by
      have := List.all_eq_true.1 hsz _ (DataW.weights_mem_each hts hds n hn)
      simpa using this
    have each : ∀ i, ∃ q : AttM, i < len → q.good W ∧ ∀ j, j < 7 → W.cell? ((a.add (i * 7)).add j) = q.v[j]? := fun i => by
      by_cases hi : i < len
      · have h := hel i hi
        have hie : i < elems.length := by omega
        rw [List.getElem?_eq_getElem hie, Option.bind_eq_some_iff] at h
        obtain ⟨cs, h1, h2⟩ := h
        obtain ⟨q, rfl, hq⟩ := att_open h2 (fun n hn => hall n (by
          have := weights_in (P := Tryd.prog) _ _ (List.mem_map_of_mem (f := (·.1)) (List.getElem_mem hie)) n hn
          rw [hx.1]
          simp only [DataW.weights, hu, List.mem_cons, List.mem_append]
          exact .inr (.inl this))) (fun p hp => mem p (by
            rw [hx.2]
            exact List.mem_append_right _ (List.mem_flatMap.2 ⟨_, List.mem_append_left _ (List.getElem_mem hie), hp⟩)))
        obtain ⟨q1, q2, q3⟩ := World.cells?_some h1
        refine ⟨q, fun _ => ⟨hq, fun j hj => ?_⟩⟩
        have := q3 j hj
        exact this
      · exact ⟨attZ, fun h => absurd h hi⟩
    obtain ⟨S, hS⟩ : ∃ S : Nat → AttM, ∀ i, i < len → (S i).good W ∧ ∀ j, j < 7 → W.cell? ((a.add (i * 7)).add j) = (S i).v[j]? := ⟨fun i => Classical.choose (each i), fun i => Classical.choose_spec (each i)⟩
    have hlb : len * 64 ≤ 140737488351232 := by
      have := hall ((elems.length + rest.length) * 64) (by rw [hx.1]; simp [DataW.weights, hu, k64])
      unfold reachBytes at this
      omega
    refine ⟨some a, len, cap, (List.range len).map S, rfl, ⟨by rw [attsV_length]; simp, fun hn => ⟨a, rfl, ?_, fun k u hk => ?_⟩⟩, hlb, fun x hx' => ?_, hl⟩
    · exact mem _ (by rw [hx.2]; exact List.mem_append_left _ (MemPlace.mem_row.2 ⟨0, by rw [k7]; omega, rfl⟩))
    · have hk2 : k < len * 7 := by
        have := (List.getElem?_eq_some_iff.1 hk).1
        rw [attsV_length] at this
        simpa using this
      obtain ⟨i, j, hj, rfl⟩ : ∃ i j, j < 7 ∧ k = i * 7 + j := ⟨k / 7, k % 7, by omega, by omega⟩
      have hil : i < len := by omega
      have e := attsV_get ((List.range len).map S) i j (by simpa using hil) hj
      rw [show ((List.range len).map S)[i]'(by simpa using hil) = S i from by simp] at e
      rw [e] at hk
      rw [← add_of_add, (hS i hil).2 j hj, hk]
    · obtain ⟨i, hi, rfl⟩ := List.mem_map.1 hx'
      exact (hS i (List.mem_range.1 hi)).1
end
end Go.Proofs.YtpfccicahfncbaaDoor
namespace Go.Proofs.YtpfccicahfncbaaDoor
open Go.RowKit Go.WideShapes Go.ChangeShapes Wir
section
variable {H : Type} {enc : TypeId × Value → H} {W : World}
set_option maxRecDepth 100000 in
theorem open_att {base0 base : Nat} {r : Reach} {v : Value} {d : DataW H} {ps : List MemPlace} {ts : List TypeId} {ds : List (DataW H)} {held : Bool}
    (hval : Value.okWide Tryd.prog W r base0 31 v) (hd : DataW.Trod enc Tryd.prog W base (fun _ => true) held 31 v d ps)
    (hsz : (DataW.weightsEach Tryd.prog ts ds).all (· ≤ reachBytes) = true) (j : Nat) (hts : ts[j]? = some 31) (hds : ds[j]? = some d) (mem : ∀ x ∈ ps, x.block < W.heap.size) :
    ∃ q : AttM, v = .agg (attV q.a q.A q.n q.c) ∧ q.good W := by
  obtain ⟨cs, rfl, hs⟩ := okWide_struct Tryd.underlying31 hval
  obtain ⟨fuel, hf⟩ := hd
  obtain ⟨q, e, hq⟩ := att_open hf (fun n hn => by
    have := List.all_eq_true.1 hsz _ (DataW.weights_mem_each hts hds n hn)
    simpa using this) (fun p hp => mem p hp)
  refine ⟨q, ?_, hq⟩
  have e2 : (Value.agg cs).cells = cs := by simp [Value.cells]
  rw [e2] at e
  rw [show cs = attV q.a q.A q.n q.c from Array.toList_inj.1 e]
end
end Go.Proofs.YtpfccicahfncbaaDoor
namespace Go.Proofs.YtpfccicahfncbaaDoor
open Go.RowKit Wir
set_option linter.unusedVariables false
/-- A number of k bytes, the greatest first. -/
def beN (F : Nat → UInt8) : Nat → Nat
  | 0 => 0
  | k + 1 => beN F k * 256 + (F k).toNat
theorem beN_lt (F : Nat → UInt8) (k : Nat) : beN F k < 2 ^ (8 * k) := by
  induction k with
  | zero => exact (by decide : 0 < 2 ^ 0)
  | succ k ih =>
    have := (F k).toNat_lt
    rw [Nat.mul_add, Nat.pow_add]
    show beN F k * 256 + _ < 2 ^ (8 * k) * 256
    omega
theorem beN_small (F : Nat → UInt8) (k : Nat) (h : k ≤ 7) : beN F k < 72057594037927936 := Nat.lt_of_lt_of_le (beN_lt F k) (Nat.pow_le_pow_right (by omega) (by omega) : 2 ^ (8 * k) ≤ 2 ^ 56)
theorem fix_step (a x : Nat) (ha : a < 72057594037927936) (hx : x < 256) : bits .or .u64 (IntKind.u64.wrap ((a : Int) * 256)) (x : Int) = ((a * 256 + x : Nat) : Int) := by
  have e : (a : Int) * 256 = ((a * 256 : Nat) : Int) := by omega
  have wz : ∀ n : Nat, n < 18446744073709551616 → IntKind.u64.wrap (n : Int) = (n : Int) := fun n h => by rw [IntKind.wrap_u64]; omega
  rw [e, wz _ (by omega), u64_or_nat _ _ (by omega) (by omega)]
  congr 1
  have := Nat.two_pow_add_eq_or_of_lt (b := x) (i := 8) (by simpa using hx) a
  rw [show (2 ^ 8 * a) = a * 256 from by rw [Nat.mul_comm]] at this
  exact this.symm
/-- What Fixed tells. -/
def fixV (s : ByteArray) (k : Nat) : Nat := if s.size < k then 0 else beN (byteAt s) k
theorem fixF_any (s : ByteArray) (wb nb k : Nat) (w : World) (hw : Blk w wb 3 #[.int .i64 (k : Int)]) (h : Blk w nb 62 #[.int .u64 0]) (hs : s.size ≤ 9223372036854775807) (hk : k ≤ 8) :
    Calls Tryd.prog 55 #[.string s, .pointer (some ⟨wb, 0, none⟩), .pointer (some ⟨nb, 0, none⟩)] w fun e w' => e = .returned (.int .i64 (k : Int)) ∧ Blk w' nb 62 #[.int .u64 (fixV s k : Int)] ∧ (∀ g, g ≠ nb → g < w.heap.size → w'.heap[g]? = w.heap[g]?) ∧ ∀ B, B ≤ nb → Below B w w' := by
  have hne : wb ≠ nb := Blk.ne_ hw h (by decide)
  have c0 : w.cell? ⟨nb, 0, none⟩ = some (.int .u64 0) := h.cell 0
  have c1 : w.cell? ⟨wb, 0, none⟩ = some (.int .i64 (k : Int)) := hw.cell 0
  have H := Lib.hid h
  have HW := Lib.hid hw
  clear h hw
  go_enter Tryd.func55, Tryd.ntmps55
  by_cases hle : s.size < k
  · have E : Hid (fixV s k = 0) := Lib.hid (if_pos hle)
    go_wp2
    go_ret
    exact ⟨rfl, by rw [E.out]; exact H.out, fun g _ _ => rfl, fun B _ => Below.refl _ _⟩
  · have E : Hid (fixV s k = beN (byteAt s) k) := Lib.hid (if_neg hle)
    have hki : (k : Int) ≤ (s.size : Int) := by omega
    go_wp2_with fail
    clear c0 c1
    go_loopw [11] (fun i wr => ∃ j : Nat, j ≤ k ∧ i = .int .i64 j ∧ Hid (Blk wr nb 62 #[.int .u64 (beN (byteAt s) j : Int)] ∧ Blk wr wb 3 #[.int .i64 (k : Int)] ∧ (∀ g, g ≠ nb → g < w.heap.size → wr.heap[g]? = w.heap[g]?) ∧ ∀ B, B ≤ nb → Below B w wr)) (fun i _ => k - (intOf i).toNat)
    case atStart => exact ⟨0, by omega, rfl, Lib.hid ⟨H.out, HW.out, fun g _ _ => rfl, fun B _ => Below.refl _ _⟩⟩
    case round =>
      obtain ⟨j, hj, rfl, HK⟩ := hrel
      by_cases hlt : j < k
      · have hjs : j < s.size := by omega
        have hji : (j : Int) < (k : Int) := by omega
        have hji2 : (j : Int) < (s.size : Int) := by omega
        have hx := (byteAt s j).toNat_lt
        have EX := Lib.hid (byteAt_get s j hjs)
        have FS : Hid (bits .or .u64 (IntKind.u64.wrap ((beN (byteAt s) j : Int) * 256)) ((byteAt s j).toNat : Int) = (beN (byteAt s) (j + 1) : Int)) := Lib.hid (fix_step _ _ (beN_small (byteAt s) j (by omega)) hx)
        have HS : Hid (∀ v, Blk (wr.drew.setCell ⟨nb, 0, none⟩ v) nb 62 #[v] ∧ Blk (wr.drew.setCell ⟨nb, 0, none⟩ v) wb 3 #[.int .i64 (k : Int)] ∧ (∀ g, g ≠ nb → g < w.heap.size → (wr.drew.setCell ⟨nb, 0, none⟩ v).heap[g]? = w.heap[g]?) ∧ ∀ B, B ≤ nb → Below B w (wr.drew.setCell ⟨nb, 0, none⟩ v)) := Lib.hid (fun v => ⟨HK.out.1.set_ 0 v, HK.out.2.1.far (p := ⟨nb, 0, none⟩) hne v, fun g h1 h2 => by rw [Below.heap_setCell _ _ _ _ h1]; exact HK.out.2.2.1 g h1 h2, fun B hB => (HK.out.2.2.2 B hB).drew.setCell hB v⟩)
        have c0 : wr.cell? ⟨nb, 0, none⟩ = some (.int .u64 (beN (byteAt s) j : Int)) := HK.out.1.cell 0
        have f0 : wr.frozen? ⟨nb, 0, none⟩ = false := HK.out.1.frozen 0
        obtain ⟨a', ha'⟩ : ∃ a', beN (byteAt s) (j + 1) = a' := ⟨_, rfl⟩
        rw [ha'] at FS
        have HA := Lib.hid ha'
        clear ha'
        generalize beN (byteAt s) j = a at *
        rw [← EX.out] at FS hx
        go_wp2_with fail
        go_region
        rw [FS.out]
        go_wp2
        go_roundw
        case rel => exact ⟨j + 1, by omega, by go_num, Lib.hid (by rw [HA.out]; exact HS.out _)⟩
        case measure => simp [intOf]; omega
      · obtain rfl : j = k := by omega
        have c1 : wr.cell? ⟨wb, 0, none⟩ = some (.int .i64 (j : Int)) := HK.out.2.1.cell 0
        clear hle
        go_wp2
        go_ret
        exact ⟨rfl, by rw [E.out]; exact HK.out.1, HK.out.2.2.1, HK.out.2.2.2⟩
theorem withFixed_any (s : ByteArray) (R wb nb k : Nat) (w : World) (h : Rdr w R s) (hw : Blk w wb 3 #[.int .i64 (k : Int)]) (hn : Blk w nb 62 #[.int .u64 0]) (hs : s.size ≤ 9223372036854775807) (hk : k ≤ 8) :
    Calls Tryd.prog 50 #[.pointer (some ⟨R, 0, none⟩), .func (.func 55) #[] #[.pointer (some ⟨wb, 0, none⟩), .pointer (some ⟨nb, 0, none⟩)]] w
      fun e w' => e = .returned (.int .i64 (takeE s k)) ∧ Rdr w' R (takeS s k) ∧ Blk w' nb 62 #[.int .u64 (fixV s k : Int)] ∧ ∀ B, B ≤ R → B ≤ nb → Below B w w' := by
  have c0 : w.cell? ⟨R, 0, none⟩ = some (.string s) := h.cell 0
  have hne : R ≠ nb := Blk.ne_ h hn (by decide)
  have H := Lib.hid h
  have F := Lib.hid (fixF_any s wb nb k w hw hn hs hk)
  have hlt := h.lt
  clear h hw hn
  go_enter Tryd.func50, Tryd.ntmps50
  go_wp2_with fail
  (with_reducible refine F.out.mono ?_)
  rintro e w1 ⟨rfl, hn1, hk1, hb1⟩
  have R1 : Hid (Rdr w1 R s) := Lib.hid ((hk1 R hne hlt).trans H.out)
  have B1 := Lib.hid hn1
  have L1 : Hid (∀ B, B ≤ R → B ≤ nb → Below B w w1) := Lib.hid (fun B _ h2 => hb1 B h2)
  clear hn1 hk1 hb1 F
  have c1 : w1.cell? ⟨R, 0, none⟩ = some (.string s) := R1.out.cell 0
  have f1 : w1.frozen? ⟨R, 0, none⟩ = false := R1.out.frozen 0
  by_cases hk : s.size < k
  · have E1' : Hid (takeE s k = 4) := Lib.hid (by rw [takeE, if_pos hk])
    have E2' : Hid (takeS s k = s) := Lib.hid (by rw [takeS, if_pos hk])
    go_wp2
    go_ret
    exact ⟨by rw [E1'.out]; rfl, by rw [E2'.out]; exact R1.out, B1.out, L1.out⟩
  · have E1' : Hid (takeE s k = 0) := Lib.hid (by rw [takeE, if_neg hk])
    have E2' : Hid (takeS s k = s.extract k s.size) := Lib.hid (by rw [takeS, if_neg hk])
    have hms : k ≤ s.size := by omega
    clear hk
    go_wp2
    go_ret
    exact ⟨by rw [E1'.out]; rfl, by rw [E2'.out]; exact R1.out.set_ 0 _, B1.out.far (p := ⟨R, 0, none⟩) (by show nb ≠ R; omega) _, fun B h1 h2 => (L1.out B h1 h2).setCell h1 _⟩
theorem fixed_any (s : ByteArray) (R k : Nat) (w : World) (h : Rdr w R s) (hs : s.size ≤ 9223372036854775807) (hk : k ≤ 8) (hk1 : 1 ≤ k) :
    Calls Tryd.prog 41 #[.pointer (some ⟨R, 0, none⟩), .int .i64 (k : Int)] w
      fun e w' => e = .returned (.tuple #[.int .u64 (fixV s k : Int), .int .i64 (takeE s k)]) ∧ Rdr w' R (takeS s k) ∧ ∀ B, B ≤ R → Below B w w' := by
  have hlt := h.lt
  have hmf : ∀ (fn : Fn) (first cap : Array Value) (w : World), (Instr.makeFunc fn first cap).run Tryd.prog w = .ok (.func fn first cap) w := fun _ _ _ _ => rfl
  have HN0 := Blk.new w 3 #[.int .i64 (k : Int)]
  have HN := HN0.alloc (.cells #[.int .u64 0] 62)
  have HT0 := Blk.new (w.alloc (.cells #[.int .i64 (k : Int)] 3)) 62 #[.int .u64 0]
  rw [show (w.alloc (.cells #[.int .i64 (k : Int)] 3)).heap.size = w.heap.size + 1 from by simp] at HT0
  have W := Lib.hid (withFixed_any s R w.heap.size (w.heap.size + 1) k ((w.alloc (.cells #[.int .i64 (k : Int)] 3)).alloc (.cells #[.int .u64 0] 62)) ((Blk.alloc h _).alloc _) HN HT0 hs hk)
  have B0 : Hid (∀ B, B ≤ R → Below B w ((w.alloc (.cells #[.int .i64 (k : Int)] 3)).alloc (.cells #[.int .u64 0] 62))) := Lib.hid (fun B hB => ((Below.refl _ _).alloc (by omega) _).alloc (by simp; omega) _)
  have c0 : (w.alloc (.cells #[.int .i64 (k : Int)] 3)).cell? ⟨w.heap.size, 0, none⟩ = some (.int .i64 (k : Int)) := HN0.cell 0
  clear h HN0 HT0 HN
  go_enter Tryd.func41, Tryd.ntmps41
  go_wp2_with fail
  (with_reducible refine W.out.mono ?_)
  rintro e w1 ⟨rfl, hr1, hb1, hl1⟩
  have R1 := Lib.hid hr1
  have L1 : Hid (∀ B, B ≤ R → Below B w w1) := Lib.hid (fun B hB => (B0.out B hB).trans (hl1 B hB (by omega)))
  have c1 : w1.cell? ⟨w.heap.size + 1, 0, none⟩ = some (.int .u64 (fixV s k : Int)) := hb1.cell 0
  clear hr1 hl1 hb1 c0 W
  go_wp2
  go_ret2
  exact ⟨rfl, R1.out, L1.out⟩
end Go.Proofs.YtpfccicahfncbaaDoor
