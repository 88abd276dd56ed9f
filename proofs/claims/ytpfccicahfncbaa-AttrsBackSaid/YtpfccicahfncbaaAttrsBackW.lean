/- Walk: AttrsBack. -/
import Derived.Test.YtpfccicahfncbaaRdBack
import Derived.Test.YtpfccicahfncbaaAttOwn
import Derived.Test.YtpfccicahfncbaaAttAwk
import Derived.Test.YtpfccicahfncbaaAttSame
import Derived.Test.YtpfccicahfncbaaAttGd
namespace Go.Proofs.Ytpfccicahfncbaa
open Go.RowKit Wir
set_option linter.unusedVariables false
set_option linter.unusedSimpArgs false
/-- Sets that may be, and the lists of texts and sets that the law keeps. -/
def AbOK (M : List AttM) : Prop := ∀ q ∈ M, chkA q.a = 0 ∧ q.n ≤ 16
structure AbI (w wr : World) (v vb : Value) (N : Nat) (M : List AttM) : Prop where
  len : M.length = N
  row : wr.ownsRow w.heap.size 53 7 v N (attsV M)
  all : AllOwn wr w.heap.size M
  bys : wr.ownsRow w.heap.size 9 1 vb N (strV (M.map fun q => layA q.a))
  below : Below w.heap.size w wr
theorem AbI.mono {w wr w' : World} {v vb : Value} {N : Nat} {M : List AttM} (h : AbI w wr v vb N M) (hb : Below wr.heap.size wr w') : AbI w w' v vb N M :=
  ⟨h.len, own_below h.row hb, h.all.below hb, own_below h.bys hb, h.below.trans (hb.mono h.below.size)⟩
theorem AbI.alloc {w wr : World} {v vb : Value} {N : Nat} {M : List AttM} (h : AbI w wr v vb N M) (o : Obj) : AbI w (wr.alloc o) v vb N M := h.mono ((Below.refl _ _).alloc (Nat.le_refl _) _)
/-- A set is appended .. -/
structure AbJ (w wr : World) (v vb : Value) (N : Nat) (M : List AttM) (q : AttM) : Prop where
  len : M.length = N
  row : wr.ownsRow w.heap.size 53 7 v (N + 1) (attsV (M ++ [q]))
  all : AllOwn wr w.heap.size (M ++ [q])
  bys : wr.ownsRow w.heap.size 9 1 vb N (strV (M.map fun q => layA q.a))
  below : Below w.heap.size w wr
theorem AbI.push {w wr w' : World} {v v' vb : Value} {N : Nat} {M : List AttM} {q : AttM} (h : AbI w wr v vb N M) (hq : wr.ownsRow w.heap.size 97 2 (.slice q.A q.n q.c) q.n (xtV q.a.xs))
    (ho : w'.ownsRow w.heap.size 53 7 v' (N + 1) (attsV M ++ q.v)) (hg : wr.grownBy w' v.ownBlock) : AbJ w w' v' vb N M q := by
  have hne : ∀ b, v.ownBlock = some b → w.heap.size ≤ b := fun b e => (h.row.lt b e).1
  refine ⟨h.len, ?_, fun x hx => own_keep (AllOwn.push h.all hq x hx) h.row (by decide) hg, own_keep h.bys h.row (by decide) hg, h.below.grown hg h.below.size hne⟩
  rw [attsV_app]
  show w'.ownsRow _ _ _ _ _ (attsV M ++ (q.v ++ []))
  rw [List.append_nil]; exact ho
/-- .. and its bytes. -/
theorem AbJ.push {w wr w' : World} {v vb vb' : Value} {N : Nat} {M : List AttM} {q : AttM} (h : AbJ w wr v vb N M q)
    (ho : w'.ownsRow w.heap.size 9 1 vb' (N + 1) (strV (M.map fun q => layA q.a) ++ [.string (layA q.a)])) (hg : wr.grownBy w' vb.ownBlock) : AbI w w' v vb' (N + 1) (M ++ [q]) := by
  have hne : ∀ b, vb.ownBlock = some b → w.heap.size ≤ b := fun b e => (h.bys.lt b e).1
  refine ⟨by rw [List.length_append, h.len]; rfl, own_keep h.row h.bys (by decide) hg, fun x hx => own_keep (h.all x hx) h.bys (by decide) hg, ?_, h.below.grown hg h.below.size hne⟩
  rw [List.map_append]
  unfold strV at ho ⊢
  rw [List.map_append]
  exact ho
/-- The set at hand: its cell and its list. -/
structure AbX (w wr : World) (xb : Nat) (a : Att) (A : Option Addr) (n c : Nat) : Prop where
  cell : Blk wr xb 53 (attV a A n c)
  own : wr.ownsRow w.heap.size 97 2 (.slice A n c) n (xtV a.xs)
theorem AbX.mono {w wr w' : World} {xb : Nat} {a : Att} {A : Option Addr} {n c : Nat} (h : AbX w wr xb a A n c) (hb : Below wr.heap.size wr w') : AbX w w' xb a A n c := ⟨h.cell.below hb h.cell.lt, own_below h.own hb⟩
theorem AbX.new {w wr : World} {a : Att} {A : Option Addr} {n c : Nat} (h : wr.ownsRow w.heap.size 97 2 (.slice A n c) n (xtV a.xs)) :
    AbX w (wr.alloc (.cells (attV a A n c) 53)) wr.heap.size a A n c := ⟨Blk.new _ _ _, h.alloc _⟩
def bslA (a : Value) : Sem Next := do pure (.value (← Instr.buildSlice 48 1 #[(0, a)]))
theorem execOp_bslA (ρ : Operand → Value) (dst : Option Tmp) (a : Operand) (ty : TypeId) (pos : String) (after : Array Edge) (guard : Option (Nat × Bool)) :
    execOp ρ { dst, op := .buildSlice 48 1 #[(0, a)], type := ty, pos, after, guard } = bslA (ρ a) := by
  unfold execOp bslA; simp
theorem run_bslA (w : World) (a0 a1 a2 a3 a4 a5 a6 : Value) : (bslA (.agg #[a0, a1, a2, a3, a4, a5, a6])).run Try.prog w = .ok (.value (.slice (some ⟨w.heap.size, 0, none⟩) 1 1)) (w.alloc (.cells #[a0, a1, a2, a3, a4, a5, a6] 53)) := by
  unfold bslA
  go_simp
attribute [local go_sem ↓] execOp_bslA
attribute [local go_sem] run_bslA
theorem ab_same {a b : Att} (ha : chkA a = 0) (hb : chkA b = 0) : ((layA a).toList == (layA b).toList) = sameA a b := by
  rw [Bool.eq_iff_iff, beq_iff_eq, sameA_iff]
  exact ⟨fun h => layA_inj ha hb (toList_inj h), fun h => by rw [h]⟩
theorem attsV_cut : ∀ (M : List AttM) (k : Nat), attsV (M.take k) = (attsV M).take (k * 7)
  | [], k => by rw [List.take_nil]; show [] = [].take _; rw [List.take_nil]
  | q :: M, 0 => by rw [List.take_zero, Nat.zero_mul, List.take_zero]; rfl
  | q :: M, k + 1 => by
    rw [List.take_succ_cons]
    show q.v ++ attsV (M.take k) = (q.v ++ attsV M).take _
    rw [List.take_append, List.take_of_length_le (l := q.v) (by rw [attM_len]; omega), attsV_cut M k, attM_len]
    congr 2; omega
theorem Reads.short {w : World} {B size n k : Nat} {A : Option Addr} {xs : List Value} (h : Reads w B size A n xs) (hk : k ≤ n) : Reads w B size A k (xs.take (k * size)) := by
  refine ⟨by rw [List.length_take, h.1, Nat.min_eq_left (Nat.mul_le_mul_right _ hk)], fun hn => ?_⟩
  obtain ⟨ad, e, hb, hc⟩ := h.2 (by omega)
  refine ⟨ad, e, hb, fun j u hu => hc j u ?_⟩
  rw [List.getElem?_take] at hu
  split at hu
  · exact hu
  · cases hu
theorem AbOK.sized {M : List AttM} (h : AbOK M) : ∀ q ∈ M, q.a.sized ∧ q.n ≤ 4611686018427387904 := fun q hq => ⟨chk_sized (h q hq).1, Nat.le_trans (h q hq).2 (by omega)⟩
theorem AbOK.chk {M : List AttM} (h : AbOK M) : ∀ a ∈ M.map (·.a), chkA a = 0 := fun a ha => by
  obtain ⟨q, hq, rfl⟩ := List.mem_map.1 ha
  exact (h q hq).1
theorem catL_size : ∀ (l : List Att), (∀ a ∈ l, chkA a = 0) → (catL l).size ≤ 80010 * l.length
  | [], _ => Nat.zero_le _
  | a :: l, h => by
    have h1 := catL_size l (fun x hx => h x (List.mem_cons_of_mem _ hx))
    have h2 := layA_size (h a (List.mem_cons_self ..))
    have h3 := txL_size (layA a)
    rw [catL, ByteArray.size_append, List.length_cons]
    omega
theorem str_good {l : List Att} (h : ∀ a ∈ l, chkA a = 0) (h1 : 1 ≤ l.length) (h2 : l.length ≤ 257) : ∃ t, strR l = (t, 0) ∧ rsR t = (l, 0) ∧ t.size ≤ 30000000 := by
  obtain ⟨e1, e2⟩ := rsR_str h1 h2 h
  have e : strR l = (bs (putL l.length) ++ catL l, 0) := by rw [strR, if_neg (by omega), strF_ok l _ h]
  refine ⟨bs (putL l.length) ++ catL l, e, by rw [e] at e2; exact e2, ?_⟩
  have h3 := catL_size l h
  have h4 := putN_length 9 l.length
  have h5 : (bs (putL l.length)).size = (putN 9 l.length).length := bs_size _
  rw [ByteArray.size_append]
  omega
theorem rdR_len (s : ByteArray) : (rdR s).1.xs.length ≤ 16 := by
  rcases rdR_or s with ⟨h, e⟩ | ⟨h, e⟩
  · rw [e]; exact chk_len (rdOK_chk h)
  · rw [e]; exact Nat.zero_le _
theorem rsF_len : ∀ (k : Nat) (r : ByteArray) (L L' : List Att) (r' : ByteArray), rsF k r L = some (L', r') → L'.length = L.length + k
  | 0, r, L, L', r', h => by rw [rsF] at h; injection h with h; injection h with h1 h2; rw [h1]; rfl
  | k + 1, r, L, L', r', h => by
    rw [rsF] at h
    split at h
    · have := rsF_len k _ _ _ _ h
      rw [List.length_append] at this
      rw [this]; show L.length + 1 + k = _; omega
    · cases h
theorem rsR_len (s : ByteArray) : (rsR s).1.length ≤ 257 := by
  rw [rsR]
  split
  · next hc =>
    cases hF : rsF (short (byteAt s) s.size).1 (uintS s) [] with
    | none => exact Nat.zero_le _
    | some x =>
      obtain ⟨L, r⟩ := x
      have := rsF_len _ _ _ _ _ hF
      rw [rsE]
      split
      · show L.length ≤ 257
        rw [this, List.length_nil]; omega
      · exact Nat.zero_le _
  · exact Nat.zero_le _
theorem map_at {M M2 : List AttM} (h : M2.map (·.a) = M.map (·.a)) (j : Nat) (h1 : j < M.length) (h2 : j < M2.length) : M2[j].a = M[j].a := by
  have e1 : (M2.map (·.a))[j]? = some M2[j].a := by rw [List.getElem?_map, List.getElem?_eq_getElem h2]; rfl
  have e2 : (M.map (·.a))[j]? = some M[j].a := by rw [List.getElem?_map, List.getElem?_eq_getElem h1]; rfl
  rw [h, e2] at e1
  exact (Option.some.inj e1).symm
theorem putR_bad {a : Att} (h : chkA a ≠ 0) : putR a = ByteArray.empty := by rw [putR, if_neg h]
theorem putR_good {a : Att} (h : chkA a = 0) : putR a = layA a := by rw [putR, if_pos h]
set_option maxRecDepth 100000 in
set_option maxHeartbeats 4000000 in
theorem attrsBack_walk (A : Option Addr) (n c : Nat) (L : List AttM) (s : ByteArray) {w : World} (hr : Reads w w.heap.size 7 A n (attsV L)) (hn : n * 64 ≤ 140737488351232) (hL : ∀ q ∈ L, q.good w) (hc : n ≤ c) (hs : s.size ≤ 140737488351232) :
    Calls Try.prog 5 #[.slice A n c, .string s] w fun e w' => e = .returned (.bool true) ∧ Below w.heap.size w w' := by
  have HR := Lib.hid hr
  have HG := Lib.hid hL
  have HI0 : Hid (AbI w w (.slice none 0 0) (.slice none 0 0) 0 []) := Lib.hid ⟨rfl, World.ownsRow_nil _ _ _ _, (fun q hq => by cases hq), World.ownsRow_nil _ _ _ _, Below.refl _ _⟩
  clear hr hL
  have hn6 : n ≤ 2199023255552 := by omega
  go_enter Try.func5, Try.ntmps5
  go_wp2_with fail
  go_loopw [5, 6, 7] (fun v vb i wr => ∃ (k N : Nat) (M : List AttM), k ≤ n ∧ i = .int .i64 k ∧ N ≤ k ∧ Hid (AbOK M) ∧ Hid (AbI w wr v vb N M)) (fun _ _ i _ => n - (intOf i).toNat)
  case atStart => exact ⟨0, 0, [], by omega, rfl, Nat.le_refl _, Lib.hid (fun q hq => by cases hq), HI0⟩
  case round =>
    obtain ⟨k, N, M, hk, rfl, hMk, HOK, HI⟩ := hrel
    by_cases hlt : k < n
    · as_aux_lemma =>
      obtain ⟨ad, hkl, rfl, hbl, hcl⟩ := atts_cells HR.out k hlt
      have hcl2 : ∀ j, j < 7 → wr.cell? ((ad.add (k * 7)).add j) = (L[k]).v[j]? := fun j hj => by
        rw [HI.out.below.cell (by rw [block_of_add, block_of_add]; omega)]; exact hcl j hj
      obtain ⟨c0, c1, c2, c3, c4, c5, c6⟩ := seven_cells hcl2
      have hgd := HG.out _ (List.getElem_mem hkl)
      obtain ⟨q, hq⟩ : ∃ q, L[k] = q := ⟨_, rfl⟩
      rw [hq] at c0 c1 c2 c3 c4 c5 c6 hgd
      obtain ⟨hrd, ⟨sz1, sz2, sz3⟩, hqn, hqc⟩ := hgd
      have OW := Lib.hid (attOwn_any q.a q.A q.n q.c wr w.heap.size (hrd.below HI.out.below) HI.out.below.size hqn)
      have HLq := Lib.hid hrd.xtLen
      have SZ1 := Lib.hid sz1
      have SZ3 : Hid (∀ p ∈ q.a.xs, p.1.size ≤ 4611686018427387904 ∧ p.2.size ≤ 4611686018427387904) := Lib.hid (fun p hp => ⟨Nat.le_trans (sz3 p hp).1 (by omega), Nat.le_trans (sz3 p hp).2 (by omega)⟩)
      clear hq hcl hcl2 hkl hrd sz3 sz1 hqc
      have hki : (k : Int) < (n : Int) := by omega
      have hk0 : (0 : Int) ≤ (k : Int) := by omega
      go_wp2_with fail
      change Calls _ _ #[.agg (attV q.a q.A q.n q.c)] _ _
      (with_reducible refine OW.out.mono ?_)
      rintro e w1 ⟨g, cap, rfl, ho1, hb1⟩
      have HO1 : Hid (w1.ownsRow w.heap.size 97 2 (.slice (some ⟨g, 0, none⟩) q.n cap) q.n (xtV q.a.xs)) := Lib.hid (by
        have h := own_shorter (k := q.n) (own_base ho1 HI.out.below.size) (by omega)
        rw [xtV_app, List.take_left' (by rw [xtV_length, HLq.out])] at h
        exact h)
      have BX : Hid (AbI w (w1.alloc (.cells (attV q.a (some ⟨g, 0, none⟩) q.n cap) 53)) u5 u6 N M ∧ AbX w (w1.alloc (.cells (attV q.a (some ⟨g, 0, none⟩) q.n cap) 53)) w1.heap.size q.a (some ⟨g, 0, none⟩) q.n cap) := Lib.hid ⟨(HI.out.mono hb1).alloc _, AbX.new HO1.out⟩
      clear ho1 hb1 OW HI c0 c1 c2 c3 c4 c5 c6 HO1 hbl
      unfold attV
      go_upto_region 7 with fail
      change Code.wp _ _ _ _ (w1.alloc (.cells (attV q.a (some ⟨g, 0, none⟩) q.n cap) 53))
      generalize w1.alloc (.cells (attV q.a (some ⟨g, 0, none⟩) q.n cap) 53) = w2 at BX ⊢
      generalize w1.heap.size = xb at BX ⊢
      obtain ⟨c0, c1, c2, c3, c4, c5, c6⟩ := att_cells q.a _ q.n cap w2 _ BX.out.2.cell
      have P2 := Lib.hid (attPut_any q.a (some ⟨g, 0, none⟩) q.n cap w2 w2.heap.size (Reads.of_own BX.out.2.own) (Nat.le_refl _) SZ1.out (by omega) (by omega) SZ3.out)
      go_wp2_with fail
      change Calls _ _ #[.agg (attV q.a (some ⟨g, 0, none⟩) q.n cap)] _ _
      (with_reducible refine P2.out.mono ?_)
      rintro e w3 ⟨rfl, hb3⟩
      have BX3 : Hid (AbI w w3 u5 u6 N M ∧ AbX w w3 xb q.a (some ⟨g, 0, none⟩) q.n cap) := Lib.hid ⟨BX.out.1.mono hb3, BX.out.2.mono hb3⟩
      clear hb3 BX P2 c0 c1 c2 c3 c4 c5 c6
      obtain ⟨c0, c1, c2, c3, c4, c5, c6⟩ := att_cells q.a _ q.n cap w3 _ BX3.out.2.cell
      have P3 := Lib.hid (attChk_any q.a (some ⟨g, 0, none⟩) q.n cap w3 w3.heap.size (Reads.of_own BX3.out.2.own) (Nat.le_refl _) SZ1.out (by omega) (by omega) SZ3.out)
      go_wp2_with fail
      change Calls _ _ #[.agg (attV q.a (some ⟨g, 0, none⟩) q.n cap)] _ _
      (with_reducible refine P3.out.mono ?_)
      rintro e w4 ⟨rfl, hb4⟩
      have BX4 : Hid (AbI w w4 u5 u6 N M ∧ AbX w w4 xb q.a (some ⟨g, 0, none⟩) q.n cap) := Lib.hid ⟨BX3.out.1.mono hb4, BX3.out.2.mono hb4⟩
      clear hb4 BX3 P3 c0 c1 c2 c3 c4 c5 c6 SZ1 SZ3
      by_cases hch : chkA q.a = 0
      · have hpr := putR_good hch
        have hlen := chk_len hch
        have hlz := layA_size hch
        have RD0 := attRead_any (layA q.a) w4 (by omega)
        rw [rdR_lay hch] at RD0
        have RD := Lib.hid RD0
        clear RD0
        have HCH := Lib.hid hch
        rw [hpr, hch]
        clear hpr hch
        obtain ⟨t, ht⟩ : ∃ t, layA q.a = t := ⟨_, rfl⟩
        have HT := Lib.hid ht
        rw [ht] at RD hlz ⊢
        clear ht
        go_wp2_with fail
        (with_reducible refine RD.out.mono ?_)
        rintro e w5 ⟨A5, n5, c5, rfl, ho5, hb5⟩
        have BX5 : Hid (AbI w (w5.alloc (.cells (attV q.a A5 n5 c5) 53)) u5 u6 N M ∧ AbX w (w5.alloc (.cells (attV q.a A5 n5 c5) 53)) xb q.a (some ⟨g, 0, none⟩) q.n cap ∧ AbX w (w5.alloc (.cells (attV q.a A5 n5 c5) 53)) w5.heap.size q.a A5 n5 c5) := Lib.hid (by
          have hz := (Below.refl w5.heap.size w5).alloc (Nat.le_refl _) (.cells (attV q.a A5 n5 c5) 53)
          exact ⟨(BX4.out.1.mono hb5).mono hz, (BX4.out.2.mono hb5).mono hz, AbX.new (own_base ho5 BX4.out.1.below.size)⟩)
        clear ho5 hb5 RD BX4
        unfold attV
        go_upto_region 12 with fail
        change Code.wp _ _ _ _ (w5.alloc (.cells (attV q.a A5 n5 c5) 53))
        generalize w5.alloc (.cells (attV q.a A5 n5 c5) 53) = w6 at BX5 ⊢
        generalize w5.heap.size = yb at BX5 ⊢
        have hn5 : n5 ≤ 16 := by have := (Reads.of_own BX5.out.2.2.own).xtLen; omega
        have hqn2 : q.n ≤ 16 := by have := HLq.out; omega
        obtain ⟨c0, c1, c2, c3, c4, c5', c6⟩ := att_cells q.a _ q.n cap w6 _ BX5.out.2.1.cell
        obtain ⟨d0, d1, d2, d3, d4, d5, d6⟩ := att_cells q.a _ n5 c5 w6 _ BX5.out.2.2.cell
        have SM := Lib.hid (attSame_any q.a q.a (some ⟨g, 0, none⟩) A5 q.n cap n5 c5 w6 w6.heap.size (Reads.of_own BX5.out.2.1.own) (Reads.of_own BX5.out.2.2.own) (Nat.le_refl _) (by omega) (by omega))
        rw [(sameA_iff q.a q.a).2 rfl] at SM
        go_wp2_with fail
        change Calls _ _ #[.agg (attV q.a (some ⟨g, 0, none⟩) q.n cap), .agg (attV q.a A5 n5 c5)] _ _
        (with_reducible refine SM.out.mono ?_)
        rintro e w7 ⟨rfl, hb7⟩
        have BX7 : Hid (AbI w w7 u5 u6 N M ∧ AbX w w7 xb q.a (some ⟨g, 0, none⟩) q.n cap) := Lib.hid ⟨BX5.out.1.mono hb7, BX5.out.2.1.mono hb7⟩
        clear hb7 BX5 SM c0 c1 c2 c3 c4 c5' c6 d0 d1 d2 d3 d4 d5 d6
        obtain ⟨Am, cm, rfl, hRm⟩ := own_reads BX7.out.1.row
        obtain ⟨Ab, cb, rfl, hRb⟩ := own_reads BX7.out.1.bys
        clear hRm hRb
        go_wp2_with fail
        go_loopw [13] (fun i wr => ∃ (j : Nat), j ≤ N ∧ i = .int .i64 j ∧ Hid (AbI w wr (.slice Am N cm) (.slice Ab N cb) N M ∧ AbX w wr xb q.a (some ⟨g, 0, none⟩) q.n cap)) (fun i _ => N - (intOf i).toNat)
        case atStart => exact ⟨0, by omega, rfl, BX7⟩
        case round =>
          obtain ⟨j, hj, rfl, HJ⟩ := hrel
          by_cases hjN : j < N
          · as_aux_lemma =>
            obtain ⟨adm, hjl, rfl, hbm, hcm⟩ := atts_cells (Reads.of_own HJ.out.1.row) j hjN
            obtain ⟨adb, tj, rfl, hbb, htj, hcb⟩ := (Reads.of_own HJ.out.1.bys).at_ hjN
            rw [strV_get _ j (by rw [List.length_map]; exact hjl)] at htj
            rw [← Option.some.inj htj, List.getElem_map] at hcb
            have hmem := List.getElem_mem hjl
            obtain ⟨q', hq'⟩ : ∃ q', M[j] = q' := ⟨_, rfl⟩
            rw [hq'] at hcm hcb hmem
            obtain ⟨hch', hn16⟩ := HOK.out q' hmem
            have hE0 := ab_same hch' HCH.out
            rw [HT.out] at hE0
            have hall := HJ.out.1.all q' hmem
            obtain ⟨tq, htq⟩ : ∃ tq, layA q'.a = tq := ⟨_, rfl⟩
            rw [htq] at hcb hE0
            have SMj : Hid (∀ W, Below wr.heap.size wr W → Calls Try.prog 20 #[.agg (attV q'.a q'.A q'.n q'.c), .agg (attV q.a (some ⟨g, 0, none⟩) q.n cap)] W fun e w' => e = .returned (.bool (sameA q'.a q.a)) ∧ Below W.heap.size W w') := Lib.hid fun W hW => by
              have h1 := own_below hall hW
              have h2 := own_below HJ.out.2.own hW
              exact attSame_any q'.a q.a q'.A _ q'.n q'.c q.n cap W W.heap.size (Reads.of_own h1) (Reads.of_own h2) (Nat.le_refl _) (by omega) (by omega)
            have KS : Hid (∀ W, Below wr.heap.size wr W → W.cell? (adb.add j) = some (.string tq) ∧
                (W.cell? (adm.add (j * 7)) = some (.int .u8 (q'.a.nd.toNat : Int)) ∧ W.cell? ⟨(adm.add (j * 7)).block, (adm.add (j * 7)).off + 1, none⟩ = some (.int .u32 (q'.a.md.toNat : Int)) ∧ W.cell? ⟨(adm.add (j * 7)).block, (adm.add (j * 7)).off + 2, none⟩ = some (.int .u32 (q'.a.ui.toNat : Int)) ∧ W.cell? ⟨(adm.add (j * 7)).block, (adm.add (j * 7)).off + 3, none⟩ = some (.int .u32 (q'.a.gi.toNat : Int)) ∧ W.cell? ⟨(adm.add (j * 7)).block, (adm.add (j * 7)).off + 4, none⟩ = some (.int .i64 q'.a.mt) ∧ W.cell? ⟨(adm.add (j * 7)).block, (adm.add (j * 7)).off + 5, none⟩ = some (.string q'.a.tg) ∧ W.cell? ⟨(adm.add (j * 7)).block, (adm.add (j * 7)).off + 6, none⟩ = some (.slice q'.A q'.n q'.c)) ∧
                (W.cell? ⟨xb, 0, none⟩ = some (.int .u8 (q.a.nd.toNat : Int)) ∧ W.cell? ⟨xb, 1, none⟩ = some (.int .u32 (q.a.md.toNat : Int)) ∧ W.cell? ⟨xb, 2, none⟩ = some (.int .u32 (q.a.ui.toNat : Int)) ∧ W.cell? ⟨xb, 3, none⟩ = some (.int .u32 (q.a.gi.toNat : Int)) ∧ W.cell? ⟨xb, 4, none⟩ = some (.int .i64 q.a.mt) ∧ W.cell? ⟨xb, 5, none⟩ = some (.string q.a.tg) ∧ W.cell? ⟨xb, 6, none⟩ = some (.slice (some ⟨g, 0, none⟩) q.n cap))) := Lib.hid (fun W hW => by
              refine ⟨?_, seven_cells (fun i hi => ?_), att_cells q.a _ q.n cap W _ (HJ.out.2.mono hW).cell⟩
              · rw [hW.cell (by rw [block_of_add]; exact hbb)]; exact hcb
              · rw [hW.cell (by rw [block_of_add, block_of_add]; exact hbm)]; exact hcm i hi)
            clear hq' hjl hcm hcb hmem hch' hn16 hall htq htj hbm hbb
            obtain ⟨b, hb⟩ : ∃ b, sameA q'.a q.a = b := ⟨_, rfl⟩
            rw [hb] at SMj hE0
            have hbb : (b != b) = false := bne_self_eq_false b
            have hjki : (j : Int) < (N : Int) := by omega
            have hj0 : (0 : Int) ≤ (j : Int) := by omega
            clear hb
            go_upto_region 17 with fail
            have HB0 : Hid (Below wr.heap.size wr wr.drew) := Lib.hid (Below.refl _ _).drew
            have SA := KS.out _ HB0.out
            refine wp_region_held_drew (S := fun w' => w'.cell? (adb.add j) = some (.string tq) ∧ (w'.cell? (adm.add (j * 7)) = some (.int .u8 (q'.a.nd.toNat : Int)) ∧ w'.cell? ⟨(adm.add (j * 7)).block, (adm.add (j * 7)).off + 1, none⟩ = some (.int .u32 (q'.a.md.toNat : Int)) ∧ w'.cell? ⟨(adm.add (j * 7)).block, (adm.add (j * 7)).off + 2, none⟩ = some (.int .u32 (q'.a.ui.toNat : Int)) ∧ w'.cell? ⟨(adm.add (j * 7)).block, (adm.add (j * 7)).off + 3, none⟩ = some (.int .u32 (q'.a.gi.toNat : Int)) ∧ w'.cell? ⟨(adm.add (j * 7)).block, (adm.add (j * 7)).off + 4, none⟩ = some (.int .i64 q'.a.mt) ∧ w'.cell? ⟨(adm.add (j * 7)).block, (adm.add (j * 7)).off + 5, none⟩ = some (.string q'.a.tg) ∧ w'.cell? ⟨(adm.add (j * 7)).block, (adm.add (j * 7)).off + 6, none⟩ = some (.slice q'.A q'.n q'.c)) ∧ (w'.cell? ⟨xb, 0, none⟩ = some (.int .u8 (q.a.nd.toNat : Int)) ∧ w'.cell? ⟨xb, 1, none⟩ = some (.int .u32 (q.a.md.toNat : Int)) ∧ w'.cell? ⟨xb, 2, none⟩ = some (.int .u32 (q.a.ui.toNat : Int)) ∧ w'.cell? ⟨xb, 3, none⟩ = some (.int .u32 (q.a.gi.toNat : Int)) ∧ w'.cell? ⟨xb, 4, none⟩ = some (.int .i64 q.a.mt) ∧ w'.cell? ⟨xb, 5, none⟩ = some (.string q.a.tg) ∧ w'.cell? ⟨xb, 6, none⟩ = some (.slice (some ⟨g, 0, none⟩) q.n cap))) (by kernel_rfl) (by exact SA) (fun hHeld => ?_)
            refine wpAnyH_take (i := 0) (oi := { dst := some 75, op := .move (.tmp 6), type := 49, pos := "law.go:113", after := #[], guard := none }) (v := _) rfl (by as_aux_lemma => kernel_rfl) (by as_aux_lemma => kernel_rfl) (by as_aux_lemma => kernel_rfl) (fun _ _ _ h => h) (Or.inl ⟨by kernel_rfl, by (intro w hSw; (try dsimp only at hSw); go_simp; first | done | with_reducible rfl)⟩) (by assumption) ?_
            (try simp only [List.getElem_toArray, List.getElem_cons_succ, List.getElem_cons_zero, Act.put, List.setIfInBounds_toArray, List.set_cons_zero, List.set_cons_succ])
            refine wpAnyH_take (i := 1) (oi := { dst := some 76, op := .move (.tmp 13), type := 3, pos := "law.go:113", after := #[], guard := none }) (v := _) rfl (by as_aux_lemma => kernel_rfl) (by as_aux_lemma => kernel_rfl) (by as_aux_lemma => kernel_rfl) (fun _ _ _ h => h) (Or.inl ⟨by kernel_rfl, by (intro w hSw; (try dsimp only at hSw); go_simp; first | done | with_reducible rfl)⟩) (by assumption) ?_
            (try simp only [List.getElem_toArray, List.getElem_cons_succ, List.getElem_cons_zero, Act.put, List.setIfInBounds_toArray, List.set_cons_zero, List.set_cons_succ])
            refine wpAnyH_take (i := 2) (oi := { dst := some 77, op := .indexAddr 49 (.tmp 75) (.tmp 76), type := 0, pos := "law.go:113", after := #[{ on := 0, ground := .data }, { on := 1, ground := .data }], guard := none }) (v := _) rfl (by as_aux_lemma => kernel_rfl) (by as_aux_lemma => kernel_rfl) (by as_aux_lemma => kernel_rfl) (fun _ _ _ h => h) (Or.inl ⟨by kernel_rfl, by (intro w hSw; (try dsimp only at hSw); go_simp; first | done | with_reducible rfl)⟩) (by assumption) ?_
            (try simp only [List.getElem_toArray, List.getElem_cons_succ, List.getElem_cons_zero, Act.put, List.setIfInBounds_toArray, List.set_cons_zero, List.set_cons_succ])
            refine wpAnyH_take (i := 3) (oi := { dst := some 78, op := .load 9 (.tmp 77), type := 9, pos := "law.go:113", after := #[{ on := 2, ground := .data }], guard := none }) (v := _) rfl (by as_aux_lemma => kernel_rfl) (by as_aux_lemma => kernel_rfl) (by as_aux_lemma => kernel_rfl) (fun _ _ _ h => h) (Or.inl ⟨by kernel_rfl, by (intro w hSw; (try dsimp only at hSw); go_simp; first | done | with_reducible rfl)⟩) (by assumption) ?_
            (try simp only [List.getElem_toArray, List.getElem_cons_succ, List.getElem_cons_zero, Act.put, List.setIfInBounds_toArray, List.set_cons_zero, List.set_cons_succ])
            refine wpAnyH_take (i := 4) (oi := { dst := some 79, op := .move (.tmp 9), type := 9, pos := "law.go:113", after := #[], guard := none }) (v := _) rfl (by as_aux_lemma => kernel_rfl) (by as_aux_lemma => kernel_rfl) (by as_aux_lemma => kernel_rfl) (fun _ _ _ h => h) (Or.inl ⟨by kernel_rfl, by (intro w hSw; (try dsimp only at hSw); go_simp; first | done | with_reducible rfl)⟩) (by assumption) ?_
            (try simp only [List.getElem_toArray, List.getElem_cons_succ, List.getElem_cons_zero, Act.put, List.setIfInBounds_toArray, List.set_cons_zero, List.set_cons_succ])
            refine wpAnyH_take (i := 5) (oi := { dst := some 80, op := .binOp BinOp.eql 9 (.tmp 78) (.tmp 79) 9, type := 4, pos := "law.go:113", after := #[{ on := 3, ground := .data }, { on := 4, ground := .data }], guard := none }) (v := _) rfl (by as_aux_lemma => kernel_rfl) (by as_aux_lemma => kernel_rfl) (by as_aux_lemma => kernel_rfl) (fun _ _ _ h => h) (Or.inl ⟨by kernel_rfl, by (intro w hSw; (try dsimp only at hSw); go_simp; first | done | with_reducible rfl)⟩) (by assumption) ?_
            (try simp only [List.getElem_toArray, List.getElem_cons_succ, List.getElem_cons_zero, Act.put, List.setIfInBounds_toArray, List.set_cons_zero, List.set_cons_succ])
            refine wpAnyH_take (i := 6) (oi := { dst := some 81, op := .move (.tmp 5), type := 48, pos := "law.go:113", after := #[], guard := none }) (v := _) rfl (by as_aux_lemma => kernel_rfl) (by as_aux_lemma => kernel_rfl) (by as_aux_lemma => kernel_rfl) (fun _ _ _ h => h) (Or.inl ⟨by kernel_rfl, by (intro w hSw; (try dsimp only at hSw); go_simp; first | done | with_reducible rfl)⟩) (by assumption) ?_
            (try simp only [List.getElem_toArray, List.getElem_cons_succ, List.getElem_cons_zero, Act.put, List.setIfInBounds_toArray, List.set_cons_zero, List.set_cons_succ])
            refine wpAnyH_take (i := 7) (oi := { dst := some 82, op := .move (.tmp 13), type := 3, pos := "law.go:113", after := #[], guard := none }) (v := _) rfl (by as_aux_lemma => kernel_rfl) (by as_aux_lemma => kernel_rfl) (by as_aux_lemma => kernel_rfl) (fun _ _ _ h => h) (Or.inl ⟨by kernel_rfl, by (intro w hSw; (try dsimp only at hSw); go_simp; first | done | with_reducible rfl)⟩) (by assumption) ?_
            (try simp only [List.getElem_toArray, List.getElem_cons_succ, List.getElem_cons_zero, Act.put, List.setIfInBounds_toArray, List.set_cons_zero, List.set_cons_succ])
            refine wpAnyH_take (i := 8) (oi := { dst := some 83, op := .indexAddr 48 (.tmp 81) (.tmp 82), type := 0, pos := "law.go:113", after := #[{ on := 6, ground := .data }, { on := 7, ground := .data }], guard := none }) (v := _) rfl (by as_aux_lemma => kernel_rfl) (by as_aux_lemma => kernel_rfl) (by as_aux_lemma => kernel_rfl) (fun _ _ _ h => h) (Or.inl ⟨by kernel_rfl, by (intro w hSw; (try dsimp only at hSw); go_simp; first | done | with_reducible rfl)⟩) (by assumption) ?_
            (try simp only [List.getElem_toArray, List.getElem_cons_succ, List.getElem_cons_zero, Act.put, List.setIfInBounds_toArray, List.set_cons_zero, List.set_cons_succ])
            refine wpAnyH_take (i := 9) (oi := { dst := some 84, op := .load 53 (.tmp 83), type := 53, pos := "law.go:113", after := #[{ on := 8, ground := .data }], guard := none }) (v := _) rfl (by as_aux_lemma => kernel_rfl) (by as_aux_lemma => kernel_rfl) (by as_aux_lemma => kernel_rfl) (fun _ _ _ h => h) (Or.inl ⟨by kernel_rfl, by (intro w hSw; (try dsimp only at hSw); go_simp; first | done | with_reducible rfl)⟩) (by assumption) ?_
            (try simp only [List.getElem_toArray, List.getElem_cons_succ, List.getElem_cons_zero, Act.put, List.setIfInBounds_toArray, List.set_cons_zero, List.set_cons_succ])
            refine wpAnyH_take (i := 10) (oi := { dst := some 85, op := .load 53 (.tmp 8), type := 53, pos := "law.go:113", after := #[], guard := none }) (v := _) rfl (by as_aux_lemma => kernel_rfl) (by as_aux_lemma => kernel_rfl) (by as_aux_lemma => kernel_rfl) (fun _ _ _ h => h) (Or.inl ⟨by kernel_rfl, by (intro w hSw; (try dsimp only at hSw); go_simp; first | done | with_reducible rfl)⟩) (by assumption) ?_
            (try simp only [List.getElem_toArray, List.getElem_cons_succ, List.getElem_cons_zero, Act.put, List.setIfInBounds_toArray, List.set_cons_zero, List.set_cons_succ])
            refine wpAnyH_ready (rs := [11]) (by as_aux_lemma => kernel_rfl) (by simp) (AllReadyH.cons rfl (fun K hK => ?_) AllReadyH.nil)
            try simp only [List.getElem_toArray, List.getElem_cons_succ, List.getElem_cons_zero]
            go_simp
            go_at_call 20
            refine (SMj.out _ HB0.out).mono ?_
            rintro e wn ⟨rfl, hbn⟩
            have HB1 : Hid (Below wr.heap.size wr wn) := Lib.hid (HB0.out.trans (hbn.mono HB0.out.size))
            have SA := KS.out _ HB1.out
            clear hbn
            go_simp
            refine hK.out _ _ (by exact SA) (fun hHeld => ?_)
            clear hK K
            (try simp only [List.getElem_toArray, List.getElem_cons_succ, List.getElem_cons_zero, Act.put, List.setIfInBounds_toArray, List.set_cons_zero, List.set_cons_succ])
            refine wpAnyH_take (i := 12) (oi := { dst := some 87, op := .binOp BinOp.neq 4 (.tmp 80) (.tmp 86) 4, type := 4, pos := "law.go:113", after := #[{ on := 5, ground := .data }, { on := 11, ground := .data }], guard := none }) (v := _) rfl (by as_aux_lemma => kernel_rfl) (by as_aux_lemma => kernel_rfl) (by as_aux_lemma => kernel_rfl) (fun _ _ _ h => h) (Or.inl ⟨by kernel_rfl, by (intro w hSw; (try dsimp only at hSw); go_simp; first | done | with_reducible rfl)⟩) (by assumption) ?_
            (try simp only [List.getElem_toArray, List.getElem_cons_succ, List.getElem_cons_zero, Act.put, List.setIfInBounds_toArray, List.set_cons_zero, List.set_cons_succ])
            refine wpAnyH_done (by as_aux_lemma => kernel_rfl) ?_ _
            go_wp2
            go_roundw
            case rel => exact ⟨j + 1, by omega, by go_num, Lib.hid ⟨HJ.out.1.mono HB1.out, HJ.out.2.mono HB1.out⟩⟩
            case measure => simp [intOf]; omega
          · as_aux_lemma =>
            obtain rfl : j = N := by omega
            obtain ⟨c0, c1, c2, c3, c4, c5', c6⟩ := att_cells q.a _ q.n cap wr _ HJ.out.2.cell
            have hle := HJ.out.1.below.size
            have hj1 : j ≤ 4611686018427387904 := by omega
            have hj2 : (j + 1) * 64 ≤ 140737488355328 := by omega
            have hj3 : (j + 1) * 16 ≤ 140737488355328 := by omega
            go_upto_region 20 with (at_builtin; refine appendN_new elemAt rfl _ _ rfl w.heap.size (.slice Am j cm) j _ (by rfl) HJ.out.1.row (attV q.a (some ⟨g, 0, none⟩) q.n cap) rfl (by rfl) (by intro u hu; exact attsV_one [⟨q.a, some ⟨g, 0, none⟩, q.n, cap⟩] u (by simpa [attsV, AttM.v] using hu)) hj1 hj2 hle ?_; intro v' w' ho hg hd; clear hd; have HP := Lib.hid (HJ.out.1.push (q := ⟨q.a, some ⟨g, 0, none⟩, q.n, cap⟩) HJ.out.2.own ho hg); clear ho hg)
            have hle2 := HP.out.below.size
            go_wp2_with (at_builtin; refine append1_blk elemStr rfl _ _ rfl w.heap.size (.slice Ab j cb) j _ rfl HP.out.bys _ rfl rfl hj1 hj3 hle2 ?_; intro v2 w2 ho hg hd; clear hd)
            rw [← HT.out] at ho
            have HZ := Lib.hid (HP.out.push ho hg)
            clear ho hg
            go_roundw
            case rel => exact ⟨k + 1, j + 1, M ++ [⟨q.a, some ⟨g, 0, none⟩, q.n, cap⟩], by omega, by go_num, by omega, Lib.hid (fun x hx => by
              rcases List.mem_append.1 hx with h | h
              · exact HOK.out x h
              · rw [List.mem_singleton] at h
                subst h
                exact ⟨HCH.out, hqn2⟩), HZ⟩
            case measure => simp [intOf]; omega
      · have hc1 : chkA q.a = 1 := by rcases chkA_or q.a with h | h; exact absurd h hch; exact h
        rw [putR_bad hch, hc1]
        clear hch hc1
        go_wp2
        go_roundw
        case rel => exact ⟨k + 1, N, M, by omega, by go_num, by omega, HOK, BX4.out.1⟩
        case measure => simp [intOf]; omega
    · obtain rfl : k = n := by omega
      obtain ⟨Am, cm, rfl, hRm⟩ := own_reads HI.out.row
      have hRM := Lib.hid hRm
      have hcm : (N : Int) ≤ (cm : Int) := by
        rcases Nat.eq_zero_or_pos N with h | h
        · omega
        · obtain ⟨_, _, e, h2⟩ := own_slX HI.out.row h
          injection e with _ _ e
          omega
      have hN0 : (0 : Int) ≤ (N : Int) := by omega
      have hN1 : N ≤ 2199023255552 := by omega
      clear hRm hn hc hlt hk hMk
      have g0 : min (N : Int) 257 = ((min N 257 : Nat) : Int) := by omega
      obtain ⟨N', hN'⟩ : ∃ N', min N 257 = N' := ⟨_, rfl⟩
      rw [hN'] at g0
      have hN2 : (N' : Int) ≤ (cm : Int) := by omega
      have hN3 : N' ≤ N ∧ N' ≤ 257 ∧ (0 < N → 0 < N') := by omega
      have hN4 : (0 : Int) ≤ (N' : Int) := by omega
      obtain ⟨M', hM'⟩ : ∃ M', M.take N' = M' := ⟨_, rfl⟩
      have HL' : Hid (M'.length = N') := Lib.hid (by rw [← hM', List.length_take, HI.out.len]; omega)
      have HOK' : Hid (AbOK M') := Lib.hid (by rw [← hM']; exact fun q hq => HOK.out q (List.mem_of_mem_take hq))
      have HA' : Hid (AllOwn wr w.heap.size M' ∧ Reads wr wr.heap.size 7 Am N' (attsV M')) := Lib.hid (by
        rw [← hM']
        refine ⟨fun q hq => HI.out.all q (List.mem_of_mem_take hq), ?_⟩
        rw [attsV_cut]
        exact hRM.out.short hN3.1)
      have HBr := Lib.hid HI.out.below
      have hN5 : N' ≤ 257 := hN3.2.1
      clear hN3 hN' hM' HI HOK hRM
      go_upto_region 22 with fail
      clear g0 hN2 hcm hN0 hN1
      obtain ⟨⟨t1, e1⟩, hst⟩ : ∃ p, strR (M'.map (·.a)) = p := ⟨_, rfl⟩
      have ST := Lib.hid (attStrm_any Am N' cm M' wr wr.heap.size HA'.out.2 HA'.out.1.rd HOK'.out.sized (Nat.le_refl _) (by omega))
      rw [hst] at ST
      have HST := Lib.hid hst
      clear hst
      go_wp2_with fail
      (with_reducible refine ST.out.mono ?_)
      rintro e w2 ⟨rfl, hb2⟩
      have HB2 := Lib.hid hb2
      clear hb2 ST
      go_upto_if 108 with fail
      go_cut [18] (fun v18 wx => Hid (Below w.heap.size w wx))
      case first =>
        as_aux_lemma =>
        rcases Nat.eq_zero_or_pos N' with rfl | hpos
        · go_wp2
          go_meet
          exact Lib.hid (HBr.out.trans (HB2.out.mono HBr.out.size))
        · obtain ⟨t, et, ert, htz⟩ := str_good HOK'.out.chk (by rw [List.length_map, HL'.out]; exact hpos) (by rw [List.length_map, HL'.out]; exact hN5)
          have RS := attRStr_any t w2 (by omega)
          rw [ert] at RS
          have RS2 := Lib.hid RS
          clear RS ert
          rw [HST.out] at et
          injection et with et1 et2
          subst et1 et2
          have hposI : (0 : Int) < (N' : Int) := by omega
          go_wp2_with fail
          (with_reducible refine RS2.out.mono ?_)
          rintro e w3 ⟨v, M2, rfl, hm2, ho2, hall2, hok2, hb3⟩
          obtain ⟨A2, c2, rfl, hR2⟩ := own_reads ho2
          have hl2 : M2.length = N' := by have := congrArg List.length hm2; rw [List.length_map, List.length_map, HL'.out] at this; exact this
          rw [hl2] at hR2 ⊢
          have HR2 : Hid (Reads w3 w3.heap.size 7 A2 N' (attsV M2) ∧ AllOwn w3 w2.heap.size M2 ∧ Reads w3 w3.heap.size 7 Am N' (attsV M') ∧ AllOwn w3 w.heap.size M') := Lib.hid (by
            have q := hb3.size
            have q2 := HB2.out.size
            refine ⟨hR2, hall2, ?_, (HA'.out.1.below HB2.out).below hb3⟩
            exact (((HA'.out.2.below HB2.out).more q2).below hb3).more q)
          have HE2 : Hid (∀ j (h1 : j < M'.length) (h2 : j < M2.length), M2[j].a = M'[j].a) := Lib.hid (fun j h1 h2 => map_at hm2 j h1 h2)
          have HOK2 := Lib.hid hok2
          have HB3 : Hid (Below w.heap.size w w3) := Lib.hid (by
            have b := HBr.out.trans (HB2.out.mono HBr.out.size)
            exact b.trans (hb3.mono b.size))
          clear hR2 hall2 hb3 hm2 ho2 hok2 hl2 RS2 HB2 HA'
          go_wp2_with fail
          go_loopw [18] (fun i wx => ∃ (j : Nat), j ≤ N' ∧ i = .int .i64 j ∧ Hid (Below w3.heap.size w3 wx)) (fun i _ => N' - (intOf i).toNat)
          case atStart => exact ⟨0, by omega, rfl, Lib.hid (Below.refl _ _)⟩
          case round =>
            obtain ⟨j, hj, rfl, HJ⟩ := hrel
            by_cases hjN : j < N'
            · as_aux_lemma =>
              obtain ⟨adx, hjx, rfl, hbx, hcx⟩ := atts_cells HR2.out.1 j hjN
              obtain ⟨adm, hjm, rfl, hbm, hcm⟩ := atts_cells HR2.out.2.2.1 j hjN
              have he := HE2.out j hjm hjx
              have hmx := List.getElem_mem hjx
              have hmm := List.getElem_mem hjm
              obtain ⟨qx, hqx⟩ : ∃ q, M2[j] = q := ⟨_, rfl⟩
              obtain ⟨qm, hqm⟩ : ∃ q, M'[j] = q := ⟨_, rfl⟩
              rw [hqx] at hcx hmx he
              rw [hqm] at hcm hmm he
              have n1 := (HOK2.out qx hmx).2
              have n2 := (HOK'.out qm hmm).2
              have o1 := HR2.out.2.1 qx hmx
              have o2 := HR2.out.2.2.2 qm hmm
              have SMj : Hid (∀ W, Below w3.heap.size w3 W → Calls Try.prog 20 #[.agg (attV qx.a qx.A qx.n qx.c), .agg (attV qm.a qm.A qm.n qm.c)] W fun e w' => e = .returned (.bool true) ∧ Below W.heap.size W w') := Lib.hid fun W hW => by
                have h1 := own_below o1 hW
                have h2 := own_below o2 hW
                have h3 := attSame_any qx.a qm.a qx.A qm.A qx.n qx.c qm.n qm.c W W.heap.size (Reads.of_own h1) (Reads.of_own h2) (Nat.le_refl _) (by omega) (by omega)
                rw [(sameA_iff qx.a qm.a).2 he] at h3
                exact h3
              have KS : Hid (∀ W, Below w3.heap.size w3 W →
                (W.cell? (adx.add (j * 7)) = some (.int .u8 (qx.a.nd.toNat : Int)) ∧ W.cell? ⟨(adx.add (j * 7)).block, (adx.add (j * 7)).off + 1, none⟩ = some (.int .u32 (qx.a.md.toNat : Int)) ∧ W.cell? ⟨(adx.add (j * 7)).block, (adx.add (j * 7)).off + 2, none⟩ = some (.int .u32 (qx.a.ui.toNat : Int)) ∧ W.cell? ⟨(adx.add (j * 7)).block, (adx.add (j * 7)).off + 3, none⟩ = some (.int .u32 (qx.a.gi.toNat : Int)) ∧ W.cell? ⟨(adx.add (j * 7)).block, (adx.add (j * 7)).off + 4, none⟩ = some (.int .i64 qx.a.mt) ∧ W.cell? ⟨(adx.add (j * 7)).block, (adx.add (j * 7)).off + 5, none⟩ = some (.string qx.a.tg) ∧ W.cell? ⟨(adx.add (j * 7)).block, (adx.add (j * 7)).off + 6, none⟩ = some (.slice qx.A qx.n qx.c)) ∧
                (W.cell? (adm.add (j * 7)) = some (.int .u8 (qm.a.nd.toNat : Int)) ∧ W.cell? ⟨(adm.add (j * 7)).block, (adm.add (j * 7)).off + 1, none⟩ = some (.int .u32 (qm.a.md.toNat : Int)) ∧ W.cell? ⟨(adm.add (j * 7)).block, (adm.add (j * 7)).off + 2, none⟩ = some (.int .u32 (qm.a.ui.toNat : Int)) ∧ W.cell? ⟨(adm.add (j * 7)).block, (adm.add (j * 7)).off + 3, none⟩ = some (.int .u32 (qm.a.gi.toNat : Int)) ∧ W.cell? ⟨(adm.add (j * 7)).block, (adm.add (j * 7)).off + 4, none⟩ = some (.int .i64 qm.a.mt) ∧ W.cell? ⟨(adm.add (j * 7)).block, (adm.add (j * 7)).off + 5, none⟩ = some (.string qm.a.tg) ∧ W.cell? ⟨(adm.add (j * 7)).block, (adm.add (j * 7)).off + 6, none⟩ = some (.slice qm.A qm.n qm.c))) := Lib.hid (fun W hW => by
                refine ⟨seven_cells (fun i hi => ?_), seven_cells (fun i hi => ?_)⟩
                · rw [hW.cell (by rw [block_of_add, block_of_add]; exact hbx)]; exact hcx i hi
                · rw [hW.cell (by rw [block_of_add, block_of_add]; exact hbm)]; exact hcm i hi)
              clear hqx hqm hjx hjm hcx hcm hmx hmm o1 o2 he hbx hbm n1 n2
              have hjki : (j : Int) < (N' : Int) := by omega
              have hj0 : (0 : Int) ≤ (j : Int) := by omega
              go_upto_region 30 with fail
              have HB0 : Hid (Below w3.heap.size w3 wr.drew) := Lib.hid HJ.out.drew
              have SA := KS.out _ HB0.out
              refine wp_region_held_drew (S := fun w' => (w'.cell? (adx.add (j * 7)) = some (.int .u8 (qx.a.nd.toNat : Int)) ∧ w'.cell? ⟨(adx.add (j * 7)).block, (adx.add (j * 7)).off + 1, none⟩ = some (.int .u32 (qx.a.md.toNat : Int)) ∧ w'.cell? ⟨(adx.add (j * 7)).block, (adx.add (j * 7)).off + 2, none⟩ = some (.int .u32 (qx.a.ui.toNat : Int)) ∧ w'.cell? ⟨(adx.add (j * 7)).block, (adx.add (j * 7)).off + 3, none⟩ = some (.int .u32 (qx.a.gi.toNat : Int)) ∧ w'.cell? ⟨(adx.add (j * 7)).block, (adx.add (j * 7)).off + 4, none⟩ = some (.int .i64 qx.a.mt) ∧ w'.cell? ⟨(adx.add (j * 7)).block, (adx.add (j * 7)).off + 5, none⟩ = some (.string qx.a.tg) ∧ w'.cell? ⟨(adx.add (j * 7)).block, (adx.add (j * 7)).off + 6, none⟩ = some (.slice qx.A qx.n qx.c)) ∧ (w'.cell? (adm.add (j * 7)) = some (.int .u8 (qm.a.nd.toNat : Int)) ∧ w'.cell? ⟨(adm.add (j * 7)).block, (adm.add (j * 7)).off + 1, none⟩ = some (.int .u32 (qm.a.md.toNat : Int)) ∧ w'.cell? ⟨(adm.add (j * 7)).block, (adm.add (j * 7)).off + 2, none⟩ = some (.int .u32 (qm.a.ui.toNat : Int)) ∧ w'.cell? ⟨(adm.add (j * 7)).block, (adm.add (j * 7)).off + 3, none⟩ = some (.int .u32 (qm.a.gi.toNat : Int)) ∧ w'.cell? ⟨(adm.add (j * 7)).block, (adm.add (j * 7)).off + 4, none⟩ = some (.int .i64 qm.a.mt) ∧ w'.cell? ⟨(adm.add (j * 7)).block, (adm.add (j * 7)).off + 5, none⟩ = some (.string qm.a.tg) ∧ w'.cell? ⟨(adm.add (j * 7)).block, (adm.add (j * 7)).off + 6, none⟩ = some (.slice qm.A qm.n qm.c))) (by kernel_rfl) (by exact SA) (fun hHeld => ?_)
              refine wpAnyH_take (i := 0) (oi := { dst := some 133, op := .move (.tmp 16), type := 48, pos := "law.go:128", after := #[], guard := none }) (v := _) rfl (by as_aux_lemma => kernel_rfl) (by as_aux_lemma => kernel_rfl) (by as_aux_lemma => kernel_rfl) (fun _ _ _ h => h) (Or.inl ⟨by kernel_rfl, by (intro w hSw; (try dsimp only at hSw); go_simp; first | done | with_reducible rfl)⟩) (by assumption) ?_
              (try simp only [List.getElem_toArray, List.getElem_cons_succ, List.getElem_cons_zero, Act.put, List.setIfInBounds_toArray, List.set_cons_zero, List.set_cons_succ])
              refine wpAnyH_take (i := 1) (oi := { dst := some 134, op := .move (.tmp 18), type := 3, pos := "law.go:128", after := #[], guard := none }) (v := _) rfl (by as_aux_lemma => kernel_rfl) (by as_aux_lemma => kernel_rfl) (by as_aux_lemma => kernel_rfl) (fun _ _ _ h => h) (Or.inl ⟨by kernel_rfl, by (intro w hSw; (try dsimp only at hSw); go_simp; first | done | with_reducible rfl)⟩) (by assumption) ?_
              (try simp only [List.getElem_toArray, List.getElem_cons_succ, List.getElem_cons_zero, Act.put, List.setIfInBounds_toArray, List.set_cons_zero, List.set_cons_succ])
              refine wpAnyH_take (i := 2) (oi := { dst := some 135, op := .indexAddr 48 (.tmp 133) (.tmp 134), type := 0, pos := "law.go:128", after := #[{ on := 0, ground := .data }, { on := 1, ground := .data }], guard := none }) (v := _) rfl (by as_aux_lemma => kernel_rfl) (by as_aux_lemma => kernel_rfl) (by as_aux_lemma => kernel_rfl) (fun _ _ _ h => h) (Or.inl ⟨by kernel_rfl, by (intro w hSw; (try dsimp only at hSw); go_simp; first | done | with_reducible rfl)⟩) (by assumption) ?_
              (try simp only [List.getElem_toArray, List.getElem_cons_succ, List.getElem_cons_zero, Act.put, List.setIfInBounds_toArray, List.set_cons_zero, List.set_cons_succ])
              refine wpAnyH_take (i := 3) (oi := { dst := some 136, op := .load 53 (.tmp 135), type := 53, pos := "law.go:128", after := #[{ on := 2, ground := .data }], guard := none }) (v := _) rfl (by as_aux_lemma => kernel_rfl) (by as_aux_lemma => kernel_rfl) (by as_aux_lemma => kernel_rfl) (fun _ _ _ h => h) (Or.inl ⟨by kernel_rfl, by (intro w hSw; (try dsimp only at hSw); go_simp; first | done | with_reducible rfl)⟩) (by assumption) ?_
              (try simp only [List.getElem_toArray, List.getElem_cons_succ, List.getElem_cons_zero, Act.put, List.setIfInBounds_toArray, List.set_cons_zero, List.set_cons_succ])
              refine wpAnyH_take (i := 4) (oi := { dst := some 137, op := .move (.tmp 5), type := 48, pos := "law.go:128", after := #[], guard := none }) (v := _) rfl (by as_aux_lemma => kernel_rfl) (by as_aux_lemma => kernel_rfl) (by as_aux_lemma => kernel_rfl) (fun _ _ _ h => h) (Or.inl ⟨by kernel_rfl, by (intro w hSw; (try dsimp only at hSw); go_simp; first | done | with_reducible rfl)⟩) (by assumption) ?_
              (try simp only [List.getElem_toArray, List.getElem_cons_succ, List.getElem_cons_zero, Act.put, List.setIfInBounds_toArray, List.set_cons_zero, List.set_cons_succ])
              refine wpAnyH_take (i := 5) (oi := { dst := some 138, op := .move (.tmp 18), type := 3, pos := "law.go:128", after := #[], guard := none }) (v := _) rfl (by as_aux_lemma => kernel_rfl) (by as_aux_lemma => kernel_rfl) (by as_aux_lemma => kernel_rfl) (fun _ _ _ h => h) (Or.inl ⟨by kernel_rfl, by (intro w hSw; (try dsimp only at hSw); go_simp; first | done | with_reducible rfl)⟩) (by assumption) ?_
              (try simp only [List.getElem_toArray, List.getElem_cons_succ, List.getElem_cons_zero, Act.put, List.setIfInBounds_toArray, List.set_cons_zero, List.set_cons_succ])
              refine wpAnyH_take (i := 6) (oi := { dst := some 139, op := .indexAddr 48 (.tmp 137) (.tmp 138), type := 0, pos := "law.go:128", after := #[{ on := 4, ground := .data }, { on := 5, ground := .data }], guard := none }) (v := _) rfl (by as_aux_lemma => kernel_rfl) (by as_aux_lemma => kernel_rfl) (by as_aux_lemma => kernel_rfl) (fun _ _ _ h => h) (Or.inl ⟨by kernel_rfl, by (intro w hSw; (try dsimp only at hSw); go_simp; first | done | with_reducible rfl)⟩) (by assumption) ?_
              (try simp only [List.getElem_toArray, List.getElem_cons_succ, List.getElem_cons_zero, Act.put, List.setIfInBounds_toArray, List.set_cons_zero, List.set_cons_succ])
              refine wpAnyH_take (i := 7) (oi := { dst := some 140, op := .load 53 (.tmp 139), type := 53, pos := "law.go:128", after := #[{ on := 6, ground := .data }], guard := none }) (v := _) rfl (by as_aux_lemma => kernel_rfl) (by as_aux_lemma => kernel_rfl) (by as_aux_lemma => kernel_rfl) (fun _ _ _ h => h) (Or.inl ⟨by kernel_rfl, by (intro w hSw; (try dsimp only at hSw); go_simp; first | done | with_reducible rfl)⟩) (by assumption) ?_
              (try simp only [List.getElem_toArray, List.getElem_cons_succ, List.getElem_cons_zero, Act.put, List.setIfInBounds_toArray, List.set_cons_zero, List.set_cons_succ])
              refine wpAnyH_ready (rs := [8]) (by as_aux_lemma => kernel_rfl) (by simp) (AllReadyH.cons rfl (fun K hK => ?_) AllReadyH.nil)
              try simp only [List.getElem_toArray, List.getElem_cons_succ, List.getElem_cons_zero]
              go_simp
              go_at_call 20
              refine (SMj.out _ HB0.out).mono ?_
              rintro e wn ⟨rfl, hbn⟩
              have HB1 : Hid (Below w3.heap.size w3 wn) := Lib.hid (HB0.out.trans (hbn.mono HB0.out.size))
              have SA := KS.out _ HB1.out
              clear hbn
              go_simp
              refine hK.out _ _ (by exact SA) (fun hHeld => ?_)
              clear hK K
              (try simp only [List.getElem_toArray, List.getElem_cons_succ, List.getElem_cons_zero, Act.put, List.setIfInBounds_toArray, List.set_cons_zero, List.set_cons_succ])
              refine wpAnyH_take (i := 9) (oi := { dst := some 142, op := .unOp UnOp.not 4 (.tmp 141), type := 4, pos := "law.go:128", after := #[{ on := 8, ground := .data }], guard := none }) (v := _) rfl (by as_aux_lemma => kernel_rfl) (by as_aux_lemma => kernel_rfl) (by as_aux_lemma => kernel_rfl) (fun _ _ _ h => h) (Or.inl ⟨by kernel_rfl, by (intro w hSw; (try dsimp only at hSw); go_simp; first | done | with_reducible rfl)⟩) (by assumption) ?_
              (try simp only [List.getElem_toArray, List.getElem_cons_succ, List.getElem_cons_zero, Act.put, List.setIfInBounds_toArray, List.set_cons_zero, List.set_cons_succ])
              refine wpAnyH_done (by as_aux_lemma => kernel_rfl) ?_ _
              go_wp2
              go_roundw
              case rel => exact ⟨j + 1, by omega, by go_num, HB1⟩
              case measure => simp [intOf]; omega
            · obtain rfl : j = N' := by omega
              go_wp2
              go_meet
              exact Lib.hid (HB3.out.trans (HJ.out.mono HB3.out.size))
      case rest =>
        have HBc := hcut
        clear hcut HB2 HBr HA' HOK' HL' HST hN5 hN4
        have X0 := Lib.hid (fun h => rdR_back (s := s) h)
        have X1 := Lib.hid (fun h => rsR_back (s := s) h)
        have RD := attRead_any s wc (by omega)
        have RS := Lib.hid (fun W => attRStr_any s W (by omega))
        have hz := rdR_sized s
        have hl := rdR_len s
        have hll := rsR_len s
        obtain ⟨⟨qa, G⟩, hqa⟩ : ∃ p, rdR s = p := ⟨_, rfl⟩
        obtain ⟨⟨ql, I⟩, hql⟩ : ∃ p, rsR s = p := ⟨_, rfl⟩
        rw [hqa] at X0 RD hz hl
        rw [hql] at RS X1 hll
        dsimp only at X0 X1 RD hz hl RS hll
        have RD2 := Lib.hid RD
        obtain ⟨sz1, sz2, sz3⟩ := hz
        have SZ1 := Lib.hid sz1
        have SZ3 : Hid (∀ p ∈ qa.xs, p.1.size ≤ 4611686018427387904 ∧ p.2.size ≤ 4611686018427387904) := Lib.hid (fun p hp => ⟨Nat.le_trans (sz3 p hp).1 (by omega), Nat.le_trans (sz3 p hp).2 (by omega)⟩)
        clear hqa hql RD sz1 sz3
        go_wp2_with fail
        (with_reducible refine RD2.out.mono ?_)
        rintro e w2 ⟨A2, n2, c2, rfl, ho2, hb2⟩
        have hn2 : n2 ≤ 16 := by have := (Reads.of_own ho2).xtLen; omega
        have BX : Hid (AbX wc (w2.alloc (.cells (attV qa A2 n2 c2) 53)) w2.heap.size qa A2 n2 c2 ∧ Below w.heap.size w (w2.alloc (.cells (attV qa A2 n2 c2) 53))) := Lib.hid (by
          have b := HBc.out.trans (hb2.mono HBc.out.size)
          exact ⟨AbX.new ho2, b.alloc b.size _⟩)
        clear ho2 hb2 RD2 HBc
        unfold attV
        go_upto_region 33 with fail
        change Code.wp _ _ _ _ (w2.alloc (.cells (attV qa A2 n2 c2) 53))
        generalize w2.alloc (.cells (attV qa A2 n2 c2) 53) = w3 at BX ⊢
        generalize w2.heap.size = xb at BX ⊢
        obtain ⟨c0, c1, c2', c3, c4, c5, c6⟩ := att_cells qa _ n2 c2 w3 _ BX.out.1.cell
        have P2 := Lib.hid (attPut_any qa A2 n2 c2 w3 w3.heap.size (Reads.of_own BX.out.1.own) (Nat.le_refl _) SZ1.out (by omega) (by omega) SZ3.out)
        go_wp2_with fail
        change Calls _ _ #[.agg (attV qa A2 n2 c2)] _ _
        (with_reducible refine P2.out.mono ?_)
        rintro e w4 ⟨rfl, hb4⟩
        have HB4 : Hid (Below w.heap.size w w4) := Lib.hid (BX.out.2.trans (hb4.mono BX.out.2.size))
        clear hb4 P2 BX c0 c1 c2' c3 c4 c5 c6
        go_wp2_with fail
        (with_reducible refine (RS.out _).mono ?_)
        rintro e w5 ⟨v, M2, rfl, hm2, ho5, ha5, hok5, hb5⟩
        obtain ⟨A5, c5, rfl, hR5⟩ := own_reads ho5
        have ST := attStrm_any A5 M2.length c5 M2 w5 w5.heap.size hR5 ha5.rd (AbOK.sized hok5) (Nat.le_refl _) (by
          have h1 := congrArg List.length hm2
          rw [List.length_map] at h1
          omega)
        rw [hm2] at ST
        have ST2 := Lib.hid ST
        have HB5 : Hid (Below w.heap.size w w5) := Lib.hid (HB4.out.trans (hb5.mono HB4.out.size))
        clear hm2 ho5 ha5 hok5 hb5 hR5 ST HB4 RS
        generalize M2.length = n5 at ST2 ⊢
        go_wp2_with fail
        (with_reducible refine ST2.out.mono ?_)
        rintro e w6 ⟨rfl, hb6⟩
        have HB6 : Hid (Below w.heap.size w w6) := Lib.hid (HB5.out.trans (hb6.mono HB5.out.size))
        clear hb6 ST2 HB5
        have X0' : Hid (G = 0 → chkA qa = 0 ∧ putR qa = s) := Lib.hid (fun h => by
          obtain ⟨h1, h2⟩ := X0.out h
          exact ⟨h1, by rw [putR_good h1, h2]⟩)
        clear X0
        generalize chkA qa = H at X0' ⊢
        generalize putR qa = U at X0' ⊢
        obtain ⟨⟨V, J⟩, hv⟩ : ∃ p, strR ql = p := ⟨_, rfl⟩
        rw [hv] at X1 ⊢
        clear hv
        have X1' : Hid (I = 0 → J = 0 ∧ V = s) := Lib.hid (fun h => by
          have h2 := X1.out h
          injection h2 with h3 h4
          exact ⟨h4, h3⟩)
        clear X1
        have AW := Lib.hid (fun W => attAwake_any W)
        have hs8 : (s.toList == s.toList) = true := beq_self_eq_true _
        by_cases hG : G = 0
        · obtain ⟨rfl, rfl⟩ := X0'.out hG
          subst hG
          clear X0'
          by_cases hI : I = 0
          · obtain ⟨rfl, hV⟩ := X1'.out hI
            subst hI hV
            clear X1'
            go_wp2_with fail
            (with_reducible refine (AW.out _).mono ?_)
            rintro e w7 ⟨rfl, hb7⟩
            have HB7 : Hid (Below w.heap.size w w7) := Lib.hid (HB6.out.trans (hb7.mono HB6.out.size))
            clear hb7
            go_wp2
            go_ret
            exact ⟨rfl, HB7.out⟩
          · have hIb : (I != 0) = true := by rw [bne_iff_ne]; exact hI
            clear hI X1'
            go_wp2_with fail
            (with_reducible refine (AW.out _).mono ?_)
            rintro e w7 ⟨rfl, hb7⟩
            have HB7 : Hid (Below w.heap.size w w7) := Lib.hid (HB6.out.trans (hb7.mono HB6.out.size))
            clear hb7
            go_wp2
            go_ret
            exact ⟨rfl, HB7.out⟩
        · have hGb : (G != 0) = true := by rw [bne_iff_ne]; exact hG
          clear hG X0'
          by_cases hI : I = 0
          · obtain ⟨rfl, hV⟩ := X1'.out hI
            subst hI hV
            clear X1'
            go_wp2_with fail
            (with_reducible refine (AW.out _).mono ?_)
            rintro e w7 ⟨rfl, hb7⟩
            have HB7 : Hid (Below w.heap.size w w7) := Lib.hid (HB6.out.trans (hb7.mono HB6.out.size))
            clear hb7
            go_wp2
            go_ret
            exact ⟨rfl, HB7.out⟩
          · have hIb : (I != 0) = true := by rw [bne_iff_ne]; exact hI
            clear hI X1'
            go_wp2_with fail
            (with_reducible refine (AW.out _).mono ?_)
            rintro e w7 ⟨rfl, hb7⟩
            have HB7 : Hid (Below w.heap.size w w7) := Lib.hid (HB6.out.trans (hb7.mono HB6.out.size))
            clear hb7
            go_wp2
            go_ret
            exact ⟨rfl, HB7.out⟩
end Go.Proofs.Ytpfccicahfncbaa
