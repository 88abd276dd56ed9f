/- Several texts of the claim joined into one (part 5): plain facts and walks. No conditions but those that each theorem tells. -/
import Derived.Test.YthlnnclpfgokjaaMgShardsLinear4
import Derived.Test.YthlnnclpfgokjaaMgShardsLinear2
import Derived.Deep.RegionLaw
import Derived.Test.YthlnnclpfgokjaaMgShardsLinear1
import Derived.Deep.Grids
namespace Go.Proofs.Ythlnnclpfgokjaa
open Go.RowKit Gf
set_option linter.unusedVariables false
theorem step_append_str {P : Program} {ops : Array Oper} {o : Oper} {a : Act} {w : World} {K : Act → World → Prop} {Q : Exit → Act → World → Prop} {X : Prop} (hgd : o.guard = none) (s x : Operand) (t sT : TypeId)
    (ho : o.op = .call { callee := .builtin .append, args := #[s, x], argTypes := #[t, sT] }) (e : TypeId) (ht : P.underlying t = some (.slice e)) (hsT : P.underlying sT = some .string) (i : TypeInfo) (hi : P.info? e = some i) (hz : i.zero = some (.int .u8 0)) (hs1 : i.size = 1) (hb : i.bytes = 1)
    (g n cap : Nat) (f : Nat → Value) (hs : a.eval s = .slice (some ⟨g, 0, none⟩) n cap) (h : bufIs w e g n cap f) (st : ByteArray) (hx : a.eval x = .string st) (hroom : n + st.size ≤ 140737488355328)
    (hK : ∀ g' cap' w', bufIs w' e g' (n + st.size) cap' (thenStr f n st) → w.grownBy w' (some g) → (g' = g ∨ g' = w.heap.size) → K (a.put o.dst (.slice (some ⟨g', 0, none⟩) (n + st.size) cap')) w') :
    if Region.wanted o (yielded ops a.tmps) = true then Oper.wp P o a w K Q else X := by
  have hw : Region.wanted o (yielded ops a.tmps) = true := by simp [Region.wanted, hgd]
  rw [if_pos hw]
  obtain ⟨g', cap', w', hrun, h2, h3, h4⟩ := run_append_str (P := P) (w := w) t sT e o.type ht hsT i hi hz hs1 hb h st hroom
  unfold Oper.wp execOp
  simp only [ho, resolve, invoke, builtin, Sem.run_bind, Sem.run_pure, Result.andThen_ok, List.map_toArray, List.map_cons, List.map_nil, hs, hx, hrun]
  exact hK g' cap' w' h2 h3 h4

theorem bmat_congrL {w : World} {base n : Nat} {v : Value} {L L' gs caps : Nat → Nat} {M : Mat} (h : bmat w base v n L gs caps M) (e : ∀ i, i < n → L i = L' i) : bmat w base v n L' gs caps M :=
  ⟨by rw [← rowsV_congr (fun i hi => by unfold rowV; rw [e i hi]) (gs := gs) (L := L) (caps := caps)]; exact h.out, fun i hi => by rw [← e i hi]; exact h.buf i hi, h.ne⟩
theorem bmat_replace {w w1 : World} {base n c go i g' L' cap' : Nat} {L gs caps : Nat → Nat} {M : Mat} (h : bmat w base (.slice (some ⟨go, 0, none⟩) n c) n L gs caps M) (hi : i < n)
    (hg : w.grownBy w1 (some (gs i))) (hb : bufIs w1 5 g' L' cap' (numV M i)) (hd : g' = gs i ∨ g' = w.heap.size) (hbase : base ≤ w.heap.size) :
    bmat (w1.setCell ⟨go, i, none⟩ (.slice (some ⟨g', 0, none⟩) L' cap')) base (.slice (some ⟨go, 0, none⟩) n c) n (upd L i L') (upd gs i g') (upd caps i cap') M ∧ w1.grownBy (w1.setCell ⟨go, i, none⟩ (.slice (some ⟨g', 0, none⟩) L' cap')) (some go) := by
  have o1 := h.out.kept hg (.inr (own_buf_ne h.out (h.buf i hi).2 (by decide)))
  obtain ⟨o2, g2⟩ := o1.stored i (.slice (some ⟨g', 0, none⟩) L' cap')
  have hgo : ∀ k cp Lk f, bufIs w1 5 k Lk cp f → k ≠ go := fun k cp Lk f hk e => own_buf_ne o1 hk (by decide) (by rw [e]; rfl)
  have hlt : ∀ k, k < n → gs k < w.heap.size := fun k hk => (h.buf k hk).2.lt
  refine ⟨⟨?_, fun k hk => ?_, fun k l hk hl hne => ?_⟩, g2⟩
  · have e : (rowsV gs L caps n).set i (.slice (some ⟨g', 0, none⟩) L' cap') = rowsV (upd gs i g') (upd L i L') (upd caps i cap') n := by
      apply List.ext_getElem?
      intro k
      rw [List.getElem?_set]
      have hl : (rowsV gs L caps n).length = n := by simp [rowsV]
      rw [hl]
      by_cases hk : k < n
      · have er : ∀ (g l c : Nat → Nat), (rowsV g l c n)[k]? = some (rowV g l c k) := fun g l c => by simp [rowsV, hk]
        rw [er, er]
        unfold rowV
        by_cases e1 : i = k
        · subst e1; rw [if_pos rfl, if_pos hk, upd_self, upd_self, upd_self]
        · rw [if_neg e1, upd_ne _ _ (fun h => e1 h.symm), upd_ne _ _ (fun h => e1 h.symm), upd_ne _ _ (fun h => e1 h.symm)]
      · have er : ∀ (g l c : Nat → Nat), (rowsV g l c n)[k]? = none := fun g l c => by simp [rowsV]; omega
        rw [er, er, if_neg (by omega)]
    rw [← e]; exact o2
  · by_cases e : k = i
    · subst e
      rw [upd_self, upd_self, upd_self]
      refine ⟨?_, hb.of_block (Below.heap_setCell _ _ _ _ (hgo _ _ _ _ hb))⟩
      rcases hd with hd | hd
      · rw [hd]; exact (h.buf k hi).1
      · omega
    · rw [upd_ne _ _ e, upd_ne _ _ e, upd_ne _ _ e]
      have hbk := (h.buf k hk).2.grown hg (fun e2 => h.ne k i hk hi e (by injection e2))
      exact ⟨(h.buf k hk).1, hbk.of_block (Below.heap_setCell _ _ _ _ (hgo _ _ _ _ hbk))⟩
  · by_cases e1 : k = i
    · subst e1
      rw [upd_self, upd_ne _ _ (fun h => hne h.symm)]
      rcases hd with hd | hd
      · rw [hd]; exact h.ne k l hk hl hne
      · have := hlt l hl; omega
    · rw [upd_ne _ _ e1]
      by_cases e2 : l = i
      · subst e2
        rw [upd_self]
        rcases hd with hd | hd
        · rw [hd]; exact h.ne k l hk hl hne
        · have := hlt k hk; omega
      · rw [upd_ne _ _ e2]; exact h.ne k l hk hl hne

theorem bmat_keep {w w' : World} {base base' n m : Nat} {v v' : Value} {e : TypeId} {xs : List Value} {L gs caps : Nat → Nat} {M : Mat} (h : bmat w base v n L gs caps M) (ho : w.ownsRow base' e 1 v' m xs) (h1 : 44 ≠ e) (h2 : e ≠ 5) (hg : w.grownBy w' v'.ownBlock) : bmat w' base v n L gs caps M :=
  ⟨own_keep h.out ho h1 hg, fun i hi => ⟨(h.buf i hi).1, (h.buf i hi).2.grown hg (fun e => own_buf_ne ho (h.buf i hi).2 h2 e.symm)⟩, h.ne⟩
theorem own_head {w : World} {base n : Nat} {e : TypeId} {v : Value} {xs : List Value} (h : w.ownsRow base e 1 v n xs) (hn : 1 ≤ n) : ∃ go cc, v = .slice (some ⟨go, 0, none⟩) n cc := by
  obtain ⟨g, cap, hv, _⟩ := h.form (by omega)
  exact ⟨g, cap, hv⟩

set_option maxRecDepth 100000 in
set_option maxHeartbeats 400000 in
theorem rrank_any (A : Option Addr) (n c : Nat) (a : List ByteArray) (w : World) (B : Nat) (h : Reads w B 1 A n (strV a)) (hB : B ≤ w.heap.size) (hn : n ≤ 9223372036854775807) (hz : ∀ s ∈ a, s.size ≤ 9223372036854775807) :
    Calls Try.prog 36 #[.slice A n c] w fun e w' => e = .returned (.tuple #[.int .i64 (rankR a).1, .int .i64 (rankR a).2]) ∧ Below w.heap.size w w' := by
  by_cases ha : ¬ okM a = true
  · have X : Hid (rankR a = (0, 1)) := Lib.hid (by unfold rankR; rw [if_neg ha])
    have Ca := Lib.hid (chk_no ha)
    have H := Lib.hid h
    have HZ := Lib.hid hz
    clear h hz ha
    go_enter Try.func36, Try.ntmps36
    go_wp2_with fail
    refine (rcheck_any A n c a _ B H.out hn HZ.out).mono ?_
    rintro e w' ⟨rfl, rfl⟩
    rw [Ca.out]
    go_wp2
    go_ret2
    exact ⟨by rw [X.out]; rfl, Below.refl _ _⟩
  have ha := Classical.not_not.1 ha
  have hoa := (okM_iff a).1 ha
  have hl := h.len
  have hn1 : n ≤ 64 := by omega
  have hn0 : 1 ≤ n := by omega
  have hcc : col a ≤ 64 := hoa.2.2.2.1
  have Ca : Hid (chkV a = .tuple #[.int .i64 (n : Int), .int .i64 (col a : Int), .int .i64 0]) := Lib.hid (by rw [chk_yes ha, hl])
  have X : Hid (rankR a = (((esteps n (rankM a (col a)) (col a)).2 : Int), 0)) := Lib.hid (by unfold rankR; rw [if_pos ha, hl])
  have HOA := Lib.hid hoa
  have HL := Lib.hid hl
  have H := Lib.hid h
  have HZ := Lib.hid hz
  clear h hz ha hoa hl
  go_enter Try.func36, Try.ntmps36
  go_wp2_with fail
  refine (rcheck_any A n c a _ B H.out hn HZ.out).mono ?_
  rintro e w' ⟨rfl, rfl⟩
  rw [Ca.out]
  go_wp2_with fail
  refine (rows_any _ B A n c a H.out hB hn1).mono ?_
  rintro e w2 ⟨v, gs, caps, rfl, hm, hb⟩
  obtain ⟨go, cc, rfl⟩ := own_head hm.out hn0
  have HM : Hid (bmat w2 w.heap.size (.slice (some ⟨go, 0, none⟩) n cc) n (fun _ => col a) gs caps (rankM a (col a))) := Lib.hid
    ((bmat_congrL hm (fun i hi => by rw [HOA.out.2.2.2.2 i (by rw [HL.out]; exact hi)]; rfl)).congr fun i j hi hj => by unfold rankM; rw [if_pos hj])
  have HB := Lib.hid hb
  clear hm hb
  go_wp2_with fail
  refine (reliminate_any w2 w.heap.size go n cc (col a) (col a) gs caps _ HM.out hn1 (Nat.le_refl _) (by omega)).mono ?_
  rintro e w3 ⟨rfl, _, hb3⟩
  have HB3 : Hid (Below w.heap.size w w3) := Lib.hid (HB.out.trans hb3)
  clear hb3
  go_wp2
  go_ret2
  exact ⟨by rw [X.out]; rfl, HB3.out⟩

set_option maxRecDepth 100000 in
set_option maxHeartbeats 400000 in
theorem rinverse_bad (A : Option Addr) (n c : Nat) (a : List ByteArray) (w : World) (B : Nat) (h : Reads w B 1 A n (strV a)) (hn : n ≤ 9223372036854775807) (hz : ∀ s ∈ a, s.size ≤ 9223372036854775807)
    (hbad : ¬ (okM a = true ∧ a.length = col a)) :
    Calls Try.prog 35 #[.slice A n c] w fun e w' => RetStrs w w' e (invR a) := by
  have X : Hid (invR a = ([], 1)) := Lib.hid (by unfold invR; rw [if_neg hbad])
  have H := Lib.hid h
  have HZ := Lib.hid hz
  clear h hz
  by_cases ha : okM a = true
  · have Ca := Lib.hid (chk_yes ha)
    have hne : ((a.length : Int) != (col a : Int)) = true := by rw [bne_iff_ne]; intro e; exact hbad ⟨ha, by omega⟩
    clear hbad ha
    go_enter Try.func35, Try.ntmps35
    go_wp2_with fail
    refine (rcheck_any A n c a _ B H.out hn HZ.out).mono ?_
    rintro e w' ⟨rfl, rfl⟩
    rw [Ca.out]
    go_wp2
    go_ret2
    exact retNil w 1 _ X.out (Below.refl _ _)
  · have Ca := Lib.hid (chk_no ha)
    clear hbad ha
    go_enter Try.func35, Try.ntmps35
    go_wp2_with fail
    refine (rcheck_any A n c a _ B H.out hn HZ.out).mono ?_
    rintro e w' ⟨rfl, rfl⟩
    rw [Ca.out]
    go_wp2
    go_ret2
    exact retNil w 1 _ X.out (Below.refl _ _)

theorem aug_then (ss : List ByteArray) (n i : Nat) (hi : i < n) (s : ByteArray) (hs : s = bs ((List.range n).map fun j => if i = j then (1 : UInt8) else 0)) (j : Nat) (hj : j < n + s.size) :
    thenStr (numV (augM ss n) i) n s j = numV (augM ss n) i j := by
  have hsz : s.size = n := by rw [hs, bs_size]; simp
  unfold thenStr
  by_cases h : j < n
  · rw [if_pos h]
  · rw [if_neg h]
    unfold numV augM
    rw [if_neg h, hs, bs_data]
    have hjn : j - n < n := by omega
    simp only [List.getD_eq_getElem?_getD, List.getElem?_map, List.getElem?_range hjn, Option.map_some, Option.getD_some]
    by_cases e : i = j - n
    · rw [if_pos e, if_pos (by omega)]
    · rw [if_neg e, if_neg (by omega)]
def unitRow (n i : Nat) : ByteArray := bs ((List.range n).map fun j => if i = j then (1 : UInt8) else 0)
theorem unitRow_size (n i : Nat) : (unitRow n i).size = n := by unfold unitRow; rw [bs_size]; simp
theorem unit_row (n i : Nat) (hi : i < n) : sAt (mat n n (fun i j => if i = j then 1 else 0)) i = unitRow n i := by
  rw [sAt_get (by rw [mat_length]; exact hi)]
  simp [mat, unitRow]
def halfL (n k : Nat) : Nat → Nat := fun i => if i < k then n + n else n

theorem inv_step {w1 wr w5 : World} {base go n cc k g' cap' : Nat} {gs caps : Nat → Nat} {a : List ByteArray} (h : bmat wr base (.slice (some ⟨go, 0, none⟩) n cc) n (halfL n k) gs caps (augM a n)) (hk : k < n) (hbl : Below base w1 wr) (hs : base ≤ wr.heap.size)
    (hb : bufIs w5 5 g' (n + (unitRow n k).size) cap' (thenStr (numV (augM a n) k) n (unitRow n k))) (hg : wr.drew.grownBy w5 (some (gs k))) (hd : g' = gs k ∨ g' = wr.drew.heap.size) :
    (∃ gs caps, bmat (w5.setCell ⟨go, k, none⟩ (.slice (some ⟨g', 0, none⟩) (n + (unitRow n k).size) cap')) base (.slice (some ⟨go, 0, none⟩) n cc) n (halfL n (k + 1)) gs caps (augM a n)) ∧
    Below base w1 (w5.setCell ⟨go, k, none⟩ (.slice (some ⟨g', 0, none⟩) (n + (unitRow n k).size) cap')) := by
  have hb' : bufIs w5 5 g' (n + (unitRow n k).size) cap' (numV (augM a n) k) := hb.congr fun j hj => aug_then a n k hk (unitRow n k) rfl j hj
  obtain ⟨h1, h2⟩ := bmat_replace h.drew hk hg hb' hd hs
  refine ⟨⟨_, _, bmat_congrL h1 fun i hi => ?_⟩, ?_⟩
  · unfold upd halfL
    by_cases e : i = k
    · rw [if_pos e, if_pos (by omega), unitRow_size]
    · rw [if_neg e]
      by_cases e2 : i < k
      · rw [if_pos e2, if_pos (by omega)]
      · rw [if_neg e2, if_neg (by omega)]
  · have hb1 : Below base w1 w5 := below_grownB hbl.drew hg (h.buf k hk).1 hs
    have hgo := own_ge h.out go rfl
    exact below_grownB hb1 h2 hgo (Nat.le_trans hs hg.size)

set_option maxRecDepth 100000 in
set_option maxHeartbeats 2000000 in
theorem rinverse_any (A : Option Addr) (n c : Nat) (a : List ByteArray) (w : World) (B : Nat) (h : Reads w B 1 A n (strV a)) (hB : B ≤ w.heap.size) (hn : n ≤ 9223372036854775807) (hz : ∀ s ∈ a, s.size ≤ 9223372036854775807) :
    Calls Try.prog 35 #[.slice A n c] w fun e w' => RetStrs w w' e (invR a) := by
  by_cases hbad : ¬ (okM a = true ∧ a.length = col a)
  · exact rinverse_bad A n c a w B h hn hz hbad
  obtain ⟨ha, hsq⟩ := Classical.not_not.1 hbad
  clear hbad
  have hoa := (okM_iff a).1 ha
  have hl := h.len
  have hn1 : n ≤ 64 := by omega
  have hn0 : 1 ≤ n := by omega
  have Ca : Hid (chkV a = .tuple #[.int .i64 (n : Int), .int .i64 (n : Int), .int .i64 0]) := Lib.hid (by rw [chk_yes ha, ← hsq, hl])
  have U : Hid (unitR (n : Int) = (mat n n (fun i j => if i = j then 1 else 0), 0)) := Lib.hid (by unfold unitR; rw [if_pos (by omega)]; rfl)
  obtain ⟨E, hE⟩ : ∃ E, E = invE a := ⟨_, rfl⟩
  have X : Hid (invR a = if E.2 < n then ([], 60) else (mat n n (fun i j => E.1 i (n + j)), 0)) := Lib.hid (by
    unfold invR; rw [if_pos ⟨ha, hsq⟩, ← hE, hl])
  have HE : Hid (esteps n (augM a n) n = E) := Lib.hid (by rw [hE, invE, hl])
  have SZ : Hid (∀ i, i < n → (sAt a i).size = n) := Lib.hid (fun i hi => by rw [hoa.2.2.2.2 i (by omega)]; unfold col at hsq; omega)
  have H := Lib.hid h
  have HZ := Lib.hid hz
  clear h hz ha hoa hl hsq hE
  obtain ⟨EM, ea⟩ := E
  go_enter Try.func35, Try.ntmps35
  go_wp2_with fail
  refine (rcheck_any A n c a _ B H.out hn HZ.out).mono ?_
  rintro e w' ⟨rfl, rfl⟩
  rw [Ca.out]
  go_wp2_with fail
  refine (runit_any n _).mono ?_
  rintro e w1 ⟨v1, rfl, ho1, hb1⟩
  rw [U.out] at ho1 ⊢
  obtain ⟨A1, c1, rfl, hr1⟩ := own_reads ho1
  have hl1 : (mat n n (fun i j => if i = j then (1 : UInt8) else 0)).length = n := mat_length _ _ _
  have R1 : Hid (Reads w1 w1.heap.size 1 A1 n (strV (mat n n (fun i j => if i = j then 1 else 0)))) := Lib.hid (by simp only [hl1] at hr1; exact hr1)
  have B1 := Lib.hid hb1
  have s1 := hb1.size
  have L1 := Lib.hid hl1
  simp only [hl1]
  clear ho1 hb1 hr1 hl1
  go_wp2_with fail
  refine (rows_any _ B A n c a (H.out.below (B1.out.mono hB)) (by omega) hn1).mono ?_
  rintro e w2 ⟨v, gs0, caps0, rfl, hm, hb⟩
  obtain ⟨go, cc, rfl⟩ := own_head hm.out hn0
  have HM : Hid (bmat w2 w1.heap.size (.slice (some ⟨go, 0, none⟩) n cc) n (halfL n 0) gs0 caps0 (augM a n)) := Lib.hid
    ((bmat_congrL hm (fun i hi => by rw [SZ.out i hi]; rfl)).congr fun i j hi hj => by unfold halfL at hj; rw [if_neg (by omega)] at hj; unfold augM; rw [if_pos hj])
  have HB2 := Lib.hid hb
  have R2 := Lib.hid (R1.out.below hb)
  have s2 := hb.size
  clear hm hb
  go_wp2
  go_loopw [10] (fun i wr => ∃ k : Nat, k ≤ n ∧ i = .int .i64 k ∧ Hid ((∃ gs caps, bmat wr w1.heap.size (.slice (some ⟨go, 0, none⟩) n cc) n (halfL n k) gs caps (augM a n)) ∧ Below w1.heap.size w1 wr)) (fun i _ => n - (intOf i).toNat)
  case atStart => exact ⟨0, by omega, rfl, Lib.hid ⟨⟨_, _, HM.out⟩, HB2.out⟩⟩
  case round =>
    obtain ⟨k, hk, rfl, HK⟩ := hrel
    by_cases hlt : k < n
    · obtain ⟨⟨gs, caps, hm⟩, hbl⟩ := HK.out
      have HMk := Lib.hid hm
      have HBk := Lib.hid hbl
      have hLk : halfL n k k = n := by unfold halfL; rw [if_neg (by omega)]
      have hrow : wr.cell? ⟨go, k, none⟩ = some (.slice (some ⟨gs k, 0, none⟩) n (caps k)) := by have := hm.row hlt; unfold rowV at this; rw [hLk] at this; exact this
      obtain ⟨ad, rfl, hbb, hc⟩ := ((R1.out.below hbl).str hlt)
      have hone := hc k hlt
      rw [unit_row n k hlt] at hone
      have hbuf : bufIs wr 5 (gs k) n (caps k) (numV (augM a n) k) := by have := (hm.buf k hlt).2; rw [hLk] at this; exact this
      have HBUF := Lib.hid hbuf
      have HLk := Lib.hid hLk
      have hsz : n + (unitRow n k).size ≤ 140737488355328 := by rw [unitRow_size]; omega
      have HSZ := Lib.hid hsz
      have hgoN := Lib.hid (own_buf_ne hm.out (hm.buf k hlt).2 (by decide))
      have hfz := hm.out.frozenAt k
      clear hm hbl hc hLk hbuf hsz
      obtain ⟨i5, hi5, hz5, hs5, hb5⟩ := elemByte.info
      have I5 := Lib.hid hi5
      have Z5 := Lib.hid hz5
      have S5 := Lib.hid hs5
      have B5 := Lib.hid hb5
      clear hi5 hz5 hs5 hb5
      go_wp2
      go_region_law (first | (refine step_append_str rfl _ _ 44 9 rfl 5 (by kernel_rfl) (by kernel_rfl) i5 I5.out Z5.out S5.out B5.out (gs k) n (caps k) (numV (augM a n) k) rfl HBUF.out.drew (unitRow n k) rfl HSZ.out ?_; intro g' cap' w5 hb5 hg5 hd5; have hrow5 := (World.cell?_of_block (w := wr.drew) (w' := w5) (a := ⟨go, k, none⟩) (hg5.block go (block_lt_of_cell hrow) (fun e => hgoN.out (by rw [← e]; rfl)))).trans hrow; have hfz5 := (World.frozen?_of_block (w := wr.drew) (w' := w5) (a := ⟨go, k, none⟩) (hg5.block go (block_lt_of_cell hrow) (fun e => hgoN.out (by rw [← e]; rfl)))).trans hfz))
      all_goals
        have HS := Lib.hid (inv_step HMk.out hlt HBk.out (by have := HBk.out.size; omega) hb5 hg5 hd5)
        clear hb5 hg5 hd5 hrow5 hfz5
        go_wp2
        go_roundw
        case rel => exact ⟨k + 1, by omega, by go_num, HS⟩
        case measure => simp [intOf]; omega
    · obtain rfl : k = n := by omega
      obtain ⟨⟨gs, caps, hm⟩, hbl⟩ := HK.out
      have HMk : Hid (bmat wr w1.heap.size (.slice (some ⟨go, 0, none⟩) k cc) k (fun _ => k + k) gs caps (augM a k)) := Lib.hid (bmat_congrL hm fun i hi => by unfold halfL; rw [if_pos hi])
      have HBk := Lib.hid hbl
      have s3 := hbl.size
      clear hm hbl HK
      go_wp2_with fail
      refine (reliminate_any wr w1.heap.size go k cc k (k + k) gs caps _ HMk.out hn1 (by omega) (by omega)).mono ?_
      rw [HE.out]
      rintro e w3 ⟨rfl, ⟨gs3, caps3, hm3⟩, hb3⟩
      have HM3 := Lib.hid hm3
      have HB3 := Lib.hid (B1.out.trans ((HBk.out.trans hb3).mono s1))
      have s4 := hb3.size
      clear hm3 hb3
      by_cases hlow : ea < k
      · have X' : Hid (invR a = ([], 60)) := Lib.hid (by rw [X.out, if_pos hlow])
        go_wp2
        go_ret2
        exact retNil w 60 _ X'.out HB3.out
      · have X' : Hid (invR a = (mat k k (fun i j => EM i (k + j)), 0)) := Lib.hid (by rw [X.out, if_neg hlow])
        go_wp2
        go_loopw [11, 12] (fun v i wr => ∃ i' : Nat, i' ≤ k ∧ i = .int .i64 i' ∧ Hid (bmat wr w1.heap.size (.slice (some ⟨go, 0, none⟩) k cc) k (fun _ => k + k) gs3 caps3 EM ∧ wr.ownsRow w.heap.size 9 1 v i' (strV (mat i' k (fun i j => EM i (k + j)))) ∧ Below w.heap.size w wr ∧ w1.heap.size ≤ wr.heap.size)) (fun _ i _ => k - (intOf i).toNat)
        case atStart => exact ⟨0, by omega, rfl, Lib.hid ⟨HM3.out, World.ownsRow_nil _ _ _ _, HB3.out, by omega⟩⟩
        case round =>
          obtain ⟨i, hi, rfl, HI⟩ := hrel
          by_cases hik : i < k
          · have hrow : wr.cell? ⟨go, i, none⟩ = some (.slice (some ⟨gs3 i, 0, none⟩) (k + k) (caps3 i)) := HI.out.1.row hik
            have hcap : k + k ≤ caps3 i := (HI.out.1.buf i hik).2.le
            have hcne : ¬ caps3 i = k := by omega
            have HC : Hid (∀ j, j < k → wr.cell? (({ block := gs3 i, off := k, spot := none } : Addr).add j) = some (.int .u8 ((((List.range k).map fun j => EM i (k + j)).getD j 0).toNat : Int))) := Lib.hid (fun j hj => by
              have ea : ({ block := gs3 i, off := k, spot := none } : Addr).add j = ⟨gs3 i, k + j, none⟩ := by unfold Addr.add; split <;> simp_all
              rw [ea, (HI.out.1.buf i hik).2.cell (by omega)]
              simp [numV, List.getD, hj])
            have hk1 : i ≤ 4611686018427387904 := by omega
            have hk2 : (i + 1) * 16 ≤ 140737488355328 := by omega
            have hle := HI.out.2.2.1.size
            go_wp2_with (first
              | (with_reducible refine conv_str_wp (e := 5) (by kernel_rfl) (by kernel_rfl) (by kernel_rfl) rfl _ rfl ⟨gs3 i, k, none⟩ k (caps3 i - k) rfl ((List.range k).map fun j => EM i (k + j)) (by simp) HC.out ?_)
              | (at_builtin; refine append1_new elemStr rfl _ _ rfl w.heap.size _ i _ rfl HI.out.2.1 _ rfl rfl hk1 hk2 hle ?_; intro v' w' ho hg))
            have HI' := Lib.hid (And.intro (bmat_keep HI.out.1 HI.out.2.1 (by decide) (by decide) hg) (And.intro (show w'.ownsRow w.heap.size 9 1 v' (i + 1) (strV (mat (i + 1) k (fun i j => EM i (k + j)))) from by rw [mat_succ]; simpa [strV] using ho) (And.intro (below_own HI.out.2.2.1 HI.out.2.1 hg) (Nat.le_trans HI.out.2.2.2 hg.size))))
            clear ho hg
            go_roundw
            case rel => exact ⟨i + 1, by omega, by go_num, HI'⟩
            case measure => simp [intOf]; omega
          · obtain rfl : i = k := by omega
            go_wp2
            go_ret2
            refine ⟨_, by rw [X'.out]; rfl, ?_, HI.out.2.2.1⟩
            rw [X'.out]
            show wr.ownsRow w.heap.size _ 1 _ (mat i i _).length _
            rw [mat_length]
            exact HI.out.2.1
end Go.Proofs.Ythlnnclpfgokjaa
namespace Go.Proofs.Ythlnnclpfgokjaa
open Go.RowKit Gf
set_option linter.unusedVariables false
theorem buf_reads {w : World} {e : TypeId} {g cap : Nat} {s : ByteArray} (h : bufIs w e g s.size cap (fun j => .int .u8 ((s.data.toList.getD j 0).toNat : Int))) :
    Reads w w.heap.size 1 (some ⟨g, 0, none⟩) s.size (u8s s.data.toList) := by
  refine ⟨by rw [u8s_length, data_length]; omega, fun _ => ⟨_, rfl, h.lt, fun j u hu => ?_⟩⟩
  have hj : j < s.size := by
    rcases Nat.lt_or_ge j s.size with h | h
    · exact h
    · rw [List.getElem?_eq_none (by rw [u8s_length, data_length]; exact h)] at hu; cases hu
  have := u8s_get s.data.toList j (by rw [data_length]; exact hj)
  rw [List.getD_eq_getElem?_getD, hu] at this
  rw [add0, h.cell hj, ← this]; rfl
set_option maxRecDepth 100000 in
theorem rencode_bad (A : Option Addr) (n c : Nat) (ss : List ByteArray) (m : Int) (w : World) (B : Nat) (h : Reads w B 1 A n (strV ss)) (hn : n ≤ 9223372036854775807) (hm1 : -9223372036854775808 ≤ m) (hm2 : m ≤ 9223372036854775807) (hbad : ¬ encOk ss m) :
    Calls Try.prog 46 #[.slice A n c, .int .i64 m] w fun e w' => RetStrs w w' e (encR ss m) := by
  have hl := h.len
  have X := Lib.hid (encR_no hbad)
  have HH := Lib.hid h
  clear h
  by_cases h1 : n < 1
  · clear hbad hl
    go_enter Try.func46, Try.ntmps46
    go_wp2
    go_ret2
    first | exact retNil w 1 _ X.out (Below.refl _ _) | exact retNil w 1 _ X.out (below_drewN (Below.refl _ _) _)
  by_cases h2 : 32 < n
  · clear hbad hl
    go_enter Try.func46, Try.ntmps46
    go_wp2
    go_ret2
    first | exact retNil w 1 _ X.out (Below.refl _ _) | exact retNil w 1 _ X.out (below_drewN (Below.refl _ _) _)
  by_cases ha : alikeB ss = true
  · have HA := Lib.hid ha
    by_cases h3 : m < 0
    · clear hbad hl ha
      go_enter Try.func46, Try.ntmps46
      go_wp2_with fail
      refine (ralike_any A n c ss _ _ HH.out hn).mono ?_; rintro e w' ⟨rfl, q, rfl⟩
      rw [HA.out]
      go_wp2
      go_ret2
      first | exact retNil w 1 _ X.out (Below.refl _ _) | exact retNil w 1 _ X.out (below_drewN (Below.refl _ _) _)
    · have h4 : 64 - (n : Int) < m := by
        apply Classical.byContradiction
        intro h4; exact hbad ⟨by omega, by omega, ha, by omega, by omega⟩
      clear hbad hl ha
      go_enter Try.func46, Try.ntmps46
      go_wp2_with fail
      refine (ralike_any A n c ss _ _ HH.out hn).mono ?_; rintro e w' ⟨rfl, q, rfl⟩
      rw [HA.out]
      go_wp2
      go_ret2
      first | exact retNil w 1 _ X.out (Below.refl _ _) | exact retNil w 1 _ X.out (below_drewN (Below.refl _ _) _)
  · have HA : Hid (alikeB ss = false) := Lib.hid (by simpa using ha)
    clear hbad hl ha
    go_enter Try.func46, Try.ntmps46
    go_wp2_with fail
    refine (ralike_any A n c ss _ _ HH.out hn).mono ?_; rintro e w' ⟨rfl, q, rfl⟩
    rw [HA.out]
    go_wp2
    go_ret2
    first | exact retNil w 1 _ X.out (Below.refl _ _) | exact retNil w 1 _ X.out (below_drewN (Below.refl _ _) _)
set_option maxRecDepth 100000 in
set_option maxHeartbeats 1000000 in
theorem rencode_any (A : Option Addr) (n c : Nat) (ss : List ByteArray) (m : Int) (w : World) (B : Nat) (h : Reads w B 1 A n (strV ss)) (hB : B ≤ w.heap.size) (hn : n ≤ 9223372036854775807) (hm1 : -9223372036854775808 ≤ m) (hm2 : m ≤ 9223372036854775807) (hs : (sAt ss 0).size ≤ 281474976710656) :
    Calls Try.prog 46 #[.slice A n c, .int .i64 m] w fun e w' => RetStrs w w' e (encR ss m) := by
  by_cases hok : ¬ encOk ss m
  · exact rencode_bad A n c ss m w B h hn hm1 hm2 hok
  have hok := Classical.not_not.1 hok
  have X := Lib.hid (encR_yes hok)
  have hl := h.len
  obtain ⟨a1, a2, a3, a4, a5⟩ := hok
  rw [hl] at a1 a2 a5
  have HA := Lib.hid a3
  have HH := Lib.hid h
  have HL := Lib.hid hl
  clear h a3 hl
  obtain ⟨m, rfl⟩ : ∃ k : Nat, m = k := ⟨m.toNat, by omega⟩
  by_cases m0 : m < 1
  · have mz : ((m : Int) == 0) = true := by rw [beq_iff_eq]; omega
    have X0 : Hid (encR ss (m : Int) = ([], 0)) := Lib.hid (by rw [X.out, Int.toNat_natCast]; unfold parL; rw [show m = 0 from by omega]; rfl)
    go_enter Try.func46, Try.ntmps46
    go_wp2_with fail
    refine (ralike_any A n c ss _ _ HH.out hn).mono ?_; rintro e w' ⟨rfl, q, rfl⟩
    rw [HA.out]
    go_wp2
    go_ret2
    exact retNil w 0 _ X0.out (below_drewN (Below.refl _ _) _)
  · have mz : ((m : Int) == 0) = false := by rw [beq_eq_false_iff_ne]; omega
    have XC : Hid (cauR (m : Int) (n : Int) = (mat m n cauF, 0)) := Lib.hid (by unfold cauR; rw [if_pos (by omega)]; rfl)
    have m1 : 1 ≤ m := by omega
    go_enter Try.func46, Try.ntmps46
    go_wp2_with fail
    refine (ralike_any A n c ss _ _ HH.out hn).mono ?_; rintro e w' ⟨rfl, q, rfl⟩
    rw [HA.out]
    go_wp2_with fail
    refine (rcauchy_any _ _ _).mono ?_
    rintro e w1 ⟨v, rfl, ho, hb⟩
    rw [XC.out] at ho ⊢
    rw [show (mat m n cauF, (0 : Int)).1.length = m from mat_length _ _ _] at ho
    obtain ⟨AM, cm, rfl, hrm⟩ := own_reads ho
    obtain ⟨am, hAM, hbm, hcm⟩ := hrm.str (k := 0) (by omega)
    subst hAM
    have HM := Lib.hid hcm
    have HB1 : Hid (Below w.heap.size w w1) := Lib.hid ((below_drewN (Below.refl w.heap.size w) q).trans hb)
    have s1 : w.heap.size ≤ w1.heap.size := HB1.out.size
    clear ho hrm hb hcm
    go_wp2
    go_loopw [8, 9] (fun v i wr => ∃ k : Nat, k ≤ m ∧ i = .int .i64 k ∧ Hid (wr.ownsRow w1.heap.size 9 1 v k (strV ((List.range k).map fun i => sumL (sAt (mat m n cauF) i) ss)) ∧ Below w1.heap.size w1 wr)) (fun _ i _ => m - (intOf i).toNat)
    case atStart => exact ⟨0, by omega, rfl, Lib.hid ⟨World.ownsRow_nil _ _ _ _, Below.refl _ _⟩⟩
    case round =>
      obtain ⟨k, hk, rfl, HK⟩ := hrel
      by_cases hlt : k < m
      · have hck : wr.cell? (am.add k) = some (.string (sAt (mat m n cauF) k)) := (HK.out.2.cell (by rw [block_of_add]; omega)).trans (HM.out k hlt)
        have SZ : Hid (n ≤ (sAt (mat m n cauF) k).size) := Lib.hid (by rw [col_mat m n cauF k hlt]; omega)
        have hle := HK.out.2.size
        have hk1 : k ≤ 4611686018427387904 := by omega
        have hk2 : (k + 1) * 16 ≤ 140737488355328 := by omega
        have HS : Hid (Reads wr B 1 A n (strV ss)) := Lib.hid ((HH.out.below (HB1.out.mono hB)).below (HK.out.2.mono (Nat.le_trans hB s1)))
        obtain ⟨r, hr⟩ : ∃ r, sAt (mat m n cauF) k = r := ⟨_, rfl⟩
        rw [hr] at hck SZ
        have HRW := Lib.hid hr
        clear hr
        go_wp2_with (first
          | (with_reducible refine conv_bytes_wp (e := 5) (by kernel_rfl) (by kernel_rfl) (by kernel_rfl) rfl _ rfl r rfl ?_; intro cap w4 hc4 hg4; have HC4 := Lib.hid (buf_reads hc4); have HB4 := Lib.hid (below_grown (Below.refl _ _) hg4 (by intro _ h; cases h)); have hs4 := hg4.size; clear hc4 hg4)
          | (go_at_call 66; refine (rmade_any _ _ _ _ A n c ss _ B _ HC4.out (Nat.le_refl _) (HS.out.below (HB4.out.mono (by omega))) (by omega) (by omega) (by omega) HA.out hs SZ.out).mono ?_; rintro e w3 ⟨rfl, hb3⟩; rw [bs_of]; have HB3 := Lib.hid (HB4.out.trans (hb3.mono hs4)); have HO3 := Lib.hid (own_below HK.out.1 HB3.out); have hs3 := HB3.out.size; clear hb3)
          | (at_builtin; refine append1_new elemStr rfl _ _ rfl w1.heap.size _ k _ rfl HO3.out _ rfl rfl hk1 hk2 (Nat.le_trans hle hs3) ?_; intro v' w' ho hg))
        have HK' : Hid (w'.ownsRow w1.heap.size 9 1 v' (k + 1) (strV ((List.range (k + 1)).map fun i => sumL (sAt (mat m n cauF) i) ss)) ∧ Below w1.heap.size w1 w') :=
          Lib.hid ⟨by rw [map_succ, HRW.out]; simpa [strV] using ho, below_own (HK.out.2.trans (HB3.out.mono hle)) HO3.out hg⟩
        clear ho hg
        go_roundw
        case rel => exact ⟨k + 1, by omega, by go_num, HK'⟩
        case measure => simp [intOf]; omega
      · obtain rfl : k = m := by omega
        go_wp2
        go_ret2
        exact retStrs_map (by rw [X.out, Int.toNat_natCast]; unfold parL; rw [HL.out]) (own_base HK.out.1 s1) (HB1.out.trans (HK.out.2.mono s1))
end Go.Proofs.Ythlnnclpfgokjaa
namespace Go.Proofs.Ythlnnclpfgokjaa
open Go.RowKit Gf
set_option linter.unusedVariables false
theorem reads_takeS {w : World} {B n k : Nat} {A : Option Addr} {l : List ByteArray} (h : Reads w B 1 A n (strV l)) (hk : k ≤ n) : Reads w B 1 A k (strV (l.take k)) := by
  have hl := h.len
  refine ⟨by rw [strV_length, List.length_take]; omega, fun h0 => ?_⟩
  obtain ⟨ad, e, hb, hc⟩ := h.2 (by omega)
  refine ⟨ad, e, hb, fun j u hj => hc j u ?_⟩
  simp only [strV, List.map_take] at hj ⊢
  rw [List.getElem?_take] at hj
  split at hj
  · exact hj
  · cases hj
theorem own_readsC {w : World} {base : Nat} {e : TypeId} {size n : Nat} {v : Value} {xs : List Value} (h : w.ownsRow base e size v n xs) : ∃ A c, v = .slice A n c ∧ n ≤ c ∧ Reads w w.heap.size size A n xs := by
  obtain ⟨A, c, rfl, hr⟩ := own_reads h
  refine ⟨A, c, rfl, ?_, hr⟩
  rcases h.2 with ⟨h1, h2⟩ | ⟨g, cap, cur, h1, _, _, hc, _⟩
  · omega
  · simp only [Value.slice.injEq] at h1; omega
/-- Two rows of one type, of the call's own, in blocks of their own. -/
structure Two (w : World) (base : Nat) (t : TypeId) (v : Value) (n : Nat) (xs : List Value) (v' : Value) (n' : Nat) (xs' : List Value) : Prop where
  o1 : w.ownsRow base t 1 v n xs
  o2 : w.ownsRow base t 1 v' n' xs'
  ne : ∀ g, v.ownBlock = some g → v'.ownBlock ≠ some g
section
variable {w w1 : World} {base n n' : Nat} {t : TypeId} {v v' v1 : Value} {xs xs' xs1 : List Value}
theorem Two.symm (h : Two w base t v n xs v' n' xs') : Two w base t v' n' xs' v n xs := ⟨h.o2, h.o1, fun g e e' => h.ne g e' e⟩
theorem Two.nil (w : World) (base : Nat) (t : TypeId) : Two w base t (.slice none 0 0) 0 [] (.slice none 0 0) 0 [] := ⟨World.ownsRow_nil _ _ _ _, World.ownsRow_nil _ _ _ _, fun g e => by cases e⟩
theorem Two.below (h : Two w base t v n xs v' n' xs') (hb : Below w.heap.size w w1) : Two w1 base t v n xs v' n' xs' := ⟨own_below h.o1 hb, own_below h.o2 hb, h.ne⟩
theorem Two.push {N : Nat} (h : Two w base t v n xs v' n' xs') (ho : w1.ownsRow base t 1 v1 N xs1) (hg : w.grownBy w1 v.ownBlock) (hd : v1.ownBlock = v.ownBlock ∨ v1.ownBlock = some (w.heap.size + 1)) :
    Two w1 base t v1 N xs1 v' n' xs' := by
  refine ⟨ho, h.o2.kept hg ?_, fun g e e' => ?_⟩
  · cases hv : v'.ownBlock with
    | none => exact .inl rfl
    | some g => exact .inr (fun e => h.ne g e.symm hv)
  · rcases hd with hd | hd
    · exact h.ne g (hd ▸ e) e'
    · rw [hd] at e
      injection e with e
      have := (h.o2.lt g e').2
      omega
end
def boolV (l : List Bool) : List Value := l.map Value.bool
theorem boolV_length (l : List Bool) : (boolV l).length = l.length := by simp [boolV]
theorem Reads.boolLen {w : World} {B n : Nat} {A : Option Addr} {l : List Bool} (h : Reads w B 1 A n (boolV l)) : l.length = n := by
  have := h.1; rw [boolV_length] at this; omega
theorem Reads.bool {w : World} {B n : Nat} {A : Option Addr} {l : List Bool} (h : Reads w B 1 A n (boolV l)) {k : Nat} (hk : k < n) :
    ∃ ad, A = some ad ∧ ad.block < B ∧ ∀ j, j < n → w.cell? (ad.add j) = some (.bool (l.getD j false)) := by
  obtain ⟨ad, e, hb, hc⟩ := h.2 (by omega)
  have hl := h.boolLen
  exact ⟨ad, e, hb, fun j hj => hc j _ (by simp [boolV, List.getD, show j < l.length by omega])⟩
theorem genRow_low (k i : Nat) (h : i < k) : genRow k i = sAt (mat k k fun i j => if i = j then 1 else 0) i := by
  rw [sAt_mat _ _ _ _ h]
  unfold genRow
  congr 1
  refine List.map_congr_left fun j _ => ?_
  unfold genF; rw [if_pos h]
theorem genRow_high (k m i : Nat) (h : k ≤ i) (hi : i - k < m) : genRow k i = sAt (mat m k cauF) (i - k) := by
  rw [sAt_mat _ _ _ _ hi]
  unfold genRow
  congr 1
  refine List.map_congr_left fun j _ => genF_cau _ _ _ h
set_option maxRecDepth 100000 in
theorem row_any (i k m : Nat) (P5 P8 P10 : Addr) (A1 A2 : Option Addr) (c1 c2 : Nat) (B1 B2 : Nat) (w : World) (h5 : w.cell? P5 = some (.int .i64 (k : Int))) (h8 : w.cell? P8 = some (.slice A1 k c1)) (h10 : w.cell? P10 = some (.slice A2 m c2))
    (hu : Reads w B1 1 A1 k (strV (mat k k fun i j => if i = j then 1 else 0))) (hp : Reads w B2 1 A2 m (strV (mat m k cauF))) (hi : i < k + m) (hk : k ≤ 64) (hm : m ≤ 64) :
    Calls Try.prog 68 #[.int .i64 (i : Int), .pointer (some P5), .pointer (some P8), .pointer (some P10)] w fun e w' => e = .returned (.string (genRow k i)) ∧ w = w' := by
  by_cases h : i < k
  · obtain ⟨ad, rfl, _, hc⟩ := hu.str h
    have hci := hc i h
    have HE := Lib.hid (genRow_low k i h)
    clear hc hu hp
    go_enter Try.func68, Try.ntmps68
    go_wp2
    go_ret
    exact ⟨by rw [HE.out]; rfl, rfl⟩
  · obtain ⟨j, rfl⟩ : ∃ j, i = k + j := ⟨i - k, by omega⟩
    have hj : j < m := by omega
    obtain ⟨ad, rfl, _, hc⟩ := hp.str hj
    have hci := hc j hj
    have HE : Hid (genRow k (k + j) = sAt (mat m k cauF) j) := Lib.hid (by rw [genRow_high k m (k + j) (by omega) (by omega)]; congr 1; omega)
    clear hc hu hp
    have he : ((k + j : Nat) : Int) - (k : Int) = (j : Int) := by omega
    go_enter Try.func68, Try.ntmps68
    go_wp2
    go_ret
    exact ⟨by rw [HE.out]; rfl, rfl⟩
end Go.Proofs.Ythlnnclpfgokjaa
namespace Go.Proofs.Ythlnnclpfgokjaa
open Go.RowKit Go.WideShapes Go.ChangeShapes
section
variable {H : Type} {enc : TypeId × Value → H} {P : Program} {W : World}
theorem weights_all_mem {e : TypeId} : ∀ (l : List (DataW H)) (d : DataW H), d ∈ l → ∀ n ∈ d.weights P e, n ∈ DataW.weightsAll P e l
  | [], _, h, _, _ => by cases h
  | x :: r, d, h, n, hn => by
    simp only [DataW.weightsAll, List.mem_append]
    rcases List.mem_cons.1 h with rfl | h
    · exact .inl hn
    · exact .inr (weights_all_mem r d h n hn)
theorem sized_elems {ts : List TypeId} {ds : List (DataW H)} (h : (DataW.weightsEach P ts ds).all (· ≤ reachBytes) = true) {j : Nat} {t e : TypeId} {elems spare : List (DataW H)} (ht : ts[j]? = some t) (hd : ds[j]? = some (.slice elems spare))
    (hu : P.underlying t = some (.slice e)) {l : List UInt8} (hm : (.lit (.string l) : DataW H) ∈ elems) : l.length ≤ reachBytes := by
  have h1 : l.length ∈ DataW.weightsAll P e elems := weights_all_mem elems _ hm _ (by simp [DataW.weights])
  have := List.all_eq_true.1 h _ (DataW.weights_mem_each ht hd l.length (by simp only [DataW.weights, hu, List.mem_cons, List.mem_append]; exact .inr (.inl h1)))
  simpa using this
/-- A list of texts. -/
theorem open_strsz {t e : TypeId} {base0 base : Nat} {r : Reach} {v : Value} {d : DataW H} {ps : List MemPlace} {ts : List TypeId} {ds : List (DataW H)} {held : Bool}
    (ht : P.underlying t = some (.slice e)) (he : P.underlying e = some .string) (hc : P.cellsOf e = 1) (hb : P.bytesOf e = 16)
    (hval : Value.okWide P W r base0 t v) (hd : DataW.Trod enc P W base (fun _ => true) held t v d ps)
    (hsz : (DataW.weightsEach P ts ds).all (· ≤ reachBytes) = true) (j : Nat) (hts : ts[j]? = some t) (hds : ds[j]? = some d) (mem : ∀ x ∈ ps, x.block < W.heap.size) :
    ∃ (A : Option Addr) (n c : Nat) (ss : List ByteArray), v = .slice A n c ∧ Reads W W.heap.size 1 A n (strV ss) ∧ n * 16 ≤ 140737488351232 ∧ (∀ s ∈ ss, s.size ≤ 140737488351232) ∧ n ≤ c := by
  obtain ⟨a0, len, cap, rfl⟩ := okWide_slice ht hval
  obtain ⟨fuel, hf⟩ := hd
  rcases open_strings ht he hc hf with ⟨hcs, hx⟩ | ⟨a, len', cap', ss, hcs, _, hl, hm, hz, hx, hcell, hws⟩
  · simp [Value.cells] at hcs
    obtain ⟨rfl, rfl, rfl⟩ := hcs
    exact ⟨none, 0, 0, [], rfl, Reads.none_, by omega, by simp, by omega⟩
  · simp [Value.cells] at hcs
    obtain ⟨rfl, rfl, rfl⟩ := hcs
    simp only [Prod.mk.injEq] at hx
    obtain ⟨rfl, rfl⟩ := hx
    simp only [if_true] at hz
    have hw := sized_slice hsz hts hds ht
    rw [hb] at hw
    simp only [strs, List.length_map, List.length_take, List.length_drop, reachBytes] at hw
    refine ⟨some a, len, cap, ss.take len, rfl, ⟨by simp [strV]; omega, fun hn => ⟨a, rfl, mem _ (MemPlace.mem_row.2 ⟨0, by omega, rfl⟩), fun k u hu => ?_⟩⟩, by omega, fun s hs => ?_, hl⟩
    · have hk : k < len := by
        rcases Nat.lt_or_ge k len with h | h
        · exact h
        · rw [List.getElem?_eq_none (by simp [strV]; omega)] at hu; cases hu
      rw [hcell k (by omega)]
      simp only [strV, List.getElem?_map] at hu
      rw [List.getElem?_take, if_pos hk, List.getElem?_eq_getElem (by omega)] at hu
      simp at hu
      rw [← hu, List.getD_eq_getElem?_getD, List.getElem?_eq_getElem (by omega)]; rfl
    · have := sized_elems (l := s.data.toList) hsz hts hds ht (by simp only [strs, List.mem_map]; exact ⟨s, hs, rfl⟩)
      rw [data_length] at this
      unfold reachBytes at this
      omega
theorem bulk_mem : ∀ (l : List (DataW H)) (d : DataW H), d ∈ l → Rows.uptoBulk d ≤ Rows.uptoBulkAll l
  | [], _, h => by cases h
  | x :: r, d, h => by
    simp only [Rows.uptoBulkAll]
    rcases List.mem_cons.1 h with rfl | h
    · omega
    · have := bulk_mem r d h; omega
/-- A list of texts that holds few letters. -/
theorem open_strszu {t e : TypeId} {base0 base : Nat} {r : Reach} {v : Value} {d : DataW H} {ps : List MemPlace} {ts : List TypeId} {ds : List (DataW H)} {held : Bool} (hbk : Rows.uptoBulk d ≤ 1048576)
    (ht : P.underlying t = some (.slice e)) (he : P.underlying e = some .string) (hc : P.cellsOf e = 1) (hb : P.bytesOf e = 16)
    (hval : Value.okWide P W r base0 t v) (hd : DataW.Trod enc P W base (fun _ => true) held t v d ps)
    (hsz : (DataW.weightsEach P ts ds).all (· ≤ reachBytes) = true) (j : Nat) (hts : ts[j]? = some t) (hds : ds[j]? = some d) (mem : ∀ x ∈ ps, x.block < W.heap.size) :
    ∃ (A : Option Addr) (n c : Nat) (ss : List ByteArray), v = .slice A n c ∧ Reads W W.heap.size 1 A n (strV ss) ∧ n * 16 ≤ 140737488351232 ∧ (∀ s ∈ ss, s.size ≤ 1048576) ∧ n ≤ c := by
  obtain ⟨a0, len, cap, rfl⟩ := okWide_slice ht hval
  obtain ⟨fuel, hf⟩ := hd
  rcases open_strings ht he hc hf with ⟨hcs, hx⟩ | ⟨a, len', cap', ss, hcs, _, hl, hm, hz, hx, hcell, hws⟩
  · simp [Value.cells] at hcs
    obtain ⟨rfl, rfl, rfl⟩ := hcs
    exact ⟨none, 0, 0, [], rfl, Reads.none_, by omega, by simp, by omega⟩
  · simp [Value.cells] at hcs
    obtain ⟨rfl, rfl, rfl⟩ := hcs
    simp only [Prod.mk.injEq] at hx
    obtain ⟨rfl, rfl⟩ := hx
    simp only [if_true] at hz
    have hw := sized_slice hsz hts hds ht
    rw [hb] at hw
    simp only [strs, List.length_map, List.length_take, List.length_drop, reachBytes] at hw
    refine ⟨some a, len, cap, ss.take len, rfl, ⟨by simp [strV]; omega, fun hn => ⟨a, rfl, mem _ (MemPlace.mem_row.2 ⟨0, by omega, rfl⟩), fun k u hu => ?_⟩⟩, by omega, fun s hs => ?_, hl⟩
    · have hk : k < len := by
        rcases Nat.lt_or_ge k len with h | h
        · exact h
        · rw [List.getElem?_eq_none (by simp [strV]; omega)] at hu; cases hu
      rw [hcell k (by omega)]
      simp only [strV, List.getElem?_map] at hu
      rw [List.getElem?_take, if_pos hk, List.getElem?_eq_getElem (by omega)] at hu
      simp at hu
      rw [← hu, List.getD_eq_getElem?_getD, List.getElem?_eq_getElem (by omega)]; rfl
    · have h1 : Rows.uptoBulk (DataW.lit (H := H) (.string s.data.toList)) ≤ Rows.uptoBulkAll (strs (H := H) (ss.take len)) := bulk_mem _ _ (by simp only [strs, List.mem_map]; exact ⟨s, hs, rfl⟩)
      simp only [Rows.uptoBulk] at h1 hbk
      rw [data_length] at h1
      omega
/-- A list of bools. -/
theorem open_boolsz {t e : TypeId} {base0 base : Nat} {r : Reach} {v : Value} {d : DataW H} {ps : List MemPlace} {ts : List TypeId} {ds : List (DataW H)} {held : Bool}
    (ht : P.underlying t = some (.slice e)) (he : P.underlying e = some .bool) (hc : P.cellsOf e = 1) (hb : P.bytesOf e = 1)
    (hval : Value.okWide P W r base0 t v) (hd : DataW.Trod enc P W base (fun _ => true) held t v d ps)
    (hsz : (DataW.weightsEach P ts ds).all (· ≤ reachBytes) = true) (j : Nat) (hts : ts[j]? = some t) (hds : ds[j]? = some d) (mem : ∀ x ∈ ps, x.block < W.heap.size) :
    ∃ (A : Option Addr) (n c : Nat) (l : List Bool), v = .slice A n c ∧ Reads W W.heap.size 1 A n (boolV l) ∧ n ≤ 140737488351232 ∧ n ≤ c := by
  obtain ⟨a0, len, cap, rfl⟩ := okWide_slice ht hval
  obtain ⟨fuel, hf⟩ := hd
  rcases Go.Deep.open_bools ht he hc hf with ⟨hcs, hx⟩ | ⟨a, len', cap', B, hcs, _, hl, hm, hx, hcell⟩
  · simp [Value.cells] at hcs
    obtain ⟨rfl, rfl, rfl⟩ := hcs
    exact ⟨none, 0, 0, [], rfl, Reads.none_, by omega, by omega⟩
  · simp [Value.cells] at hcs
    obtain ⟨rfl, rfl, rfl⟩ := hcs
    simp only [Prod.mk.injEq] at hx
    obtain ⟨rfl, rfl⟩ := hx
    have hw := sized_slice (elems := _) (spare := _) hsz hts hds ht
    rw [hb] at hw
    simp only [List.length_map, List.length_range, reachBytes] at hw
    refine ⟨some a, len, cap, (List.range len).map B, rfl, ⟨by simp [boolV], fun hn => ⟨a, rfl, mem _ (MemPlace.mem_row.2 ⟨0, by omega, rfl⟩), fun k u hu => ?_⟩⟩, by omega, hl⟩
    have hk : k < len := by
      rcases Nat.lt_or_ge k len with h | h
      · exact h
      · rw [List.getElem?_eq_none (by simp [boolV]; omega)] at hu; cases hu
    rw [hcell k (by omega)]
    simp [boolV, hk] at hu
    rw [← hu]
end
end Go.Proofs.Ythlnnclpfgokjaa
namespace Go.Proofs.Ythlnnclpfgokjaa
open Go.RowKit
def row64 (w : World) (g off : Nat) : Array Value := ((List.range 64).map fun j => (w.cell? ⟨g, off + j, none⟩).getD undef).toArray
/-- The block is there, plain, and long enough. -/
def ok64 (w : World) (g off : Nat) : Bool := match w.heap[g]? with
  | some (.cells cur _ (0, 0)) => decide (off + 64 ≤ cur.size)
  | _ => false
def put64 (w : World) (g off : Nat) (vs : Array Value) : World := match w.heap[g]? with
  | some (.cells cur _ _) => w.setRow g (cur.toList.take off ++ vs.toList ++ cur.toList.drop (off + vs.toList.length)).toArray
  | _ => w
def full64 (vs : Array Value) : Bool := decide (vs.size = 64) && vs.all (·.oneCell')
theorem ok64_of {w : World} {g N off : Nat} {T : TypeId} {f : Nat → Value} (h : w.rowIs g T N f) (hfit : off + 64 ≤ N) : ok64 w g off = true := by
  obtain ⟨c, hb, hn, _⟩ := h
  unfold ok64; rw [hb]
  simp only [decide_eq_true_eq]; omega
theorem ok64_block {w : World} {g off : Nat} (h : ok64 w g off = true) : ∃ cur T, w.heap[g]? = some (.cells cur T (0, 0)) ∧ off + 64 ≤ cur.size := by
  unfold ok64 at h
  split at h
  · rename_i cur T hh; exact ⟨cur, T, hh, of_decide_eq_true h⟩
  · cases h
theorem row64_size (w : World) (g off : Nat) : (row64 w g off).size = 64 := by simp [row64]
theorem info64 : (Try.prog.info? 87).map (·.size) = some 64 := by kernel_rfl
theorem run_isAgg64 (w : World) : (isAgg 87).run Try.prog w = .ok true w := by kernel_rfl
theorem run_size64 (w : World) : (sizeOf 87).run Try.prog w = .ok 64 w := by kernel_rfl
theorem loadAt_row64 (w : World) (g off : Nat) (h : ok64 w g off = true) :
    (Instr.loadAt 87 (.pointer (some ⟨g, off, none⟩))).run Try.prog w = .ok (.agg (row64 w g off)) w := by
  obtain ⟨cur, T, hh, hs⟩ := ok64_block h
  have := run_loadCells_list (P := Try.prog) w ⟨g, off, none⟩ (row64 w g off).toList (fun j v hv => by
    have hj : j < 64 := by
      rcases Nat.lt_or_ge j 64 with h | h
      · exact h
      · rw [List.getElem?_eq_none (by rw [Array.length_toList, row64_size]; exact h)] at hv; cases hv
    have ea : ({ block := g, off := off, spot := none } : Addr).add j = ⟨g, off + j, none⟩ := by unfold Addr.add; split <;> simp_all
    rw [ea]
    simp [row64, hj] at hv
    rw [cell_of_row w g (off + j) cur T (0, 0) hh] at hv ⊢
    rw [Array.getElem?_eq_getElem (by omega)] at hv ⊢
    simpa using hv)
  rw [Array.length_toList, row64_size] at this
  simp only [Instr.loadAt, Instr.sureAddr, loadVar, Sem.run_bind, Sem.run_pure, Result.andThen, run_isAgg64, run_size64, if_true, this]
theorem storeAt_row64 (w : World) (g off : Nat) (vs : Array Value) (h : ok64 w g off = true) (hv : full64 vs = true) :
    (Instr.storeAt 87 (.pointer (some ⟨g, off, none⟩)) (.agg vs)).run Try.prog w = .ok () (put64 w g off vs) := by
  obtain ⟨cur, T, hh, hs⟩ := ok64_block h
  unfold full64 at hv
  rw [Bool.and_eq_true, decide_eq_true_eq] at hv
  have := run_storeCells_at Try.prog g off T vs.toList 0 cur w hh (by rw [Array.length_toList]; omega) (fun v hm => (Array.all_eq_true_iff_forall_mem.1 hv.2) v (by simpa using hm))
  have hc : (Value.agg vs).cells = vs := rfl
  simp only [Instr.storeAt, Instr.sureAddr, storeVar, Sem.run_bind, Sem.run_pure, Result.andThen, run_size64, hc, hv.1, ne_eq, not_true_eq_false, if_false, this]
  unfold put64
  rw [hh]
  simp
def ld64 (x : Value) : Sem Next := do pure (.value (← Instr.loadAt 87 x))
def st64 (x v : Value) : Sem Next := do Instr.storeAt 87 x v; pure .skip
theorem execOp_ld64 (ρ : Operand → Value) (dst : Option Tmp) (x : Operand) (ty : TypeId) (pos : String) (after : Array Edge) (guard : Option (Nat × Bool)) :
    execOp ρ { dst, op := .load 87 x, type := ty, pos, after, guard } = ld64 (ρ x) := rfl
theorem execOp_st64 (ρ : Operand → Value) (dst : Option Tmp) (x v : Operand) (ty : TypeId) (pos : String) (after : Array Edge) (guard : Option (Nat × Bool)) :
    execOp ρ { dst, op := .store 87 x v, type := ty, pos, after, guard } = st64 (ρ x) (ρ v) := rfl
theorem run_ld64 (w : World) (g off : Nat) (h : ok64 w g off = true) : (ld64 (.pointer (some ⟨g, off, none⟩))).run Try.prog w = .ok (.value (.agg (row64 w g off))) w := by
  unfold ld64
  simp only [Sem.run_bind, loadAt_row64 w g off h, Result.andThen, Sem.run_pure]
theorem run_st64 (w : World) (g off : Nat) (vs : Array Value) (h : ok64 w g off = true) (hv : full64 vs = true) : (st64 (.pointer (some ⟨g, off, none⟩)) (.agg vs)).run Try.prog w = .ok .skip (put64 w g off vs) := by
  unfold st64
  simp only [Sem.run_bind, storeAt_row64 w g off vs h hv, Result.andThen, Sem.run_pure]
theorem put64_row {w : World} {g N : Nat} {T : TypeId} {f : Nat → Value} (h : w.rowIs g T N f) (off : Nat) (vs : Array Value) (hfit : off + 64 ≤ N) (hv : full64 vs = true) :
    (put64 w g off vs).rowIs g T N (fun x => if off ≤ x ∧ x < off + 64 then vs.toList.getD (x - off) undef else f x) ∧ w.grownBy (put64 w g off vs) (some g) := by
  unfold full64 at hv
  rw [Bool.and_eq_true, decide_eq_true_eq] at hv
  obtain ⟨w', h1, h2, h3⟩ := storeCells_row (P := Try.prog) h off vs.toList (by rw [Array.length_toList, hv.1]; exact hfit) (fun v hm => (Array.all_eq_true_iff_forall_mem.1 hv.2) v (by simpa using hm))
  have hs := storeAt_row64 w g off vs (ok64_of h hfit) (by unfold full64; rw [Bool.and_eq_true, decide_eq_true_eq]; exact hv)
  have hc : (Value.agg vs).cells = vs := rfl
  simp only [Instr.storeAt, Instr.sureAddr, storeVar, Sem.run_bind, Sem.run_pure, Result.andThen, run_size64, hc, hv.1, ne_eq, not_true_eq_false, if_false] at hs
  rw [h1] at hs
  injection hs with _ hs
  subst hs
  refine ⟨h2.congr fun x _ => ?_, h3⟩
  unfold over
  rw [Array.length_toList, hv.1]
theorem row64_get {w : World} {g N off : Nat} {T : TypeId} {f : Nat → Value} (h : w.rowIs g T N f) (hfit : off + 64 ≤ N) (j : Nat) (hj : j < 64) : (row64 w g off).toList.getD j undef = f (off + j) := by
  have := h.cell (i := off + j) (by omega)
  simp [row64, List.getD, hj, this]
theorem row64_full {w : World} {g N off : Nat} {T : TypeId} {f : Nat → Value} (h : w.rowIs g T N f) (hfit : off + 64 ≤ N) (h1 : ∀ x, (f x).oneCell' = true) : full64 (row64 w g off) = true := by
  unfold full64
  rw [Bool.and_eq_true, decide_eq_true_eq]
  refine ⟨row64_size _ _ _, ?_⟩
  rw [Array.all_eq_true_iff_forall_mem]
  intro v hv
  simp only [row64, List.mem_toArray, List.mem_map, List.mem_range] at hv
  obtain ⟨j, hj, rfl⟩ := hv
  rw [h.cell (i := off + j) (by omega)]
  exact h1 _
end Go.Proofs.Ythlnnclpfgokjaa
namespace Go.Proofs.Ythlnnclpfgokjaa
open Go.RowKit Gf
set_option linter.unusedVariables false
theorem all_range_b : ∀ xs ys : List Bool, xs.length = ys.length → ((List.range xs.length).all fun i => xs.getD i false == ys.getD i false) = (xs == ys)
  | [], [], _ => rfl
  | x :: xs, y :: ys, h => by
    have ih := all_range_b xs ys (by simpa using h)
    rw [List.length_cons, List.range_succ_eq_map, List.all_cons, List.all_map]
    simp only [List.getD_cons_zero, Function.comp_def, List.getD_cons_succ, ih]
    simp [List.cons_beq_cons]
  | [], _ :: _, h => by simp at h
  | _ :: _, [], h => by simp at h
theorem run_equalIn_bools {P : Program} (w : World) (d : Nat) (t e : TypeId) (n : Nat) (ht : P.underlying t = some (.array n e)) (he : P.underlying e = some .bool) (hsz : ∀ w, (sizeOf e).run P w = .ok 1 w)
    (xs ys : List Bool) (hx : xs.length = n) (hy : ys.length = n) :
    (Op.equalIn (d + 2) t (.agg (xs.map Value.bool).toArray) (.agg (ys.map Value.bool).toArray)).run P w = .ok (xs == ys) w := by
  rw [← all_range_b xs ys (hx.trans hy.symm), hx, List.range_eq_range', Op.equalIn]
  simp only [Sem.run_bind, run_underlying ht, Result.andThen_ok, hsz, Std.Legacy.Range.forIn_eq_forIn_range', Std.Legacy.Range.size, Nat.sub_zero, Nat.add_sub_cancel, Nat.div_one]
  have hl : ∀ i ∈ List.range' 0 n 1, i < n := fun i hi => by simpa using (List.mem_range'_1.1 hi).2
  generalize List.range' 0 n 1 = l at hl ⊢
  induction l with
  | nil => simp
  | cons i l ih =>
    have hi : i < n := hl i (by simp)
    have px : (part e (xs.map Value.bool).toArray (i * 1)).run P w = .ok (.bool (xs.getD i false)) w := by
      simp [part, isAgg, run_underlying he, List.getD, List.getElem?_eq_getElem (show i < xs.length by omega)]
    have py : (part e (ys.map Value.bool).toArray (i * 1)).run P w = .ok (.bool (ys.getD i false)) w := by
      simp [part, isAgg, run_underlying he, List.getD, List.getElem?_eq_getElem (show i < ys.length by omega)]
    have pe : (Op.equalIn (d + 1) e (.bool (xs.getD i false)) (.bool (ys.getD i false))).run P w = .ok (xs.getD i false == ys.getD i false) w := run_equalIn_bool _ _ _ _ _ he
    simp only [List.forIn_cons, Sem.run_bind, px, py, pe, Result.andThen_ok, List.all_cons]
    cases hb : (xs.getD i false == ys.getD i false)
    · simp
    · simpa [List.getD] using ih (fun j hj => hl j (List.mem_cons_of_mem _ hj))
def oddL (p r : List ByteArray) (k : Nat) : List Bool := (List.range 64).map fun i => decide (i < k) && decide (sAt p i ≠ sAt r i)
theorem odd_set (p r : List ByteArray) (k : Nat) (b : Bool) (hb : decide (sAt p k ≠ sAt r k) = b) (i : Nat) (hi : i < 64) :
    (if i = k then Value.bool b else .bool ((oddL p r k).getD i false)) = .bool ((oddL p r (k + 1)).getD i false) := by
  simp only [oddL, List.getD_eq_getElem?_getD, List.getElem?_map, List.getElem?_range hi, Option.map_some, Option.getD_some]
  by_cases e : i = k
  · subst e; rw [if_pos rfl, hb, decide_eq_true (show i < i + 1 by omega), Bool.true_and]
  · rw [if_neg e]
    by_cases h : i < k
    · rw [decide_eq_true h, decide_eq_true (show i < k + 1 by omega)]
    · rw [decide_eq_false h, decide_eq_false (show ¬ i < k + 1 by omega)]
theorem row64_bools {w : World} {g : Nat} {T : TypeId} {L : List Bool} (h : w.rowIs g T 64 (fun i => .bool (L.getD i false))) (hl : L.length = 64) : row64 w g 0 = (L.map Value.bool).toArray := by
  apply Array.ext'
  refine List.ext_getElem (by simp [row64, hl]) fun i h1 h2 => ?_
  have hi : i < 64 := by simpa [row64] using h1
  simp only [row64, List.getElem_map, List.getElem_range]
  rw [h.cell (i := 0 + i) (by omega)]
  simp [List.getD, hl, hi]
def falseL : List Bool := List.replicate 64 false
theorem oddL_none (p r : List ByteArray) (hl : p.length = r.length) (h64 : p.length ≤ 64) : (oddL p r p.length == falseL) = decide (p = r) := by
  rw [Bool.eq_iff_iff, beq_iff_eq, decide_eq_true_eq]
  constructor
  · intro h
    refine strs_ext hl fun j hj => ?_
    have := congrArg (fun l => l.getD j true) h
    simp only [oddL, falseL, List.getD_eq_getElem?_getD, List.getElem?_map, List.getElem?_range (show j < 64 by omega), List.getElem?_replicate, show j < 64 by omega, if_true, Option.map_some, Option.getD_some] at this
    rw [decide_eq_true hj, Bool.true_and, decide_eq_false_iff_not, Classical.not_not] at this
    exact this
  · rintro rfl
    refine List.ext_getElem (by simp [oddL, falseL]) fun i h1 h2 => ?_
    simp only [oddL, falseL, List.getElem_map, List.getElem_range, List.getElem_replicate]; simp
def zeroB : Array Value := #[.bool false, .bool false, .bool false, .bool false, .bool false, .bool false, .bool false, .bool false, .bool false, .bool false, .bool false, .bool false, .bool false, .bool false, .bool false, .bool false, .bool false, .bool false, .bool false, .bool false, .bool false, .bool false, .bool false, .bool false, .bool false, .bool false, .bool false, .bool false, .bool false, .bool false, .bool false, .bool false, .bool false, .bool false, .bool false, .bool false, .bool false, .bool false, .bool false, .bool false, .bool false, .bool false, .bool false, .bool false, .bool false, .bool false, .bool false, .bool false, .bool false, .bool false, .bool false, .bool false, .bool false, .bool false, .bool false, .bool false, .bool false, .bool false, .bool false, .bool false, .bool false, .bool false, .bool false, .bool false]
theorem zero_bools : zeroB = (falseL.map Value.bool).toArray := by kernel_rfl
theorem zero_rep : zeroB = Array.replicate 64 (.bool false) := by kernel_rfl
theorem fitR_no {a : List ByteArray} {k : Int} (h : ¬ fitOk a k) : fitR a k = (false, 1) := by unfold fitR; rw [if_neg h]
theorem sAt_drop (l : List ByteArray) (k i : Nat) : sAt (l.drop k) i = sAt l (k + i) := by
  unfold sAt; rw [List.getD_eq_getElem?_getD, List.getD_eq_getElem?_getD, List.getElem?_drop]
theorem sAt_take (l : List ByteArray) (k i : Nat) (h : i < k) : sAt (l.take k) i = sAt l i := by
  unfold sAt; rw [List.getD_eq_getElem?_getD, List.getD_eq_getElem?_getD, List.getElem?_take, if_pos h]
theorem alikeB_take (l : List ByteArray) (k : Nat) (h1 : 1 ≤ k) (h2 : k ≤ l.length) (h : alikeB l = true) : alikeB (l.take k) = true := by
  rw [alikeB_iff] at h ⊢
  intro j hj
  rw [List.length_take] at hj
  rw [sAt_take _ _ _ (by omega), sAt_take _ _ _ (by omega)]
  exact h j (by omega)
set_option maxRecDepth 100000 in
theorem fits_bad (A : Option Addr) (n c : Nat) (ss : List ByteArray) (k : Int) (w : World) (B : Nat) (h : Reads w B 1 A n (strV ss)) (hn : n ≤ 9223372036854775807) (hbad : ¬ fitOk ss k) :
    Calls Try.prog 51 #[.slice A n c, .int .i64 k] w fun e w' => e = .returned (.tuple #[.bool (fitR ss k).1, .int .i64 (fitR ss k).2]) ∧ Below w.heap.size w w' := by
  have hl := h.len
  have X := Lib.hid (fitR_no hbad)
  have hcases : k < 1 ∨ 32 < k ∨ (1 ≤ k ∧ k ≤ 32 ∧ (n : Int) < k) ∨ (1 ≤ k ∧ k ≤ 32 ∧ k ≤ (n : Int) ∧ 64 < n) ∨ (1 ≤ k ∧ k ≤ 32 ∧ k ≤ (n : Int) ∧ n ≤ 64 ∧ alikeB ss = false) := by
    unfold fitOk at hbad
    by_cases ha : alikeB ss = true
    · simp only [ha, and_true] at hbad; omega
    · have : alikeB ss = false := by simpa using ha
      simp only [this, and_true]; omega
  have HH := Lib.hid h
  clear hbad hl h
  rcases hcases with h | h | ⟨h1, h2, h⟩ | ⟨h1, h2, h3, h⟩ | ⟨h1, h2, h3, h4, h⟩
  · go_enter Try.func51, Try.ntmps51
    go_wp2
    go_ret2
    exact ⟨by rw [X.out]; rfl, Below.refl _ _⟩
  · go_enter Try.func51, Try.ntmps51
    go_wp2
    go_ret2
    exact ⟨by rw [X.out]; rfl, Below.refl _ _⟩
  · go_enter Try.func51, Try.ntmps51
    go_wp2
    go_ret2
    exact ⟨by rw [X.out]; rfl, Below.refl _ _⟩
  · go_enter Try.func51, Try.ntmps51
    go_wp2
    go_ret2
    exact ⟨by rw [X.out]; rfl, Below.refl _ _⟩
  · have HA := Lib.hid h
    clear h
    go_enter Try.func51, Try.ntmps51
    go_wp2_with fail
    refine (alike_any A n c ss _ _ HH.out hn).mono ?_; rintro e w' ⟨rfl, rfl⟩
    rw [HA.out]
    go_wp2
    go_ret2
    exact ⟨by rw [X.out]; rfl, Below.refl _ _⟩
attribute [local go_sem ↓] execOp_ld64
attribute [local go_sem] run_ld64
set_option maxRecDepth 100000 in
set_option maxHeartbeats 2000000 in
theorem fits_any (A : Option Addr) (n c : Nat) (ss : List ByteArray) (k : Int) (w : World) (B : Nat) (h : Reads w B 1 A n (strV ss)) (hB : B ≤ w.heap.size) (hc : n ≤ c) (hn : n ≤ 9223372036854775807) (hs : ∀ s ∈ ss, s.size ≤ 281474976710656) :
    Calls Try.prog 51 #[.slice A n c, .int .i64 k] w fun e w' => e = .returned (.tuple #[.bool (fitR ss k).1, .int .i64 (fitR ss k).2]) ∧ Below w.heap.size w w' := by
  by_cases hok : ¬ fitOk ss k
  · exact fits_bad A n c ss k w B h hn hok
  have hok := Classical.not_not.1 hok
  have X : Hid (fitR ss k = (fitB ss k.toNat, 0)) := Lib.hid (by unfold fitR; rw [if_pos hok])
  have hl := h.len
  obtain ⟨a1, a2, a3, a4, a5⟩ := hok
  obtain ⟨K, rfl⟩ : ∃ m : Nat, k = m := ⟨k.toNat, by omega⟩
  rw [hl] at a3 a4
  rw [Int.toNat_natCast] at X
  have b1 : 1 ≤ K := by omega
  have b2 : K ≤ 32 := by omega
  have b3 : K ≤ n := by omega
  obtain ⟨q, hq⟩ : ∃ q : Nat, (n : Int) - (K : Int) = (q : Int) := ⟨n - K, by omega⟩
  have HA := Lib.hid a5
  have HH := Lib.hid h
  have HT := Lib.hid (reads_takeS h b3)
  have hTl : (ss.take K).length = K := by rw [List.length_take]; omega
  have XE : Hid (encR (ss.take K) (q : Int) = (parL (ss.take K) q, 0)) := Lib.hid (by
    rw [encR_yes ⟨by omega, by omega, alikeB_take ss K b1 (by omega) a5, by omega, by omega⟩, Int.toNat_natCast])
  have XF : Hid (fitB ss K = (oddL (parL (ss.take K) q) (ss.drop K) q == falseL)) := Lib.hid (by
    have e := oddL_none (parL (ss.take K) q) (ss.drop K) (by rw [parL_length, List.length_drop]; omega) (by rw [parL_length]; omega)
    rw [parL_length] at e
    rw [e]; unfold fitB
    rw [show ss.length - K = q by omega])
  have hs0 : (sAt (ss.take K) 0).size ≤ 281474976710656 := by
    rw [sAt_take _ _ _ (by omega)]; exact hs _ (sAt_mem (by omega))
  have HL := Lib.hid hl
  have hcK : K ≤ c := by omega
  clear h a5 hl hTl hs a1 a2 a3
  go_enter Try.func51, Try.ntmps51
  go_wp2_with fail
  refine (alike_any A n c ss _ _ HH.out hn).mono ?_; rintro e w' ⟨rfl, rfl⟩
  rw [HA.out]
  go_wp2_with fail
  refine (encode_any A K c (ss.take K) (q : Int) _ _ HT.out hB (by omega) (by omega) (by omega) hs0).mono ?_
  rintro e w9 ⟨v9, rfl, ho9, hb9⟩
  rw [XE.out] at ho9 ⊢
  rw [show (parL (ss.take K) q, (0 : Int)).1.length = q from parL_length _ _] at ho9
  obtain ⟨A9, c9, rfl, _, hr9⟩ := own_readsC ho9
  have HR9 := Lib.hid hr9
  have HB9 := Lib.hid hb9
  have hs9 := hb9.size
  have Z : Hid ((w9.alloc (.cells zeroB 87)).rowIs w9.heap.size 87 64 (fun i => .bool ((oddL (parL (ss.take K) q) (ss.drop K) 0).getD i false))) := Lib.hid (by
    refine (zeros_row w9 zero_rep).congr fun i hi => ?_
    simp [oddL, List.getD, hi])
  clear ho9 hr9 hb9
  go_wp2
  change Code.wp _ _ _ _ (w9.alloc (.cells zeroB 87))
  have HZ : Hid ((w9.alloc (.cells zeroB 87)).rowIs w9.heap.size 87 64 (fun i => .bool ((oddL (parL (ss.take K) q) (ss.drop K) 0).getD i false)) ∧ Below w9.heap.size w9 (w9.alloc (.cells zeroB 87))) := Lib.hid ⟨Z.out, (Below.refl _ _).alloc (Nat.le_refl _) _⟩
  clear Z
  generalize w9.alloc (.cells zeroB 87) = W at HZ ⊢
  go_loopw [9, 10, 46] (fun _ _ i wr => ∃ k : Nat, k ≤ q ∧ i = .int .i64 k ∧ Hid (wr.rowIs w9.heap.size 87 64 (fun i => .bool ((oddL (parL (ss.take K) q) (ss.drop K) k).getD i false)) ∧ Below w9.heap.size w9 wr)) (fun _ _ i _ => q - (intOf i).toNat)
  case atStart => exact ⟨0, by omega, rfl, HZ⟩
  case round =>
    obtain ⟨k, hk, rfl, HK⟩ := hrel
    clear HZ
    by_cases hlt : k < q
    · obtain ⟨a9, rfl, h9b, hc9⟩ := (HR9.out.below HK.out.2).str hlt
      obtain ⟨ad, rfl, hba, hca⟩ := ((HH.out.below (HB9.out.mono hB)).below (HK.out.2.mono (Nat.le_trans hB hs9))).str (k := K + k) (by omega)
      have hck := hc9 k hlt
      have hcr := hca (K + k) (by omega)
      have HD : Hid (sAt ss (K + k) = sAt (ss.drop K) k) := Lib.hid (sAt_drop ss K k).symm
      rw [HD.out] at hcr
      obtain ⟨v1, hc1⟩ : ∃ v, wr.cell? ⟨w9.heap.size, k, none⟩ = some v := ⟨_, HK.out.1.cell (by omega)⟩
      have hf1 : wr.frozen? ⟨w9.heap.size, k, none⟩ = false := HK.out.1.frozen _
      have hk64 : (k : Int) < 64 := by omega
      have hk64n : k < 64 := by omega
      clear hc9 hca
      by_cases e : sAt (parL (ss.take K) q) k = sAt (ss.drop K) k
      · have t : ((sAt (parL (ss.take K) q) k).toList == (sAt (ss.drop K) k).toList) = true := by rw [beq_str]; simpa using e
        have E := Lib.hid (odd_set (parL (ss.take K) q) (ss.drop K) k false (by simpa using e))
        clear e
        go_wp2
        go_roundw
        case rel => exact ⟨k + 1, by omega, by go_num, Lib.hid ⟨(HK.out.1.set k _).congr fun i hi => E.out i hi, HK.out.2.setCell (Nat.le_refl _) _⟩⟩
        case measure => simp [intOf]; omega
      · have t : ((sAt (parL (ss.take K) q) k).toList == (sAt (ss.drop K) k).toList) = false := by rw [beq_str]; simpa using e
        have E := Lib.hid (odd_set (parL (ss.take K) q) (ss.drop K) k true (by simpa using e))
        clear e
        go_wp2
        go_roundw
        case rel => exact ⟨k + 1, by omega, by go_num, Lib.hid ⟨(HK.out.1.set k _).congr fun i hi => E.out i hi, HK.out.2.setCell (Nat.le_refl _) _⟩⟩
        case measure => simp [intOf]; omega
    · obtain rfl : k = q := by omega
      obtain ⟨L, hL⟩ : ∃ L, L = oddL (parL (ss.take K) k) (ss.drop K) k := ⟨_, rfl⟩
      have hLl : L.length = 64 := by rw [hL]; simp [oddL]
      have o1 : ok64 wr w9.heap.size 0 = true := ok64_of HK.out.1 (by omega)
      have e1 : row64 wr w9.heap.size 0 = (L.map Value.bool).toArray := by
        rw [hL]; exact row64_bools HK.out.1 (by simp [oddL])
      have heq : ∀ W, (Op.equalIn 10000 87 (.agg (L.map Value.bool).toArray) (.agg zeroB)).run Try.prog W = .ok (L == falseL) W := fun W => by
        rw [zero_bools]
        exact run_equalIn_bools W 9998 _ 4 64 (by kernel_rfl) (by kernel_rfl) (fun w => by kernel_rfl) L falseL hLl (by simp [falseL])
      unfold zeroB at heq
      have XL : Hid (fitB ss K = (L == falseL)) := Lib.hid (by rw [XF.out, hL])
      have HBW := Lib.hid (HB9.out.trans (HK.out.2.mono hs9))
      clear hL hLl HK
      generalize (L.map Value.bool).toArray = XA at e1 heq
      generalize (L == falseL) = b at heq XL
      go_wp2
      go_ret2
      exact ⟨by rw [X.out, XL.out]; rfl, HBW.out⟩
end Go.Proofs.Ythlnnclpfgokjaa
namespace Go.Proofs.Ythlnnclpfgokjaa
open Go.RowKit Gf
set_option linter.unusedVariables false
def cutB (s : ByteArray) : Nat → UInt8 := fun x => byteAt s x
theorem cut_copied (s : ByteArray) (M : Nat) (hM : s.size ≤ M) (l : List UInt8) (hl : l = s.data.toList) (i : Nat) : over (u8V fun _ => 0) 0 (u8s l) i = u8V (cutB s) i := by
  have hll : l.length = s.size := by rw [hl]; exact data_length _
  simp only [over, u8s_length, hll]
  by_cases h : 0 ≤ i ∧ i < 0 + s.size
  · rw [if_pos h, u8s_get _ _ (by omega), hl]; rfl
  · rw [if_neg h]; simp only [u8V, cutB]; rw [byteAt_high s i (by omega)]
theorem cutL_succ (s : ByteArray) (N i : Nat) (f : Nat → ByteArray) : (List.range (i + 1)).map f = (List.range i).map f ++ [f i] := by simp [List.range_succ]
def cutF (s : ByteArray) (N i : Nat) : ByteArray := bs ((List.range N).map fun j => byteAt s (i * N + j))
theorem cutN_ge (s : ByteArray) (k : Nat) (hk : 1 ≤ k) : s.size ≤ cutN s k * k ∧ cutN s k * k ≤ s.size + k := by
  unfold cutN
  have h := Nat.div_add_mod (s.size + k - 1) k
  have h2 := Nat.mod_lt (s.size + k - 1) (show 0 < k by omega)
  rw [Nat.mul_comm] at h
  constructor <;> omega
set_option maxRecDepth 100000 in
theorem cut_bad (s : ByteArray) (k : Int) (w : World) (h : k < 1 ∨ 32 < k) : Calls Try.prog 42 #[.string s, .int .i64 k] w fun e w' => RetStrs w w' e (cutR s k) := by
  have X : Hid (cutR s k = ([], 1)) := Lib.hid (by unfold cutR; rw [if_neg]; omega)
  rcases h with h | h
  · go_enter Try.func42, Try.ntmps42
    go_wp2
    go_ret2
    exact retNil w 1 _ X.out (Below.refl _ _)
  · have h' : 1 ≤ k := by omega
    go_enter Try.func42, Try.ntmps42
    go_wp2
    go_ret2
    exact retNil w 1 _ X.out (Below.refl _ _)
set_option maxRecDepth 100000 in
set_option maxHeartbeats 1000000 in
theorem cut_any (s : ByteArray) (k : Int) (w : World) (hs : s.size ≤ 140737488355328) : Calls Try.prog 42 #[.string s, .int .i64 k] w fun e w' => RetStrs w w' e (cutR s k) := by
  by_cases h : k < 1 ∨ 32 < k
  · exact cut_bad s k w h
  obtain ⟨K, rfl⟩ : ∃ m : Nat, k = m := ⟨k.toNat, by omega⟩
  have h1 : 1 ≤ K := by omega
  have h2 : K ≤ 32 := by omega
  clear h
  obtain ⟨N, hN⟩ : ∃ N, N = cutN s K := ⟨_, rfl⟩
  have X : Hid (cutR s (K : Int) = ((List.range K).map (cutF s N), 0)) := Lib.hid (by unfold cutR; rw [if_pos (by omega), hN]; rfl)
  obtain ⟨M, hM⟩ : ∃ M, N * K = M := ⟨_, rfl⟩
  have hg := cutN_ge s K h1
  rw [← hN, hM] at hg
  have hq : ((s.size : Int) + (K : Int) - 1) / (K : Int) = (N : Int) := by
    rw [hN, cutN, Int.natCast_ediv]; congr 1; omega
  have hm : (N : Int) * (K : Int) = (M : Int) := by rw [← hM]; exact (Int.natCast_mul N K).symm
  have hNM : N ≤ M := by rw [← hM]; exact Nat.le_mul_of_pos_right N h1
  have HM := Lib.hid hM
  clear hM hN
  obtain ⟨g1, g2⟩ := hg
  have hmk := fun W => bytes_made48 W M (by omega)
  have hmn : Nat.min s.size M = s.size := Nat.min_eq_left g1
  have HF : Hid (0 + Nat.min s.size M ≤ M) := Lib.hid (by rw [hmn]; omega)
  have HT : Hid (s.data.toList.take (Nat.min s.size M) = s.data.toList) := Lib.hid (by rw [hmn]; exact List.take_of_length_le (by rw [data_length]; omega))
  clear hmn
  have Z : Hid ((w.alloc (.cells (madeCells #[.int .u8 0] M) 5)).rowIs w.heap.size 5 M (u8V fun _ => 0) ∧ Below w.heap.size w (w.alloc (.cells (madeCells #[.int .u8 0] M) 5))) :=
    Lib.hid ⟨(World.rowIs_made w (.int .u8 0) M 5).congr fun i hi => rfl, (Below.refl _ _).alloc (Nat.le_refl _) _⟩
  go_enter Try.func42, Try.ntmps42
  go_wp2_with (first
    | (with_reducible refine copyStr_wp rfl _ _ 44 9 5 rfl (by kernel_rfl) (by kernel_rfl) Z.out.1 0 M M s rfl rfl HF.out ?_; intro w1 hr1 hg1; have hs1 : w.heap.size ≤ w1.heap.size := Nat.le_trans Z.out.2.size hg1.size)
    | (at_make; refine make0_wp elemStr rfl _ _ rfl w.heap.size _ _ _ K rfl rfl rfl (by omega) (by omega) hs1 ?_; intro v0 w2 hown0 hg2))
  have HR0 : Hid (w2.rowIs w.heap.size 5 M (u8V (cutB s)) ∧ w2.ownsRow w.heap.size 9 1 v0 0 (strV []) ∧ Below w.heap.size w w2) := Lib.hid (by
    have hb1 := below_grown Z.out.2 hg1 (by intro g h; injection h with h; omega)
    refine ⟨(hr1.of_block (hg2.block w.heap.size hr1.lt (by intro h; cases h))).congr fun i _ => ?_, hown0, below_grown hb1 hg2 (by intro _ h; cases h)⟩
    rw [HT.out]
    exact cut_copied s M g1 _ rfl i)
  clear hr1 hg1 hown0 hg2 hmk hq
  go_loopw [8, 9, 33] (fun v _ i wr => ∃ k : Nat, k ≤ K ∧ i = .int .i64 k ∧ Hid (wr.rowIs w.heap.size 5 M (u8V (cutB s)) ∧ wr.ownsRow w.heap.size 9 1 v k (strV ((List.range k).map (cutF s N))) ∧ Below w.heap.size w wr)) (fun _ _ i _ => K - (intOf i).toNat)
  case atStart => exact ⟨0, by omega, rfl, HR0⟩
  case round =>
    obtain ⟨k, hk, rfl, HK⟩ := hrel
    clear HR0 Z hm
    by_cases hlt : k < K
    · obtain ⟨P, hP⟩ : ∃ P, k * N = P := ⟨_, rfl⟩
      have hPM : P + N ≤ M := by
        rw [← hP, ← HM.out, Nat.mul_comm N K]
        have := Nat.mul_le_mul_right N (show k + 1 ≤ K by omega)
        rw [Nat.add_mul, Nat.one_mul] at this; exact this
      have hpi : (k : Int) * (N : Int) = (P : Int) := by rw [← hP]; exact (Int.natCast_mul k N).symm
      have HP := Lib.hid hP
      clear hP
      have hle := HK.out.2.2.size
      have hk1 : k ≤ 4611686018427387904 := by omega
      have hk2 : (k + 1) * 16 ≤ 140737488355328 := by omega
      have hl : ((List.range N).map fun j => byteAt s (P + j)).length = N := by simp
      have HC : Hid (∀ j, j < N → wr.cell? ⟨w.heap.size, P + j, none⟩ = some (.int .u8 ((((List.range N).map fun j => byteAt s (P + j)).getD j 0).toNat : Int))) := Lib.hid (fun j hj => by
        rw [HK.out.1.cell (by omega)]
        simp [u8V, cutB, List.getD, hj])
      have HLN := Lib.hid hl
      clear hl
      have H1 : Hid (∀ O, (0 < N → O = P) → (convert 44 9 (.slice (some ⟨w.heap.size, O, none⟩) N (M - P))).run Try.prog wr = .ok (.string (bs ((List.range N).map fun j => byteAt s (P + j)))) wr) := Lib.hid (fun O hO => by
        refine runStr _ _ _ _ HLN.out fun j hj => ?_
        rw [hO (by omega)]
        have ea : ({ block := w.heap.size, off := P, spot := none } : Addr).add j = ⟨w.heap.size, P + j, none⟩ := by unfold Addr.add; split <;> simp_all
        rw [ea]; exact HC.out j hj)
      by_cases hN0 : 0 < N
      · have hPlt : P < M := by omega
        have hstr := H1.out P (fun _ => rfl)
        go_wp2_with (at_builtin; refine append1_new elemStr rfl _ _ rfl w.heap.size _ k _ rfl HK.out.2.1 (.string (bs ((List.range N).map fun j => byteAt s (P + j)))) rfl rfl hk1 hk2 hle ?_; intro v' w' ho hg)
        have HK' : Hid (w'.rowIs w.heap.size 5 M (u8V (cutB s)) ∧ w'.ownsRow w.heap.size 9 1 v' (k + 1) (strV ((List.range (k + 1)).map (cutF s N))) ∧ Below w.heap.size w w') :=
          Lib.hid ⟨row_keep HK.out.1 HK.out.2.1 (by decide) hg, by rw [cutL_succ s N]; simpa [strV, cutF, HP.out] using ho, below_own HK.out.2.2 HK.out.2.1 hg⟩
        clear ho hg
        go_roundw
        case rel => exact ⟨k + 1, by omega, by go_num, HK'⟩
        case measure => simp [intOf]; omega
      · have n0 : N ≤ 0 := by omega
        have m0 : M ≤ 0 := by have : N = 0 := by omega
                              rw [← HM.out, this]; omega
        have p0 : P ≤ 0 := by omega
        have hstr := H1.out 0 (fun h => by omega)
        go_wp2_with (at_builtin; refine append1_new elemStr rfl _ _ rfl w.heap.size _ k _ rfl HK.out.2.1 (.string (bs ((List.range N).map fun j => byteAt s (P + j)))) rfl rfl hk1 hk2 hle ?_; intro v' w' ho hg)
        have HK' : Hid (w'.rowIs w.heap.size 5 M (u8V (cutB s)) ∧ w'.ownsRow w.heap.size 9 1 v' (k + 1) (strV ((List.range (k + 1)).map (cutF s N))) ∧ Below w.heap.size w w') :=
          Lib.hid ⟨row_keep HK.out.1 HK.out.2.1 (by decide) hg, by rw [cutL_succ s N]; simpa [strV, cutF, HP.out] using ho, below_own HK.out.2.2 HK.out.2.1 hg⟩
        clear ho hg
        go_roundw
        case rel => exact ⟨k + 1, by omega, by go_num, HK'⟩
        case measure => simp [intOf]; omega
    · obtain rfl : k = K := by omega
      go_wp2
      go_ret2
      refine ⟨_, by rw [X.out]; rfl, ?_, HK.out.2.2⟩
      rw [X.out]
      show wr.ownsRow w.heap.size _ 1 _ ((List.range k).map _).length _
      rw [List.length_map, List.length_range]
      exact HK.out.2.1
end Go.Proofs.Ythlnnclpfgokjaa
namespace Go.Proofs.Ythlnnclpfgokjaa
open Go.RowKit Gf
set_option linter.unusedVariables false
/-- Data shards with their parity behind them. -/
def allL (D : List ByteArray) (m : Nat) : List ByteArray := D ++ parL D m
theorem allL_length (D : List ByteArray) (m : Nat) : (allL D m).length = D.length + m := by unfold allL; rw [List.length_append, parL_length]
theorem sAt_app (a b : List ByteArray) (i : Nat) : sAt (a ++ b) i = if i < a.length then sAt a i else sAt b (i - a.length) := by
  unfold sAt
  by_cases h : i < a.length
  · rw [if_pos h, List.getD_eq_getElem?_getD, List.getD_eq_getElem?_getD, List.getElem?_append_left h]
  · rw [if_neg h, List.getD_eq_getElem?_getD, List.getD_eq_getElem?_getD, List.getElem?_append_right (by omega)]
theorem allL_size (D : List ByteArray) (m i : Nat) (ha : alikeB D = true) (hi : i < D.length + m) : (sAt (allL D m) i).size = (sAt D 0).size := by
  unfold allL
  rw [sAt_app]
  by_cases h : i < D.length
  · rw [if_pos h]; exact (alikeB_iff D).1 ha i h
  · rw [if_neg h, parL_at _ _ _ (by omega), sumL_size]
/-- Each shard's bytes are the generator's row over the data. -/
theorem allL_byte (D : List ByteArray) (m i x : Nat) (hi : i < D.length + m) (hx : x < (sAt D 0).size) :
    byteAt (sAt (allL D m) i) x = sm (fun j => gm (genF D.length i j) (byteAt (sAt D j) x)) D.length := by
  unfold allL
  rw [sAt_app]
  by_cases h : i < D.length
  · rw [if_pos h, ← unit_left D.length i h (fun j => byteAt (sAt D j) x)]
    exact sm_congr fun j _ => by unfold genF; rw [if_pos h]
  · rw [if_neg h, parL_byte _ _ _ _ (by omega) hx]
    exact sm_congr fun j _ => by rw [genF_cau _ _ _ (by omega)]
theorem getD_range (n i : Nat) (B : Nat → Bool) (h : i < n) : ((List.range n).map B).getD i false = B i := by
  rw [List.getD_eq_getElem?_getD, List.getElem?_map, List.getElem?_range h]; rfl
theorem pickL_range (B : Nat → Bool) (n : Nat) : pickL ((List.range n).map B) n = (List.range n).filter B := by
  unfold pickL
  refine List.filter_congr fun i hi => ?_
  exact getD_range n i B (by simpa using hi)
/-- Shards that are there come back with the others. -/
theorem reb_back (D : List ByteArray) (m : Nat) (T : List ByteArray) (tt : List Bool) (h1 : 1 ≤ D.length) (h2 : D.length ≤ 32) (hm : D.length + m ≤ 64) (ha : alikeB D = true)
    (hT : T.length = D.length + m) (htt : tt.length = D.length + m) (hsame : ∀ i, i < D.length + m → tt.getD i false = true → sAt T i = sAt (allL D m) i) (hcnt : D.length ≤ (pickL tt (D.length + m)).length) :
    rebR T tt (D.length : Int) = (allL D m, 0) := by
  have hat : ∀ l, l < (pickL tt (D.length + m)).length → (pickL tt (D.length + m)).getD l 0 < D.length + m ∧ tt.getD ((pickL tt (D.length + m)).getD l 0) false = true := fun l hl => filter_at (fun i => tt.getD i false) (D.length + m) l hl
  have hS : ∀ l, l < (pickL tt (D.length + m)).length → sAt (someL T tt (D.length + m)) l = sAt (allL D m) ((pickL tt (D.length + m)).getD l 0) := fun l hl => by
    rw [someL_at _ _ _ _ hl]; exact hsame _ (hat l hl).1 (hat l hl).2
  have hSz : ∀ l, l < (pickL tt (D.length + m)).length → (sAt (someL T tt (D.length + m)) l).size = (sAt D 0).size := fun l hl => by
    rw [hS l hl]; exact allL_size D m _ ha (hat l hl).1
  have hSA : alikeB (someL T tt (D.length + m)) = true := (alikeB_iff _).2 (fun l hl => by
    rw [someL_length] at hl
    rw [hSz l hl, hSz 0 (by omega)])
  obtain ⟨B, hinv, hB⟩ := back_is D.length tt (D.length + m) h1 h2 hm hcnt
  have hout : outL T tt D.length = D := by
    have hl : (outL T tt D.length).length = D.length := outL_length _ _ _
    refine strs_ext hl fun i hi => ?_
    rw [hl] at hi
    have e1 : sAt (outL T tt D.length) i = sumL (sAt (mat D.length D.length B) i) ((someL T tt (D.length + m)).take D.length) := by
      unfold outL backL
      rw [sAt_map _ _ _ hi, hT, hinv]
    rw [e1]
    have hz0 : (sAt ((someL T tt (D.length + m)).take D.length) 0).size = (sAt D 0).size := by rw [sAt_take _ _ _ (by omega)]; exact hSz 0 (by omega)
    have hDi : (sAt D i).size = (sAt D 0).size := (alikeB_iff D).1 ha i hi
    refine str_ext (by rw [sumL_size, hz0, hDi]) fun x hx => ?_
    rw [sumL_size, hz0] at hx
    rw [sumL_at _ _ _ (by rw [hz0]; exact hx)]
    have hlen : ((someL T tt (D.length + m)).take D.length).length = D.length := by rw [List.length_take, someL_length]; omega
    rw [hlen]
    have e2 : ∀ l, l < D.length → gm (byteAt (sAt (mat D.length D.length B) i) l) (byteAt (sAt ((someL T tt (D.length + m)).take D.length) l) x) =
        gm (B i l) (sm (fun j => gm (genF D.length ((pickL tt (D.length + m)).getD l 0) j) (byteAt (sAt D j) x)) D.length) := fun l hl => by
      have e3 : byteAt (sAt (mat D.length D.length B) i) l = B i l := ent_mat _ _ _ _ _ hi hl
      rw [e3, sAt_take _ _ _ hl, hS l (by omega), allL_byte D m _ x (hat l (by omega)).1 hx]
    rw [sm_congr e2, ← sm_assoc (B i) (fun l j => genF D.length ((pickL tt (D.length + m)).getD l 0) j) (fun j => byteAt (sAt D j) x) D.length D.length]
    rw [sm_congr (g := fun j => gm (if i = j then 1 else 0) (byteAt (sAt D j) x)) fun j hj => by rw [hB i j hi hj]]
    exact unit_left D.length i hi (fun j => byteAt (sAt D j) x)
  unfold rebR
  rw [if_pos ⟨by omega, by omega, by omega, by omega, by omega⟩, hT, if_neg (by rw [hSA]; simp), if_neg (by omega)]
  have e : rebL T tt (D.length : Int).toNat = allL D m := by
    rw [Int.toNat_natCast]
    unfold rebL allL
    rw [hout, hT, Nat.add_sub_cancel_left]
  rw [e]
theorem reb_few (D : List ByteArray) (m : Nat) (T : List ByteArray) (tt : List Bool) (h1 : 1 ≤ D.length) (h2 : D.length ≤ 32) (hm : D.length + m ≤ 64) (ha : alikeB D = true)
    (hT : T.length = D.length + m) (htt : tt.length = D.length + m) (hsame : ∀ i, i < D.length + m → tt.getD i false = true → sAt T i = sAt (allL D m) i) (hcnt : (pickL tt (D.length + m)).length < D.length) :
    rebR T tt (D.length : Int) = ([], 70) := by
  have hat : ∀ l, l < (pickL tt (D.length + m)).length → (pickL tt (D.length + m)).getD l 0 < D.length + m ∧ tt.getD ((pickL tt (D.length + m)).getD l 0) false = true := fun l hl => filter_at (fun i => tt.getD i false) (D.length + m) l hl
  have hSz : ∀ l, l < (pickL tt (D.length + m)).length → (sAt (someL T tt (D.length + m)) l).size = (sAt D 0).size := fun l hl => by
    rw [someL_at _ _ _ _ hl, hsame _ (hat l hl).1 (hat l hl).2]; exact allL_size D m _ ha (hat l hl).1
  have hSA : alikeB (someL T tt (D.length + m)) = true := (alikeB_iff _).2 (fun l hl => by
    rw [someL_length] at hl
    rw [hSz l hl, hSz 0 (by omega)])
  unfold rebR
  rw [if_pos ⟨by omega, by omega, by omega, by omega, by omega⟩, hT, if_neg (by rw [hSA]; simp), if_pos (by omega)]
/-- How many are true. -/
def cntB (B : Nat → Bool) (n : Nat) : Nat := ((List.range n).filter B).length
theorem cntB_succ (B : Nat → Bool) (n : Nat) : cntB B (n + 1) = cntB B n + if B n = true then 1 else 0 := by
  unfold cntB
  rw [List.range_succ, List.filter_append, List.length_append]
  by_cases h : B n = true
  · rw [if_pos h]; simp [h]
  · rw [if_neg h]; simp [h]
theorem cntB_congr {B C : Nat → Bool} {n : Nat} (h : ∀ i, i < n → B i = C i) : cntB B n = cntB C n := by
  unfold cntB
  rw [List.filter_congr fun i hi => h i (by simpa using hi)]
theorem cntB_all (n : Nat) : cntB (fun _ => true) n = n := by
  unfold cntB
  rw [List.filter_eq_self.2 (fun _ _ => rfl), List.length_range]
theorem cntB_none {B : Nat → Bool} {n : Nat} (h : ∀ i, i < n → B i = false) : cntB B n = 0 := by
  unfold cntB
  rw [List.length_eq_zero_iff, List.filter_eq_nil_iff]
  intro i hi; rw [h i (by simpa using hi)]; simp
def clr (B : Nat → Bool) (a : Nat) : Nat → Bool := fun i => if i = a then false else B i
theorem cntB_clr (B : Nat → Bool) (a : Nat) (h : B a = true) : ∀ n, a < n → cntB (clr B a) n + 1 = cntB B n
  | 0, hn => by omega
  | n + 1, hn => by
    rw [cntB_succ, cntB_succ]
    by_cases e : a = n
    · subst e
      have e1 : clr B a a = false := by unfold clr; rw [if_pos rfl]
      rw [e1, h, cntB_congr (C := B) fun i hi => by unfold clr; rw [if_neg (by omega)]]; simp
    · have e1 : clr B a n = B n := by unfold clr; rw [if_neg (fun h => e h.symm)]
      have := cntB_clr B a h n (by omega)
      rw [e1]; omega
theorem fits_all (D : List ByteArray) (m : Nat) (h1 : 1 ≤ D.length) (h2 : D.length ≤ 32) (hm : D.length + m ≤ 64) (ha : alikeB D = true) : fitR (allL D m) (D.length : Int) = (true, 0) := by
  have hA : alikeB (allL D m) = true := (alikeB_iff _).2 (fun i hi => by
    rw [allL_length] at hi
    rw [allL_size D m i ha hi, allL_size D m 0 ha (by omega)])
  unfold fitR
  rw [if_pos ⟨by omega, by omega, by rw [allL_length]; omega, by rw [allL_length]; omega, hA⟩]
  have : fitB (allL D m) D.length = true := by
    unfold fitB
    rw [decide_eq_true_eq, allL_length, Nat.add_sub_cancel_left]
    unfold allL
    rw [List.take_left', List.drop_left'] <;> rfl
  rw [Int.toNat_natCast, this]
/-- What was cut joins to the text, with 0 behind it. -/
def joinL (l : List ByteArray) : List UInt8 := l.flatMap fun s => s.data.toList
theorem joinL_cut (s : ByteArray) (N : Nat) : ∀ k, joinL ((List.range k).map (cutF s N)) = (List.range (k * N)).map fun i => byteAt s i
  | 0 => by simp [joinL]
  | k + 1 => by
    have ih := joinL_cut s N k
    unfold joinL at ih ⊢
    rw [List.range_succ, List.map_append, List.flatMap_append, ih, Nat.add_mul, Nat.one_mul, List.range_add, List.map_append]
    congr 1
    simp [cutF, bs_data]
theorem joinL_take (s : ByteArray) (M : Nat) (h : s.size ≤ M) : bs (((List.range M).map fun i => byteAt s i).take s.size) = s := by
  refine str_ext (by rw [bs_size]; simp; omega) fun i hi => ?_
  rw [bs_size] at hi
  simp at hi
  rw [byteAt_bs, List.getD_eq_getElem?_getD, List.getElem?_take, if_pos (by omega), List.getElem?_map, List.getElem?_range (by omega)]; rfl
end Go.Proofs.Ythlnnclpfgokjaa
