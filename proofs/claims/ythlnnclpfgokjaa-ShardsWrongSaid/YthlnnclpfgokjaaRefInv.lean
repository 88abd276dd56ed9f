/- Walks: the reference's Inverse and Rank. -/
import Derived.Test.YthlnnclpfgokjaaRefElim
import Derived.Test.YthlnnclpfgokjaaInv
import Derived.Test.YthlnnclpfgokjaaRank
import Derived.Deep.RegionLaw
namespace Go.Proofs.Ythlnnclpfgokjaa
open Go.RowKit Gf
set_option linter.unusedVariables false
theorem step_append_str {P : Program} {ops : Array Oper} {o : Oper} {a : Act} {w : World} {K : Act → World → Prop} {Q : Exit → Act → World → Prop} {X : Prop} (hgd : o.guard = none) (s x : Operand) (t sT : TypeId)
    (ho : o.op = .call { callee := .builtin .append, args := #[s, x], argTypes := #[t, sT] }) (e : TypeId) (ht : P.underlying t = some (.slice e)) (hsT : P.underlying sT = some .string) (i : TypeInfo) (hi : P.info? e = some i) (hz : i.zero = some (.int .u8 0)) (hs1 : i.size = 1) (hb : i.bytes = 1)
    (g n cap : Nat) (f : Nat → Value) (hs : a.eval s = .slice (some ⟨g, 0, none⟩) n cap) (h : bufIs w e g n cap f) (st : ByteArray) (hx : a.eval x = .string st) (hroom : n + st.size ≤ 140737488355328)
    (hK : ∀ g' cap' w', bufIs w' e g' (n + st.size) cap' (thenStr f n st) → w.grownBy w' (some g) → (g' = g ∨ g' = w.heap.size) → K (a.put o.dst (.slice (some ⟨g', 0, none⟩) (n + st.size) cap')) w') :
    if Region.wanted o (yielded ops a.tmps) = true then Oper.wp P o a w K Q else X := by
  have hw : Region.wanted o (yielded ops a.tmps) = true := by simp [Region.wanted, hgd]
  rw [if_pos hw]
  obtain ⟨g', cap', w', hrun, h2, h3, h4⟩ := run_append_str (P := P) (w := w) t sT e o.type ht hsT i hi hz hs1 hb h st hroom
  unfold Oper.wp execOp
  simp only [ho, resolve, invoke, builtin, Sem.run_bind, Sem.run_pure, Result.andThen_ok, List.map_toArray, List.map_cons, List.map_nil, hs, hx, hrun]
  exact hK g' cap' w' h2 h3 h4

theorem bmat_congrL {w : World} {base n : Nat} {v : Value} {L L' gs caps : Nat → Nat} {M : Mat} (h : bmat w base v n L gs caps M) (e : ∀ i, i < n → L i = L' i) : bmat w base v n L' gs caps M :=
  ⟨by rw [← rowsV_congr (fun i hi => by unfold rowV; rw [e i hi]) (gs := gs) (L := L) (caps := caps)]; exact h.out, fun i hi => by rw [← e i hi]; exact h.buf i hi, h.ne⟩
theorem bmat_replace {w w1 : World} {base n c go i g' L' cap' : Nat} {L gs caps : Nat → Nat} {M : Mat} (h : bmat w base (.slice (some ⟨go, 0, none⟩) n c) n L gs caps M) (hi : i < n)
    (hg : w.grownBy w1 (some (gs i))) (hb : bufIs w1 5 g' L' cap' (numV M i)) (hd : g' = gs i ∨ g' = w.heap.size) (hbase : base ≤ w.heap.size) :
    bmat (w1.setCell ⟨go, i, none⟩ (.slice (some ⟨g', 0, none⟩) L' cap')) base (.slice (some ⟨go, 0, none⟩) n c) n (upd L i L') (upd gs i g') (upd caps i cap') M ∧ w1.grownBy (w1.setCell ⟨go, i, none⟩ (.slice (some ⟨g', 0, none⟩) L' cap')) (some go) := by
  have o1 := h.out.kept hg (.inr (own_buf_ne h.out (h.buf i hi).2 (by decide)))
  obtain ⟨o2, g2⟩ := o1.stored i (.slice (some ⟨g', 0, none⟩) L' cap')
  have hgo : ∀ k cp Lk f, bufIs w1 5 k Lk cp f → k ≠ go := fun k cp Lk f hk e => own_buf_ne o1 hk (by decide) (by rw [e]; rfl)
  have hlt : ∀ k, k < n → gs k < w.heap.size := fun k hk => (h.buf k hk).2.lt
  refine ⟨⟨?_, fun k hk => ?_, fun k l hk hl hne => ?_⟩, g2⟩
  · have e : (rowsV gs L caps n).set i (.slice (some ⟨g', 0, none⟩) L' cap') = rowsV (upd gs i g') (upd L i L') (upd caps i cap') n := by
      apply List.ext_getElem?
      intro k
      rw [List.getElem?_set]
      have hl : (rowsV gs L caps n).length = n := by simp [rowsV]
      rw [hl]
      by_cases hk : k < n
      · have er : ∀ (g l c : Nat → Nat), (rowsV g l c n)[k]? = some (rowV g l c k) := fun g l c => by simp [rowsV, hk]
        rw [er, er]
        unfold rowV
        by_cases e1 : i = k
        · subst e1; rw [if_pos rfl, if_pos hk, upd_self, upd_self, upd_self]
        · rw [if_neg e1, upd_ne _ _ (fun h => e1 h.symm), upd_ne _ _ (fun h => e1 h.symm), upd_ne _ _ (fun h => e1 h.symm)]
      · have er : ∀ (g l c : Nat → Nat), (rowsV g l c n)[k]? = none := fun g l c => by simp [rowsV]; omega
        rw [er, er, if_neg (by omega)]
    rw [← e]; exact o2
  · by_cases e : k = i
    · subst e
      rw [upd_self, upd_self, upd_self]
      refine ⟨?_, hb.of_block (Below.heap_setCell _ _ _ _ (hgo _ _ _ _ hb))⟩
      rcases hd with hd | hd
      · rw [hd]; exact (h.buf k hi).1
      · omega
    · rw [upd_ne _ _ e, upd_ne _ _ e, upd_ne _ _ e]
      have hbk := (h.buf k hk).2.grown hg (fun e2 => h.ne k i hk hi e (by injection e2))
      exact ⟨(h.buf k hk).1, hbk.of_block (Below.heap_setCell _ _ _ _ (hgo _ _ _ _ hbk))⟩
  · by_cases e1 : k = i
    · subst e1
      rw [upd_self, upd_ne _ _ (fun h => hne h.symm)]
      rcases hd with hd | hd
      · rw [hd]; exact h.ne k l hk hl hne
      · have := hlt l hl; omega
    · rw [upd_ne _ _ e1]
      by_cases e2 : l = i
      · subst e2
        rw [upd_self]
        rcases hd with hd | hd
        · rw [hd]; exact h.ne k l hk hl hne
        · have := hlt k hk; omega
      · rw [upd_ne _ _ e2]; exact h.ne k l hk hl hne

theorem bmat_keep {w w' : World} {base base' n m : Nat} {v v' : Value} {e : TypeId} {xs : List Value} {L gs caps : Nat → Nat} {M : Mat} (h : bmat w base v n L gs caps M) (ho : w.ownsRow base' e 1 v' m xs) (h1 : 44 ≠ e) (h2 : e ≠ 5) (hg : w.grownBy w' v'.ownBlock) : bmat w' base v n L gs caps M :=
  ⟨own_keep h.out ho h1 hg, fun i hi => ⟨(h.buf i hi).1, (h.buf i hi).2.grown hg (fun e => own_buf_ne ho (h.buf i hi).2 h2 e.symm)⟩, h.ne⟩
theorem own_head {w : World} {base n : Nat} {e : TypeId} {v : Value} {xs : List Value} (h : w.ownsRow base e 1 v n xs) (hn : 1 ≤ n) : ∃ go cc, v = .slice (some ⟨go, 0, none⟩) n cc := by
  obtain ⟨g, cap, hv, _⟩ := h.form (by omega)
  exact ⟨g, cap, hv⟩

set_option maxRecDepth 100000 in
set_option maxHeartbeats 400000 in
theorem rrank_any (A : Option Addr) (n c : Nat) (a : List ByteArray) (w : World) (B : Nat) (h : Reads w B 1 A n (strV a)) (hB : B ≤ w.heap.size) (hn : n ≤ 9223372036854775807) (hz : ∀ s ∈ a, s.size ≤ 9223372036854775807) :
    Calls Try.prog 36 #[.slice A n c] w fun e w' => e = .returned (.tuple #[.int .i64 (rankR a).1, .int .i64 (rankR a).2]) ∧ Below w.heap.size w w' := by
  by_cases ha : ¬ okM a = true
  · have X : Hid (rankR a = (0, 1)) := Lib.hid (by unfold rankR; rw [if_neg ha])
    have Ca := Lib.hid (chk_no ha)
    have H := Lib.hid h
    have HZ := Lib.hid hz
    clear h hz ha
    go_enter Try.func36, Try.ntmps36
    go_wp2_with fail
    refine (rcheck_any A n c a _ B H.out hn HZ.out).mono ?_
    rintro e w' ⟨rfl, rfl⟩
    rw [Ca.out]
    go_wp2
    go_ret2
    exact ⟨by rw [X.out]; rfl, Below.refl _ _⟩
  have ha := Classical.not_not.1 ha
  have hoa := (okM_iff a).1 ha
  have hl := h.len
  have hn1 : n ≤ 64 := by omega
  have hn0 : 1 ≤ n := by omega
  have hcc : col a ≤ 64 := hoa.2.2.2.1
  have Ca : Hid (chkV a = .tuple #[.int .i64 (n : Int), .int .i64 (col a : Int), .int .i64 0]) := Lib.hid (by rw [chk_yes ha, hl])
  have X : Hid (rankR a = (((esteps n (rankM a (col a)) (col a)).2 : Int), 0)) := Lib.hid (by unfold rankR; rw [if_pos ha, hl])
  have HOA := Lib.hid hoa
  have HL := Lib.hid hl
  have H := Lib.hid h
  have HZ := Lib.hid hz
  clear h hz ha hoa hl
  go_enter Try.func36, Try.ntmps36
  go_wp2_with fail
  refine (rcheck_any A n c a _ B H.out hn HZ.out).mono ?_
  rintro e w' ⟨rfl, rfl⟩
  rw [Ca.out]
  go_wp2_with fail
  refine (rows_any _ B A n c a H.out hB hn1).mono ?_
  rintro e w2 ⟨v, gs, caps, rfl, hm, hb⟩
  obtain ⟨go, cc, rfl⟩ := own_head hm.out hn0
  have HM : Hid (bmat w2 w.heap.size (.slice (some ⟨go, 0, none⟩) n cc) n (fun _ => col a) gs caps (rankM a (col a))) := Lib.hid
    ((bmat_congrL hm (fun i hi => by rw [HOA.out.2.2.2.2 i (by rw [HL.out]; exact hi)]; rfl)).congr fun i j hi hj => by unfold rankM; rw [if_pos hj])
  have HB := Lib.hid hb
  clear hm hb
  go_wp2_with fail
  refine (reliminate_any w2 w.heap.size go n cc (col a) (col a) gs caps _ HM.out hn1 (Nat.le_refl _) (by omega)).mono ?_
  rintro e w3 ⟨rfl, _, hb3⟩
  have HB3 : Hid (Below w.heap.size w w3) := Lib.hid (HB.out.trans hb3)
  clear hb3
  go_wp2
  go_ret2
  exact ⟨by rw [X.out]; rfl, HB3.out⟩

set_option maxRecDepth 100000 in
set_option maxHeartbeats 400000 in
theorem rinverse_bad (A : Option Addr) (n c : Nat) (a : List ByteArray) (w : World) (B : Nat) (h : Reads w B 1 A n (strV a)) (hn : n ≤ 9223372036854775807) (hz : ∀ s ∈ a, s.size ≤ 9223372036854775807)
    (hbad : ¬ (okM a = true ∧ a.length = col a)) :
    Calls Try.prog 35 #[.slice A n c] w fun e w' => RetStrs w w' e (invR a) := by
  have X : Hid (invR a = ([], 1)) := Lib.hid (by unfold invR; rw [if_neg hbad])
  have H := Lib.hid h
  have HZ := Lib.hid hz
  clear h hz
  by_cases ha : okM a = true
  · have Ca := Lib.hid (chk_yes ha)
    have hne : ((a.length : Int) != (col a : Int)) = true := by rw [bne_iff_ne]; intro e; exact hbad ⟨ha, by omega⟩
    clear hbad ha
    go_enter Try.func35, Try.ntmps35
    go_wp2_with fail
    refine (rcheck_any A n c a _ B H.out hn HZ.out).mono ?_
    rintro e w' ⟨rfl, rfl⟩
    rw [Ca.out]
    go_wp2
    go_ret2
    exact retNil w 1 _ X.out (Below.refl _ _)
  · have Ca := Lib.hid (chk_no ha)
    clear hbad ha
    go_enter Try.func35, Try.ntmps35
    go_wp2_with fail
    refine (rcheck_any A n c a _ B H.out hn HZ.out).mono ?_
    rintro e w' ⟨rfl, rfl⟩
    rw [Ca.out]
    go_wp2
    go_ret2
    exact retNil w 1 _ X.out (Below.refl _ _)

theorem aug_then (ss : List ByteArray) (n i : Nat) (hi : i < n) (s : ByteArray) (hs : s = bs ((List.range n).map fun j => if i = j then (1 : UInt8) else 0)) (j : Nat) (hj : j < n + s.size) :
    thenStr (numV (augM ss n) i) n s j = numV (augM ss n) i j := by
  have hsz : s.size = n := by rw [hs, bs_size]; simp
  unfold thenStr
  by_cases h : j < n
  · rw [if_pos h]
  · rw [if_neg h]
    unfold numV augM
    rw [if_neg h, hs, bs_data]
    have hjn : j - n < n := by omega
    simp only [List.getD_eq_getElem?_getD, List.getElem?_map, List.getElem?_range hjn, Option.map_some, Option.getD_some]
    by_cases e : i = j - n
    · rw [if_pos e, if_pos (by omega)]
    · rw [if_neg e, if_neg (by omega)]
def unitRow (n i : Nat) : ByteArray := bs ((List.range n).map fun j => if i = j then (1 : UInt8) else 0)
theorem unitRow_size (n i : Nat) : (unitRow n i).size = n := by unfold unitRow; rw [bs_size]; simp
theorem unit_row (n i : Nat) (hi : i < n) : sAt (mat n n (fun i j => if i = j then 1 else 0)) i = unitRow n i := by
  rw [sAt_get (by rw [mat_length]; exact hi)]
  simp [mat, unitRow]
def halfL (n k : Nat) : Nat → Nat := fun i => if i < k then n + n else n

theorem inv_step {w1 wr w5 : World} {base go n cc k g' cap' : Nat} {gs caps : Nat → Nat} {a : List ByteArray} (h : bmat wr base (.slice (some ⟨go, 0, none⟩) n cc) n (halfL n k) gs caps (augM a n)) (hk : k < n) (hbl : Below base w1 wr) (hs : base ≤ wr.heap.size)
    (hb : bufIs w5 5 g' (n + (unitRow n k).size) cap' (thenStr (numV (augM a n) k) n (unitRow n k))) (hg : wr.drew.grownBy w5 (some (gs k))) (hd : g' = gs k ∨ g' = wr.drew.heap.size) :
    (∃ gs caps, bmat (w5.setCell ⟨go, k, none⟩ (.slice (some ⟨g', 0, none⟩) (n + (unitRow n k).size) cap')) base (.slice (some ⟨go, 0, none⟩) n cc) n (halfL n (k + 1)) gs caps (augM a n)) ∧
    Below base w1 (w5.setCell ⟨go, k, none⟩ (.slice (some ⟨g', 0, none⟩) (n + (unitRow n k).size) cap')) := by
  have hb' : bufIs w5 5 g' (n + (unitRow n k).size) cap' (numV (augM a n) k) := hb.congr fun j hj => aug_then a n k hk (unitRow n k) rfl j hj
  obtain ⟨h1, h2⟩ := bmat_replace h.drew hk hg hb' hd hs
  refine ⟨⟨_, _, bmat_congrL h1 fun i hi => ?_⟩, ?_⟩
  · unfold upd halfL
    by_cases e : i = k
    · rw [if_pos e, if_pos (by omega), unitRow_size]
    · rw [if_neg e]
      by_cases e2 : i < k
      · rw [if_pos e2, if_pos (by omega)]
      · rw [if_neg e2, if_neg (by omega)]
  · have hb1 : Below base w1 w5 := below_grownB hbl.drew hg (h.buf k hk).1 hs
    have hgo := own_ge h.out go rfl
    exact below_grownB hb1 h2 hgo (Nat.le_trans hs hg.size)

set_option maxRecDepth 100000 in
set_option maxHeartbeats 2000000 in
theorem rinverse_any (A : Option Addr) (n c : Nat) (a : List ByteArray) (w : World) (B : Nat) (h : Reads w B 1 A n (strV a)) (hB : B ≤ w.heap.size) (hn : n ≤ 9223372036854775807) (hz : ∀ s ∈ a, s.size ≤ 9223372036854775807) :
    Calls Try.prog 35 #[.slice A n c] w fun e w' => RetStrs w w' e (invR a) := by
  by_cases hbad : ¬ (okM a = true ∧ a.length = col a)
  · exact rinverse_bad A n c a w B h hn hz hbad
  obtain ⟨ha, hsq⟩ := Classical.not_not.1 hbad
  clear hbad
  have hoa := (okM_iff a).1 ha
  have hl := h.len
  have hn1 : n ≤ 64 := by omega
  have hn0 : 1 ≤ n := by omega
  have Ca : Hid (chkV a = .tuple #[.int .i64 (n : Int), .int .i64 (n : Int), .int .i64 0]) := Lib.hid (by rw [chk_yes ha, ← hsq, hl])
  have U : Hid (unitR (n : Int) = (mat n n (fun i j => if i = j then 1 else 0), 0)) := Lib.hid (by unfold unitR; rw [if_pos (by omega)]; rfl)
  obtain ⟨E, hE⟩ : ∃ E, E = invE a := ⟨_, rfl⟩
  have X : Hid (invR a = if E.2 < n then ([], 60) else (mat n n (fun i j => E.1 i (n + j)), 0)) := Lib.hid (by
    unfold invR; rw [if_pos ⟨ha, hsq⟩, ← hE, hl])
  have HE : Hid (esteps n (augM a n) n = E) := Lib.hid (by rw [hE, invE, hl])
  have SZ : Hid (∀ i, i < n → (sAt a i).size = n) := Lib.hid (fun i hi => by rw [hoa.2.2.2.2 i (by omega)]; unfold col at hsq; omega)
  have H := Lib.hid h
  have HZ := Lib.hid hz
  clear h hz ha hoa hl hsq hE
  obtain ⟨EM, ea⟩ := E
  go_enter Try.func35, Try.ntmps35
  go_wp2_with fail
  refine (rcheck_any A n c a _ B H.out hn HZ.out).mono ?_
  rintro e w' ⟨rfl, rfl⟩
  rw [Ca.out]
  go_wp2_with fail
  refine (runit_any n _).mono ?_
  rintro e w1 ⟨v1, rfl, ho1, hb1⟩
  rw [U.out] at ho1 ⊢
  obtain ⟨A1, c1, rfl, hr1⟩ := own_reads ho1
  have hl1 : (mat n n (fun i j => if i = j then (1 : UInt8) else 0)).length = n := mat_length _ _ _
  have R1 : Hid (Reads w1 w1.heap.size 1 A1 n (strV (mat n n (fun i j => if i = j then 1 else 0)))) := Lib.hid (by simp only [hl1] at hr1; exact hr1)
  have B1 := Lib.hid hb1
  have s1 := hb1.size
  have L1 := Lib.hid hl1
  simp only [hl1]
  clear ho1 hb1 hr1 hl1
  go_wp2_with fail
  refine (rows_any _ B A n c a (H.out.below (B1.out.mono hB)) (by omega) hn1).mono ?_
  rintro e w2 ⟨v, gs0, caps0, rfl, hm, hb⟩
  obtain ⟨go, cc, rfl⟩ := own_head hm.out hn0
  have HM : Hid (bmat w2 w1.heap.size (.slice (some ⟨go, 0, none⟩) n cc) n (halfL n 0) gs0 caps0 (augM a n)) := Lib.hid
    ((bmat_congrL hm (fun i hi => by rw [SZ.out i hi]; rfl)).congr fun i j hi hj => by unfold halfL at hj; rw [if_neg (by omega)] at hj; unfold augM; rw [if_pos hj])
  have HB2 := Lib.hid hb
  have R2 := Lib.hid (R1.out.below hb)
  have s2 := hb.size
  clear hm hb
  go_wp2
  go_loopw [10] (fun i wr => ∃ k : Nat, k ≤ n ∧ i = .int .i64 k ∧ Hid ((∃ gs caps, bmat wr w1.heap.size (.slice (some ⟨go, 0, none⟩) n cc) n (halfL n k) gs caps (augM a n)) ∧ Below w1.heap.size w1 wr)) (fun i _ => n - (intOf i).toNat)
  case atStart => exact ⟨0, by omega, rfl, Lib.hid ⟨⟨_, _, HM.out⟩, HB2.out⟩⟩
  case round =>
    obtain ⟨k, hk, rfl, HK⟩ := hrel
    by_cases hlt : k < n
    · obtain ⟨⟨gs, caps, hm⟩, hbl⟩ := HK.out
      have HMk := Lib.hid hm
      have HBk := Lib.hid hbl
      have hLk : halfL n k k = n := by unfold halfL; rw [if_neg (by omega)]
      have hrow : wr.cell? ⟨go, k, none⟩ = some (.slice (some ⟨gs k, 0, none⟩) n (caps k)) := by have := hm.row hlt; unfold rowV at this; rw [hLk] at this; exact this
      obtain ⟨ad, rfl, hbb, hc⟩ := ((R1.out.below hbl).str hlt)
      have hone := hc k hlt
      rw [unit_row n k hlt] at hone
      have hbuf : bufIs wr 5 (gs k) n (caps k) (numV (augM a n) k) := by have := (hm.buf k hlt).2; rw [hLk] at this; exact this
      have HBUF := Lib.hid hbuf
      have HLk := Lib.hid hLk
      have hsz : n + (unitRow n k).size ≤ 140737488355328 := by rw [unitRow_size]; omega
      have HSZ := Lib.hid hsz
      have hgoN := Lib.hid (own_buf_ne hm.out (hm.buf k hlt).2 (by decide))
      have hfz := hm.out.frozenAt k
      clear hm hbl hc hLk hbuf hsz
      obtain ⟨i5, hi5, hz5, hs5, hb5⟩ := elemByte.info
      have I5 := Lib.hid hi5
      have Z5 := Lib.hid hz5
      have S5 := Lib.hid hs5
      have B5 := Lib.hid hb5
      clear hi5 hz5 hs5 hb5
      go_wp2
      go_region_law (first | (refine step_append_str rfl _ _ 44 9 rfl 5 (by kernel_rfl) (by kernel_rfl) i5 I5.out Z5.out S5.out B5.out (gs k) n (caps k) (numV (augM a n) k) rfl HBUF.out.drew (unitRow n k) rfl HSZ.out ?_; intro g' cap' w5 hb5 hg5 hd5; have hrow5 := (World.cell?_of_block (w := wr.drew) (w' := w5) (a := ⟨go, k, none⟩) (hg5.block go (block_lt_of_cell hrow) (fun e => hgoN.out (by rw [← e]; rfl)))).trans hrow; have hfz5 := (World.frozen?_of_block (w := wr.drew) (w' := w5) (a := ⟨go, k, none⟩) (hg5.block go (block_lt_of_cell hrow) (fun e => hgoN.out (by rw [← e]; rfl)))).trans hfz))
      all_goals
        have HS := Lib.hid (inv_step HMk.out hlt HBk.out (by have := HBk.out.size; omega) hb5 hg5 hd5)
        clear hb5 hg5 hd5 hrow5 hfz5
        go_wp2
        go_roundw
        case rel => exact ⟨k + 1, by omega, by go_num, HS⟩
        case measure => simp [intOf]; omega
    · obtain rfl : k = n := by omega
      obtain ⟨⟨gs, caps, hm⟩, hbl⟩ := HK.out
      have HMk : Hid (bmat wr w1.heap.size (.slice (some ⟨go, 0, none⟩) k cc) k (fun _ => k + k) gs caps (augM a k)) := Lib.hid (bmat_congrL hm fun i hi => by unfold halfL; rw [if_pos hi])
      have HBk := Lib.hid hbl
      have s3 := hbl.size
      clear hm hbl HK
      go_wp2_with fail
      refine (reliminate_any wr w1.heap.size go k cc k (k + k) gs caps _ HMk.out hn1 (by omega) (by omega)).mono ?_
      rw [HE.out]
      rintro e w3 ⟨rfl, ⟨gs3, caps3, hm3⟩, hb3⟩
      have HM3 := Lib.hid hm3
      have HB3 := Lib.hid (B1.out.trans ((HBk.out.trans hb3).mono s1))
      have s4 := hb3.size
      clear hm3 hb3
      by_cases hlow : ea < k
      · have X' : Hid (invR a = ([], 60)) := Lib.hid (by rw [X.out, if_pos hlow])
        go_wp2
        go_ret2
        exact retNil w 60 _ X'.out HB3.out
      · have X' : Hid (invR a = (mat k k (fun i j => EM i (k + j)), 0)) := Lib.hid (by rw [X.out, if_neg hlow])
        go_wp2
        go_loopw [11, 12] (fun v i wr => ∃ i' : Nat, i' ≤ k ∧ i = .int .i64 i' ∧ Hid (bmat wr w1.heap.size (.slice (some ⟨go, 0, none⟩) k cc) k (fun _ => k + k) gs3 caps3 EM ∧ wr.ownsRow w.heap.size 9 1 v i' (strV (mat i' k (fun i j => EM i (k + j)))) ∧ Below w.heap.size w wr ∧ w1.heap.size ≤ wr.heap.size)) (fun _ i _ => k - (intOf i).toNat)
        case atStart => exact ⟨0, by omega, rfl, Lib.hid ⟨HM3.out, World.ownsRow_nil _ _ _ _, HB3.out, by omega⟩⟩
        case round =>
          obtain ⟨i, hi, rfl, HI⟩ := hrel
          by_cases hik : i < k
          · have hrow : wr.cell? ⟨go, i, none⟩ = some (.slice (some ⟨gs3 i, 0, none⟩) (k + k) (caps3 i)) := HI.out.1.row hik
            have hcap : k + k ≤ caps3 i := (HI.out.1.buf i hik).2.le
            have hcne : ¬ caps3 i = k := by omega
            have HC : Hid (∀ j, j < k → wr.cell? (({ block := gs3 i, off := k, spot := none } : Addr).add j) = some (.int .u8 ((((List.range k).map fun j => EM i (k + j)).getD j 0).toNat : Int))) := Lib.hid (fun j hj => by
              have ea : ({ block := gs3 i, off := k, spot := none } : Addr).add j = ⟨gs3 i, k + j, none⟩ := by unfold Addr.add; split <;> simp_all
              rw [ea, (HI.out.1.buf i hik).2.cell (by omega)]
              simp [numV, List.getD, hj])
            have hk1 : i ≤ 4611686018427387904 := by omega
            have hk2 : (i + 1) * 16 ≤ 140737488355328 := by omega
            have hle := HI.out.2.2.1.size
            go_wp2_with (first
              | (with_reducible refine conv_str_wp (e := 5) (by kernel_rfl) (by kernel_rfl) (by kernel_rfl) rfl _ rfl ⟨gs3 i, k, none⟩ k (caps3 i - k) rfl ((List.range k).map fun j => EM i (k + j)) (by simp) HC.out ?_)
              | (at_builtin; refine append1_new elemStr rfl _ _ rfl w.heap.size _ i _ rfl HI.out.2.1 _ rfl rfl hk1 hk2 hle ?_; intro v' w' ho hg))
            have HI' := Lib.hid (And.intro (bmat_keep HI.out.1 HI.out.2.1 (by decide) (by decide) hg) (And.intro (show w'.ownsRow w.heap.size 9 1 v' (i + 1) (strV (mat (i + 1) k (fun i j => EM i (k + j)))) from by rw [mat_succ]; simpa [strV] using ho) (And.intro (below_own HI.out.2.2.1 HI.out.2.1 hg) (Nat.le_trans HI.out.2.2.2 hg.size))))
            clear ho hg
            go_roundw
            case rel => exact ⟨i + 1, by omega, by go_num, HI'⟩
            case measure => simp [intOf]; omega
          · obtain rfl : i = k := by omega
            go_wp2
            go_ret2
            refine ⟨_, by rw [X'.out]; rfl, ?_, HI.out.2.2.1⟩
            rw [X'.out]
            show wr.ownsRow w.heap.size _ 1 _ (mat i i _).length _
            rw [mat_length]
            exact HI.out.2.1
end Go.Proofs.Ythlnnclpfgokjaa
