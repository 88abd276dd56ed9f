/- Walk: field.Rank. -/
import Derived.Test.YthlnnclpfgokjaaInv
import Derived.Stop.BytesEq
namespace Go.Proofs.Ythlnnclpfgokjaa
open Go.RowKit Gf
set_option linter.unusedVariables false
def rankM (ss : List ByteArray) (c : Nat) : Mat := fun i j => if j < c then ent ss i j else 0
def rankR (ss : List ByteArray) : Int × Int := if okM ss = true then ((((esteps ss.length (rankM ss (col ss)) (col ss)).2 : Nat) : Int), 0) else (0, 1)
attribute [local go_sem ↓] execOp_ld128 execOp_st128
attribute [local go_sem] run_ld128 run_st128
theorem rank_flat (ss : List ByteArray) (n : Nat) (hl : ss.length = n) (ho : okM ss = true) (x : Nat) (hx : x < n * 128) : gridG ss n x = flat (rankM ss (col ss)) x := by
  have h := (okM_iff ss).1 ho
  have hi : x / 128 < n := by omega
  have hsz : (sAt ss (x / 128)).size = col ss := by rw [h.2.2.2.2 _ (by omega)]; rfl
  unfold flat rankM gridG
  rw [hsz]
  by_cases h1 : x % 128 < col ss
  · rw [if_pos ⟨hi, h1⟩, if_pos h1]; rfl
  · rw [if_neg (fun h => h1 h.2), if_neg h1]
theorem estep_zero (n c : Nat) (s : Mat × Nat) (j : Nat) (h : ∀ i, s.1 i j = 0) (i : Nat) : (estep n c s).1 i j = 0 := by
  have hs : ∀ p a i, swapR s.1 p a i j = 0 := fun p a i => by unfold swapR; split; exact h _; split; exact h _; exact h _
  have hr : ∀ p a i, red1 s.1 p a c i j = 0 := fun p a i => by
    unfold red1 scaleR; split
    · rw [hs, zero_gm]
    · exact hs _ _ _
  unfold estep
  split
  · show takeR _ _ _ _ _ _ = 0
    unfold takeR; split
    · rw [hr, hr, gm_zero, UInt8.xor_zero]
    · exact hr _ _ _
  · exact h i
theorem esteps_zero (n : Nat) (M : Mat) (j : Nat) (h : ∀ i, M i j = 0) (c i : Nat) : (esteps n M c).1 i j = 0 := by
  induction c generalizing i with
  | zero => exact h i
  | succ c ih => exact estep_zero n c _ j ih i
def rowL (M : Mat) (k : Nat) : List UInt8 := (List.range 128).map fun j => M k j
def zeroL : List UInt8 := List.replicate 128 0
theorem row_zero (M : Mat) (k : Nat) : (rowL M k == zeroL) = true ↔ ∀ j, j < 128 → M k j = 0 := by
  rw [beq_iff_eq]
  constructor
  · intro h j hj
    have h2 : (rowL M k)[j]? = zeroL[j]? := by rw [h]
    unfold zeroL at h2
    rw [List.getElem?_replicate, if_pos hj] at h2
    unfold rowL at h2
    rw [List.getElem?_map, List.getElem?_range hj] at h2
    exact Option.some.inj h2
  · intro h
    refine List.ext_getElem (by rw [zeroL, List.length_replicate]; simp [rowL]) fun j h1 h2 => ?_
    have e : zeroL[j]'h2 = 0 := List.getElem_replicate _
    rw [e]
    simp only [rowL, List.getElem_map, List.getElem_range]
    exact h j (by simpa [rowL] using h1)
theorem rank_rows (n : Nat) (M : Mat) (c : Nat) (hc : c ≤ 128) (hz : ∀ i j, c ≤ j → M i j = 0) (k : Nat) (hk : k < n) :
    (!(rowL (esteps n M c).1 k == zeroL)) = decide (k < (esteps n M c).2) := by
  obtain ⟨piv, h⟩ := steps_all n M c
  by_cases ha : k < (esteps n M c).2
  · rw [decide_eq_true ha, Bool.not_eq_true', Bool.eq_false_iff]
    intro e
    have := (row_zero _ _).1 e (piv k) (by have := h.lt k ha; omega)
    rw [h.one k ha] at this
    exact absurd this (by decide)
  · rw [decide_eq_false ha, Bool.not_eq_false']
    refine (row_zero _ _).2 fun j hj => ?_
    by_cases hjc : j < c
    · exact h.low k j (by omega) hk hjc
    · exact esteps_zero n M j (fun i => hz i j (by omega)) c k
theorem row_cells {w : World} {g N k : Nat} {T : TypeId} {M : Mat} (h : w.rowIs g T N (u8V (flat M))) (hfit : k * 128 + 128 ≤ N) : row128 w g (k * 128) = ((rowL M k).map Extern.Stop.cell).toArray := by
  unfold row128
  congr 1
  unfold rowL
  rw [List.map_map]
  refine List.map_congr_left fun j hj => ?_
  rw [List.mem_range] at hj
  rw [h.cell (i := k * 128 + j) (by omega)]
  show u8V (flat M) (k * 128 + j) = _
  unfold u8V
  rw [flat_at _ _ _ hj]
  rfl
theorem zeros_row128 : Try.zeroCells72 = Array.replicate 128 (.int .u8 0) := by kernel_rfl
theorem zero_cells : Try.zeroCells72 = (zeroL.map Extern.Stop.cell).toArray := by kernel_rfl
theorem run_eq128 (xs : List UInt8) (hx : xs.length = 128) (w : World) :
    (Op.equalIn 10000 72 (.agg (xs.map Extern.Stop.cell).toArray) (.agg Try.zeroCells72)).run Try.prog w = .ok (xs == zeroL) w := by
  rw [zero_cells]
  exact run_equalIn_bytes w 9998 _ 5 128 (by kernel_rfl) (by kernel_rfl) (fun w => by kernel_rfl) xs zeroL hx (by rw [zeroL, List.length_replicate])
theorem rowL_length (M : Mat) (k : Nat) : (rowL M k).length = 128 := by simp [rowL]
theorem cells_full (l : List UInt8) (hl : l.length = 128) : full128 (l.map Extern.Stop.cell).toArray = true := by
  unfold full128
  rw [Bool.and_eq_true, decide_eq_true_eq, Array.all_eq_true_iff_forall_mem]
  refine ⟨by simpa using hl, fun v hv => ?_⟩
  simp only [List.mem_toArray, List.mem_map] at hv
  obtain ⟨b, _, rfl⟩ := hv; rfl
/-- A row that was laid into a block of its own. -/
theorem put_new (w : World) (X : Array Value) (hX : full128 X = true) :
    ok128 (w.alloc (.cells Try.zeroCells72 72)) w.heap.size 0 = true ∧
    ok128 (put128 (w.alloc (.cells Try.zeroCells72 72)) w.heap.size 0 X) w.heap.size 0 = true ∧
    row128 (put128 (w.alloc (.cells Try.zeroCells72 72)) w.heap.size 0 X) w.heap.size 0 = X ∧
    (w.alloc (.cells Try.zeroCells72 72)).grownBy (put128 (w.alloc (.cells Try.zeroCells72 72)) w.heap.size 0 X) (some w.heap.size) := by
  have hr := zeros_row w (T := 72) zeros_row128
  obtain ⟨r1, g1⟩ := put128_row hr 0 X (by omega) hX
  refine ⟨ok128_of hr (by omega), ok128_of r1 (by omega), ?_, g1⟩
  unfold full128 at hX
  rw [Bool.and_eq_true, decide_eq_true_eq] at hX
  unfold row128
  apply Array.ext'
  rw [List.toList_toArray]
  refine List.ext_getElem (by simp [hX.1]) fun j h1 h2 => ?_
  have hj : j < 128 := by simpa using h1
  have := r1.cell (i := 0 + j) (by omega)
  simp only [List.getElem_map, List.getElem_range]
  rw [this, if_pos (by omega)]
  simp [List.getD, hX.1, hj]

set_option maxRecDepth 100000 in
set_option maxHeartbeats 1000000 in
theorem rankP_any (A : Option Addr) (n c : Nat) (a : List ByteArray) (w : World) (B : Nat) (h : Reads w B 1 A n (strV a)) (hB : B ≤ w.heap.size) (hn : n ≤ 9223372036854775807) (hz : ∀ s ∈ a, s.size ≤ 9223372036854775807) :
    Calls Try.prog 37 #[.slice A n c] w fun e w' => e = .returned (.tuple #[.int .i64 (rankR a).1, .int .i64 (rankR a).2]) ∧ Below w.heap.size w w' := by
  by_cases ha : ¬ okM a = true
  · have X : Hid (rankR a = (0, 1)) := Lib.hid (by unfold rankR; rw [if_neg ha])
    have Ca := Lib.hid (chk_no ha)
    have H := Lib.hid h
    have HZ := Lib.hid hz
    clear h hz ha
    go_enter Try.func37, Try.ntmps37
    go_wp2_with fail
    refine (check_any A n c a _ B (H.out.drewN 0) hn HZ.out).mono ?_
    rintro e w' ⟨rfl, m, rfl⟩
    rw [Ca.out]
    go_wp2
    go_ret2
    exact ⟨by rw [X.out]; rfl, below_drewN (Below.refl _ _) _⟩
  have ha := Classical.not_not.1 ha
  have hoa := (okM_iff a).1 ha
  have hl := h.len
  have hn1 : n ≤ 64 := by omega
  have hcc : col a ≤ 64 := hoa.2.2.2.1
  have Ca : Hid (chkV a = .tuple #[.int .i64 (n : Int), .int .i64 (col a : Int), .int .i64 0]) := Lib.hid (by rw [chk_yes ha, hl])
  obtain ⟨E, hE⟩ : ∃ E, E = esteps n (rankM a (col a)) (col a) := ⟨_, rfl⟩
  have X : Hid (rankR a = ((E.2 : Int), 0)) := Lib.hid (by unfold rankR; rw [if_pos ha, hl, ← hE])
  have HE := Lib.hid hE
  have RR : Hid (∀ k, k < n → (!(rowL E.1 k == zeroL)) = decide (k < E.2)) := Lib.hid (fun k hk => by
    rw [hE]
    exact rank_rows n _ _ (by omega) (fun i j hj => by unfold rankM; rw [if_neg (by omega)]) k hk)
  have hEn : E.2 ≤ n := by rw [hE]; exact (esteps_le _ _ _).1
  have AF : Hid (∀ x, x < n * 128 → gridG a n x = flat (rankM a (col a)) x) := Lib.hid (fun x hx => rank_flat a n hl ha x hx)
  have HOA := Lib.hid hoa
  have H := Lib.hid h
  have HZ := Lib.hid hz
  clear h hz ha hoa hl hE
  obtain ⟨EM, ea⟩ := E
  have hEn : ea ≤ n := hEn
  go_enter Try.func37, Try.ntmps37
  go_wp2_with fail
  refine (check_any A n c a _ B (H.out.drewN 0) hn HZ.out).mono ?_
  rintro e w' ⟨rfl, m, rfl⟩
  rw [Ca.out]
  go_wp2_with fail
  refine (grid_any _ B A n c a (H.out.drewN _) hB hn1 (fun s hs => by
    obtain ⟨j, hj, rfl⟩ := List.getElem_of_mem hs
    rw [← sAt_get hj, HOA.out.2.2.2.2 j hj]; have := HOA.out.2.2.2.1; omega)).mono ?_
  rintro e w2 ⟨rfl, hr2, hb2⟩
  have HR2 : Hid (w2.rowIs w.heap.size 72 (n * 128) (u8V (flat (rankM a (col a))))) := Lib.hid (World.rowIs.congr hr2 fun x hx => by simp only [u8V, AF.out x hx])
  have HB2 : Hid (Below w.heap.size w w2) := Lib.hid (Below.trans (below_drewN (Below.refl w.heap.size w) m) hb2)
  clear hr2 hb2
  go_wp2_with fail
  refine (eliminate_any w2 w.heap.size n n (col a) _ HR2.out hn1 hcc).mono ?_
  rw [← HE.out]
  rintro e w3 ⟨rfl, hr3, hg3⟩
  have HR3 := Lib.hid hr3
  have HB3 := Lib.hid (below_grown HB2.out hg3 (by intro g h; injection h with h; omega))
  clear hr3 hg3
  go_wp2
  go_loopw [8, 10, 27] (fun r _ i wr => ∃ k : Nat, k ≤ n ∧ i = .int .i64 k ∧ r = .int .i64 ((min k ea : Nat) : Int) ∧ Hid (wr.rowIs w.heap.size 72 (n * 128) (u8V (flat EM)) ∧ Below w.heap.size w wr)) (fun _ _ i _ => n - (intOf i).toNat)
  case atStart => exact ⟨0, by omega, rfl, by simp, Lib.hid ⟨HR3.out, HB3.out⟩⟩
  case round =>
    obtain ⟨k, hk, rfl, rfl, HK⟩ := hrel
    by_cases hlt : k < n
    · obtain ⟨XA, hXA⟩ : ∃ X : Array Value, X = ((rowL EM k).map Extern.Stop.cell).toArray := ⟨_, rfl⟩
      have e1 : row128 wr w.heap.size (k * 128) = XA := by rw [hXA]; exact row_cells HK.out.1 (by omega)
      have o1 : ok128 wr w.heap.size (k * 128) = true := ok128_of HK.out.1 (by omega)
      have f1 : full128 XA = true := by rw [hXA]; exact cells_full _ (rowL_length _ _)
      obtain ⟨o2, o3, e2, g2⟩ := put_new wr XA f1
      have heq : ∀ b, b = decide (k < ea) → ∀ w, (Op.equalIn 10000 72 (.agg XA) (.agg Try.zeroCells72)).run Try.prog w = .ok (!b) w := fun b hb w => by
        have h1 := run_eq128 (rowL EM k) (rowL_length _ _) w
        have h2 := RR.out k hlt
        rw [← hb] at h2
        rw [hXA, h1, ← h2, Bool.not_not]
      have HQ := Lib.hid heq
      have G2 := Lib.hid (below_grown (HK.out.2.alloc HK.out.2.size (.cells Try.zeroCells72 72)) g2 (by intro g h; injection h with h; have := HK.out.2.size; omega))
      have R2 := Lib.hid ((HK.out.1.alloc (.cells Try.zeroCells72 72)).of_block (g2.block _ (by have := HK.out.1.lt; simp; omega) (fun e => by injection e with e; have := HK.out.1.lt; omega)))
      have BB := Lib.hid (And.intro R2.out G2.out)
      clear hXA g2 heq G2 R2
      by_cases hka : k < ea
      · have hq : ∀ w, (Op.equalIn 10000 72 (.agg XA) (.agg Try.zeroCells72)).run Try.prog w = .ok false w := HQ.out true (decide_eq_true hka).symm
        have em : ((min k ea : Nat) : Int) + 1 = ((min (k + 1) ea : Nat) : Int) := by omega
        have EM' := Lib.hid em
        have hb1 : min k ea ≤ 64 := by omega
        clear em
        go_wp2
        go_roundw
        case rel => exact ⟨k + 1, by omega, by go_num, by rw [EM'.out], BB⟩
        case measure => simp [intOf]; omega
      · have hq : ∀ w, (Op.equalIn 10000 72 (.agg XA) (.agg Try.zeroCells72)).run Try.prog w = .ok true w := HQ.out false (decide_eq_false hka).symm
        have em : min k ea = min (k + 1) ea := by omega
        have EM' := Lib.hid em
        clear em
        go_wp2
        go_roundw
        case rel => exact ⟨k + 1, by omega, by go_num, by rw [EM'.out], BB⟩
        case measure => simp [intOf]; omega
    · obtain rfl : k = n := by omega
      have em : min k ea = ea := Nat.min_eq_right hEn
      have EM' := Lib.hid em
      clear em
      go_wp2
      go_ret2
      exact ⟨by
        show Ending.returned (.tuple #[.int .i64 ((min k ea : Nat) : Int), .int .i64 0]) = _
        rw [EM'.out, X.out], HK.out.2⟩
end Go.Proofs.Ythlnnclpfgokjaa
