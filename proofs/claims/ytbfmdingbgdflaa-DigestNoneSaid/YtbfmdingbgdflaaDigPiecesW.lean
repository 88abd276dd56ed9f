/- Walk: the law DigestPieces. Conditions: the list is read where it lies. -/
import Derived.Test.YtbfmdingbgdflaaRefQ
import Derived.Test.YtbfmdingbgdflaaDgAwk
import Derived.Stop.BytesEq
namespace Go.Proofs.Ytbfmdingbgdflaa
open Go.RowKit Dig
set_option linter.unusedVariables false
set_option linter.unusedSimpArgs false
attribute [local go_sem ↓] execOp_ld32 execOp_st32
attribute [local go_sem] run_ld32 run_st32
theorem eq_id (I : Nat → UInt8) (w : World) : (Op.equalIn 10000 28 (.agg (idA I)) (.agg (idA I))).run Try.prog w = .ok true w := by
  have h := run_equalIn_bytes (P := Try.prog) w 9998 28 5 32 (by kernel_rfl) (by kernel_rfl) (fun w => by kernel_rfl) ((List.range 32).map I) ((List.range 32).map I) (by simp) (by simp)
  rw [beq_self_eq_true] at h
  have e : (((List.range 32).map I).map Extern.Stop.cell).toArray = idA I := by
    unfold idA; rw [List.map_map]; rfl
  rw [e] at h
  exact h
def piece (s : ByteArray) : ByteArray := s.extract 0 (min s.size 300)
theorem piece_small (s : ByteArray) (h : s.size ≤ 300) : piece s = s := by
  unfold piece
  rw [Nat.min_eq_left h]
  apply ext_byteAt
  · rw [ByteArray.size_extract]; omega
  · intro i hi
    rw [ByteArray.size_extract] at hi
    rw [byteAt_cut _ _ _ _ (Nat.le_refl _) (by omega), Nat.zero_add]
theorem piece_big (s : ByteArray) (h : ¬ s.size ≤ 300) : piece s = s.extract 0 300 := by
  unfold piece; rw [Nat.min_eq_right (by omega)]
theorem piece_size (s : ByteArray) : (piece s).size ≤ 300 := by unfold piece; rw [ByteArray.size_extract]; omega
def pcs (l : List ByteArray) : Nat → ByteArray
  | 0 => ByteArray.empty
  | k + 1 => pcs l k ++ piece (sAt l k)
theorem pcs_size (l : List ByteArray) : ∀ k, (pcs l k).size ≤ 300 * k
  | 0 => by show 0 ≤ _; omega
  | k + 1 => by
    rw [pcs, ByteArray.size_append]
    have := pcs_size l k
    have := piece_size (sAt l k)
    omega
def xsB : Nat → ByteArray
  | 0 => ByteArray.empty
  | k + 1 => xsB k ++ { data := #[120] }
theorem xsB_size : ∀ k, (xsB k).size = k
  | 0 => rfl
  | k + 1 => by rw [xsB, ByteArray.size_append, xsB_size k]; rfl
theorem digSum_v {I : Nat → UInt8} (s : ByteArray) (hI : shaF (byteAt s) s.size = I) (w : World) (hs : s.size ≤ 16777216) :
    Calls Try.prog 22 #[.string s] w fun e w' => e = .returned (.agg (idA I)) ∧ Below w.heap.size w w' := by
  rw [← hI]; exact digSum_any s w (by omega)
theorem quick_v {I : Nat → UInt8} (s : ByteArray) (hI : shaF (byteAt s) s.size = I) (w : World) (hs : s.size ≤ 16777216) :
    Calls Try.prog 20 #[.string s] w fun e w' => e = .returned (.agg (idA I)) ∧ Below w.heap.size w w' := by
  rw [← hI]; exact quick_any s w hs
theorem stateSum_v {I : Nat → UInt8} (p : Nat) (u : ByteArray) (hI : shaF (byteAt u) u.size = I) (w : World) (h : St w p u) (hu : u.size ≤ 16777216) :
    Calls Try.prog 19 #[.pointer (some ⟨p, 0, none⟩)] w fun e w' => e = .returned (.tuple #[.agg (idA I), .int .i64 0]) ∧ Below w.heap.size w w' := by
  rw [← hI]; exact stateSum_any p u w h (by omega)
theorem id_new (w : World) (I : Nat → UInt8) : ok32 (w.alloc zeroId) w.heap.size 0 = true ∧ (put32 (w.alloc zeroId) w.heap.size 0 (idA I)).rowIs w.heap.size 28 32 (u8V I) ∧ Below w.heap.size w (put32 (w.alloc zeroId) w.heap.size 0 (idA I)) := by
  have z := zeros_row w (T := 28) (c := _) (n := 32) (z := .int .u8 0) (by rfl)
  have z' : (w.alloc zeroId).rowIs w.heap.size 28 32 (fun _ => .int .u8 0) := z
  obtain ⟨q1, q2⟩ := put32_row z' 0 (idA I) (by omega) (idA_full I)
  refine ⟨ok32_of z' (by omega), q1.congr (fun i hi => ?_), below_grown ((Below.refl _ _).alloc (Nat.le_refl _) _) q2 (fun g hg => by cases hg; exact Nat.le_refl _)⟩
  rw [if_pos (by omega), Nat.sub_zero, List.getD_eq_getElem?_getD, Array.getElem?_toList, idA_get I i hi]; rfl
theorem St.below {w w' : World} {p : Nat} {u : ByteArray} (h : St w p u) (hb : Below w.heap.size w w') : St w' p u := h.of_block (hb.block _ h.lt)
/-- What the loop keeps. -/
structure Pc (w wr : World) (p1 p2 : Nat) (a b : ByteArray) : Prop where
  s1 : St wr p1 a
  s2 : St wr p2 b
  ne : p1 ≠ p2
  b1 : w.heap.size ≤ p1
  b2 : w.heap.size ≤ p2
  below : Below w.heap.size w wr
theorem Pc.mono {w wr w' : World} {p1 p2 : Nat} {a b : ByteArray} (h : Pc w wr p1 p2 a b) (hb : Below wr.heap.size wr w') : Pc w w' p1 p2 a b :=
  ⟨h.s1.below hb, h.s2.below hb, h.ne, h.b1, h.b2, h.below.trans (hb.mono h.below.size)⟩
theorem Pc.put1 {w wr w' : World} {p1 p2 : Nat} {a b c : ByteArray} (h : Pc w wr p1 p2 a b) (hs : St w' p1 c) (hg : wr.grownBy w' (some p1)) : Pc w w' p1 p2 c b :=
  ⟨hs, h.s2.of_block (hg.block _ h.s2.lt (by have := h.ne; simp; omega)), h.ne, h.b1, h.b2, below_grown h.below hg (fun g e => by cases e; exact h.b1)⟩
theorem Pc.put2 {w wr w' : World} {p1 p2 : Nat} {a b c : ByteArray} (h : Pc w wr p1 p2 a b) (hs : St w' p2 c) (hg : wr.grownBy w' (some p2)) : Pc w w' p1 p2 a c :=
  ⟨h.s1.of_block (hg.block _ h.s1.lt (by have := h.ne; simp; omega)), hs, h.ne, h.b1, h.b2, below_grown h.below hg (fun g e => by cases e; exact h.b2)⟩
set_option maxRecDepth 100000 in
set_option maxHeartbeats 0 in
theorem digestPieces_walk (A : Option Addr) (n c : Nat) (l : List ByteArray) (w : World) (hr : Reads w w.heap.size 1 A n (strV l)) (hl : n * 16 ≤ 140737488351232) (hz : ∀ s ∈ l, s.size ≤ 9223372036854775807) :
    Calls Try.prog 4 #[.slice A n c] w fun e w' => e = .returned (.bool true) ∧ Below w.heap.size w w' := by
  have HR := Lib.hid hr
  have HZ := Lib.hid hz
  have hn : n ≤ 9223372036854775807 := by omega
  clear hr hz hl
  go_enter Try.func4, Try.ntmps4
  go_wp2_with fail
  refine (newState_any _).mono ?_; rintro e w1 ⟨p1, hp1, rfl, hs1, hb1⟩
  have X1 := Lib.hid (And.intro hp1 (And.intro hs1 hb1))
  clear hp1 hs1 hb1
  go_wp2_with fail
  refine (newState_any _).mono ?_; rintro e w2 ⟨p2, hp2, rfl, hs2, hb2⟩
  have PC : Hid (Pc w w2 p1 p2 ByteArray.empty ByteArray.empty) := Lib.hid ⟨X1.out.2.1.below hb2, hs2, by have := X1.out.2.1.lt; omega, X1.out.1, by have := X1.out.2.2.size; omega, X1.out.2.2.trans (hb2.mono X1.out.2.2.size)⟩
  clear hp2 hs2 hb2
  go_wp2
  go_loopw [5, 6] (fun a i wr => ∃ k : Nat, k ≤ n ∧ k ≤ 60 ∧ i = .int .i64 (k : Int) ∧ a = .string (pcs l k) ∧ Hid (Pc w wr p1 p2 (pcs l k) (xsB k))) (fun _ i _ => 60 - (intOf i).toNat)
  case atStart => exact ⟨0, by omega, by omega, rfl, rfl, PC⟩
  case round =>
    obtain ⟨k, hk, hk60, rfl, rfl, HP⟩ := hrel
    by_cases hlt : k < n ∧ k < 60
    · obtain ⟨ad, rfl, hbk, hck⟩ := (HR.out.below HP.out.below).str hlt.1
      have ck := hck k hlt.1
      have hkn : (k : Int) < (n : Int) := by omega
      have hk6 : (k : Int) < 60 := by omega
      have hsz : (sAt l k).size ≤ 9223372036854775807 := HZ.out _ (sAt_mem (by have := HR.out.len; omega))
      obtain ⟨t, ht⟩ : ∃ t, sAt l k = t := ⟨_, rfl⟩
      rw [ht] at ck hsz
      have HT : Hid (pcs l (k + 1) = pcs l k ++ piece t) := Lib.hid (by rw [pcs, ht])
      have hq1 : (pcs l k).size ≤ 18000 := by have := pcs_size l k; omega
      clear hck ht
      go_upto_region 7 with fail
      go_cut [7] (fun v wx => v = .string (piece t) ∧ Hid (Pc w wx p1 p2 (pcs l k) (xsB k)))
      case rest =>
        obtain ⟨rfl, HC⟩ := hcut
        have hq2 := piece_size t
        have hcat : ¬ 9223372036854775807 < (pcs l k).size + (piece t).size := by omega
        generalize piece t = P at *
        generalize hB : pcs l k = B at *
        have hBP : (B ++ P).size ≤ 18300 := by rw [ByteArray.size_append]; omega
        go_wp2_with fail
        refine (write_any p1 B P wc HC.out.s1 (by rw [ByteArray.size_append] at hBP; omega)).mono ?_; rintro e w3 ⟨rfl, hs3, hg3⟩
        have C3 := Lib.hid (HC.out.put1 hs3 hg3)
        clear hs3 hg3
        have hx := xsB_size k
        go_wp2_with fail
        refine (write_any p2 (xsB k) { data := #[120] } w3 C3.out.s2 (by rw [hx]; show k + 1 ≤ _; omega)).mono ?_; rintro e w4 ⟨rfl, hs4, hg4⟩
        rw [← xsB] at hs4
        have C4 := Lib.hid (C3.out.put2 hs4 hg4)
        clear hs4 hg4 hx
        generalize hU : B ++ P = U at *
        have HU := Lib.hid hU
        clear hU
        obtain ⟨I, hI⟩ : ∃ I, shaF (byteAt U) U.size = I := ⟨_, rfl⟩
        have HI := Lib.hid hI
        clear hI
        go_wp2_with fail
        refine (stateSum_v p1 U HI.out w4 C4.out.s1 (by omega)).mono ?_; rintro e w5 ⟨rfl, hb5⟩
        have C5 := Lib.hid (C4.out.mono hb5)
        clear hb5
        have IN := id_new w5 I
        have o1 := IN.1
        have f1 := idA_full I
        have C6 := Lib.hid (C5.out.mono IN.2.2)
        have RI := Lib.hid IN.2.1
        clear IN
        unfold zeroId at o1
        go_upto_region 12 with fail
        change Code.wp _ _ _ _ (put32 (w5.alloc zeroId) w5.heap.size 0 (idA I))
        generalize put32 (w5.alloc zeroId) w5.heap.size 0 (idA I) = w6 at C6 RI ⊢
        obtain ⟨N, hN⟩ : ∃ N, w5.heap.size = N := ⟨_, rfl⟩
        rw [hN] at RI ⊢
        clear hN o1
        have K6 : Hid (∀ w', Below w6.heap.size w6 w' → ok32 w' N 0 = true ∧ row32 w' N 0 = idA I) := Lib.hid (fun w' hb => by
          have r : w'.rowIs N 28 32 (u8V I) := RI.out.of_block (hb.block _ RI.out.lt)
          exact ⟨ok32_of r (by omega), row32_id r⟩)
        have SA := K6.out w6.drew ((Below.refl _ _).drew)
        have hq : ∀ W, (Op.equalIn 10000 28 (.agg (idA I)) (.agg (idA I))).run Try.prog W = .ok true W := eq_id I
        obtain ⟨u, hu⟩ : ∃ u, U.size = u := ⟨_, rfl⟩
        have hu2 : u ≤ 18300 := by omega
        have huw : IntKind.u64.wrap (u : Int) = (u : Int) := by rw [IntKind.wrap_u64]; omega
        have hU16 : U.size ≤ 16777216 := by omega
        refine wp_region_held_drew (S := fun w' => ok32 w' N 0 = true ∧ row32 w' N 0 = idA I) (by kernel_rfl) (by first | exact SB | exact SA) (fun hHeld => ?_)
        refine wpAnyH_take (i := 0) (oi := _) (v := _) rfl (by kernel_rfl) (by kernel_rfl) (by kernel_rfl) (fun _ _ _ h => h) (Or.inl ⟨by kernel_rfl, by (intro w hSw; (try dsimp only at hSw); go_simp; first | done | with_reducible rfl)⟩) (by assumption) ?_
        (try simp only [Act.put, List.setIfInBounds_toArray, List.set_cons_zero, List.set_cons_succ])
        refine wpAnyH_take (i := 1) (oi := _) (v := _) rfl (by kernel_rfl) (by kernel_rfl) (by kernel_rfl) (fun _ _ _ h => h) (Or.inl ⟨by kernel_rfl, by (intro w hSw; (try dsimp only at hSw); go_simp; first | done | with_reducible rfl)⟩) (by assumption) ?_
        (try simp only [Act.put, List.setIfInBounds_toArray, List.set_cons_zero, List.set_cons_succ])
        refine wpAnyH_take (i := 2) (oi := _) (v := _) rfl (by kernel_rfl) (by kernel_rfl) (by kernel_rfl) (fun _ _ _ h => h) (Or.inl ⟨by kernel_rfl, by (intro w hSw; (try dsimp only at hSw); go_simp; first | done | with_reducible rfl)⟩) (by assumption) ?_
        (try simp only [Act.put, List.setIfInBounds_toArray, List.set_cons_zero, List.set_cons_succ])
        refine wpAnyH_take (i := 3) (oi := _) (v := _) rfl (by kernel_rfl) (by kernel_rfl) (by kernel_rfl) (fun _ _ _ h => h) (Or.inl ⟨by kernel_rfl, by (intro w hSw; (try dsimp only at hSw); go_simp; first | done | with_reducible rfl)⟩) (by assumption) ?_
        (try simp only [Act.put, List.setIfInBounds_toArray, List.set_cons_zero, List.set_cons_succ])
        refine wpAnyH_take (i := 4) (oi := _) (v := _) rfl (by kernel_rfl) (by kernel_rfl) (by kernel_rfl) (fun _ _ _ h => h) (Or.inl ⟨by kernel_rfl, by (intro w hSw; (try dsimp only at hSw); go_simp; first | done | with_reducible rfl)⟩) (by assumption) ?_
        (try simp only [Act.put, List.setIfInBounds_toArray, List.set_cons_zero, List.set_cons_succ])
        refine wpAnyH_take (i := 5) (oi := _) (v := _) rfl (by kernel_rfl) (by kernel_rfl) (by kernel_rfl) (fun _ _ _ h => h) (Or.inl ⟨by kernel_rfl, by (intro w hSw; (try dsimp only at hSw); go_simp; first | done | with_reducible rfl)⟩) (by assumption) ?_
        (try simp only [Act.put, List.setIfInBounds_toArray, List.set_cons_zero, List.set_cons_succ])
        refine wpAnyH_take (i := 6) (oi := _) (v := _) rfl (by kernel_rfl) (by kernel_rfl) (by kernel_rfl) (fun _ _ _ h => h) (Or.inl ⟨by kernel_rfl, by (intro w hSw; (try dsimp only at hSw); go_simp; first | done | with_reducible rfl)⟩) (by assumption) ?_
        (try simp only [Act.put, List.setIfInBounds_toArray, List.set_cons_zero, List.set_cons_succ])
        refine wpAnyH_take (i := 7) (oi := { dst := some 56, op := .load 28 (.tmp 9), type := 28, pos := "law.go:40", after := #[{ on := 6, ground := .guard }], guard := some (6, false) }) (v := _) rfl (by kernel_rfl) (by kernel_rfl) (by kernel_rfl) (fun _ _ _ h => h) (Or.inl ⟨by kernel_rfl, by (intro w hSw; (try dsimp only at hSw); go_simp; first | done | with_reducible rfl)⟩) (by assumption) ?_
        (try simp only [Act.put, List.setIfInBounds_toArray, List.set_cons_zero, List.set_cons_succ])
        refine wpAnyH_take (i := 8) (oi := _) (v := _) rfl (by kernel_rfl) (by kernel_rfl) (by kernel_rfl) (fun _ _ _ h => h) (Or.inl ⟨by kernel_rfl, by (intro w hSw; (try dsimp only at hSw); go_simp; first | done | with_reducible rfl)⟩) (by assumption) ?_
        (try simp only [Act.put, List.setIfInBounds_toArray, List.set_cons_zero, List.set_cons_succ])
        refine wpAnyH_ready (rs := [9]) (by kernel_rfl) (by simp) (AllReadyH.cons rfl (fun K hK => ?_) AllReadyH.nil)
        try simp only [List.getElem_toArray, List.getElem_cons_succ, List.getElem_cons_zero]
        go_simp
        go_at_call 20
        refine (quick_v U HI.out _ hU16).mono ?_
        rintro e w7 ⟨rfl, hb7⟩
        have HB7 := Lib.hid (((Below.refl w6.heap.size w6).drew).trans hb7)
        have SB := K6.out w7 HB7.out
        clear hb7
        go_simp
        refine hK.out _ _ (by first | exact SB | exact SA) (fun hHeld => ?_)
        clear hK K
        (try simp only [Act.put, List.setIfInBounds_toArray, List.set_cons_zero, List.set_cons_succ])
        refine wpAnyH_take (i := 10) (oi := _) (v := _) rfl (by kernel_rfl) (by kernel_rfl) (by kernel_rfl) (fun _ _ _ h => h) (Or.inl ⟨by kernel_rfl, by (intro w hSw; (try dsimp only at hSw); go_simp; first | done | with_reducible rfl)⟩) (by assumption) ?_
        (try simp only [Act.put, List.setIfInBounds_toArray, List.set_cons_zero, List.set_cons_succ])
        refine wpAnyH_take (i := 11) (oi := _) (v := _) rfl (by kernel_rfl) (by kernel_rfl) (by kernel_rfl) (fun _ _ _ h => h) (Or.inl ⟨by kernel_rfl, by (intro w hSw; (try dsimp only at hSw); go_simp; first | done | with_reducible rfl)⟩) (by assumption) ?_
        (try simp only [Act.put, List.setIfInBounds_toArray, List.set_cons_zero, List.set_cons_succ])
        refine wpAnyH_take (i := 12) (oi := _) (v := _) rfl (by kernel_rfl) (by kernel_rfl) (by kernel_rfl) (fun _ _ _ h => h) (Or.inl ⟨by kernel_rfl, by (intro w hSw; (try dsimp only at hSw); go_simp; first | done | with_reducible rfl)⟩) (by assumption) ?_
        (try simp only [Act.put, List.setIfInBounds_toArray, List.set_cons_zero, List.set_cons_succ])
        refine wpAnyH_take (i := 13) (oi := _) (v := _) rfl (by kernel_rfl) (by kernel_rfl) (by kernel_rfl) (fun _ _ _ h => h) (Or.inl ⟨by kernel_rfl, by (intro w hSw; (try dsimp only at hSw); go_simp; first | done | with_reducible rfl)⟩) (by assumption) ?_
        (try simp only [Act.put, List.setIfInBounds_toArray, List.set_cons_zero, List.set_cons_succ])
        refine wpAnyH_take (i := 15) (oi := _) (v := _) rfl (by kernel_rfl) (by kernel_rfl) (by kernel_rfl) (fun _ _ _ h => h) (Or.inl ⟨by kernel_rfl, by (intro w hSw; (try dsimp only at hSw); go_simp; first | done | with_reducible rfl)⟩) (by assumption) ?_
        (try simp only [Act.put, List.setIfInBounds_toArray, List.set_cons_zero, List.set_cons_succ])
        refine wpAnyH_take (i := 16) (oi := _) (v := _) rfl (by kernel_rfl) (by kernel_rfl) (by kernel_rfl) (fun _ _ _ h => h) (Or.inl ⟨by kernel_rfl, by (intro w hSw; (try dsimp only at hSw); go_simp; first | done | with_reducible rfl)⟩) (by assumption) ?_
        (try simp only [Act.put, List.setIfInBounds_toArray, List.set_cons_zero, List.set_cons_succ])
        refine wpAnyH_take (i := 17) (oi := _) (v := _) rfl (by kernel_rfl) (by kernel_rfl) (by kernel_rfl) (fun _ _ _ h => h) (Or.inl ⟨by kernel_rfl, by (intro w hSw; (try dsimp only at hSw); go_simp; first | done | with_reducible rfl)⟩) (by assumption) ?_
        (try simp only [Act.put, List.setIfInBounds_toArray, List.set_cons_zero, List.set_cons_succ])
        refine wpAnyH_ready (rs := [14]) (by kernel_rfl) (by simp) (AllReadyH.cons rfl (fun K hK => ?_) AllReadyH.nil)
        try simp only [List.getElem_toArray, List.getElem_cons_succ, List.getElem_cons_zero]
        go_simp
        go_at_call 21
        refine (wrote_any p1 U _ (C6.out.s1.below HB7.out)).mono ?_
        rintro e w8 ⟨rfl, rfl⟩
        rw [hu]
        go_simp
        refine hK.out _ _ (by first | exact SB | exact SA) (fun hHeld => ?_)
        clear hK K
        (try simp only [Act.put, List.setIfInBounds_toArray, List.set_cons_zero, List.set_cons_succ])
        refine wpAnyH_take (i := 18) (oi := _) (v := _) rfl (by kernel_rfl) (by kernel_rfl) (by kernel_rfl) (fun _ _ _ h => h) (Or.inl ⟨by kernel_rfl, by (intro w hSw; (try dsimp only at hSw); go_simp; first | done | with_reducible rfl)⟩) (by assumption) ?_
        (try simp only [Act.put, List.setIfInBounds_toArray, List.set_cons_zero, List.set_cons_succ])
        refine wpAnyH_take (i := 19) (oi := _) (v := _) rfl (by kernel_rfl) (by kernel_rfl) (by kernel_rfl) (fun _ _ _ h => h) (Or.inl ⟨by kernel_rfl, by (intro w hSw; (try dsimp only at hSw); go_simp; first | done | with_reducible rfl)⟩) (by assumption) ?_
        (try simp only [Act.put, List.setIfInBounds_toArray, List.set_cons_zero, List.set_cons_succ])
        refine wpAnyH_done (by kernel_rfl) ?_ _
        have C8 := Lib.hid (C6.out.mono HB7.out)
        clear SA SB hq f1
        go_wp2
        go_roundw
        case rel => exact ⟨k + 1, by omega, by omega, by go_num, by rw [HT.out], by rw [HT.out]; exact C8⟩
        case measure => simp [intOf]; omega
      · have hkz : 0 ≤ (k : Int) := by omega
        by_cases h300 : t.size ≤ 300
        · have h3 : (t.size : Int) ≤ 300 := by omega
          have E := Lib.hid (piece_small t h300)
          go_region
          all_goals
            go_wp2_with fail
            go_meet
            exact ⟨by rw [E.out], Lib.hid (HP.out.mono (Below.refl _ _).drew)⟩
        · have h3 : ¬ (t.size : Int) ≤ 300 := by omega
          have h4 : (300 : Int) ≤ (t.size : Int) := by omega
          have E := Lib.hid (piece_big t h300)
          go_region
          all_goals
            go_wp2_with fail
            go_meet
            exact ⟨by rw [E.out], Lib.hid (HP.out.mono (Below.refl _ _).drew)⟩
    · obtain ⟨U, hU⟩ : ∃ U, pcs l k = U := ⟨_, rfl⟩
      have hUs : U.size ≤ 18000 := by have := pcs_size l k; rw [hU] at this; omega
      have hU16 : U.size ≤ 16777216 := by omega
      rw [hU] at HP ⊢
      have hcase : (¬ (k : Int) < (n : Int) ∧ ((n : Int) ≤ 60 ∧ ¬ (60 : Int) < (n : Int)) ∧ k = n) ∨ ((k : Int) < (n : Int) ∧ ¬ (k : Int) < 60 ∧ ¬ (n : Int) ≤ 60 ∧ k = 60) := by omega
      obtain ⟨I, hI⟩ : ∃ I, shaF (byteAt U) U.size = I := ⟨_, rfl⟩
      have HI := Lib.hid hI
      have hk60 : IntKind.u64.wrap (60 : Int) = 60 := by rw [IntKind.wrap_u64]; omega
      have hku : IntKind.u64.wrap (k : Int) = (k : Int) := by rw [IntKind.wrap_u64]; omega
      have hq : ∀ W, (Op.equalIn 10000 28 (.agg (idA I)) (.agg (idA I))).run Try.prog W = .ok true W := eq_id I
      clear hI hU
      rcases hcase with ⟨h1, ⟨h2, h4⟩, h3⟩ | ⟨h1, h2, h4, h3⟩
      all_goals
        subst h3
        go_wp2_with fail
        refine (stateSum_v p1 U HI.out wr HP.out.s1 (by omega)).mono ?_; rintro e w5 ⟨rfl, hb5⟩
        have C5 := Lib.hid (HP.out.mono hb5)
        clear hb5
        have IN := id_new w5 I
        have o1 := IN.1
        have f1 := idA_full I
        have C6 := Lib.hid (C5.out.mono IN.2.2)
        have RI := Lib.hid IN.2.1
        clear IN
        unfold zeroId at o1
        go_upto_region 15 with fail
        change Code.wp _ _ _ _ (put32 (w5.alloc zeroId) w5.heap.size 0 (idA I))
        generalize put32 (w5.alloc zeroId) w5.heap.size 0 (idA I) = w6 at C6 RI ⊢
        obtain ⟨N, hN⟩ : ∃ N, w5.heap.size = N := ⟨_, rfl⟩
        rw [hN] at RI ⊢
        clear hN o1
        have K6 : Hid (∀ w', Below w6.heap.size w6 w' → ok32 w' N 0 = true ∧ row32 w' N 0 = idA I) := Lib.hid (fun w' hb => by
          have r : w'.rowIs N 28 32 (u8V I) := RI.out.of_block (hb.block _ RI.out.lt)
          exact ⟨ok32_of r (by omega), row32_id r⟩)
        have SA := K6.out w6.drew ((Below.refl _ _).drew)
        refine wp_region_held_drew (S := fun w' => ok32 w' N 0 = true ∧ row32 w' N 0 = idA I) (by kernel_rfl) (by first | exact SC | exact SB | exact SA) (fun hHeld => ?_)
        refine wpAnyH_take (i := 0) (oi := _) (v := _) rfl (by kernel_rfl) (by kernel_rfl) (by kernel_rfl) (fun _ _ _ h => h) (Or.inl ⟨by kernel_rfl, by (intro w hSw; (try dsimp only at hSw); go_simp; first | done | with_reducible rfl)⟩) (by assumption) ?_
        (try simp only [Act.put, List.setIfInBounds_toArray, List.set_cons_zero, List.set_cons_succ])
        refine wpAnyH_take (i := 1) (oi := _) (v := _) rfl (by kernel_rfl) (by kernel_rfl) (by kernel_rfl) (fun _ _ _ h => h) (Or.inl ⟨by kernel_rfl, by (intro w hSw; (try dsimp only at hSw); go_simp; first | done | with_reducible rfl)⟩) (by assumption) ?_
        (try simp only [Act.put, List.setIfInBounds_toArray, List.set_cons_zero, List.set_cons_succ])
        refine wpAnyH_take (i := 2) (oi := _) (v := _) rfl (by kernel_rfl) (by kernel_rfl) (by kernel_rfl) (fun _ _ _ h => h) (Or.inl ⟨by kernel_rfl, by (intro w hSw; (try dsimp only at hSw); go_simp; first | done | with_reducible rfl)⟩) (by assumption) ?_
        (try simp only [Act.put, List.setIfInBounds_toArray, List.set_cons_zero, List.set_cons_succ])
        refine wpAnyH_take (i := 3) (oi := { dst := some 77, op := .load 28 (.tmp 11), type := 28, pos := "law.go:45", after := #[{ on := 2, ground := .guard }], guard := some (2, true) }) (v := _) rfl (by kernel_rfl) (by kernel_rfl) (by kernel_rfl) (fun _ _ _ h => h) (Or.inl ⟨by kernel_rfl, by (intro w hSw; (try dsimp only at hSw); go_simp; first | done | with_reducible rfl)⟩) (by assumption) ?_
        (try simp only [Act.put, List.setIfInBounds_toArray, List.set_cons_zero, List.set_cons_succ])
        refine wpAnyH_take (i := 4) (oi := _) (v := _) rfl (by kernel_rfl) (by kernel_rfl) (by kernel_rfl) (fun _ _ _ h => h) (Or.inl ⟨by kernel_rfl, by (intro w hSw; (try dsimp only at hSw); go_simp; first | done | with_reducible rfl)⟩) (by assumption) ?_
        (try simp only [Act.put, List.setIfInBounds_toArray, List.set_cons_zero, List.set_cons_succ])
        refine wpAnyH_ready (rs := [5]) (by kernel_rfl) (by simp) (AllReadyH.cons rfl (fun K hK => ?_) AllReadyH.nil)
        try simp only [List.getElem_toArray, List.getElem_cons_succ, List.getElem_cons_zero]
        go_simp
        go_at_call 22
        refine (digSum_v U HI.out _ hU16).mono ?_
        rintro e w7 ⟨rfl, hb7⟩
        have HB7 := Lib.hid (((Below.refl w6.heap.size w6).drew).trans hb7)
        have SB := K6.out w7 HB7.out
        clear hb7
        go_simp
        refine hK.out _ _ (by first | exact SC | exact SB | exact SA) (fun hHeld => ?_)
        clear hK K
        (try simp only [Act.put, List.setIfInBounds_toArray, List.set_cons_zero, List.set_cons_succ])
        refine wpAnyH_take (i := 6) (oi := _) (v := _) rfl (by kernel_rfl) (by kernel_rfl) (by kernel_rfl) (fun _ _ _ h => h) (Or.inl ⟨by kernel_rfl, by (intro w hSw; (try dsimp only at hSw); go_simp; first | done | with_reducible rfl)⟩) (by assumption) ?_
        (try simp only [Act.put, List.setIfInBounds_toArray, List.set_cons_zero, List.set_cons_succ])
        refine wpAnyH_take (i := 7) (oi := _) (v := _) rfl (by kernel_rfl) (by kernel_rfl) (by kernel_rfl) (fun _ _ _ h => h) (Or.inl ⟨by kernel_rfl, by (intro w hSw; (try dsimp only at hSw); go_simp; first | done | with_reducible rfl)⟩) (by assumption) ?_
        (try simp only [Act.put, List.setIfInBounds_toArray, List.set_cons_zero, List.set_cons_succ])
        refine wpAnyH_take (i := 8) (oi := _) (v := _) rfl (by kernel_rfl) (by kernel_rfl) (by kernel_rfl) (fun _ _ _ h => h) (Or.inl ⟨by kernel_rfl, by (intro w hSw; (try dsimp only at hSw); go_simp; first | done | with_reducible rfl)⟩) (by assumption) ?_
        (try simp only [Act.put, List.setIfInBounds_toArray, List.set_cons_zero, List.set_cons_succ])
        refine wpAnyH_take (i := 9) (oi := _) (v := _) rfl (by kernel_rfl) (by kernel_rfl) (by kernel_rfl) (fun _ _ _ h => h) (Or.inl ⟨by kernel_rfl, by (intro w hSw; (try dsimp only at hSw); go_simp; first | done | with_reducible rfl)⟩) (by assumption) ?_
        (try simp only [Act.put, List.setIfInBounds_toArray, List.set_cons_zero, List.set_cons_succ])
        refine wpAnyH_take (i := 11) (oi := _) (v := _) rfl (by kernel_rfl) (by kernel_rfl) (by kernel_rfl) (fun _ _ _ h => h) (Or.inl ⟨by kernel_rfl, by (intro w hSw; (try dsimp only at hSw); go_simp; first | done | with_reducible rfl)⟩) (by assumption) ?_
        (try simp only [Act.put, List.setIfInBounds_toArray, List.set_cons_zero, List.set_cons_succ])
        refine wpAnyH_take (i := 12) (oi := _) (v := _) rfl (by kernel_rfl) (by kernel_rfl) (by kernel_rfl) (fun _ _ _ h => h) (Or.inl ⟨by kernel_rfl, by (intro w hSw; (try dsimp only at hSw); go_simp; first | done | with_reducible rfl)⟩) (by assumption) ?_
        (try simp only [Act.put, List.setIfInBounds_toArray, List.set_cons_zero, List.set_cons_succ])
        refine wpAnyH_take (i := 13) (oi := _) (v := _) rfl (by kernel_rfl) (by kernel_rfl) (by kernel_rfl) (fun _ _ _ h => h) (Or.inl ⟨by kernel_rfl, by (intro w hSw; (try dsimp only at hSw); go_simp; first | done | with_reducible rfl)⟩) (by assumption) ?_
        (try simp only [Act.put, List.setIfInBounds_toArray, List.set_cons_zero, List.set_cons_succ])
        try rw [if_neg (show ¬ (60 : Int) < (k : Int) by omega)]
        refine wpAnyH_take (i := 14) (oi := _) (v := _) rfl (by kernel_rfl) (by kernel_rfl) (by kernel_rfl) (fun _ _ _ h => h) (Or.inl ⟨by kernel_rfl, by (intro w hSw; (try dsimp only at hSw); go_simp; first | done | with_reducible rfl)⟩) (by assumption) ?_
        (try simp only [Act.put, List.setIfInBounds_toArray, List.set_cons_zero, List.set_cons_succ])
        refine wpAnyH_ready (rs := [10]) (by kernel_rfl) (by simp) (AllReadyH.cons rfl (fun K hK => ?_) AllReadyH.nil)
        try simp only [List.getElem_toArray, List.getElem_cons_succ, List.getElem_cons_zero]
        go_simp
        go_at_call 21
        refine (wrote_any p2 _ _ (C6.out.s2.below HB7.out)).mono ?_
        rintro e w8 ⟨rfl, rfl⟩
        rw [xsB_size]
        go_simp
        refine hK.out _ _ (by first | exact SC | exact SB | exact SA) (fun hHeld => ?_)
        clear hK K
        (try simp only [Act.put, List.setIfInBounds_toArray, List.set_cons_zero, List.set_cons_succ])
        refine wpAnyH_take (i := 15) (oi := _) (v := _) rfl (by kernel_rfl) (by kernel_rfl) (by kernel_rfl) (fun _ _ _ h => h) (Or.inl ⟨by kernel_rfl, by (intro w hSw; (try dsimp only at hSw); go_simp; first | done | with_reducible rfl)⟩) (by assumption) ?_
        (try simp only [Act.put, List.setIfInBounds_toArray, List.set_cons_zero, List.set_cons_succ])
        refine wpAnyH_take (i := 16) (oi := _) (v := _) rfl (by kernel_rfl) (by kernel_rfl) (by kernel_rfl) (fun _ _ _ h => h) (Or.inl ⟨by kernel_rfl, by (intro w hSw; (try dsimp only at hSw); go_simp; first | done | with_reducible rfl)⟩) (by assumption) ?_
        (try simp only [Act.put, List.setIfInBounds_toArray, List.set_cons_zero, List.set_cons_succ])
        refine wpAnyH_take (i := 17) (oi := _) (v := _) rfl (by kernel_rfl) (by kernel_rfl) (by kernel_rfl) (fun _ _ _ h => h) (Or.inl ⟨by kernel_rfl, by (intro w hSw; (try dsimp only at hSw); go_simp; first | done | with_reducible rfl)⟩) (by assumption) ?_
        (try simp only [Act.put, List.setIfInBounds_toArray, List.set_cons_zero, List.set_cons_succ])
        refine wpAnyH_ready (rs := [18]) (by kernel_rfl) (by simp) (AllReadyH.cons rfl (fun K hK => ?_) AllReadyH.nil)
        try simp only [List.getElem_toArray, List.getElem_cons_succ, List.getElem_cons_zero]
        go_simp
        go_at_call 23
        refine (dawake_any _).mono ?_
        rintro e w9 ⟨rfl, hb9⟩
        have HB9 := Lib.hid (HB7.out.trans (hb9.mono HB7.out.size))
        have SC := K6.out w9 HB9.out
        clear hb9
        go_simp
        refine hK.out _ _ (by first | exact SC | exact SB | exact SA) (fun hHeld => ?_)
        clear hK K
        (try simp only [Act.put, List.setIfInBounds_toArray, List.set_cons_zero, List.set_cons_succ])
        refine wpAnyH_take (i := 19) (oi := _) (v := _) rfl (by kernel_rfl) (by kernel_rfl) (by kernel_rfl) (fun _ _ _ h => h) (Or.inl ⟨by kernel_rfl, by (intro w hSw; (try dsimp only at hSw); go_simp; first | done | with_reducible rfl)⟩) (by assumption) ?_
        (try simp only [List.getElem_toArray, List.getElem_cons_succ, List.getElem_cons_zero, Act.put, List.setIfInBounds_toArray, List.set_cons_zero, List.set_cons_succ])
        refine wpAnyH_take (i := 20) (oi := _) (v := _) rfl (by kernel_rfl) (by kernel_rfl) (by kernel_rfl) (fun _ _ _ h => h) (Or.inl ⟨by kernel_rfl, by (intro w hSw; (try dsimp only at hSw); go_simp; first | done | with_reducible rfl)⟩) (by assumption) ?_
        (try simp only [List.getElem_toArray, List.getElem_cons_succ, List.getElem_cons_zero, Act.put, List.setIfInBounds_toArray, List.set_cons_zero, List.set_cons_succ])
        refine wpAnyH_done (by kernel_rfl) ?_ _
        have BE := Lib.hid (C6.out.below.trans (HB9.out.mono C6.out.below.size))
        go_wp2
        go_ret
        exact ⟨rfl, BE.out⟩
end Go.Proofs.Ytbfmdingbgdflaa
