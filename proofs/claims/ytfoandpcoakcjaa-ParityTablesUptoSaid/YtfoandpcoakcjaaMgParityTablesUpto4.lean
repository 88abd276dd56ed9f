/- Several texts of the claim joined into one (part 4): plain facts and walks. No conditions but those that each theorem tells. -/
import Derived.Test.YtfoandpcoakcjaaMgParityTablesUpto2
import Derived.Test.YtfoandpcoakcjaaMgParityTablesUpto1
import Derived.Test.YtfoandpcoakcjaaMgParityTablesUpto3
namespace Go.Proofs.Ytfoandpcoakcjaa
open Go.RowKit Wir
set_option linter.unusedVariables false
set_option linter.unusedSimpArgs false
set_option maxRecDepth 100000 in
set_option maxHeartbeats 1000000 in
theorem rfix4_any (s : ByteArray) (R : Nat) (w : World) (h : RRdr w R s) (hs : s.size ≤ 140737488355328) :
    Calls Try.prog 53 #[.pointer (some ⟨R, 0, none⟩), .int .i64 4] w
      fun e w' => e = .returned (.tuple #[.int .u64 (fixV s 4 : Int), .int .i64 (takeE s 4)]) ∧ RRdr w' R (takeS s 4) ∧ ∀ B, B ≤ R → Below B w w' := by
  have c0 : w.cell? ⟨R, 0, none⟩ = some (.string s) := h.cell 0
  have f0 : w.frozen? ⟨R, 0, none⟩ = false := h.frozen 0
  have HR := Lib.hid h
  clear h
  by_cases hlt : s.size < 4
  · have E1 : Hid (takeE s 4 = 4) := Lib.hid (takeE_off hlt)
    have E2 : Hid (takeS s 4 = s) := Lib.hid (by rw [takeS, if_pos hlt])
    have E3 : Hid (fixV s 4 = 0) := Lib.hid (by rw [fixV, if_pos hlt])
    have hi : (s.size : Int) < 4 := by omega
    clear hlt
    go_enter Try.func53, Try.ntmps53
    go_wp2
    go_ret2
    exact ⟨by rw [E1.out, E3.out]; rfl, by rw [E2.out]; exact HR.out, fun B _ => Below.refl _ _⟩
  · have E1 : Hid (takeE s 4 = 0) := Lib.hid (takeE_on (by omega))
    have E2 : Hid (takeS s 4 = s.extract 4 s.size) := Lib.hid (takeS_on (by omega))
    have E3 : Hid (fixV s 4 = beN (byteAt s) 4) := Lib.hid (by rw [fixV, if_neg hlt])
    have hi : ¬ (s.size : Int) < 4 := by omega
    have hi4 : (4 : Int) ≤ (s.size : Int) := by omega
    have h4 : 4 ≤ s.size := by omega
    clear hlt
    go_enter Try.func53, Try.ntmps53
    go_wp2_with fail
    go_loopw [6, 7] (fun nv i wr => ∃ (k N : Nat), k ≤ 4 ∧ i = .int .i64 k ∧ nv = .int .u64 N ∧ Hid (N = beN (byteAt s) k) ∧ wr = w) (fun _ i _ => 4 - (intOf i).toNat)
    case atStart => exact ⟨0, 0, by omega, rfl, rfl, Lib.hid rfl, rfl⟩
    case round =>
      obtain ⟨k, N, hk, rfl, rfl, HN, rfl⟩ := hrel
      by_cases hk4 : k < 4
      · have hks : k < s.size := by omega
        have hb := (byteAt s k).toNat_lt
        have hN : N < 72057594037927936 := by rw [HN.out]; exact beN_small _ _ (by omega)
        have E := byteAt_get s k hks
        have hki : (k : Int) < 4 := by omega
        have hk0 : (0 : Int) ≤ (k : Int) := by omega
        have hkl : (k : Int) < (s.size : Int) := by omega
        have HS : Hid (beN (byteAt s) (k + 1) = N * 256 + (byteAt s k).toNat) := Lib.hid (by rw [beN, ← HN.out])
        generalize byteAt s k = b at *
        go_wp2
        go_roundw
        case rel => exact ⟨k + 1, N * 256 + b.toNat, by omega, by go_num, by congr 1, Lib.hid HS.out.symm, trivial⟩
        case measure => simp [intOf]; omega
      · obtain rfl : k = 4 := by omega
        rw [show ((4 : Nat) : Int) = 4 from rfl]
        have HF : Hid (fixV s 4 = N) := Lib.hid (by rw [E3.out, HN.out])
        go_wp2
        go_ret2
        refine ⟨by rw [E1.out, HF.out]; rfl, ?_, fun B hB => (Below.refl _ _).setCell (by show B ≤ R; exact hB) _⟩
        rw [E2.out]
        exact HR.out.set_ 0 _
theorem ex_ex (s : ByteArray) (a n : Nat) (h : a + n ≤ s.size) : (s.extract a s.size).extract n (s.extract a s.size).size = s.extract (a + n) s.size := by
  have e : (s.extract a s.size).size = s.size - a := by rw [ByteArray.size_extract]; omega
  refine ext_byteAt (by simp only [ByteArray.size_extract]; omega) fun i hi => ?_
  have hi' : i < s.size - (a + n) := by simp only [ByteArray.size_extract] at hi; omega
  rw [byteAt_part _ _ _ _ (by rw [e]; omega) (Nat.le_refl _), byteAt_part _ _ _ _ (by omega) (Nat.le_refl _), byteAt_part _ _ _ _ (by omega) (Nat.le_refl _)]
  congr 1; omega
set_option maxRecDepth 100000 in
set_option maxHeartbeats 2000000 in
theorem runframe_any (s : ByteArray) (w : World) (hs : s.size ≤ 140737488355328) :
    Calls Try.prog 28 #[.string s] w fun e w' => e = .returned (unV s) ∧ Below w.heap.size w w' := by
  have R0 : Hid (RRdr (w.alloc (.cells #[.string s] 101)) w.heap.size s ∧ Below w.heap.size w (w.alloc (.cells #[.string s] 101))) := Lib.hid ⟨Blk.new _ _ _, (Below.refl _ _).alloc (Nat.le_refl _) _⟩
  have hz4 : (takeS s 4).size ≤ s.size := takeS_le s 4
  have F1 := Lib.hid (fun R W h => rfix4_any s R W h hs)
  have F2 := Lib.hid (fun R W h => rfix4_any (takeS s 4) R W h (by omega))
  obtain ⟨n, hn⟩ : ∃ n, fixV s 4 = n := ⟨_, rfl⟩
  obtain ⟨c, hc⟩ : ∃ c, fixV (takeS s 4) 4 = c := ⟨_, rfl⟩
  rw [hn] at F1
  rw [hc] at F2
  have HN := Lib.hid hn
  have HC := Lib.hid hc
  have hn32 : n < 4294967296 := by rw [← hn]; exact fix4_lt s
  have hc32 : c < 4294967296 := by rw [← hc]; exact fix4_lt _
  clear hn hc
  go_enter Try.func28, Try.ntmps28
  go_upto_region 2 with fail
  change Code.wp _ _ _ _ (w.alloc (.cells #[.string s] 101))
  generalize w.alloc (.cells #[.string s] 101) = w1 at R0 ⊢
  go_wp2_with fail
  (with_reducible refine (F1.out _ _ R0.out.1).mono ?_)
  rintro e w2 ⟨rfl, hr2, hb2⟩
  have R2 := Lib.hid hr2
  have B2 : Hid (Below w.heap.size w w2) := Lib.hid (R0.out.2.trans (hb2 _ (Nat.le_refl _)))
  clear hr2 hb2 F1 R0
  go_wp2_with fail
  (with_reducible refine (F2.out _ _ R2.out).mono ?_)
  rintro e w3 ⟨rfl, hr3, hb3⟩
  have R3 := Lib.hid hr3
  have B3 : Hid (Below w.heap.size w w3) := Lib.hid (B2.out.trans (hb3 _ (Nat.le_refl _)))
  clear hr3 hb3 F2 R2 B2
  by_cases h4 : s.size < 4
  · have E := Lib.hid (unV_none (show unF s = none by rw [unF, if_pos (Or.inl (by omega))]))
    have b1 : (takeE s 4 != 0) = true := by rw [takeE_off h4]; rfl
    clear h4
    go_wp2
    go_ret3
    exact ⟨by rw [E.out]; rfl, B3.out⟩
  have b1 : (takeE s 4 != 0) = false := by rw [takeE_on (by omega)]; rfl
  have e4 : takeS s 4 = s.extract 4 s.size := takeS_on (by omega)
  have s4 : (s.extract 4 s.size).size = s.size - 4 := by rw [ByteArray.size_extract]; omega
  by_cases h8 : s.size < 8
  · have E := Lib.hid (unV_none (show unF s = none by rw [unF, if_pos (Or.inl h8)]))
    have b2 : (takeE (takeS s 4) 4 != 0) = true := by rw [e4, takeE_off (by omega)]; rfl
    clear h4 h8 e4 s4
    go_wp2
    go_ret3
    exact ⟨by rw [E.out]; rfl, B3.out⟩
  have b2 : (takeE (takeS s 4) 4 != 0) = false := by rw [e4, takeE_on (by omega)]; rfl
  have e8 : takeS (takeS s 4) 4 = s.extract 8 s.size := by
    rw [e4, takeS_on (by omega), extract_extract4 s (by omega)]
  have hr : (s.extract 8 s.size).size = s.size - 8 := by rw [ByteArray.size_extract]; omega
  rw [e8] at R3
  rw [e4] at HC
  have c0 : w3.cell? ⟨w.heap.size, 0, none⟩ = some (.string (s.extract 8 s.size)) := R3.out.cell 0
  have HX : Hid (¬ (s.extract 8 s.size).size < n → (s.extract 8 s.size).extract n (s.extract 8 s.size).size = s.extract (8 + n) s.size) := Lib.hid (fun h => ex_ex s 8 n (by omega))
  have HU : Hid (unF s = if 67108864 < n then none else if (s.extract 8 s.size).size < n then none else if (onC 0 (s.extract 0 4 ++ (s.extract 8 s.size).extract 0 n)).toNat ≠ c then none else some ((s.extract 8 s.size).extract 0 n, s.extract (8 + n) s.size)) := Lib.hid (by
    rw [unF, HN.out, HC.out, onC_on]
    by_cases a : 67108864 < n
    · rw [if_pos (Or.inr a), if_pos a]
    · rw [if_neg (by omega), if_neg a])
  have z4 : (s.extract 0 4).size = 4 := by rw [ByteArray.size_extract]; omega
  have hi4 : (4 : Int) ≤ (s.size : Int) := by omega
  generalize hrr : s.extract 8 s.size = r at *
  have hrz : r.size ≤ 140737488355328 := by omega
  clear h4 h8 e4 s4 e8 hrr HN HC hz4 hr
  by_cases hm : 67108864 < n
  · rw [if_pos hm] at HU
    have E := Lib.hid (unV_none HU.out)
    go_wp2
    go_ret3
    exact ⟨by rw [E.out]; rfl, B3.out⟩
  rw [if_neg hm] at HU
  by_cases hrn : r.size < n
  · rw [if_pos hrn] at HU
    have E := Lib.hid (unV_none HU.out)
    go_wp2
    go_ret3
    exact ⟨by rw [E.out]; rfl, B3.out⟩
  rw [if_neg hrn] at HU
  have HX2 := Lib.hid (HX.out hrn)
  have zp : (r.extract 0 n).size = n := by rw [ByteArray.size_extract]; omega
  have zs := ByteArray.size_append (a := s.extract 0 4) (b := r.extract 0 n)
  have CR := Lib.hid (fun W => rcrc_any (s.extract 0 4 ++ r.extract 0 n) W (by omega))
  have hnr : (n : Int) ≤ (r.size : Int) := by omega
  have hn0 : (0 : Int) ≤ (n : Int) := by omega
  generalize hp : r.extract 0 n = p at *
  generalize onC 0 (s.extract 0 4 ++ p) = x at *
  have hx32 := x.toNat_lt
  have hm2 : n ≤ 67108864 := by omega
  clear hrn hm HX
  by_cases hxc : x.toNat = c
  · rw [if_neg (by omega)] at HU
    have E := Lib.hid (unV_some HU.out)
    have b3 : ((x.toNat : Int) != (c : Int)) = false := by rw [hxc]; exact bne_self_eq_false _
    subst hxc
    go_wp2_with fail
    (with_reducible refine (CR.out _).mono ?_)
    rintro e w4 ⟨rfl, rfl⟩
    go_upto_region 9 with fail
    have SA : w3.drew.cell? ⟨w.heap.size, 0, none⟩ = some (.string r) := c0
    refine wp_region_held_drew (S := fun w' => w'.cell? ⟨w.heap.size, 0, none⟩ = some (.string r)) (by kernel_rfl) (by exact SA) (fun hHeld => ?_)
    refine wpAnyH_take (i := 0) (oi := { dst := some 58, op := .move (.tmp 10), type := 9, pos := "ref.go:67", after := #[], guard := none }) (v := _) rfl (by as_aux_lemma => kernel_rfl) (by as_aux_lemma => kernel_rfl) (by as_aux_lemma => kernel_rfl) (fun _ _ _ h => h) (Or.inl ⟨by kernel_rfl, by (intro w hSw; (try dsimp only at hSw); go_simp; first | done | with_reducible rfl)⟩) (by assumption) ?_
    (try simp only [List.getElem_toArray, List.getElem_cons_succ, List.getElem_cons_zero, Act.put, List.setIfInBounds_toArray, List.set_cons_zero, List.set_cons_succ])
    refine wpAnyH_take (i := 1) (oi := { dst := some 59, op := .move (.tmp 5), type := 99, pos := "ref.go:67", after := #[], guard := none }) (v := _) rfl (by as_aux_lemma => kernel_rfl) (by as_aux_lemma => kernel_rfl) (by as_aux_lemma => kernel_rfl) (fun _ _ _ h => h) (Or.inl ⟨by kernel_rfl, by (intro w hSw; (try dsimp only at hSw); go_simp; first | done | with_reducible rfl)⟩) (by assumption) ?_
    (try simp only [List.getElem_toArray, List.getElem_cons_succ, List.getElem_cons_zero, Act.put, List.setIfInBounds_toArray, List.set_cons_zero, List.set_cons_succ])
    refine wpAnyH_take (i := 2) (oi := { dst := some 60, op := .nilCheck (.tmp 59), type := 0, pos := "ref.go:67", after := #[{ on := 1, ground := .data }], guard := none }) (v := _) rfl (by as_aux_lemma => kernel_rfl) (by as_aux_lemma => kernel_rfl) (by as_aux_lemma => kernel_rfl) (fun _ _ _ h => h) (Or.inl ⟨by kernel_rfl, by (intro w hSw; (try dsimp only at hSw); go_simp; first | done | with_reducible rfl)⟩) (by assumption) ?_
    (try simp only [List.getElem_toArray, List.getElem_cons_succ, List.getElem_cons_zero, Act.put, List.setIfInBounds_toArray, List.set_cons_zero, List.set_cons_succ])
    refine wpAnyH_take (i := 3) (oi := { dst := some 61, op := .fieldAddr 101 (.tmp 60) 0, type := 0, pos := "ref.go:67", after := #[{ on := 2, ground := .data }], guard := none }) (v := _) rfl (by as_aux_lemma => kernel_rfl) (by as_aux_lemma => kernel_rfl) (by as_aux_lemma => kernel_rfl) (fun _ _ _ h => h) (Or.inl ⟨by kernel_rfl, by (intro w hSw; (try dsimp only at hSw); go_simp; first | done | with_reducible rfl)⟩) (by assumption) ?_
    (try simp only [List.getElem_toArray, List.getElem_cons_succ, List.getElem_cons_zero, Act.put, List.setIfInBounds_toArray, List.set_cons_zero, List.set_cons_succ])
    refine wpAnyH_take (i := 4) (oi := { dst := some 62, op := .load 9 (.tmp 61), type := 9, pos := "ref.go:67", after := #[{ on := 3, ground := .data }], guard := none }) (v := _) rfl (by as_aux_lemma => kernel_rfl) (by as_aux_lemma => kernel_rfl) (by as_aux_lemma => kernel_rfl) (fun _ _ _ h => h) (Or.inl ⟨by kernel_rfl, by (intro w hSw; (try dsimp only at hSw); go_simp; first | done | with_reducible rfl)⟩) (by assumption) ?_
    (try simp only [List.getElem_toArray, List.getElem_cons_succ, List.getElem_cons_zero, Act.put, List.setIfInBounds_toArray, List.set_cons_zero, List.set_cons_succ])
    refine wpAnyH_take (i := 5) (oi := { dst := some 63, op := .move (.tmp 6), type := 57, pos := "ref.go:67", after := #[], guard := none }) (v := _) rfl (by as_aux_lemma => kernel_rfl) (by as_aux_lemma => kernel_rfl) (by as_aux_lemma => kernel_rfl) (fun _ _ _ h => h) (Or.inl ⟨by kernel_rfl, by (intro w hSw; (try dsimp only at hSw); go_simp; first | done | with_reducible rfl)⟩) (by assumption) ?_
    (try simp only [List.getElem_toArray, List.getElem_cons_succ, List.getElem_cons_zero, Act.put, List.setIfInBounds_toArray, List.set_cons_zero, List.set_cons_succ])
    refine wpAnyH_take (i := 6) (oi := { dst := some 64, op := .slice 9 (.tmp 62) (some (.tmp 63)) none none, type := 9, pos := "ref.go:67", after := #[{ on := 4, ground := .data }, { on := 5, ground := .data }], guard := none }) (v := _) rfl (by as_aux_lemma => kernel_rfl) (by as_aux_lemma => kernel_rfl) (by as_aux_lemma => kernel_rfl) (fun _ _ _ h => h) (Or.inl ⟨by kernel_rfl, by (intro w hSw; (try dsimp only at hSw); go_simp; first | done | with_reducible rfl)⟩) (by assumption) ?_
    (try simp only [List.getElem_toArray, List.getElem_cons_succ, List.getElem_cons_zero, Act.put, List.setIfInBounds_toArray, List.set_cons_zero, List.set_cons_succ])
    refine wpAnyH_take (i := 7) (oi := { dst := some 2, op := .assign (.tmp 58), type := 9, pos := "ref.go:67", after := #[{ on := 0, ground := .data }, { on := 0, ground := .phase }, { on := 1, ground := .textOnly Departure.lateStores }, { on := 2, ground := .textOnly Departure.lateStores }, { on := 3, ground := .textOnly Departure.lateStores }, { on := 4, ground := .textOnly Departure.lateStores }, { on := 5, ground := .textOnly Departure.lateStores }, { on := 6, ground := .textOnly Departure.lateStoresUnsure }], guard := none }) (v := _) rfl (by as_aux_lemma => kernel_rfl) (by as_aux_lemma => kernel_rfl) (by as_aux_lemma => kernel_rfl) (fun _ _ _ h => h) (Or.inl ⟨by kernel_rfl, by (intro w hSw; (try dsimp only at hSw); go_simp; first | done | with_reducible rfl)⟩) (by assumption) ?_
    (try simp only [List.getElem_toArray, List.getElem_cons_succ, List.getElem_cons_zero, Act.put, List.setIfInBounds_toArray, List.set_cons_zero, List.set_cons_succ])
    refine wpAnyH_take (i := 8) (oi := { dst := some 3, op := .assign (.tmp 64), type := 9, pos := "ref.go:67", after := #[{ on := 6, ground := .data }, { on := 7, ground := .chain }, { on := 0, ground := .phase }, { on := 1, ground := .phase }, { on := 2, ground := .phase }, { on := 3, ground := .phase }, { on := 4, ground := .phase }, { on := 5, ground := .phase }, { on := 6, ground := .phase }, { on := 7, ground := .phase }], guard := none }) (v := _) rfl (by as_aux_lemma => kernel_rfl) (by as_aux_lemma => kernel_rfl) (by as_aux_lemma => kernel_rfl) (fun _ _ _ h => h) (Or.inl ⟨by kernel_rfl, by (intro w hSw; (try dsimp only at hSw); go_simp; first | done | with_reducible rfl)⟩) (by assumption) ?_
    (try simp only [List.getElem_toArray, List.getElem_cons_succ, List.getElem_cons_zero, Act.put, List.setIfInBounds_toArray, List.set_cons_zero, List.set_cons_succ])
    refine wpAnyH_take (i := 9) (oi := { dst := some 4, op := .assign (.const (Value.int IntKind.i64 0)), type := 30, pos := "ref.go:67", after := #[{ on := 8, ground := .chain }, { on := 0, ground := .phase }, { on := 1, ground := .phase }, { on := 2, ground := .phase }, { on := 3, ground := .phase }, { on := 4, ground := .phase }, { on := 5, ground := .phase }, { on := 6, ground := .phase }, { on := 7, ground := .phase }, { on := 8, ground := .phase }], guard := none }) (v := _) rfl (by as_aux_lemma => kernel_rfl) (by as_aux_lemma => kernel_rfl) (by as_aux_lemma => kernel_rfl) (fun _ _ _ h => h) (Or.inl ⟨by kernel_rfl, by (intro w hSw; (try dsimp only at hSw); go_simp; first | done | with_reducible rfl)⟩) (by assumption) ?_
    (try simp only [List.getElem_toArray, List.getElem_cons_succ, List.getElem_cons_zero, Act.put, List.setIfInBounds_toArray, List.set_cons_zero, List.set_cons_succ])
    refine wpAnyH_done (by as_aux_lemma => kernel_rfl) ?_ _
    go_wp2
    go_ret3
    exact ⟨by rw [E.out, ← HX2.out]; rfl, B3.out.drew⟩
  · rw [if_pos hxc] at HU
    have E := Lib.hid (unV_none HU.out)
    have b3 : ((x.toNat : Int) != (c : Int)) = true := by rw [bne_iff_ne]; omega
    clear hxc
    go_wp2_with fail
    (with_reducible refine (CR.out _).mono ?_)
    rintro e w4 ⟨rfl, rfl⟩
    go_wp2
    go_ret3
    exact ⟨by rw [E.out]; rfl, B3.out⟩
end Go.Proofs.Ytfoandpcoakcjaa
