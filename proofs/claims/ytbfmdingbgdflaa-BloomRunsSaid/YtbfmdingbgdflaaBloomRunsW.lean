/- Walk: the law BloomRuns. Conditions: the steps are read where they lie. -/
import Derived.Test.YtbfmdingbgdflaaRunS
import Derived.Test.YtbfmdingbgdflaaOpnSteps
import Derived.Deep.DeepCutAuto
import Derived.Deep.CutBlock
namespace Go.Proofs.Ytbfmdingbgdflaa
open Go.RowKit Blo Wir
set_option linter.unusedVariables false
set_option linter.unusedSimpArgs false
attribute [local go_sem ↓] execOp_ld32 execOp_st32
attribute [local go_sem] run_ld32 run_st32
def zz51 : Obj := .cells #[.pointer none, .pointer none] 51
def zz53 : Obj := .cells #[.pointer none, .pointer none] 53
def twoI (x y : Int) : Obj := .cells #[.int .i64 x, .int .i64 y] 3
theorem two_start (w : World) : Two w.heap.size w ((w.alloc zz51).alloc zz53) w.heap.size (w.heap.size + 1) (fun _ => none) := by
  refine ⟨(Blk.new w 51 #[.pointer none, .pointer none]).alloc _, ?_, fun k z _ h => (nomatch h), fun k j z u _ _ _ h => (nomatch h), Nat.le_refl _, by omega, ((Below.refl _ _).alloc (Nat.le_refl _) _).alloc (by simp) _⟩
  have := Blk.new (w.alloc zz51) 53 #[.pointer none, .pointer none]
  rw [show (w.alloc zz51).heap.size = w.heap.size + 1 from by simp] at this
  exact this
theorem twoI_get (x y : Int) (k : Nat) (hk : k < 2) (h : k < [Value.int .i64 x, Value.int .i64 y].length) : [Value.int .i64 x, Value.int .i64 y][k]'h = .int .i64 (if k = 0 then x else y) := by
  have : k = 0 ∨ k = 1 := by omega
  rcases this with rfl | rfl <;> rfl
theorem twoI_cell (w : World) (x y : Int) (k : Nat) (hk : k < 2) : (w.alloc (twoI x y)).cell? ⟨w.heap.size, k, none⟩ = some (.int .i64 (if k = 0 then x else y)) := by
  have h := (Blk.new w 3 #[.int .i64 x, .int .i64 y]).cell k
  have : k = 0 ∨ k = 1 := by omega
  rcases this with rfl | rfl
  · exact h
  · exact h
theorem made_id (w : World) (I : Nat → UInt8) : ok32 (w.alloc zeroId) w.heap.size 0 = true ∧ (put32 (w.alloc zeroId) w.heap.size 0 (idA I)).rowIs w.heap.size 28 32 (u8V I) ∧ Below w.heap.size w (put32 (w.alloc zeroId) w.heap.size 0 (idA I)) := by
  have z := zeros_row w (T := 28) (c := _) (n := 32) (z := .int .u8 0) (by rfl)
  have z' : (w.alloc zeroId).rowIs w.heap.size 28 32 (fun _ => .int .u8 0) := z
  obtain ⟨q1, q2⟩ := put32_row z' 0 (idA I) (by omega) (idA_full I)
  refine ⟨ok32_of z' (by omega), q1.congr (fun i hi => ?_), below_grown ((Below.refl _ _).alloc (Nat.le_refl _) _) q2 (fun g hg => by cases hg; exact Nat.le_refl _)⟩
  rw [if_pos (by omega), Nat.sub_zero, List.getD_eq_getElem?_getD, Array.getElem?_toList, idA_get I i hi]; rfl
theorem size_v {b N : Nat} {w : World} {z : Fm} (hN : 8 * z.n = N) (o : z.Ok b w) :
    Calls Try.prog 34 #[.pointer (some ⟨z.P, 0, none⟩)] w fun e w' => e = .returned (.tuple #[.int .i64 (N : Int), .int .i64 (z.H : Int)]) ∧ Below w.heap.size w w' := by
  rw [← hN]; exact size_any w _ _ _ _ _ _ o.flt (by have := o.n24; omega)
theorem has_v {b : Nat} {w w0 : World} {z : Fm} {I : Nat → UInt8} {v : Bool} (hv : hasF z.F I z.n z.H = v) (o : z.Ok b w0) (e : w0 = w) :
    Calls Try.prog 15 #[.pointer (some ⟨z.P, 0, none⟩), .agg (idA I)] w fun e w' => e = .returned (.bool v) ∧ Below w.heap.size w w' := by
  subst e; rw [← hv]; exact has_any _ _ _ _ _ _ z.m _ _ o.flt o.pow o.m24 o.h8
theorem rhas_v {b : Nat} {w w0 : World} {z : Fm} {I : Nat → UInt8} {v : Bool} (hv : hasF z.F I z.n z.H = v) (o : z.Ok b w0) (bt : Bt z.B z.F z.n) (e : w0 = w) :
    Calls Try.prog 35 #[.pointer (some ⟨z.Q, 0, none⟩), .agg (idA I)] w fun e w' => e = .returned (.bool v) ∧ Below w.heap.size w w' := by
  subst e; rw [← hv]; exact rhas_any _ _ _ _ _ _ _ _ _ o.rf bt rfl (by have := o.n64; omega) o.n24 o.h8
theorem ones_v {b : Nat} {w : World} {z : Fm} {v : Nat} (hv : onesF z.F z.n = v) (o : z.Ok b w) :
    Calls Try.prog 24 #[.pointer (some ⟨z.P, 0, none⟩)] w fun e w' => e = .returned (.int .i64 (v : Int)) ∧ w = w' := by
  rw [← hv]; exact ones_any w _ _ _ _ _ _ o.flt (by have := o.n24; omega)
theorem rones_v {b : Nat} {w : World} {z : Fm} {v : Nat} (hv : onesF z.F z.n = v) (o : z.Ok b w) (bt : Bt z.B z.F z.n) :
    Calls Try.prog 36 #[.pointer (some ⟨z.Q, 0, none⟩)] w fun e w' => e = .returned (.int .i64 (v : Int)) ∧ w = w' := by
  rw [← hv]; exact rones_any w _ _ _ _ _ _ _ o.rf bt rfl o.n24
set_option maxRecDepth 100000 in
set_option maxHeartbeats 0 in
theorem bloomRuns_walk (bits hashes other more : Int) (A : Option Addr) (n c : Nat) (L : List Stp) (w : World)
    (b1 : -9223372036854775808 ≤ bits) (b2 : bits ≤ 9223372036854775807) (b3 : -9223372036854775808 ≤ hashes) (b4 : hashes ≤ 9223372036854775807)
    (b5 : -9223372036854775808 ≤ other) (b6 : other ≤ 9223372036854775807) (b7 : -9223372036854775808 ≤ more) (b8 : more ≤ 9223372036854775807)
    (hL : L.length = n) (hnc : n ≤ c) (hn : n ≤ 140737488351232) (hz : ∀ x ∈ L, x.id.size ≤ 9223372036854775807) (hr : 0 < n → ∃ ad, A = some ad ∧ ad.block < w.heap.size ∧ StpAt w ad L) :
    Calls Try.prog 7 #[.int .i64 bits, .int .i64 hashes, .int .i64 other, .int .i64 more, .slice A n c] w fun e w' => e = .returned (.bool true) ∧ Below w.heap.size w w' := by
  have HL := Lib.hid hL
  have HZ := Lib.hid hz
  have HRD := Lib.hid hr
  have S0 := Lib.hid (two_start w)
  clear hL hz hr
  by_cases hret : (16384 < bits ∧ bits ≠ 16777216) ∨ 16384 < other
  · by_cases h1 : 16384 < bits
    · by_cases h2 : bits = 16777216
      · have h3 : 16384 < other := by omega
        clear hret
        go_enter Try.func7, Try.ntmps7
        go_wp2
        go_ret
        exact ⟨rfl, Below.refl _ _⟩
      · clear hret
        go_enter Try.func7, Try.ntmps7
        go_wp2
        go_ret
        exact ⟨rfl, Below.refl _ _⟩
    · have h3 : 16384 < other := by omega
      clear hret
      go_enter Try.func7, Try.ntmps7
      go_wp2
      go_ret
      exact ⟨rfl, Below.refl _ _⟩
  have h3 : ¬ 16384 < other := by omega
  have HRET : Hid (¬ 16384 < bits ∨ bits = 16777216) := Lib.hid (by omega)
  clear hret
  go_enter Try.func7, Try.ntmps7
  go_upto_region 1 with fail
  go_cut [39] (fun v wx => v = .bool false ∧ w = wx)
  case rest =>
    obtain ⟨rfl, rfl⟩ := hcut
    go_upto_region 5 with fail
    change Code.wp _ _ _ _ ((w.alloc zz51).alloc zz53)
    generalize (w.alloc zz51).alloc zz53 = w1 at S0 ⊢
    obtain ⟨b, hb⟩ : ∃ b, w.heap.size = b := ⟨_, rfl⟩
    have HB := Lib.hid hb
    rw [hb] at S0 HRD
    try rw [hb]
    clear hb
    go_wp2
    go_loopw [13] (fun i wr => ∃ (k : Nat) (X : Nat → Option Fm), k ≤ 2 ∧ i = .int .i64 (k : Int) ∧ Hid (Two b w wr b (b + 1) X ∧ Bts X ∧ ∀ j, k ≤ j → X j = none)) (fun i _ => 2 - (intOf i).toNat)
    case atStart => exact ⟨0, fun _ => none, by omega, rfl, Lib.hid ⟨S0.out, fun k z _ h => (nomatch h), fun _ _ => rfl⟩⟩
    case round =>
      obtain ⟨k, X, hk, rfl, HX⟩ := hrel
      by_cases hlt : k < 2
      · have hlti : (k : Int) < 2 := by omega
        have KC := Lib.hid (fun W x y => twoI_cell W x y k hlt)
        obtain ⟨nv, hnv⟩ : ∃ nv, (if k = 0 then bits else other) = nv := ⟨_, rfl⟩
        obtain ⟨hv, hhv⟩ : ∃ hv, (if k = 0 then hashes else more) = hv := ⟨_, rfl⟩
        have n1 : -9223372036854775808 ≤ nv := by rw [← hnv]; split <;> assumption
        have n2 : nv ≤ 9223372036854775807 := by rw [← hnv]; split <;> assumption
        have n3 : -9223372036854775808 ≤ hv := by rw [← hhv]; split <;> assumption
        have n4 : hv ≤ 9223372036854775807 := by rw [← hhv]; split <;> assumption
        have cA := KC.out wr bits other
        rw [hnv] at cA
        have cB := KC.out (wr.alloc (twoI bits other)) hashes more
        rw [hhv] at cB
        have gA := twoI_get bits other k hlt
        have gB := twoI_get hashes more k hlt
        simp only [hnv] at gA
        simp only [hhv] at gB
        unfold twoI at cA cB
        clear hnv hhv
        have hlow := HX.out.1.low
        have HXA : Hid (Two b w ((wr.alloc (twoI bits other)).alloc (twoI hashes more)) b (b + 1) X) := Lib.hid (HX.out.1.mono hlow (((Below.refl _ _).alloc (Nat.le_refl _) _).alloc (by simp) _))
        go_upto_region 10 with fail
        change Code.wp _ _ _ _ ((wr.alloc (twoI bits other)).alloc (twoI hashes more))
        clear cA cB KC
        generalize (wr.alloc (twoI bits other)).alloc (twoI hashes more) = w2 at HXA ⊢
        have hkX := Lib.hid HX.out.2.2
        cases hs : szB nv hv with
        | true =>
          as_aux_lemma =>
            obtain ⟨kk, H, m, q0, rfl, q1, q2, q3, q4, q5⟩ := sz_yes hs
            obtain ⟨N, hN⟩ : ∃ N, 8 * kk = N := ⟨_, rfl⟩
            obtain rfl : nv = (N : Int) := by omega
            have HS := Lib.hid hs
            have h24 : N ≤ 16777216 := by rw [← hN, q1]; exact Nat.pow_le_pow_right (by omega) q3
            have HQ : Hid (8 * kk = N ∧ 8 * kk = 2 ^ m) := Lib.hid ⟨hN, q1⟩
            clear hs q0 q1 hN n1 n2 n3 n4
            go_wp2_with fail
            refine (new_v kk H N w2 HQ.out.1 h24 q5 HS.out).mono ?_
            rintro e w3 ⟨rfl, hf3, hb3⟩
            have X3 : Hid (Two b w w3 b (b + 1) X ∧ Flt w3 (w2.heap.size + 1) w2.heap.size kk kk H (fun _ => 0) ∧ b ≤ w2.heap.size) := Lib.hid ⟨HXA.out.mono HXA.out.low hb3, hf3, HXA.out.low⟩
            have H23 := hb3.size
            clear hf3 hb3
            go_wp2_with fail
            refine (rnew_any N H w3 h24 q5 HS.out).mono ?_
            rintro e w4 ⟨rfl, hr4, hb4⟩
            have X4 : Hid (Two b w w4 b (b + 1) X ∧ Fm.Ok b w4 ⟨w2.heap.size + 1, w2.heap.size, kk, kk, H, m, fun _ => 0, w3.heap.size + 1, w3.heap.size, fun _ => false⟩ ∧ (∀ j u, j < 2 → X j = some u → w2.heap.size ≠ u.g ∧ w3.heap.size ≠ u.h)) := Lib.hid (by
              refine ⟨X3.out.1.mono X3.out.1.low hb4, ⟨X3.out.2.1.below hb4, by show Rf w4 _ _ (8 * kk) H _; rw [HQ.out.1]; exact hr4, HQ.out.2, q2, q3, q4, q5, by have := X3.out.2.2; show b ≤ w2.heap.size + 1; omega, X3.out.2.2, by have := X3.out.2.2; show b ≤ w3.heap.size + 1; omega, by have := X3.out.2.2; show b ≤ w3.heap.size; omega⟩, fun j u hj hu => ?_⟩
              have o := HXA.out.ok j u hj hu
              have l1 := o.flt.buf.lt
              have l2 := o.rf.row.lt
              exact ⟨by omega, by omega⟩)
            clear hr4 hb4
            obtain ⟨z, hzz⟩ : ∃ z : Fm, z = ⟨w2.heap.size + 1, w2.heap.size, kk, kk, H, m, fun _ => 0, w3.heap.size + 1, w3.heap.size, fun _ => false⟩ := ⟨_, rfl⟩
            have hP : w2.heap.size + 1 = z.P := by rw [hzz]
            have hQ : w3.heap.size + 1 = z.Q := by rw [hzz]
            rw [hP, hQ]
            have XZ : Hid (z.Ok b w4 ∧ (∀ j u, j < 2 → X j = some u → z.g ≠ u.g ∧ z.h ≠ u.h) ∧ Bt z.B z.F z.n) := Lib.hid (by rw [hzz]; exact ⟨X4.out.2.1, X4.out.2.2, Bt.zero _⟩)
            have ca := X4.out.1.fa
            have f1 : w4.frozen? ⟨b, k, none⟩ = false := X4.out.1.fa.frozen k
            have f2 : w4.frozen? ⟨b + 1, k, none⟩ = false := X4.out.1.mb.frozen k
            have c1 := X4.out.1.f k hlt
            have c2 := X4.out.1.m k hlt
            clear ca hzz hP hQ H23 gA gB
            go_wp2
            go_roundw
            case rel =>
              refine ⟨k + 1, up X k z, by omega, by go_num, Lib.hid ⟨X4.out.1.new hlt hkX.out XZ.out.1 XZ.out.2.1, fun j u hj hu => ?_, fun j hj => ?_⟩⟩
              · unfold up at hu
                by_cases e : j = k
                · rw [if_pos e] at hu; injection hu with hu; subst hu; exact XZ.out.2.2
                · rw [if_neg e] at hu; exact HX.out.2.1 j u hj hu
              · unfold up
                rw [if_neg (by omega)]
                exact hkX.out j (by omega)
            case measure => simp [intOf]; omega
        | false =>
          as_aux_lemma =>
            have HS := Lib.hid hs
            clear hs
            go_wp2_with fail
            refine (new_no nv hv w2 n3 n4 HS.out).mono ?_
            rintro e w3 ⟨rfl, rfl⟩
            go_wp2_with fail
            refine (rnew_no nv hv w2 n1 n2 n3 n4 HS.out).mono ?_
            rintro e w4 ⟨rfl, rfl⟩
            have f1 : w2.frozen? ⟨b, k, none⟩ = false := HXA.out.fa.frozen k
            have f2 : w2.frozen? ⟨b + 1, k, none⟩ = false := HXA.out.mb.frozen k
            have c1 := HXA.out.f k hlt
            have c2 := HXA.out.m k hlt
            clear n1 n2 n3 n4 gA gB
            go_wp2
            go_roundw
            case rel => exact ⟨k + 1, X, by omega, by go_num, Lib.hid ⟨HXA.out.none_ hlt (hkX.out k (Nat.le_refl _)), HX.out.2.1, fun j hj => hkX.out j (by omega)⟩⟩
            case measure => simp [intOf]; omega
      · obtain rfl : k = 2 := by omega
        --REST
        rw [show ((2 : Nat) : Int) = 2 from rfl]
        have S1 : Hid (Two b w wr b (b + 1) X ∧ Bts X) := Lib.hid ⟨HX.out.1, HX.out.2.1⟩
        clear HX
        obtain ⟨d, hd⟩ : ∃ d, (decide (bits = 16777216) && decide (1 < n)) = d := ⟨_, rfl⟩
        go_upto_region 16 with fail
        go_cut [90] (fun v wx => v = .bool d ∧ wr = wx)
        case rest =>
          obtain ⟨rfl, rfl⟩ := hcut
          have hd1 : d = true → 1 < n := by
            intro e
            rw [e, Bool.and_eq_true] at hd
            exact of_decide_eq_true hd.2
          clear hd
          go_upto_if 90 with fail
          go_cut [4] (fun v wx => ∃ n' : Nat, n' ≤ n ∧ v = .slice A n' c ∧ wr = wx)
          case rest =>
            obtain ⟨n', hn', rfl, rfl⟩ := hcut
            clear hd1
            go_wp2
            go_loopw [20] (fun i wr => ∃ (k : Nat) (X : Nat → Option Fm), k ≤ n' ∧ k ≤ 60 ∧ i = .int .i64 (k : Int) ∧ Hid (Two b w wr b (b + 1) X ∧ Bts X)) (fun i _ => 60 - (intOf i).toNat)
            case atStart => exact ⟨0, X, by omega, by omega, rfl, S1⟩
            case round =>
              clear S1 X
              obtain ⟨k, X, hk, hk60, rfl, HX⟩ := hrel
              by_cases hlt : k < n' ∧ k < 60
              · have hki : (k : Int) < (n' : Int) := by omega
                have hk6 : (k : Int) < 60 := by omega
                obtain ⟨ad, rfl, hbk, hstp⟩ := HRD.out (by omega)
                obtain ⟨st, hst⟩ : ∃ st, L[k]? = some st := ⟨_, List.getElem?_eq_getElem (by rw [HL.out]; omega)⟩
                have hsz : st.id.size ≤ 9223372036854775807 := HZ.out st (List.mem_of_getElem? hst)
                have KST : Hid (∀ W, Below b w W → W.cell? (ad.add (k * 3)) = some (.int .i64 st.kind) ∧ W.cell? ⟨(ad.add (k * 3)).block, (ad.add (k * 3)).off + 1, none⟩ = some (.int .i64 st.who) ∧ W.cell? ⟨(ad.add (k * 3)).block, (ad.add (k * 3)).off + 2, none⟩ = some (.string st.id)) := Lib.hid (fun W hb => by
                  obtain ⟨a1, a2, a3⟩ := hstp k st hst
                  have hB : (ad.add (k * 3)).block < b := by rw [block_of_add]; exact hbk
                  exact ⟨(hb.cell hB).trans a1, (hb.cell (p := (ad.add (k * 3)).add 1) hB).trans a2, (hb.cell (p := (ad.add (k * 3)).add 2) hB).trans a3⟩)
                obtain ⟨t, ht⟩ : ∃ t, st.id = t := ⟨_, rfl⟩
                obtain ⟨kind, hkd⟩ : ∃ kind, st.kind = kind := ⟨_, rfl⟩
                obtain ⟨who, hwh⟩ : ∃ who, st.who = who := ⟨_, rfl⟩
                rw [ht, hkd, hwh] at KST
                rw [ht] at hsz
                clear hstp hst ht hkd hwh hbk
                obtain ⟨c1, c2, c3⟩ := KST.out wr HX.out.1.below
                go_upto_if 108 with fail
                clear c1
                go_cut [21] (fun v wx => ∃ q : Nat, q < 2 ∧ v = .int .i64 (q : Int) ∧ wr = wx)
                case rest =>
                  obtain ⟨q, hq2, rfl, rfl⟩ := hcut
                  have hqi : (q : Int) < 2 := by omega
                  go_wp2_with fail
                  refine (id_any t _ hsz).mono ?_; rintro e w4 ⟨rfl, hb4⟩
                  obtain ⟨I, hI⟩ : ∃ I, byteAt t = I := ⟨_, rfl⟩
                  rw [hI]
                  clear hI c2 c3
                  obtain ⟨o1, n2, n3⟩ := made_id w4 I
                  have E5 : Hid (Two b w (put32 (w4.alloc zeroId) w4.heap.size 0 (idA I)) b (b + 1) X ∧ Bts X ∧ (put32 (w4.alloc zeroId) w4.heap.size 0 (idA I)).rowIs w4.heap.size 28 32 (u8V I)) := Lib.hid (by
                    have r4 := HX.out.1.mono HX.out.1.low hb4
                    exact ⟨r4.mono r4.low n3, HX.out.2, n2⟩)
                  have f1 := idA_full I
                  clear n2 n3 hb4 HX
                  unfold zeroId at o1
                  go_upto_region 25 with fail
                  change Code.wp _ _ _ _ (put32 (w4.alloc zeroId) w4.heap.size 0 (idA I))
                  generalize put32 (w4.alloc zeroId) w4.heap.size 0 (idA I) = w5 at E5 ⊢
                  clear o1 f1
                  generalize w4.heap.size = e at E5 ⊢
                  have cm := E5.out.1.m q hq2
                  cases hzq : X q with
                  | none =>
                    rw [hzq] at cm
                    unfold mp at cm
                    clear hzq
                    go_wp2
                    go_roundw
                    case rel => exact ⟨k + 1, X, by omega, by omega, by go_num, Lib.hid ⟨E5.out.1, E5.out.2.1⟩⟩
                    case measure => simp [intOf]; omega
                  | some z =>
                    rw [hzq] at cm
                    unfold mp at cm
                    have HZQ := Lib.hid hzq
                    clear hzq
                    obtain ⟨c1, -, -⟩ := KST.out w5 E5.out.1.below
                    go_upto_block 4 with fail
                    go_cut [23, 24, 25, 26, 27] (fun v3 v4 v5 v6 v7 wx => ∃ (X9 : Nat → Option Fm) (z9 : Fm), Two b w wx b (b + 1) X9 ∧ Bts X9 ∧ wx.rowIs e 28 32 (u8V I) ∧ X9 q = some z9)
                    case rest =>
                      as_aux_lemma =>
                        obtain ⟨X9, z9, r1, r2, r3, r4⟩ := hcut
                        have R9 := Lib.hid (And.intro r1 (And.intro r2 r3))
                        have ZQ9 := Lib.hid r4
                        clear r1 r2 r3 r4 KST c1 cm HZQ E5
                        have O9 := Lib.hid (R9.out.1.ok q z9 hq2 ZQ9.out)
                        have BT9 := Lib.hid (R9.out.2.1 q z9 hq2 ZQ9.out)
                        obtain ⟨N, hN⟩ : ∃ N, 8 * z9.n = N := ⟨_, rfl⟩
                        have HN := Lib.hid hN
                        clear hN
                        have cf := R9.out.1.f q hq2
                        rw [ZQ9.out] at cf
                        unfold fp at cf
                        go_wp2_with fail
                        refine (size_v HN.out O9.out).mono ?_; rintro e wn ⟨rfl, hbn⟩
                        have R10 : Hid (Two b w wn b (b + 1) X9 ∧ wn.rowIs e 28 32 (u8V I)) := Lib.hid ⟨R9.out.1.mono R9.out.1.low hbn, R9.out.2.2.of_block (hbn.block _ R9.out.2.2.lt)⟩
                        have BTS9 := Lib.hid R9.out.2.1
                        clear hbn cf R9 O9
                        rename World => w10
                        have KO : Hid (∀ w', Below w10.heap.size w10 w' → Fm.Ok b w' z9) := Lib.hid (fun w' hb => (R10.out.1.ok q z9 hq2 ZQ9.out).mono hb)
                        have KS : Hid (∀ w', Below w10.heap.size w10 w' → w'.cell? ⟨b, q, none⟩ = some (.pointer (some ⟨z9.P, 0, none⟩)) ∧ w'.cell? ⟨b + 1, q, none⟩ = some (.pointer (some ⟨z9.Q, 0, none⟩)) ∧ ok32 w' e 0 = true ∧ row32 w' e 0 = idA I ∧ w'.cell? ⟨z9.Q, 0, none⟩ = some (.int .i64 (N : Int)) ∧ w'.cell? ⟨z9.Q, 1, none⟩ = some (.int .i64 (z9.H : Int))) := Lib.hid (fun w' hb => by
                          have r := R10.out.1.mono R10.out.1.low hb
                          have ro := R10.out.2.of_block (hb.block _ R10.out.2.lt)
                          have o := KO.out w' hb
                          have a1 := r.f q hq2
                          have a2 := r.m q hq2
                          rw [ZQ9.out] at a1 a2
                          have a3 := o.rf.blk.cell 0
                          rw [HN.out] at a3
                          exact ⟨a1, a2, ok32_of ro (by omega), row32_id ro, a3, o.rf.blk.cell 1⟩)
                        obtain ⟨hv, hhv⟩ : ∃ hv, hasF z9.F I z9.n z9.H = hv := ⟨_, rfl⟩
                        have V := Lib.hid hhv
                        obtain ⟨ov, hov⟩ : ∃ ov, onesF z9.F z9.n = ov := ⟨_, rfl⟩
                        have V1 := Lib.hid hov
                        have HB0 : Hid (Below w10.heap.size w10 w10.drew) := Lib.hid (Below.refl _ _).drew
                        have SA := KS.out _ HB0.out
                        clear hhv hov
                        go_wp2
                        refine wp_region_held_drew (S := fun w' => w'.cell? ⟨b, q, none⟩ = some (.pointer (some ⟨z9.P, 0, none⟩)) ∧ w'.cell? ⟨b + 1, q, none⟩ = some (.pointer (some ⟨z9.Q, 0, none⟩)) ∧ ok32 w' e 0 = true ∧ row32 w' e 0 = idA I ∧ w'.cell? ⟨z9.Q, 0, none⟩ = some (.int .i64 (N : Int)) ∧ w'.cell? ⟨z9.Q, 1, none⟩ = some (.int .i64 (z9.H : Int))) (by kernel_rfl) (by exact SA) (fun hHeld => ?_)
                        refine wpAnyH_take (i := 0) (oi := _) (v := _) rfl (by as_aux_lemma => kernel_rfl) (by as_aux_lemma => kernel_rfl) (by as_aux_lemma => kernel_rfl) (fun _ _ _ h => h) (Or.inl ⟨by kernel_rfl, by (intro w hSw; (try dsimp only at hSw); go_simp; first | done | with_reducible rfl)⟩) (by assumption) ?_
                        (try simp only [List.getElem_toArray, List.getElem_cons_succ, List.getElem_cons_zero, Act.put, List.setIfInBounds_toArray, List.set_cons_zero, List.set_cons_succ])
                        refine wpAnyH_take (i := 1) (oi := _) (v := _) rfl (by as_aux_lemma => kernel_rfl) (by as_aux_lemma => kernel_rfl) (by as_aux_lemma => kernel_rfl) (fun _ _ _ h => h) (Or.inl ⟨by kernel_rfl, by (intro w hSw; (try dsimp only at hSw); go_simp; first | done | with_reducible rfl)⟩) (by assumption) ?_
                        (try simp only [List.getElem_toArray, List.getElem_cons_succ, List.getElem_cons_zero, Act.put, List.setIfInBounds_toArray, List.set_cons_zero, List.set_cons_succ])
                        refine wpAnyH_take (i := 2) (oi := _) (v := _) rfl (by as_aux_lemma => kernel_rfl) (by as_aux_lemma => kernel_rfl) (by as_aux_lemma => kernel_rfl) (fun _ _ _ h => h) (Or.inl ⟨by kernel_rfl, by (intro w hSw; (try dsimp only at hSw); go_simp; first | done | with_reducible rfl)⟩) (by assumption) ?_
                        (try simp only [List.getElem_toArray, List.getElem_cons_succ, List.getElem_cons_zero, Act.put, List.setIfInBounds_toArray, List.set_cons_zero, List.set_cons_succ])
                        refine wpAnyH_take (i := 3) (oi := { dst := some 212, op := .load 28 (.tmp 22), type := 28, pos := "law.go:80", after := #[], guard := none }) (v := _) rfl (by as_aux_lemma => kernel_rfl) (by as_aux_lemma => kernel_rfl) (by as_aux_lemma => kernel_rfl) (fun _ _ _ h => h) (Or.inl ⟨by kernel_rfl, by (intro w hSw; (try dsimp only at hSw); go_simp; first | done | with_reducible rfl)⟩) (by assumption) ?_
                        (try simp only [List.getElem_toArray, List.getElem_cons_succ, List.getElem_cons_zero, Act.put, List.setIfInBounds_toArray, List.set_cons_zero, List.set_cons_succ])
                        refine wpAnyH_take (i := 5) (oi := _) (v := _) rfl (by as_aux_lemma => kernel_rfl) (by as_aux_lemma => kernel_rfl) (by as_aux_lemma => kernel_rfl) (fun _ _ _ h => h) (Or.inl ⟨by kernel_rfl, by (intro w hSw; (try dsimp only at hSw); go_simp; first | done | with_reducible rfl)⟩) (by assumption) ?_
                        (try simp only [List.getElem_toArray, List.getElem_cons_succ, List.getElem_cons_zero, Act.put, List.setIfInBounds_toArray, List.set_cons_zero, List.set_cons_succ])
                        refine wpAnyH_take (i := 6) (oi := _) (v := _) rfl (by as_aux_lemma => kernel_rfl) (by as_aux_lemma => kernel_rfl) (by as_aux_lemma => kernel_rfl) (fun _ _ _ h => h) (Or.inl ⟨by kernel_rfl, by (intro w hSw; (try dsimp only at hSw); go_simp; first | done | with_reducible rfl)⟩) (by assumption) ?_
                        (try simp only [List.getElem_toArray, List.getElem_cons_succ, List.getElem_cons_zero, Act.put, List.setIfInBounds_toArray, List.set_cons_zero, List.set_cons_succ])
                        refine wpAnyH_take (i := 7) (oi := _) (v := _) rfl (by as_aux_lemma => kernel_rfl) (by as_aux_lemma => kernel_rfl) (by as_aux_lemma => kernel_rfl) (fun _ _ _ h => h) (Or.inl ⟨by kernel_rfl, by (intro w hSw; (try dsimp only at hSw); go_simp; first | done | with_reducible rfl)⟩) (by assumption) ?_
                        (try simp only [List.getElem_toArray, List.getElem_cons_succ, List.getElem_cons_zero, Act.put, List.setIfInBounds_toArray, List.set_cons_zero, List.set_cons_succ])
                        refine wpAnyH_take (i := 8) (oi := { dst := some 217, op := .load 28 (.tmp 22), type := 28, pos := "law.go:80", after := #[], guard := none }) (v := _) rfl (by as_aux_lemma => kernel_rfl) (by as_aux_lemma => kernel_rfl) (by as_aux_lemma => kernel_rfl) (fun _ _ _ h => h) (Or.inl ⟨by kernel_rfl, by (intro w hSw; (try dsimp only at hSw); go_simp; first | done | with_reducible rfl)⟩) (by assumption) ?_
                        (try simp only [List.getElem_toArray, List.getElem_cons_succ, List.getElem_cons_zero, Act.put, List.setIfInBounds_toArray, List.set_cons_zero, List.set_cons_succ])
                        refine wpAnyH_ready (rs := [4]) (by as_aux_lemma => kernel_rfl) (by simp) (AllReadyH.cons rfl (fun K hK => ?_) AllReadyH.nil)
                        try simp only [List.getElem_toArray, List.getElem_cons_succ, List.getElem_cons_zero]
                        go_simp
                        go_at_call 15
                        refine (has_v V.out (KO.out _ HB0.out) rfl).mono ?_
                        rintro e wn ⟨rfl, hbn⟩
                        have HB1 := Lib.hid (HB0.out.trans (hbn.mono HB0.out.size))
                        have SA := KS.out _ HB1.out
                        clear hbn
                        go_simp
                        refine hK.out _ _ (by exact SA) (fun hHeld => ?_)
                        clear hK K
                        (try simp only [List.getElem_toArray, List.getElem_cons_succ, List.getElem_cons_zero, Act.put, List.setIfInBounds_toArray, List.set_cons_zero, List.set_cons_succ])
                        refine wpAnyH_ready (rs := [9]) (by as_aux_lemma => kernel_rfl) (by simp) (AllReadyH.cons rfl (fun K hK => ?_) AllReadyH.nil)
                        try simp only [List.getElem_toArray, List.getElem_cons_succ, List.getElem_cons_zero]
                        go_simp
                        go_at_call 35
                        refine (rhas_v V.out (KO.out _ HB1.out) BT9.out rfl).mono ?_
                        rintro e wn ⟨rfl, hbn⟩
                        have HB2 := Lib.hid (HB1.out.trans (hbn.mono HB1.out.size))
                        have SA := KS.out _ HB2.out
                        clear hbn
                        go_simp
                        refine hK.out _ _ (by exact SA) (fun hHeld => ?_)
                        clear hK K
                        (try simp only [List.getElem_toArray, List.getElem_cons_succ, List.getElem_cons_zero, Act.put, List.setIfInBounds_toArray, List.set_cons_zero, List.set_cons_succ])
                        refine wpAnyH_take (i := 10) (oi := _) (v := _) rfl (by as_aux_lemma => kernel_rfl) (by as_aux_lemma => kernel_rfl) (by as_aux_lemma => kernel_rfl) (fun _ _ _ h => h) (Or.inl ⟨by kernel_rfl, by (intro w hSw; (try dsimp only at hSw); go_simp; first | done | with_reducible rfl)⟩) (by assumption) ?_
                        (try simp only [List.getElem_toArray, List.getElem_cons_succ, List.getElem_cons_zero, Act.put, List.setIfInBounds_toArray, List.set_cons_zero, List.set_cons_succ])
                        refine wpAnyH_take (i := 11) (oi := _) (v := _) rfl (by as_aux_lemma => kernel_rfl) (by as_aux_lemma => kernel_rfl) (by as_aux_lemma => kernel_rfl) (fun _ _ _ h => h) (Or.inl ⟨by kernel_rfl, by (intro w hSw; (try dsimp only at hSw); go_simp; first | done | with_reducible rfl)⟩) (by assumption) ?_
                        (try simp only [List.getElem_toArray, List.getElem_cons_succ, List.getElem_cons_zero, Act.put, List.setIfInBounds_toArray, List.set_cons_zero, List.set_cons_succ])
                        refine wpAnyH_take (i := 12) (oi := _) (v := _) rfl (by as_aux_lemma => kernel_rfl) (by as_aux_lemma => kernel_rfl) (by as_aux_lemma => kernel_rfl) (fun _ _ _ h => h) (Or.inl ⟨by kernel_rfl, by (intro w hSw; (try dsimp only at hSw); go_simp; first | done | with_reducible rfl)⟩) (by assumption) ?_
                        (try simp only [List.getElem_toArray, List.getElem_cons_succ, List.getElem_cons_zero, Act.put, List.setIfInBounds_toArray, List.set_cons_zero, List.set_cons_succ])
                        refine wpAnyH_take (i := 13) (oi := _) (v := _) rfl (by as_aux_lemma => kernel_rfl) (by as_aux_lemma => kernel_rfl) (by as_aux_lemma => kernel_rfl) (fun _ _ _ h => h) (Or.inl ⟨by kernel_rfl, by (intro w hSw; (try dsimp only at hSw); go_simp; first | done | with_reducible rfl)⟩) (by assumption) ?_
                        (try simp only [List.getElem_toArray, List.getElem_cons_succ, List.getElem_cons_zero, Act.put, List.setIfInBounds_toArray, List.set_cons_zero, List.set_cons_succ])
                        refine wpAnyH_take (i := 14) (oi := _) (v := _) rfl (by as_aux_lemma => kernel_rfl) (by as_aux_lemma => kernel_rfl) (by as_aux_lemma => kernel_rfl) (fun _ _ _ h => h) (Or.inl ⟨by kernel_rfl, by (intro w hSw; (try dsimp only at hSw); go_simp; first | done | with_reducible rfl)⟩) (by assumption) ?_
                        (try simp only [List.getElem_toArray, List.getElem_cons_succ, List.getElem_cons_zero, Act.put, List.setIfInBounds_toArray, List.set_cons_zero, List.set_cons_succ])
                        refine wpAnyH_take (i := 15) (oi := _) (v := _) rfl (by as_aux_lemma => kernel_rfl) (by as_aux_lemma => kernel_rfl) (by as_aux_lemma => kernel_rfl) (fun _ _ _ h => h) (Or.inl ⟨by kernel_rfl, by (intro w hSw; (try dsimp only at hSw); go_simp; first | done | with_reducible rfl)⟩) (by assumption) ?_
                        (try simp only [List.getElem_toArray, List.getElem_cons_succ, List.getElem_cons_zero, Act.put, List.setIfInBounds_toArray, List.set_cons_zero, List.set_cons_succ])
                        refine wpAnyH_take (i := 16) (oi := _) (v := _) rfl (by as_aux_lemma => kernel_rfl) (by as_aux_lemma => kernel_rfl) (by as_aux_lemma => kernel_rfl) (fun _ _ _ h => h) (Or.inl ⟨by kernel_rfl, by (intro w hSw; (try dsimp only at hSw); go_simp; first | done | with_reducible rfl)⟩) (by assumption) ?_
                        (try simp only [List.getElem_toArray, List.getElem_cons_succ, List.getElem_cons_zero, Act.put, List.setIfInBounds_toArray, List.set_cons_zero, List.set_cons_succ])
                        refine wpAnyH_take (i := 17) (oi := _) (v := _) rfl (by as_aux_lemma => kernel_rfl) (by as_aux_lemma => kernel_rfl) (by as_aux_lemma => kernel_rfl) (fun _ _ _ h => h) (Or.inl ⟨by kernel_rfl, by (intro w hSw; (try dsimp only at hSw); go_simp; first | done | with_reducible rfl)⟩) (by assumption) ?_
                        (try simp only [List.getElem_toArray, List.getElem_cons_succ, List.getElem_cons_zero, Act.put, List.setIfInBounds_toArray, List.set_cons_zero, List.set_cons_succ])
                        refine wpAnyH_take (i := 18) (oi := _) (v := _) rfl (by as_aux_lemma => kernel_rfl) (by as_aux_lemma => kernel_rfl) (by as_aux_lemma => kernel_rfl) (fun _ _ _ h => h) (Or.inl ⟨by kernel_rfl, by (intro w hSw; (try dsimp only at hSw); go_simp; first | done | with_reducible rfl)⟩) (by assumption) ?_
                        (try simp only [List.getElem_toArray, List.getElem_cons_succ, List.getElem_cons_zero, Act.put, List.setIfInBounds_toArray, List.set_cons_zero, List.set_cons_succ])
                        refine wpAnyH_take (i := 19) (oi := _) (v := _) rfl (by as_aux_lemma => kernel_rfl) (by as_aux_lemma => kernel_rfl) (by as_aux_lemma => kernel_rfl) (fun _ _ _ h => h) (Or.inl ⟨by kernel_rfl, by (intro w hSw; (try dsimp only at hSw); go_simp; first | done | with_reducible rfl)⟩) (by assumption) ?_
                        (try simp only [List.getElem_toArray, List.getElem_cons_succ, List.getElem_cons_zero, Act.put, List.setIfInBounds_toArray, List.set_cons_zero, List.set_cons_succ])
                        refine wpAnyH_take (i := 20) (oi := _) (v := _) rfl (by as_aux_lemma => kernel_rfl) (by as_aux_lemma => kernel_rfl) (by as_aux_lemma => kernel_rfl) (fun _ _ _ h => h) (Or.inl ⟨by kernel_rfl, by (intro w hSw; (try dsimp only at hSw); go_simp; first | done | with_reducible rfl)⟩) (by assumption) ?_
                        (try simp only [List.getElem_toArray, List.getElem_cons_succ, List.getElem_cons_zero, Act.put, List.setIfInBounds_toArray, List.set_cons_zero, List.set_cons_succ])
                        refine wpAnyH_take (i := 21) (oi := _) (v := _) rfl (by as_aux_lemma => kernel_rfl) (by as_aux_lemma => kernel_rfl) (by as_aux_lemma => kernel_rfl) (fun _ _ _ h => h) (Or.inl ⟨by kernel_rfl, by (intro w hSw; (try dsimp only at hSw); go_simp; first | done | with_reducible rfl)⟩) (by assumption) ?_
                        (try simp only [List.getElem_toArray, List.getElem_cons_succ, List.getElem_cons_zero, Act.put, List.setIfInBounds_toArray, List.set_cons_zero, List.set_cons_succ])
                        refine wpAnyH_take (i := 22) (oi := _) (v := _) rfl (by as_aux_lemma => kernel_rfl) (by as_aux_lemma => kernel_rfl) (by as_aux_lemma => kernel_rfl) (fun _ _ _ h => h) (Or.inl ⟨by kernel_rfl, by (intro w hSw; (try dsimp only at hSw); go_simp; first | done | with_reducible rfl)⟩) (by assumption) ?_
                        (try simp only [List.getElem_toArray, List.getElem_cons_succ, List.getElem_cons_zero, Act.put, List.setIfInBounds_toArray, List.set_cons_zero, List.set_cons_succ])
                        refine wpAnyH_take (i := 23) (oi := _) (v := _) rfl (by as_aux_lemma => kernel_rfl) (by as_aux_lemma => kernel_rfl) (by as_aux_lemma => kernel_rfl) (fun _ _ _ h => h) (Or.inl ⟨by kernel_rfl, by (intro w hSw; (try dsimp only at hSw); go_simp; first | done | with_reducible rfl)⟩) (by assumption) ?_
                        (try simp only [List.getElem_toArray, List.getElem_cons_succ, List.getElem_cons_zero, Act.put, List.setIfInBounds_toArray, List.set_cons_zero, List.set_cons_succ])
                        refine wpAnyH_take (i := 24) (oi := _) (v := _) rfl (by as_aux_lemma => kernel_rfl) (by as_aux_lemma => kernel_rfl) (by as_aux_lemma => kernel_rfl) (fun _ _ _ h => h) (Or.inl ⟨by kernel_rfl, by (intro w hSw; (try dsimp only at hSw); go_simp; first | done | with_reducible rfl)⟩) (by assumption) ?_
                        (try simp only [List.getElem_toArray, List.getElem_cons_succ, List.getElem_cons_zero, Act.put, List.setIfInBounds_toArray, List.set_cons_zero, List.set_cons_succ])
                        refine wpAnyH_take (i := 25) (oi := _) (v := _) rfl (by as_aux_lemma => kernel_rfl) (by as_aux_lemma => kernel_rfl) (by as_aux_lemma => kernel_rfl) (fun _ _ _ h => h) (Or.inl ⟨by kernel_rfl, by (intro w hSw; (try dsimp only at hSw); go_simp; first | done | with_reducible rfl)⟩) (by assumption) ?_
                        (try simp only [List.getElem_toArray, List.getElem_cons_succ, List.getElem_cons_zero, Act.put, List.setIfInBounds_toArray, List.set_cons_zero, List.set_cons_succ])
                        refine wpAnyH_take (i := 26) (oi := _) (v := _) rfl (by as_aux_lemma => kernel_rfl) (by as_aux_lemma => kernel_rfl) (by as_aux_lemma => kernel_rfl) (fun _ _ _ h => h) (Or.inl ⟨by kernel_rfl, by (intro w hSw; (try dsimp only at hSw); go_simp; first | done | with_reducible rfl)⟩) (by assumption) ?_
                        (try simp only [List.getElem_toArray, List.getElem_cons_succ, List.getElem_cons_zero, Act.put, List.setIfInBounds_toArray, List.set_cons_zero, List.set_cons_succ])
                        refine wpAnyH_take (i := 27) (oi := _) (v := _) rfl (by as_aux_lemma => kernel_rfl) (by as_aux_lemma => kernel_rfl) (by as_aux_lemma => kernel_rfl) (fun _ _ _ h => h) (Or.inl ⟨by kernel_rfl, by (intro w hSw; (try dsimp only at hSw); go_simp; first | done | with_reducible rfl)⟩) (by assumption) ?_
                        (try simp only [List.getElem_toArray, List.getElem_cons_succ, List.getElem_cons_zero, Act.put, List.setIfInBounds_toArray, List.set_cons_zero, List.set_cons_succ])
                        refine wpAnyH_take (i := 28) (oi := _) (v := _) rfl (by as_aux_lemma => kernel_rfl) (by as_aux_lemma => kernel_rfl) (by as_aux_lemma => kernel_rfl) (fun _ _ _ h => h) (Or.inl ⟨by kernel_rfl, by (intro w hSw; (try dsimp only at hSw); go_simp; first | done | with_reducible rfl)⟩) (by assumption) ?_
                        (try simp only [List.getElem_toArray, List.getElem_cons_succ, List.getElem_cons_zero, Act.put, List.setIfInBounds_toArray, List.set_cons_zero, List.set_cons_succ])
                        refine wpAnyH_take (i := 29) (oi := _) (v := _) rfl (by as_aux_lemma => kernel_rfl) (by as_aux_lemma => kernel_rfl) (by as_aux_lemma => kernel_rfl) (fun _ _ _ h => h) (Or.inl ⟨by kernel_rfl, by (intro w hSw; (try dsimp only at hSw); go_simp; first | done | with_reducible rfl)⟩) (by assumption) ?_
                        (try simp only [List.getElem_toArray, List.getElem_cons_succ, List.getElem_cons_zero, Act.put, List.setIfInBounds_toArray, List.set_cons_zero, List.set_cons_succ])
                        refine wpAnyH_take (i := 30) (oi := _) (v := _) rfl (by as_aux_lemma => kernel_rfl) (by as_aux_lemma => kernel_rfl) (by as_aux_lemma => kernel_rfl) (fun _ _ _ h => h) (Or.inl ⟨by kernel_rfl, by (intro w hSw; (try dsimp only at hSw); go_simp; first | done | with_reducible rfl)⟩) (by assumption) ?_
                        (try simp only [List.getElem_toArray, List.getElem_cons_succ, List.getElem_cons_zero, Act.put, List.setIfInBounds_toArray, List.set_cons_zero, List.set_cons_succ])
                        refine wpAnyH_take (i := 31) (oi := _) (v := _) rfl (by as_aux_lemma => kernel_rfl) (by as_aux_lemma => kernel_rfl) (by as_aux_lemma => kernel_rfl) (fun _ _ _ h => h) (Or.inl ⟨by kernel_rfl, by (intro w hSw; (try dsimp only at hSw); go_simp; first | done | with_reducible rfl)⟩) (by assumption) ?_
                        (try simp only [List.getElem_toArray, List.getElem_cons_succ, List.getElem_cons_zero, Act.put, List.setIfInBounds_toArray, List.set_cons_zero, List.set_cons_succ])
                        refine wpAnyH_take (i := 32) (oi := _) (v := _) rfl (by as_aux_lemma => kernel_rfl) (by as_aux_lemma => kernel_rfl) (by as_aux_lemma => kernel_rfl) (fun _ _ _ h => h) (Or.inl ⟨by kernel_rfl, by (intro w hSw; (try dsimp only at hSw); go_simp; first | done | with_reducible rfl)⟩) (by assumption) ?_
                        (try simp only [List.getElem_toArray, List.getElem_cons_succ, List.getElem_cons_zero, Act.put, List.setIfInBounds_toArray, List.set_cons_zero, List.set_cons_succ])
                        refine wpAnyH_take (i := 33) (oi := _) (v := _) rfl (by as_aux_lemma => kernel_rfl) (by as_aux_lemma => kernel_rfl) (by as_aux_lemma => kernel_rfl) (fun _ _ _ h => h) (Or.inl ⟨by kernel_rfl, by (intro w hSw; (try dsimp only at hSw); go_simp; first | done | with_reducible rfl)⟩) (by assumption) ?_
                        (try simp only [List.getElem_toArray, List.getElem_cons_succ, List.getElem_cons_zero, Act.put, List.setIfInBounds_toArray, List.set_cons_zero, List.set_cons_succ])
                        refine wpAnyH_take (i := 34) (oi := _) (v := _) rfl (by as_aux_lemma => kernel_rfl) (by as_aux_lemma => kernel_rfl) (by as_aux_lemma => kernel_rfl) (fun _ _ _ h => h) (Or.inl ⟨by kernel_rfl, by (intro w hSw; (try dsimp only at hSw); go_simp; first | done | with_reducible rfl)⟩) (by assumption) ?_
                        (try simp only [List.getElem_toArray, List.getElem_cons_succ, List.getElem_cons_zero, Act.put, List.setIfInBounds_toArray, List.set_cons_zero, List.set_cons_succ])
                        refine wpAnyH_take (i := 36) (oi := _) (v := _) rfl (by as_aux_lemma => kernel_rfl) (by as_aux_lemma => kernel_rfl) (by as_aux_lemma => kernel_rfl) (fun _ _ _ h => h) (Or.inl ⟨by kernel_rfl, by (intro w hSw; (try dsimp only at hSw); go_simp; first | done | with_reducible rfl)⟩) (by assumption) ?_
                        (try simp only [List.getElem_toArray, List.getElem_cons_succ, List.getElem_cons_zero, Act.put, List.setIfInBounds_toArray, List.set_cons_zero, List.set_cons_succ])
                        refine wpAnyH_take (i := 37) (oi := _) (v := _) rfl (by as_aux_lemma => kernel_rfl) (by as_aux_lemma => kernel_rfl) (by as_aux_lemma => kernel_rfl) (fun _ _ _ h => h) (Or.inl ⟨by kernel_rfl, by (intro w hSw; (try dsimp only at hSw); go_simp; first | done | with_reducible rfl)⟩) (by assumption) ?_
                        (try simp only [List.getElem_toArray, List.getElem_cons_succ, List.getElem_cons_zero, Act.put, List.setIfInBounds_toArray, List.set_cons_zero, List.set_cons_succ])
                        refine wpAnyH_take (i := 38) (oi := _) (v := _) rfl (by as_aux_lemma => kernel_rfl) (by as_aux_lemma => kernel_rfl) (by as_aux_lemma => kernel_rfl) (fun _ _ _ h => h) (Or.inl ⟨by kernel_rfl, by (intro w hSw; (try dsimp only at hSw); go_simp; first | done | with_reducible rfl)⟩) (by assumption) ?_
                        (try simp only [List.getElem_toArray, List.getElem_cons_succ, List.getElem_cons_zero, Act.put, List.setIfInBounds_toArray, List.set_cons_zero, List.set_cons_succ])
                        refine wpAnyH_ready (rs := [35]) (by as_aux_lemma => kernel_rfl) (by simp) (AllReadyH.cons rfl (fun K hK => ?_) AllReadyH.nil)
                        try simp only [List.getElem_toArray, List.getElem_cons_succ, List.getElem_cons_zero]
                        go_simp
                        go_at_call 24
                        refine (ones_v V1.out (KO.out _ HB2.out)).mono ?_
                        rintro e wn ⟨rfl, rfl⟩
                        go_simp
                        refine hK.out _ _ (by exact SA) (fun hHeld => ?_)
                        clear hK K
                        (try simp only [List.getElem_toArray, List.getElem_cons_succ, List.getElem_cons_zero, Act.put, List.setIfInBounds_toArray, List.set_cons_zero, List.set_cons_succ])
                        refine wpAnyH_ready (rs := [39]) (by as_aux_lemma => kernel_rfl) (by simp) (AllReadyH.cons rfl (fun K hK => ?_) AllReadyH.nil)
                        try simp only [List.getElem_toArray, List.getElem_cons_succ, List.getElem_cons_zero]
                        go_simp
                        go_at_call 36
                        refine (rones_v V1.out (KO.out _ HB2.out) BT9.out).mono ?_
                        rintro e wn ⟨rfl, rfl⟩
                        go_simp
                        refine hK.out _ _ (by exact SA) (fun hHeld => ?_)
                        clear hK K
                        (try simp only [List.getElem_toArray, List.getElem_cons_succ, List.getElem_cons_zero, Act.put, List.setIfInBounds_toArray, List.set_cons_zero, List.set_cons_succ])
                        refine wpAnyH_take (i := 40) (oi := _) (v := _) rfl (by as_aux_lemma => kernel_rfl) (by as_aux_lemma => kernel_rfl) (by as_aux_lemma => kernel_rfl) (fun _ _ _ h => h) (Or.inl ⟨by kernel_rfl, by (intro w hSw; (try dsimp only at hSw); go_simp; first | done | with_reducible rfl)⟩) (by assumption) ?_
                        (try simp only [List.getElem_toArray, List.getElem_cons_succ, List.getElem_cons_zero, Act.put, List.setIfInBounds_toArray, List.set_cons_zero, List.set_cons_succ])
                        refine wpAnyH_take (i := 41) (oi := _) (v := _) rfl (by as_aux_lemma => kernel_rfl) (by as_aux_lemma => kernel_rfl) (by as_aux_lemma => kernel_rfl) (fun _ _ _ h => h) (Or.inl ⟨by kernel_rfl, by (intro w hSw; (try dsimp only at hSw); go_simp; first | done | with_reducible rfl)⟩) (by assumption) ?_
                        (try simp only [List.getElem_toArray, List.getElem_cons_succ, List.getElem_cons_zero, Act.put, List.setIfInBounds_toArray, List.set_cons_zero, List.set_cons_succ])
                        refine wpAnyH_done (by as_aux_lemma => kernel_rfl) ?_ _
                        have RE : Hid (Two b w wn b (b + 1) X9 ∧ Bts X9) := Lib.hid ⟨R10.out.1.mono R10.out.1.low HB2.out, BTS9.out⟩
                        clear SA KS KO V V1 HB0 HB1 HB2
                        go_wp2
                        go_roundw
                        case rel => exact ⟨k + 1, X9, by omega, by omega, by go_num, RE⟩
                        case measure => simp [intOf]; omega
                    ·
                      by_cases k0 : kind = 0
                      ·
                        as_aux_lemma =>
                          subst k0
                          go_upto_region 28 with fail
                          clear c1 cm
                          have T0 : Hid (Two b w w5.drew b (b + 1) X ∧ w5.drew.rowIs e 28 32 (u8V I)) := Lib.hid ⟨E5.out.1.mono E5.out.1.low ((Below.refl _ _).drew), E5.out.2.2.of_block rfl⟩
                          have SA : w5.drew.cell? ⟨b + 1, q, none⟩ = some (.pointer (some ⟨z.Q, 0, none⟩)) ∧ ok32 w5.drew e 0 = true ∧ row32 w5.drew e 0 = idA I := ⟨T0.out.1.mq hq2 HZQ.out, ok32_of T0.out.2 (by omega), row32_id T0.out.2⟩
                          refine wp_region_held_drew (S := fun w' => w'.cell? ⟨b + 1, q, none⟩ = some (.pointer (some ⟨z.Q, 0, none⟩)) ∧ ok32 w' e 0 = true ∧ row32 w' e 0 = idA I) (by kernel_rfl) (by exact SA) (fun hHeld => ?_)
                          refine wpAnyH_take (i := 0) (oi := _) (v := _) rfl (by as_aux_lemma => kernel_rfl) (by as_aux_lemma => kernel_rfl) (by as_aux_lemma => kernel_rfl) (fun _ _ _ h => h) (Or.inl ⟨by kernel_rfl, by (intro w hSw; (try dsimp only at hSw); go_simp; first | done | with_reducible rfl)⟩) (by assumption) ?_
                          (try simp only [List.getElem_toArray, List.getElem_cons_succ, List.getElem_cons_zero, Act.put, List.setIfInBounds_toArray, List.set_cons_zero, List.set_cons_succ])
                          refine wpAnyH_take (i := 1) (oi := _) (v := _) rfl (by as_aux_lemma => kernel_rfl) (by as_aux_lemma => kernel_rfl) (by as_aux_lemma => kernel_rfl) (fun _ _ _ h => h) (Or.inl ⟨by kernel_rfl, by (intro w hSw; (try dsimp only at hSw); go_simp; first | done | with_reducible rfl)⟩) (by assumption) ?_
                          (try simp only [List.getElem_toArray, List.getElem_cons_succ, List.getElem_cons_zero, Act.put, List.setIfInBounds_toArray, List.set_cons_zero, List.set_cons_succ])
                          refine wpAnyH_take (i := 2) (oi := _) (v := _) rfl (by as_aux_lemma => kernel_rfl) (by as_aux_lemma => kernel_rfl) (by as_aux_lemma => kernel_rfl) (fun _ _ _ h => h) (Or.inl ⟨by kernel_rfl, by (intro w hSw; (try dsimp only at hSw); go_simp; first | done | with_reducible rfl)⟩) (by assumption) ?_
                          (try simp only [List.getElem_toArray, List.getElem_cons_succ, List.getElem_cons_zero, Act.put, List.setIfInBounds_toArray, List.set_cons_zero, List.set_cons_succ])
                          refine wpAnyH_take (i := 3) (oi := { dst := some 129, op := .load 28 (.tmp 22), type := 28, pos := "law.go:58", after := #[], guard := none }) (v := _) rfl (by as_aux_lemma => kernel_rfl) (by as_aux_lemma => kernel_rfl) (by as_aux_lemma => kernel_rfl) (fun _ _ _ h => h) (Or.inl ⟨by kernel_rfl, by (intro w hSw; (try dsimp only at hSw); go_simp; first | done | with_reducible rfl)⟩) (by assumption) ?_
                          (try simp only [List.getElem_toArray, List.getElem_cons_succ, List.getElem_cons_zero, Act.put, List.setIfInBounds_toArray, List.set_cons_zero, List.set_cons_succ])
                          refine wpAnyH_ready (rs := [4]) (by as_aux_lemma => kernel_rfl) (by simp) (AllReadyH.cons rfl (fun K hK => ?_) AllReadyH.nil)
                          try simp only [List.getElem_toArray, List.getElem_cons_succ, List.getElem_cons_zero]
                          go_simp
                          go_at_call 31
                          refine (radd_v (T0.out.1.ok q z hq2 HZQ.out)).mono ?_
                          rintro e9 w6 ⟨rfl, hr6, hg6⟩
                          have T1 : Hid (Two b w w6 b (b + 1) (up X q { z with B := addB z.B I z.n z.H }) ∧ w6.rowIs e 28 32 (u8V I)) := Lib.hid ⟨T0.out.1.setB hq2 HZQ.out hr6 hg6, row_far T0.out.2 (bufIs.of_row (T0.out.1.ok q z hq2 HZQ.out).rf.row) (by decide) hg6⟩
                          have SA : w6.cell? ⟨b + 1, q, none⟩ = some (.pointer (some ⟨z.Q, 0, none⟩)) ∧ ok32 w6 e 0 = true ∧ row32 w6 e 0 = idA I := ⟨(by have s := T1.out.1.mq hq2 (up_at X q { z with B := addB z.B I z.n z.H }); exact s), ok32_of T1.out.2 (by omega), row32_id T1.out.2⟩
                          clear hr6 hg6 T0
                          go_simp
                          refine hK.out _ _ (by exact SA) (fun hHeld => ?_)
                          clear hK K
                          (try simp only [List.getElem_toArray, List.getElem_cons_succ, List.getElem_cons_zero, Act.put, List.setIfInBounds_toArray, List.set_cons_zero, List.set_cons_succ])
                          refine wpAnyH_done (by as_aux_lemma => kernel_rfl) ?_ _
                          clear SA
                          go_upto_region 29 with fail
                          obtain ⟨z1, hz1⟩ : ∃ z1 : Fm, z1 = { z with B := addB z.B I z.n z.H } := ⟨_, rfl⟩
                          rw [← hz1] at T1
                          have hzP : z.P = z1.P := by rw [hz1]
                          have B1 : Hid (Bt z1.B (addF z1.F I z1.n z1.H) z1.n) := Lib.hid (by rw [hz1]; exact (E5.out.2.1 q z hq2 HZQ.out).add I z.H)
                          have BS := Lib.hid E5.out.2.1
                          clear hz1 hzP E5
                          have T2 : Hid (Two b w w6.drew b (b + 1) (up X q z1) ∧ w6.drew.rowIs e 28 32 (u8V I)) := Lib.hid ⟨T1.out.1.mono T1.out.1.low ((Below.refl _ _).drew), T1.out.2.of_block rfl⟩
                          clear T1
                          have SA : w6.drew.cell? ⟨b, q, none⟩ = some (.pointer (some ⟨z1.P, 0, none⟩)) ∧ ok32 w6.drew e 0 = true ∧ row32 w6.drew e 0 = idA I := ⟨T2.out.1.pq hq2 (up_at X q z1), ok32_of T2.out.2 (by omega), row32_id T2.out.2⟩
                          refine wp_region_held_drew (S := fun w' => w'.cell? ⟨b, q, none⟩ = some (.pointer (some ⟨z1.P, 0, none⟩)) ∧ ok32 w' e 0 = true ∧ row32 w' e 0 = idA I) (by kernel_rfl) (by exact SA) (fun hHeld => ?_)
                          refine wpAnyH_take (i := 0) (oi := _) (v := _) rfl (by as_aux_lemma => kernel_rfl) (by as_aux_lemma => kernel_rfl) (by as_aux_lemma => kernel_rfl) (fun _ _ _ h => h) (Or.inl ⟨by kernel_rfl, by (intro w hSw; (try dsimp only at hSw); go_simp; first | done | with_reducible rfl)⟩) (by assumption) ?_
                          (try simp only [List.getElem_toArray, List.getElem_cons_succ, List.getElem_cons_zero, Act.put, List.setIfInBounds_toArray, List.set_cons_zero, List.set_cons_succ])
                          refine wpAnyH_take (i := 1) (oi := _) (v := _) rfl (by as_aux_lemma => kernel_rfl) (by as_aux_lemma => kernel_rfl) (by as_aux_lemma => kernel_rfl) (fun _ _ _ h => h) (Or.inl ⟨by kernel_rfl, by (intro w hSw; (try dsimp only at hSw); go_simp; first | done | with_reducible rfl)⟩) (by assumption) ?_
                          (try simp only [List.getElem_toArray, List.getElem_cons_succ, List.getElem_cons_zero, Act.put, List.setIfInBounds_toArray, List.set_cons_zero, List.set_cons_succ])
                          refine wpAnyH_take (i := 2) (oi := _) (v := _) rfl (by as_aux_lemma => kernel_rfl) (by as_aux_lemma => kernel_rfl) (by as_aux_lemma => kernel_rfl) (fun _ _ _ h => h) (Or.inl ⟨by kernel_rfl, by (intro w hSw; (try dsimp only at hSw); go_simp; first | done | with_reducible rfl)⟩) (by assumption) ?_
                          (try simp only [List.getElem_toArray, List.getElem_cons_succ, List.getElem_cons_zero, Act.put, List.setIfInBounds_toArray, List.set_cons_zero, List.set_cons_succ])
                          refine wpAnyH_take (i := 3) (oi := { dst := some 134, op := .load 28 (.tmp 22), type := 28, pos := "law.go:59", after := #[], guard := none }) (v := _) rfl (by as_aux_lemma => kernel_rfl) (by as_aux_lemma => kernel_rfl) (by as_aux_lemma => kernel_rfl) (fun _ _ _ h => h) (Or.inl ⟨by kernel_rfl, by (intro w hSw; (try dsimp only at hSw); go_simp; first | done | with_reducible rfl)⟩) (by assumption) ?_
                          (try simp only [List.getElem_toArray, List.getElem_cons_succ, List.getElem_cons_zero, Act.put, List.setIfInBounds_toArray, List.set_cons_zero, List.set_cons_succ])
                          refine wpAnyH_ready (rs := [4]) (by as_aux_lemma => kernel_rfl) (by simp) (AllReadyH.cons rfl (fun K hK => ?_) AllReadyH.nil)
                          try simp only [List.getElem_toArray, List.getElem_cons_succ, List.getElem_cons_zero]
                          go_simp
                          go_at_call 28
                          refine (add_v (T2.out.1.ok q z1 hq2 (up_at X q z1))).mono ?_
                          rintro e9 w7 ⟨rfl, hf7, hg7⟩
                          have T3 : Hid (Two b w w7 b (b + 1) (up X q { z1 with F := addF z1.F I z1.n z1.H }) ∧ w7.rowIs e 28 32 (u8V I)) := Lib.hid ⟨by have r := T2.out.1.setF hq2 (up_at X q z1) hf7 hg7; rwa [up_up] at r, row_far T2.out.2 (T2.out.1.ok q z1 hq2 (up_at X q z1)).flt.buf (by decide) hg7⟩
                          have SA : w7.cell? ⟨b, q, none⟩ = some (.pointer (some ⟨z1.P, 0, none⟩)) ∧ ok32 w7 e 0 = true ∧ row32 w7 e 0 = idA I := ⟨(by have s := T3.out.1.pq hq2 (up_at X q { z1 with F := addF z1.F I z1.n z1.H }); exact s), ok32_of T3.out.2 (by omega), row32_id T3.out.2⟩
                          clear hf7 hg7 T2
                          go_simp
                          refine hK.out _ _ (by exact SA) (fun hHeld => ?_)
                          clear hK K
                          (try simp only [List.getElem_toArray, List.getElem_cons_succ, List.getElem_cons_zero, Act.put, List.setIfInBounds_toArray, List.set_cons_zero, List.set_cons_succ])
                          refine wpAnyH_take (i := 5) (oi := _) (v := _) rfl (by as_aux_lemma => kernel_rfl) (by as_aux_lemma => kernel_rfl) (by as_aux_lemma => kernel_rfl) (fun _ _ _ h => h) (Or.inl ⟨by kernel_rfl, by (intro w hSw; (try dsimp only at hSw); go_simp; first | done | with_reducible rfl)⟩) (by assumption) ?_
                          (try simp only [List.getElem_toArray, List.getElem_cons_succ, List.getElem_cons_zero, Act.put, List.setIfInBounds_toArray, List.set_cons_zero, List.set_cons_succ])
                          refine wpAnyH_done (by as_aux_lemma => kernel_rfl) ?_ _
                          clear SA
                          obtain ⟨z9, hz9⟩ : ∃ z9 : Fm, z9 = { z1 with F := addF z1.F I z1.n z1.H } := ⟨_, rfl⟩
                          rw [← hz9] at T3
                          have R9 : Hid (Two b w w7 b (b + 1) (up X q z9) ∧ Bts (up X q z9) ∧ w7.rowIs e 28 32 (u8V I)) := Lib.hid ⟨T3.out.1, BS.out.put (by rw [hz9]; exact B1.out), T3.out.2⟩
                          obtain ⟨X9, hX9⟩ : ∃ X9, up X q z9 = X9 := ⟨_, rfl⟩
                          rw [hX9] at R9
                          have ZQ9 : Hid (X9 q = some z9) := Lib.hid (by rw [← hX9]; exact up_at X q z9)
                          clear hX9 hz9 T3 B1 BS

                          go_wp2
                          go_meet
                          exact ⟨X9, z9, R9.out.1, R9.out.2.1, R9.out.2.2, ZQ9.out⟩
                      by_cases k1 : kind = 1
                      ·
                        subst k1
                        clear k0
                        obtain ⟨q', hq'⟩ : ∃ q', 1 - q = q' := ⟨_, rfl⟩
                        have hq1 : (1 : Int) - (q : Int) = (q' : Int) := by omega
                        have hq'2 : q' < 2 := by omega
                        have hq'i : (q' : Int) < 2 := by omega
                        have hne : q ≠ q' := by omega
                        have hqw : IntKind.i64.wrap (q' : Int) = (q' : Int) := IntWalk.i64_in _ (by omega)
                        clear hq'
                        have TD : Hid (Two b w w5.drew b (b + 1) X ∧ Bts X ∧ w5.drew.rowIs e 28 32 (u8V I)) := Lib.hid ⟨E5.out.1.mono E5.out.1.low ((Below.refl _ _).drew), E5.out.2.1, E5.out.2.2.of_block rfl⟩
                        have cmq := E5.out.1.m q' hq'2
                        cases huq : X q' with
                        | none =>
                          as_aux_lemma =>
                            rw [huq] at cmq
                            unfold mp at cmq
                            have HU := Lib.hid huq
                            clear huq
                            go_upto_region 35 with fail
                            clear cmq cm c1 E5
                            have SA : w5.drew.cell? ⟨b, q, none⟩ = some (.pointer (some ⟨z.P, 0, none⟩)) ∧ w5.drew.cell? ⟨b, q', none⟩ = some (.pointer none) := ⟨TD.out.1.pq hq2 HZQ.out, by have r := TD.out.1.f q' hq'2; rw [HU.out] at r; exact r⟩
                            refine wp_region_held_drew (S := fun w' => w'.cell? ⟨b, q, none⟩ = some (.pointer (some ⟨z.P, 0, none⟩)) ∧ w'.cell? ⟨b, q', none⟩ = some (.pointer none)) (by kernel_rfl) (by exact SA) (fun hHeld => ?_)
                            refine wpAnyH_take (i := 0) (oi := _) (v := _) rfl (by as_aux_lemma => kernel_rfl) (by as_aux_lemma => kernel_rfl) (by as_aux_lemma => kernel_rfl) (fun _ _ _ h => h) (Or.inl ⟨by kernel_rfl, by (intro w hSw; (try dsimp only at hSw); go_simp; first | done | with_reducible rfl)⟩) (by assumption) ?_
                            (try simp only [List.getElem_toArray, List.getElem_cons_succ, List.getElem_cons_zero, Act.put, List.setIfInBounds_toArray, List.set_cons_zero, List.set_cons_succ])
                            refine wpAnyH_take (i := 1) (oi := _) (v := _) rfl (by as_aux_lemma => kernel_rfl) (by as_aux_lemma => kernel_rfl) (by as_aux_lemma => kernel_rfl) (fun _ _ _ h => h) (Or.inl ⟨by kernel_rfl, by (intro w hSw; (try dsimp only at hSw); go_simp; first | done | with_reducible rfl)⟩) (by assumption) ?_
                            (try simp only [List.getElem_toArray, List.getElem_cons_succ, List.getElem_cons_zero, Act.put, List.setIfInBounds_toArray, List.set_cons_zero, List.set_cons_succ])
                            refine wpAnyH_take (i := 2) (oi := _) (v := _) rfl (by as_aux_lemma => kernel_rfl) (by as_aux_lemma => kernel_rfl) (by as_aux_lemma => kernel_rfl) (fun _ _ _ h => h) (Or.inl ⟨by kernel_rfl, by (intro w hSw; (try dsimp only at hSw); go_simp; first | done | with_reducible rfl)⟩) (by assumption) ?_
                            (try simp only [List.getElem_toArray, List.getElem_cons_succ, List.getElem_cons_zero, Act.put, List.setIfInBounds_toArray, List.set_cons_zero, List.set_cons_succ])
                            refine wpAnyH_take (i := 3) (oi := _) (v := _) rfl (by as_aux_lemma => kernel_rfl) (by as_aux_lemma => kernel_rfl) (by as_aux_lemma => kernel_rfl) (fun _ _ _ h => h) (Or.inl ⟨by kernel_rfl, by (intro w hSw; (try dsimp only at hSw); go_simp; first | done | with_reducible rfl)⟩) (by assumption) ?_
                            (try simp only [List.getElem_toArray, List.getElem_cons_succ, List.getElem_cons_zero, Act.put, List.setIfInBounds_toArray, List.set_cons_zero, List.set_cons_succ])
                            refine wpAnyH_take (i := 4) (oi := _) (v := _) rfl (by as_aux_lemma => kernel_rfl) (by as_aux_lemma => kernel_rfl) (by as_aux_lemma => kernel_rfl) (fun _ _ _ h => h) (Or.inl ⟨by kernel_rfl, by (intro w hSw; (try dsimp only at hSw); go_simp; first | done | with_reducible rfl)⟩) (by assumption) ?_
                            (try simp only [List.getElem_toArray, List.getElem_cons_succ, List.getElem_cons_zero, Act.put, List.setIfInBounds_toArray, List.set_cons_zero, List.set_cons_succ])
                            refine wpAnyH_take (i := 5) (oi := _) (v := _) rfl (by as_aux_lemma => kernel_rfl) (by as_aux_lemma => kernel_rfl) (by as_aux_lemma => kernel_rfl) (fun _ _ _ h => h) (Or.inl ⟨by kernel_rfl, by (intro w hSw; (try dsimp only at hSw); go_simp; first | done | with_reducible rfl)⟩) (by assumption) ?_
                            (try simp only [List.getElem_toArray, List.getElem_cons_succ, List.getElem_cons_zero, Act.put, List.setIfInBounds_toArray, List.set_cons_zero, List.set_cons_succ])
                            refine wpAnyH_take (i := 6) (oi := _) (v := _) rfl (by as_aux_lemma => kernel_rfl) (by as_aux_lemma => kernel_rfl) (by as_aux_lemma => kernel_rfl) (fun _ _ _ h => h) (Or.inl ⟨by kernel_rfl, by (intro w hSw; (try dsimp only at hSw); go_simp; first | done | with_reducible rfl)⟩) (by assumption) ?_
                            (try simp only [List.getElem_toArray, List.getElem_cons_succ, List.getElem_cons_zero, Act.put, List.setIfInBounds_toArray, List.set_cons_zero, List.set_cons_succ])
                            refine wpAnyH_take (i := 8) (oi := _) (v := _) rfl (by as_aux_lemma => kernel_rfl) (by as_aux_lemma => kernel_rfl) (by as_aux_lemma => kernel_rfl) (fun _ _ _ h => h) (Or.inl ⟨by kernel_rfl, by (intro w hSw; (try dsimp only at hSw); go_simp; first | done | with_reducible rfl)⟩) (by assumption) ?_
                            (try simp only [List.getElem_toArray, List.getElem_cons_succ, List.getElem_cons_zero, Act.put, List.setIfInBounds_toArray, List.set_cons_zero, List.set_cons_succ])
                            refine wpAnyH_ready (rs := [7]) (by as_aux_lemma => kernel_rfl) (by simp) (AllReadyH.cons rfl (fun K hK => ?_) AllReadyH.nil)
                            try simp only [List.getElem_toArray, List.getElem_cons_succ, List.getElem_cons_zero]
                            go_simp
                            go_at_call 25
                            refine (joinNil2_any z.P _).mono ?_
                            rintro e9 w6 ⟨rfl, rfl⟩
                            go_simp
                            refine hK.out _ _ (by exact SA) (fun hHeld => ?_)
                            clear hK K
                            (try simp only [List.getElem_toArray, List.getElem_cons_succ, List.getElem_cons_zero, Act.put, List.setIfInBounds_toArray, List.set_cons_zero, List.set_cons_succ])
                            refine wpAnyH_take (i := 9) (oi := _) (v := _) rfl (by as_aux_lemma => kernel_rfl) (by as_aux_lemma => kernel_rfl) (by as_aux_lemma => kernel_rfl) (fun _ _ _ h => h) (Or.inl ⟨by kernel_rfl, by (intro w hSw; (try dsimp only at hSw); go_simp; first | done | with_reducible rfl)⟩) (by assumption) ?_
                            (try simp only [List.getElem_toArray, List.getElem_cons_succ, List.getElem_cons_zero, Act.put, List.setIfInBounds_toArray, List.set_cons_zero, List.set_cons_succ])
                            refine wpAnyH_done (by as_aux_lemma => kernel_rfl) ?_ _
                            clear SA
                            have R9 : Hid (Two b w w5.drew b (b + 1) X ∧ Bts X ∧ w5.drew.rowIs e 28 32 (u8V I)) := TD
                            obtain ⟨X9, hX9⟩ : ∃ X9, X = X9 := ⟨_, rfl⟩
                            obtain ⟨z9, hz9⟩ : ∃ z9, z = z9 := ⟨_, rfl⟩
                            rw [hX9] at R9 HZQ
                            rw [hz9] at HZQ
                            have ZQ9 := HZQ
                            clear hX9 hz9 TD

                            go_wp2
                            go_meet
                            exact ⟨X9, z9, R9.out.1, R9.out.2.1, R9.out.2.2, ZQ9.out⟩
                        | some u =>
                          rw [huq] at cmq
                          unfold mp at cmq
                          have HU := Lib.hid huq
                          clear huq
                          have HAP := Lib.hid (E5.out.1.apart q q' z u hq2 hq'2 hne HZQ.out HU.out)
                          go_upto_region 34 with fail
                          clear cmq cm c1 E5
                          have SA : w5.drew.cell? ⟨b + 1, q, none⟩ = some (.pointer (some ⟨z.Q, 0, none⟩)) ∧ w5.drew.cell? ⟨b + 1, q', none⟩ = some (.pointer (some ⟨u.Q, 0, none⟩)) := ⟨TD.out.1.mq hq2 HZQ.out, TD.out.1.mq hq'2 HU.out⟩
                          by_cases hsz : u.n = z.n ∧ u.H = z.H
                          ·
                            as_aux_lemma =>
                              have HSZ := Lib.hid hsz
                              clear hsz
                              refine wp_region_held_drew (S := fun w' => w'.cell? ⟨b + 1, q, none⟩ = some (.pointer (some ⟨z.Q, 0, none⟩)) ∧ w'.cell? ⟨b + 1, q', none⟩ = some (.pointer (some ⟨u.Q, 0, none⟩))) (by kernel_rfl) (by exact SA) (fun hHeld => ?_)
                              refine wpAnyH_take (i := 0) (oi := _) (v := _) rfl (by as_aux_lemma => kernel_rfl) (by as_aux_lemma => kernel_rfl) (by as_aux_lemma => kernel_rfl) (fun _ _ _ h => h) (Or.inl ⟨by kernel_rfl, by (intro w hSw; (try dsimp only at hSw); go_simp; first | done | with_reducible rfl)⟩) (by assumption) ?_
                              (try simp only [List.getElem_toArray, List.getElem_cons_succ, List.getElem_cons_zero, Act.put, List.setIfInBounds_toArray, List.set_cons_zero, List.set_cons_succ])
                              refine wpAnyH_take (i := 1) (oi := _) (v := _) rfl (by as_aux_lemma => kernel_rfl) (by as_aux_lemma => kernel_rfl) (by as_aux_lemma => kernel_rfl) (fun _ _ _ h => h) (Or.inl ⟨by kernel_rfl, by (intro w hSw; (try dsimp only at hSw); go_simp; first | done | with_reducible rfl)⟩) (by assumption) ?_
                              (try simp only [List.getElem_toArray, List.getElem_cons_succ, List.getElem_cons_zero, Act.put, List.setIfInBounds_toArray, List.set_cons_zero, List.set_cons_succ])
                              refine wpAnyH_take (i := 2) (oi := _) (v := _) rfl (by as_aux_lemma => kernel_rfl) (by as_aux_lemma => kernel_rfl) (by as_aux_lemma => kernel_rfl) (fun _ _ _ h => h) (Or.inl ⟨by kernel_rfl, by (intro w hSw; (try dsimp only at hSw); go_simp; first | done | with_reducible rfl)⟩) (by assumption) ?_
                              (try simp only [List.getElem_toArray, List.getElem_cons_succ, List.getElem_cons_zero, Act.put, List.setIfInBounds_toArray, List.set_cons_zero, List.set_cons_succ])
                              refine wpAnyH_take (i := 3) (oi := _) (v := _) rfl (by as_aux_lemma => kernel_rfl) (by as_aux_lemma => kernel_rfl) (by as_aux_lemma => kernel_rfl) (fun _ _ _ h => h) (Or.inl ⟨by kernel_rfl, by (intro w hSw; (try dsimp only at hSw); go_simp; first | done | with_reducible rfl)⟩) (by assumption) ?_
                              (try simp only [List.getElem_toArray, List.getElem_cons_succ, List.getElem_cons_zero, Act.put, List.setIfInBounds_toArray, List.set_cons_zero, List.set_cons_succ])
                              refine wpAnyH_take (i := 4) (oi := _) (v := _) rfl (by as_aux_lemma => kernel_rfl) (by as_aux_lemma => kernel_rfl) (by as_aux_lemma => kernel_rfl) (fun _ _ _ h => h) (Or.inl ⟨by kernel_rfl, by (intro w hSw; (try dsimp only at hSw); go_simp; first | done | with_reducible rfl)⟩) (by assumption) ?_
                              (try simp only [List.getElem_toArray, List.getElem_cons_succ, List.getElem_cons_zero, Act.put, List.setIfInBounds_toArray, List.set_cons_zero, List.set_cons_succ])
                              refine wpAnyH_take (i := 5) (oi := _) (v := _) rfl (by as_aux_lemma => kernel_rfl) (by as_aux_lemma => kernel_rfl) (by as_aux_lemma => kernel_rfl) (fun _ _ _ h => h) (Or.inl ⟨by kernel_rfl, by (intro w hSw; (try dsimp only at hSw); go_simp; first | done | with_reducible rfl)⟩) (by assumption) ?_
                              (try simp only [List.getElem_toArray, List.getElem_cons_succ, List.getElem_cons_zero, Act.put, List.setIfInBounds_toArray, List.set_cons_zero, List.set_cons_succ])
                              refine wpAnyH_take (i := 6) (oi := _) (v := _) rfl (by as_aux_lemma => kernel_rfl) (by as_aux_lemma => kernel_rfl) (by as_aux_lemma => kernel_rfl) (fun _ _ _ h => h) (Or.inl ⟨by kernel_rfl, by (intro w hSw; (try dsimp only at hSw); go_simp; first | done | with_reducible rfl)⟩) (by assumption) ?_
                              (try simp only [List.getElem_toArray, List.getElem_cons_succ, List.getElem_cons_zero, Act.put, List.setIfInBounds_toArray, List.set_cons_zero, List.set_cons_succ])
                              refine wpAnyH_ready (rs := [7]) (by as_aux_lemma => kernel_rfl) (by simp) (AllReadyH.cons rfl (fun K hK => ?_) AllReadyH.nil)
                              try simp only [List.getElem_toArray, List.getElem_cons_succ, List.getElem_cons_zero]
                              go_simp
                              go_at_call 32
                              refine (rjoin_v (TD.out.1.ok q z hq2 HZQ.out) (TD.out.1.ok q' u hq'2 HU.out) HSZ.out.1 HSZ.out.2 HAP.out.2).mono ?_
                              rintro e9 w6 ⟨rfl, hr6, hg6⟩
                              have T1 : Hid (Two b w w6 b (b + 1) (up X q { z with B := orB z.B u.B (8 * z.n) }) ∧ w6.rowIs e 28 32 (u8V I)) := Lib.hid ⟨TD.out.1.setB hq2 HZQ.out hr6 hg6, row_far TD.out.2.2 (bufIs.of_row (TD.out.1.ok q z hq2 HZQ.out).rf.row) (by decide) hg6⟩
                              have SA : w6.cell? ⟨b + 1, q, none⟩ = some (.pointer (some ⟨z.Q, 0, none⟩)) ∧ w6.cell? ⟨b + 1, q', none⟩ = some (.pointer (some ⟨u.Q, 0, none⟩)) := ⟨(by have s := T1.out.1.mq hq2 (up_at X q { z with B := orB z.B u.B (8 * z.n) }); exact s), T1.out.1.mq hq'2 (by unfold up; rw [if_neg (fun h => hne h.symm)]; exact HU.out)⟩
                              clear hr6 hg6
                              go_simp
                              refine hK.out _ _ (by exact SA) (fun hHeld => ?_)
                              clear hK K
                              (try simp only [List.getElem_toArray, List.getElem_cons_succ, List.getElem_cons_zero, Act.put, List.setIfInBounds_toArray, List.set_cons_zero, List.set_cons_succ])
                              refine wpAnyH_take (i := 8) (oi := _) (v := _) rfl (by as_aux_lemma => kernel_rfl) (by as_aux_lemma => kernel_rfl) (by as_aux_lemma => kernel_rfl) (fun _ _ _ h => h) (Or.inl ⟨by kernel_rfl, by (intro w hSw; (try dsimp only at hSw); go_simp; first | done | with_reducible rfl)⟩) (by assumption) ?_
                              (try simp only [List.getElem_toArray, List.getElem_cons_succ, List.getElem_cons_zero, Act.put, List.setIfInBounds_toArray, List.set_cons_zero, List.set_cons_succ])
                              refine wpAnyH_done (by as_aux_lemma => kernel_rfl) ?_ _
                              clear SA
                              go_upto_region 35 with fail
                              obtain ⟨z1, hz1⟩ : ∃ z1 : Fm, z1 = { z with B := orB z.B u.B (8 * z.n) } := ⟨_, rfl⟩
                              rw [← hz1] at T1
                              have hzP : z.P = z1.P := by rw [hz1]
                              have HS1 : Hid (u.n = z1.n ∧ u.H = z1.H ∧ z1.g ≠ u.g) := Lib.hid (by rw [hz1]; exact ⟨HSZ.out.1, HSZ.out.2, HAP.out.1⟩)
                              have B1 : Hid (Bt z1.B (orF z1.F u.F z1.n) z1.n) := Lib.hid (by
                                rw [hz1]
                                have bu := TD.out.2.1 q' u hq'2 HU.out
                                rw [HSZ.out.1] at bu
                                exact (TD.out.2.1 q z hq2 HZQ.out).or bu)
                              have BS := Lib.hid TD.out.2.1
                              have HU1 : Hid (up X q z1 q' = some u) := Lib.hid (by unfold up; rw [if_neg (fun h => hne h.symm)]; exact HU.out)
                              clear hz1 TD HSZ HAP
                              have T2 : Hid (Two b w w6.drew b (b + 1) (up X q z1) ∧ w6.drew.rowIs e 28 32 (u8V I)) := Lib.hid ⟨T1.out.1.mono T1.out.1.low ((Below.refl _ _).drew), T1.out.2.of_block rfl⟩
                              clear T1
                              have SA : w6.drew.cell? ⟨b, q, none⟩ = some (.pointer (some ⟨z1.P, 0, none⟩)) ∧ w6.drew.cell? ⟨b, q', none⟩ = some (.pointer (some ⟨u.P, 0, none⟩)) := ⟨T2.out.1.pq hq2 (up_at X q z1), T2.out.1.pq hq'2 HU1.out⟩
                              refine wp_region_held_drew (S := fun w' => w'.cell? ⟨b, q, none⟩ = some (.pointer (some ⟨z1.P, 0, none⟩)) ∧ w'.cell? ⟨b, q', none⟩ = some (.pointer (some ⟨u.P, 0, none⟩))) (by kernel_rfl) (by exact SA) (fun hHeld => ?_)
                              refine wpAnyH_take (i := 0) (oi := _) (v := _) rfl (by as_aux_lemma => kernel_rfl) (by as_aux_lemma => kernel_rfl) (by as_aux_lemma => kernel_rfl) (fun _ _ _ h => h) (Or.inl ⟨by kernel_rfl, by (intro w hSw; (try dsimp only at hSw); go_simp; first | done | with_reducible rfl)⟩) (by assumption) ?_
                              (try simp only [List.getElem_toArray, List.getElem_cons_succ, List.getElem_cons_zero, Act.put, List.setIfInBounds_toArray, List.set_cons_zero, List.set_cons_succ])
                              refine wpAnyH_take (i := 1) (oi := _) (v := _) rfl (by as_aux_lemma => kernel_rfl) (by as_aux_lemma => kernel_rfl) (by as_aux_lemma => kernel_rfl) (fun _ _ _ h => h) (Or.inl ⟨by kernel_rfl, by (intro w hSw; (try dsimp only at hSw); go_simp; first | done | with_reducible rfl)⟩) (by assumption) ?_
                              (try simp only [List.getElem_toArray, List.getElem_cons_succ, List.getElem_cons_zero, Act.put, List.setIfInBounds_toArray, List.set_cons_zero, List.set_cons_succ])
                              refine wpAnyH_take (i := 2) (oi := _) (v := _) rfl (by as_aux_lemma => kernel_rfl) (by as_aux_lemma => kernel_rfl) (by as_aux_lemma => kernel_rfl) (fun _ _ _ h => h) (Or.inl ⟨by kernel_rfl, by (intro w hSw; (try dsimp only at hSw); go_simp; first | done | with_reducible rfl)⟩) (by assumption) ?_
                              (try simp only [List.getElem_toArray, List.getElem_cons_succ, List.getElem_cons_zero, Act.put, List.setIfInBounds_toArray, List.set_cons_zero, List.set_cons_succ])
                              refine wpAnyH_take (i := 3) (oi := _) (v := _) rfl (by as_aux_lemma => kernel_rfl) (by as_aux_lemma => kernel_rfl) (by as_aux_lemma => kernel_rfl) (fun _ _ _ h => h) (Or.inl ⟨by kernel_rfl, by (intro w hSw; (try dsimp only at hSw); go_simp; first | done | with_reducible rfl)⟩) (by assumption) ?_
                              (try simp only [List.getElem_toArray, List.getElem_cons_succ, List.getElem_cons_zero, Act.put, List.setIfInBounds_toArray, List.set_cons_zero, List.set_cons_succ])
                              refine wpAnyH_take (i := 4) (oi := _) (v := _) rfl (by as_aux_lemma => kernel_rfl) (by as_aux_lemma => kernel_rfl) (by as_aux_lemma => kernel_rfl) (fun _ _ _ h => h) (Or.inl ⟨by kernel_rfl, by (intro w hSw; (try dsimp only at hSw); go_simp; first | done | with_reducible rfl)⟩) (by assumption) ?_
                              (try simp only [List.getElem_toArray, List.getElem_cons_succ, List.getElem_cons_zero, Act.put, List.setIfInBounds_toArray, List.set_cons_zero, List.set_cons_succ])
                              refine wpAnyH_take (i := 5) (oi := _) (v := _) rfl (by as_aux_lemma => kernel_rfl) (by as_aux_lemma => kernel_rfl) (by as_aux_lemma => kernel_rfl) (fun _ _ _ h => h) (Or.inl ⟨by kernel_rfl, by (intro w hSw; (try dsimp only at hSw); go_simp; first | done | with_reducible rfl)⟩) (by assumption) ?_
                              (try simp only [List.getElem_toArray, List.getElem_cons_succ, List.getElem_cons_zero, Act.put, List.setIfInBounds_toArray, List.set_cons_zero, List.set_cons_succ])
                              refine wpAnyH_take (i := 6) (oi := _) (v := _) rfl (by as_aux_lemma => kernel_rfl) (by as_aux_lemma => kernel_rfl) (by as_aux_lemma => kernel_rfl) (fun _ _ _ h => h) (Or.inl ⟨by kernel_rfl, by (intro w hSw; (try dsimp only at hSw); go_simp; first | done | with_reducible rfl)⟩) (by assumption) ?_
                              (try simp only [List.getElem_toArray, List.getElem_cons_succ, List.getElem_cons_zero, Act.put, List.setIfInBounds_toArray, List.set_cons_zero, List.set_cons_succ])
                              refine wpAnyH_take (i := 8) (oi := _) (v := _) rfl (by as_aux_lemma => kernel_rfl) (by as_aux_lemma => kernel_rfl) (by as_aux_lemma => kernel_rfl) (fun _ _ _ h => h) (Or.inl ⟨by kernel_rfl, by (intro w hSw; (try dsimp only at hSw); go_simp; first | done | with_reducible rfl)⟩) (by assumption) ?_
                              (try simp only [List.getElem_toArray, List.getElem_cons_succ, List.getElem_cons_zero, Act.put, List.setIfInBounds_toArray, List.set_cons_zero, List.set_cons_succ])
                              refine wpAnyH_ready (rs := [7]) (by as_aux_lemma => kernel_rfl) (by simp) (AllReadyH.cons rfl (fun K hK => ?_) AllReadyH.nil)
                              try simp only [List.getElem_toArray, List.getElem_cons_succ, List.getElem_cons_zero]
                              go_simp
                              go_at_call 25
                              refine (join_v (T2.out.1.ok q z1 hq2 (up_at X q z1)) (T2.out.1.ok q' u hq'2 HU1.out) HS1.out.1 HS1.out.2.1 HS1.out.2.2).mono ?_
                              rintro e9 w7 ⟨rfl, hf7, hg7⟩
                              have T3 : Hid (Two b w w7 b (b + 1) (up X q { z1 with F := orF z1.F u.F z1.n }) ∧ w7.rowIs e 28 32 (u8V I)) := Lib.hid ⟨by have r := T2.out.1.setF hq2 (up_at X q z1) hf7 hg7; rwa [up_up] at r, row_far T2.out.2 (T2.out.1.ok q z1 hq2 (up_at X q z1)).flt.buf (by decide) hg7⟩
                              have SA : w7.cell? ⟨b, q, none⟩ = some (.pointer (some ⟨z1.P, 0, none⟩)) ∧ w7.cell? ⟨b, q', none⟩ = some (.pointer (some ⟨u.P, 0, none⟩)) := ⟨(by have s := T3.out.1.pq hq2 (up_at X q { z1 with F := orF z1.F u.F z1.n }); exact s), T3.out.1.pq hq'2 (by unfold up; rw [if_neg (fun h => hne h.symm)]; exact HU.out)⟩
                              clear hf7 hg7
                              go_simp
                              refine hK.out _ _ (by exact SA) (fun hHeld => ?_)
                              clear hK K
                              (try simp only [List.getElem_toArray, List.getElem_cons_succ, List.getElem_cons_zero, Act.put, List.setIfInBounds_toArray, List.set_cons_zero, List.set_cons_succ])
                              refine wpAnyH_take (i := 9) (oi := _) (v := _) rfl (by as_aux_lemma => kernel_rfl) (by as_aux_lemma => kernel_rfl) (by as_aux_lemma => kernel_rfl) (fun _ _ _ h => h) (Or.inl ⟨by kernel_rfl, by (intro w hSw; (try dsimp only at hSw); go_simp; first | done | with_reducible rfl)⟩) (by assumption) ?_
                              (try simp only [List.getElem_toArray, List.getElem_cons_succ, List.getElem_cons_zero, Act.put, List.setIfInBounds_toArray, List.set_cons_zero, List.set_cons_succ])
                              refine wpAnyH_done (by as_aux_lemma => kernel_rfl) ?_ _
                              clear SA T2
                              obtain ⟨z9, hz9⟩ : ∃ z9 : Fm, z9 = { z1 with F := orF z1.F u.F z1.n } := ⟨_, rfl⟩
                              rw [← hz9] at T3
                              have R9 : Hid (Two b w w7 b (b + 1) (up X q z9) ∧ Bts (up X q z9) ∧ w7.rowIs e 28 32 (u8V I)) := Lib.hid ⟨T3.out.1, BS.out.put (by rw [hz9]; exact B1.out), T3.out.2⟩
                              obtain ⟨X9, hX9⟩ : ∃ X9, up X q z9 = X9 := ⟨_, rfl⟩
                              rw [hX9] at R9
                              have ZQ9 : Hid (X9 q = some z9) := Lib.hid (by rw [← hX9]; exact up_at X q z9)
                              clear hX9
                              clear hz9 T3 B1 BS

                              go_wp2
                              go_meet
                              exact ⟨X9, z9, R9.out.1, R9.out.2.1, R9.out.2.2, ZQ9.out⟩
                          ·
                            as_aux_lemma =>
                              have HSZ := Lib.hid hsz
                              clear hsz
                              refine wp_region_held_drew (S := fun w' => w'.cell? ⟨b + 1, q, none⟩ = some (.pointer (some ⟨z.Q, 0, none⟩)) ∧ w'.cell? ⟨b + 1, q', none⟩ = some (.pointer (some ⟨u.Q, 0, none⟩))) (by kernel_rfl) (by exact SA) (fun hHeld => ?_)
                              refine wpAnyH_take (i := 0) (oi := _) (v := _) rfl (by as_aux_lemma => kernel_rfl) (by as_aux_lemma => kernel_rfl) (by as_aux_lemma => kernel_rfl) (fun _ _ _ h => h) (Or.inl ⟨by kernel_rfl, by (intro w hSw; (try dsimp only at hSw); go_simp; first | done | with_reducible rfl)⟩) (by assumption) ?_
                              (try simp only [List.getElem_toArray, List.getElem_cons_succ, List.getElem_cons_zero, Act.put, List.setIfInBounds_toArray, List.set_cons_zero, List.set_cons_succ])
                              refine wpAnyH_take (i := 1) (oi := _) (v := _) rfl (by as_aux_lemma => kernel_rfl) (by as_aux_lemma => kernel_rfl) (by as_aux_lemma => kernel_rfl) (fun _ _ _ h => h) (Or.inl ⟨by kernel_rfl, by (intro w hSw; (try dsimp only at hSw); go_simp; first | done | with_reducible rfl)⟩) (by assumption) ?_
                              (try simp only [List.getElem_toArray, List.getElem_cons_succ, List.getElem_cons_zero, Act.put, List.setIfInBounds_toArray, List.set_cons_zero, List.set_cons_succ])
                              refine wpAnyH_take (i := 2) (oi := _) (v := _) rfl (by as_aux_lemma => kernel_rfl) (by as_aux_lemma => kernel_rfl) (by as_aux_lemma => kernel_rfl) (fun _ _ _ h => h) (Or.inl ⟨by kernel_rfl, by (intro w hSw; (try dsimp only at hSw); go_simp; first | done | with_reducible rfl)⟩) (by assumption) ?_
                              (try simp only [List.getElem_toArray, List.getElem_cons_succ, List.getElem_cons_zero, Act.put, List.setIfInBounds_toArray, List.set_cons_zero, List.set_cons_succ])
                              refine wpAnyH_take (i := 3) (oi := _) (v := _) rfl (by as_aux_lemma => kernel_rfl) (by as_aux_lemma => kernel_rfl) (by as_aux_lemma => kernel_rfl) (fun _ _ _ h => h) (Or.inl ⟨by kernel_rfl, by (intro w hSw; (try dsimp only at hSw); go_simp; first | done | with_reducible rfl)⟩) (by assumption) ?_
                              (try simp only [List.getElem_toArray, List.getElem_cons_succ, List.getElem_cons_zero, Act.put, List.setIfInBounds_toArray, List.set_cons_zero, List.set_cons_succ])
                              refine wpAnyH_take (i := 4) (oi := _) (v := _) rfl (by as_aux_lemma => kernel_rfl) (by as_aux_lemma => kernel_rfl) (by as_aux_lemma => kernel_rfl) (fun _ _ _ h => h) (Or.inl ⟨by kernel_rfl, by (intro w hSw; (try dsimp only at hSw); go_simp; first | done | with_reducible rfl)⟩) (by assumption) ?_
                              (try simp only [List.getElem_toArray, List.getElem_cons_succ, List.getElem_cons_zero, Act.put, List.setIfInBounds_toArray, List.set_cons_zero, List.set_cons_succ])
                              refine wpAnyH_take (i := 5) (oi := _) (v := _) rfl (by as_aux_lemma => kernel_rfl) (by as_aux_lemma => kernel_rfl) (by as_aux_lemma => kernel_rfl) (fun _ _ _ h => h) (Or.inl ⟨by kernel_rfl, by (intro w hSw; (try dsimp only at hSw); go_simp; first | done | with_reducible rfl)⟩) (by assumption) ?_
                              (try simp only [List.getElem_toArray, List.getElem_cons_succ, List.getElem_cons_zero, Act.put, List.setIfInBounds_toArray, List.set_cons_zero, List.set_cons_succ])
                              refine wpAnyH_take (i := 6) (oi := _) (v := _) rfl (by as_aux_lemma => kernel_rfl) (by as_aux_lemma => kernel_rfl) (by as_aux_lemma => kernel_rfl) (fun _ _ _ h => h) (Or.inl ⟨by kernel_rfl, by (intro w hSw; (try dsimp only at hSw); go_simp; first | done | with_reducible rfl)⟩) (by assumption) ?_
                              (try simp only [List.getElem_toArray, List.getElem_cons_succ, List.getElem_cons_zero, Act.put, List.setIfInBounds_toArray, List.set_cons_zero, List.set_cons_succ])
                              refine wpAnyH_ready (rs := [7]) (by as_aux_lemma => kernel_rfl) (by simp) (AllReadyH.cons rfl (fun K hK => ?_) AllReadyH.nil)
                              try simp only [List.getElem_toArray, List.getElem_cons_succ, List.getElem_cons_zero]
                              go_simp
                              go_at_call 32
                              refine (rjoinNo_v (TD.out.1.ok q z hq2 HZQ.out) (TD.out.1.ok q' u hq'2 HU.out) HSZ.out).mono ?_
                              rintro e9 w6 ⟨rfl, hb6⟩
                              have T1 : Hid (Two b w w6 b (b + 1) X ∧ Bts X ∧ w6.rowIs e 28 32 (u8V I)) := Lib.hid ⟨TD.out.1.mono TD.out.1.low hb6, TD.out.2.1, TD.out.2.2.of_block (hb6.block _ TD.out.2.2.lt)⟩
                              have SA : w6.cell? ⟨b + 1, q, none⟩ = some (.pointer (some ⟨z.Q, 0, none⟩)) ∧ w6.cell? ⟨b + 1, q', none⟩ = some (.pointer (some ⟨u.Q, 0, none⟩)) := ⟨T1.out.1.mq hq2 HZQ.out, T1.out.1.mq hq'2 HU.out⟩
                              clear hb6
                              go_simp
                              refine hK.out _ _ (by exact SA) (fun hHeld => ?_)
                              clear hK K
                              (try simp only [List.getElem_toArray, List.getElem_cons_succ, List.getElem_cons_zero, Act.put, List.setIfInBounds_toArray, List.set_cons_zero, List.set_cons_succ])
                              refine wpAnyH_take (i := 8) (oi := _) (v := _) rfl (by as_aux_lemma => kernel_rfl) (by as_aux_lemma => kernel_rfl) (by as_aux_lemma => kernel_rfl) (fun _ _ _ h => h) (Or.inl ⟨by kernel_rfl, by (intro w hSw; (try dsimp only at hSw); go_simp; first | done | with_reducible rfl)⟩) (by assumption) ?_
                              (try simp only [List.getElem_toArray, List.getElem_cons_succ, List.getElem_cons_zero, Act.put, List.setIfInBounds_toArray, List.set_cons_zero, List.set_cons_succ])
                              refine wpAnyH_done (by as_aux_lemma => kernel_rfl) ?_ _
                              clear SA TD
                              go_upto_region 35 with fail
                              have T2 : Hid (Two b w w6.drew b (b + 1) X ∧ Bts X ∧ w6.drew.rowIs e 28 32 (u8V I)) := Lib.hid ⟨T1.out.1.mono T1.out.1.low ((Below.refl _ _).drew), T1.out.2.1, T1.out.2.2.of_block rfl⟩
                              clear T1
                              have SA : w6.drew.cell? ⟨b, q, none⟩ = some (.pointer (some ⟨z.P, 0, none⟩)) ∧ w6.drew.cell? ⟨b, q', none⟩ = some (.pointer (some ⟨u.P, 0, none⟩)) := ⟨T2.out.1.pq hq2 HZQ.out, T2.out.1.pq hq'2 HU.out⟩
                              refine wp_region_held_drew (S := fun w' => w'.cell? ⟨b, q, none⟩ = some (.pointer (some ⟨z.P, 0, none⟩)) ∧ w'.cell? ⟨b, q', none⟩ = some (.pointer (some ⟨u.P, 0, none⟩))) (by kernel_rfl) (by exact SA) (fun hHeld => ?_)
                              refine wpAnyH_take (i := 0) (oi := _) (v := _) rfl (by as_aux_lemma => kernel_rfl) (by as_aux_lemma => kernel_rfl) (by as_aux_lemma => kernel_rfl) (fun _ _ _ h => h) (Or.inl ⟨by kernel_rfl, by (intro w hSw; (try dsimp only at hSw); go_simp; first | done | with_reducible rfl)⟩) (by assumption) ?_
                              (try simp only [List.getElem_toArray, List.getElem_cons_succ, List.getElem_cons_zero, Act.put, List.setIfInBounds_toArray, List.set_cons_zero, List.set_cons_succ])
                              refine wpAnyH_take (i := 1) (oi := _) (v := _) rfl (by as_aux_lemma => kernel_rfl) (by as_aux_lemma => kernel_rfl) (by as_aux_lemma => kernel_rfl) (fun _ _ _ h => h) (Or.inl ⟨by kernel_rfl, by (intro w hSw; (try dsimp only at hSw); go_simp; first | done | with_reducible rfl)⟩) (by assumption) ?_
                              (try simp only [List.getElem_toArray, List.getElem_cons_succ, List.getElem_cons_zero, Act.put, List.setIfInBounds_toArray, List.set_cons_zero, List.set_cons_succ])
                              refine wpAnyH_take (i := 2) (oi := _) (v := _) rfl (by as_aux_lemma => kernel_rfl) (by as_aux_lemma => kernel_rfl) (by as_aux_lemma => kernel_rfl) (fun _ _ _ h => h) (Or.inl ⟨by kernel_rfl, by (intro w hSw; (try dsimp only at hSw); go_simp; first | done | with_reducible rfl)⟩) (by assumption) ?_
                              (try simp only [List.getElem_toArray, List.getElem_cons_succ, List.getElem_cons_zero, Act.put, List.setIfInBounds_toArray, List.set_cons_zero, List.set_cons_succ])
                              refine wpAnyH_take (i := 3) (oi := _) (v := _) rfl (by as_aux_lemma => kernel_rfl) (by as_aux_lemma => kernel_rfl) (by as_aux_lemma => kernel_rfl) (fun _ _ _ h => h) (Or.inl ⟨by kernel_rfl, by (intro w hSw; (try dsimp only at hSw); go_simp; first | done | with_reducible rfl)⟩) (by assumption) ?_
                              (try simp only [List.getElem_toArray, List.getElem_cons_succ, List.getElem_cons_zero, Act.put, List.setIfInBounds_toArray, List.set_cons_zero, List.set_cons_succ])
                              refine wpAnyH_take (i := 4) (oi := _) (v := _) rfl (by as_aux_lemma => kernel_rfl) (by as_aux_lemma => kernel_rfl) (by as_aux_lemma => kernel_rfl) (fun _ _ _ h => h) (Or.inl ⟨by kernel_rfl, by (intro w hSw; (try dsimp only at hSw); go_simp; first | done | with_reducible rfl)⟩) (by assumption) ?_
                              (try simp only [List.getElem_toArray, List.getElem_cons_succ, List.getElem_cons_zero, Act.put, List.setIfInBounds_toArray, List.set_cons_zero, List.set_cons_succ])
                              refine wpAnyH_take (i := 5) (oi := _) (v := _) rfl (by as_aux_lemma => kernel_rfl) (by as_aux_lemma => kernel_rfl) (by as_aux_lemma => kernel_rfl) (fun _ _ _ h => h) (Or.inl ⟨by kernel_rfl, by (intro w hSw; (try dsimp only at hSw); go_simp; first | done | with_reducible rfl)⟩) (by assumption) ?_
                              (try simp only [List.getElem_toArray, List.getElem_cons_succ, List.getElem_cons_zero, Act.put, List.setIfInBounds_toArray, List.set_cons_zero, List.set_cons_succ])
                              refine wpAnyH_take (i := 6) (oi := _) (v := _) rfl (by as_aux_lemma => kernel_rfl) (by as_aux_lemma => kernel_rfl) (by as_aux_lemma => kernel_rfl) (fun _ _ _ h => h) (Or.inl ⟨by kernel_rfl, by (intro w hSw; (try dsimp only at hSw); go_simp; first | done | with_reducible rfl)⟩) (by assumption) ?_
                              (try simp only [List.getElem_toArray, List.getElem_cons_succ, List.getElem_cons_zero, Act.put, List.setIfInBounds_toArray, List.set_cons_zero, List.set_cons_succ])
                              refine wpAnyH_take (i := 8) (oi := _) (v := _) rfl (by as_aux_lemma => kernel_rfl) (by as_aux_lemma => kernel_rfl) (by as_aux_lemma => kernel_rfl) (fun _ _ _ h => h) (Or.inl ⟨by kernel_rfl, by (intro w hSw; (try dsimp only at hSw); go_simp; first | done | with_reducible rfl)⟩) (by assumption) ?_
                              (try simp only [List.getElem_toArray, List.getElem_cons_succ, List.getElem_cons_zero, Act.put, List.setIfInBounds_toArray, List.set_cons_zero, List.set_cons_succ])
                              refine wpAnyH_ready (rs := [7]) (by as_aux_lemma => kernel_rfl) (by simp) (AllReadyH.cons rfl (fun K hK => ?_) AllReadyH.nil)
                              try simp only [List.getElem_toArray, List.getElem_cons_succ, List.getElem_cons_zero]
                              go_simp
                              go_at_call 25
                              refine (joinNo_v (T2.out.1.ok q z hq2 HZQ.out) (T2.out.1.ok q' u hq'2 HU.out) HSZ.out).mono ?_
                              rintro e9 w7 ⟨rfl, hb7⟩
                              have R9 : Hid (Two b w w7 b (b + 1) X ∧ Bts X ∧ w7.rowIs e 28 32 (u8V I)) := Lib.hid ⟨T2.out.1.mono T2.out.1.low hb7, T2.out.2.1, T2.out.2.2.of_block (hb7.block _ T2.out.2.2.lt)⟩
                              have SA : w7.cell? ⟨b, q, none⟩ = some (.pointer (some ⟨z.P, 0, none⟩)) ∧ w7.cell? ⟨b, q', none⟩ = some (.pointer (some ⟨u.P, 0, none⟩)) := ⟨R9.out.1.pq hq2 HZQ.out, R9.out.1.pq hq'2 HU.out⟩
                              clear hb7
                              go_simp
                              refine hK.out _ _ (by exact SA) (fun hHeld => ?_)
                              clear hK K
                              (try simp only [List.getElem_toArray, List.getElem_cons_succ, List.getElem_cons_zero, Act.put, List.setIfInBounds_toArray, List.set_cons_zero, List.set_cons_succ])
                              refine wpAnyH_take (i := 9) (oi := _) (v := _) rfl (by as_aux_lemma => kernel_rfl) (by as_aux_lemma => kernel_rfl) (by as_aux_lemma => kernel_rfl) (fun _ _ _ h => h) (Or.inl ⟨by kernel_rfl, by (intro w hSw; (try dsimp only at hSw); go_simp; first | done | with_reducible rfl)⟩) (by assumption) ?_
                              (try simp only [List.getElem_toArray, List.getElem_cons_succ, List.getElem_cons_zero, Act.put, List.setIfInBounds_toArray, List.set_cons_zero, List.set_cons_succ])
                              refine wpAnyH_done (by as_aux_lemma => kernel_rfl) ?_ _
                              clear SA T2 HU HSZ HAP
                              obtain ⟨X9, hX9⟩ : ∃ X9, X = X9 := ⟨_, rfl⟩
                              obtain ⟨z9, hz9⟩ : ∃ z9, z = z9 := ⟨_, rfl⟩
                              rw [hX9] at R9 HZQ
                              rw [hz9] at HZQ
                              have ZQ9 := HZQ
                              clear hX9 hz9

                              go_wp2
                              go_meet
                              exact ⟨X9, z9, R9.out.1, R9.out.2.1, R9.out.2.2, ZQ9.out⟩
                      by_cases k2 : kind = 2
                      ·
                        as_aux_lemma =>
                          subst k2
                          clear k0 k1
                          obtain ⟨EB, hEB⟩ : ∃ EB, encB z.n z.H z.F = EB := ⟨_, rfl⟩
                          have BZ := Lib.hid (E5.out.2.1 q z hq2 HZQ.out)
                          have ENC : Hid (∀ W, z.Ok b W → Calls Try.prog 26 #[.pointer (some ⟨z.P, 0, none⟩)] W fun e w' => e = .returned (.tuple #[.string EB, .int .i64 0]) ∧ Below W.heap.size W w') := Lib.hid (fun W o => by
                            rw [← hEB]; exact encode_any W _ _ _ _ _ _ o.flt (by have := o.n24; omega) o.h8)
                          have RENC : Hid (∀ W, z.Ok b W → Calls Try.prog 33 #[.pointer (some ⟨z.Q, 0, none⟩)] W fun e w' => e = .returned (.string EB) ∧ Below W.heap.size W w') := Lib.hid (fun W o => by
                            rw [← hEB]; exact rencode_any W z.Q z.h (8 * z.n) z.n z.H z.B z.F o.rf BZ.out rfl o.n24 o.h8)
                          have DEC : Hid (∀ W, z.Ok b W → Calls Try.prog 27 #[.string EB] W fun e w' => ∃ P g cap, e = .returned (.tuple #[.pointer (some ⟨P, 0, none⟩), .int .i64 0]) ∧ W.heap.size ≤ P ∧ W.heap.size ≤ g ∧ Flt w' P g z.n cap z.H z.F ∧ Below W.heap.size W w') := Lib.hid (fun W o => by
                            rw [← hEB]; exact decode_enc z.n z.H z.m z.F W o.pow o.m6 o.m24 o.h1 o.h8)
                          have hEE : (EB.toList == EB.toList) = true := beq_self_eq_true _
                          clear hEB
                          have cf := E5.out.1.pq hq2 HZQ.out
                          go_wp2_with fail
                          refine (ENC.out _ (E5.out.1.ok q z hq2 HZQ.out)).mono ?_; rintro e9 w6 ⟨rfl, hb6⟩
                          have T6 : Hid (Two b w w6 b (b + 1) X ∧ Bts X ∧ w6.rowIs e 28 32 (u8V I)) := Lib.hid ⟨E5.out.1.mono E5.out.1.low hb6, E5.out.2.1, E5.out.2.2.of_block (hb6.block _ E5.out.2.2.lt)⟩
                          clear hb6 E5 cf ENC c1 cm
                          go_wp2_with fail
                          refine (DEC.out _ (T6.out.1.ok q z hq2 HZQ.out)).mono ?_; rintro e9 w7 ⟨P', g', cap', rfl, hP', hg', hf7, hb7⟩
                          have T7 : Hid (Two b w w7 b (b + 1) X ∧ Bts X ∧ w7.rowIs e 28 32 (u8V I) ∧ Flt w7 P' g' z.n cap' z.H z.F ∧ b ≤ P' ∧ b ≤ g' ∧ ∀ j u, j < 2 → X j = some u → g' ≠ u.g) := Lib.hid ⟨T6.out.1.mono T6.out.1.low hb7, T6.out.2.1, T6.out.2.2.of_block (hb7.block _ T6.out.2.2.lt), hf7, Nat.le_trans T6.out.1.low hP', Nat.le_trans T6.out.1.low hg', fun j u hj hu => by have := (T6.out.1.ok j u hj hu).flt.buf.lt; omega⟩
                          clear hP' hg' hf7 hb7 T6 DEC
                          have cm := T7.out.1.mq hq2 HZQ.out
                          go_wp2_with fail
                          refine (RENC.out _ (T7.out.1.ok q z hq2 HZQ.out)).mono ?_; rintro e9 w8 ⟨rfl, hb8⟩
                          have T8 : Hid (Two b w w8 b (b + 1) X ∧ Bts X ∧ w8.rowIs e 28 32 (u8V I) ∧ Flt w8 P' g' z.n cap' z.H z.F ∧ b ≤ P' ∧ b ≤ g' ∧ ∀ j u, j < 2 → X j = some u → g' ≠ u.g) := Lib.hid ⟨T7.out.1.mono T7.out.1.low hb8, T7.out.2.1, T7.out.2.2.1.of_block (hb8.block _ T7.out.2.2.1.lt), T7.out.2.2.2.1.below hb8, T7.out.2.2.2.2⟩
                          clear hb8 T7 RENC cm
                          go_upto_region 42 with fail
                          clear hEE
                          have T0 : Hid (Two b w w8.drew b (b + 1) X ∧ w8.drew.rowIs e 28 32 (u8V I) ∧ Flt w8.drew P' g' z.n cap' z.H z.F) := Lib.hid ⟨T8.out.1.mono T8.out.1.low ((Below.refl _ _).drew), T8.out.2.2.1.of_block rfl, T8.out.2.2.2.1.below ((Below.refl _ _).drew)⟩
                          have SA : w8.drew.cell? ⟨b, q, none⟩ = some (.pointer (some ⟨z.P, 0, none⟩)) ∧ ok32 w8.drew e 0 = true ∧ row32 w8.drew e 0 = idA I := ⟨T0.out.1.pq hq2 HZQ.out, ok32_of T0.out.2.1 (by omega), row32_id T0.out.2.1⟩
                          refine wp_region_held_drew (S := fun w' => w'.cell? ⟨b, q, none⟩ = some (.pointer (some ⟨z.P, 0, none⟩)) ∧ ok32 w' e 0 = true ∧ row32 w' e 0 = idA I) (by kernel_rfl) (by exact SA) (fun hHeld => ?_)
                          refine wpAnyH_take (i := 0) (oi := _) (v := _) rfl (by as_aux_lemma => kernel_rfl) (by as_aux_lemma => kernel_rfl) (by as_aux_lemma => kernel_rfl) (fun _ _ _ h => h) (Or.inl ⟨by kernel_rfl, by (intro w hSw; (try dsimp only at hSw); go_simp; first | done | with_reducible rfl)⟩) (by assumption) ?_
                          (try simp only [List.getElem_toArray, List.getElem_cons_succ, List.getElem_cons_zero, Act.put, List.setIfInBounds_toArray, List.set_cons_zero, List.set_cons_succ])
                          refine wpAnyH_take (i := 1) (oi := _) (v := _) rfl (by as_aux_lemma => kernel_rfl) (by as_aux_lemma => kernel_rfl) (by as_aux_lemma => kernel_rfl) (fun _ _ _ h => h) (Or.inl ⟨by kernel_rfl, by (intro w hSw; (try dsimp only at hSw); go_simp; first | done | with_reducible rfl)⟩) (by assumption) ?_
                          (try simp only [List.getElem_toArray, List.getElem_cons_succ, List.getElem_cons_zero, Act.put, List.setIfInBounds_toArray, List.set_cons_zero, List.set_cons_succ])
                          refine wpAnyH_take (i := 2) (oi := _) (v := _) rfl (by as_aux_lemma => kernel_rfl) (by as_aux_lemma => kernel_rfl) (by as_aux_lemma => kernel_rfl) (fun _ _ _ h => h) (Or.inl ⟨by kernel_rfl, by (intro w hSw; (try dsimp only at hSw); go_simp; first | done | with_reducible rfl)⟩) (by assumption) ?_
                          (try simp only [List.getElem_toArray, List.getElem_cons_succ, List.getElem_cons_zero, Act.put, List.setIfInBounds_toArray, List.set_cons_zero, List.set_cons_succ])
                          refine wpAnyH_take (i := 3) (oi := { dst := some 197, op := .load 28 (.tmp 22), type := 28, pos := "law.go:76", after := #[], guard := none }) (v := _) rfl (by as_aux_lemma => kernel_rfl) (by as_aux_lemma => kernel_rfl) (by as_aux_lemma => kernel_rfl) (fun _ _ _ h => h) (Or.inl ⟨by kernel_rfl, by (intro w hSw; (try dsimp only at hSw); go_simp; first | done | with_reducible rfl)⟩) (by assumption) ?_
                          (try simp only [List.getElem_toArray, List.getElem_cons_succ, List.getElem_cons_zero, Act.put, List.setIfInBounds_toArray, List.set_cons_zero, List.set_cons_succ])
                          refine wpAnyH_ready (rs := [4]) (by as_aux_lemma => kernel_rfl) (by simp) (AllReadyH.cons rfl (fun K hK => ?_) AllReadyH.nil)
                          try simp only [List.getElem_toArray, List.getElem_cons_succ, List.getElem_cons_zero]
                          go_simp
                          go_at_call 28
                          refine (add_v (T0.out.1.ok q z hq2 HZQ.out)).mono ?_
                          rintro e9 w9 ⟨rfl, hf9, hg9⟩
                          have T9 : Hid (Two b w w9 b (b + 1) (up X q { z with F := addF z.F I z.n z.H }) ∧ w9.rowIs e 28 32 (u8V I) ∧ Flt w9 P' g' z.n cap' z.H z.F) := Lib.hid ⟨T0.out.1.setF hq2 HZQ.out hf9 hg9, row_far T0.out.2.1 (T0.out.1.ok q z hq2 HZQ.out).flt.buf (by decide) hg9, T0.out.2.2.beside (T0.out.1.ok q z hq2 HZQ.out).flt.buf hg9 (T8.out.2.2.2.2.2.2 q z hq2 HZQ.out)⟩
                          have SA : w9.cell? ⟨b, q, none⟩ = some (.pointer (some ⟨z.P, 0, none⟩)) ∧ ok32 w9 e 0 = true ∧ row32 w9 e 0 = idA I := ⟨(by have s := T9.out.1.pq hq2 (up_at X q { z with F := addF z.F I z.n z.H }); exact s), ok32_of T9.out.2.1 (by omega), row32_id T9.out.2.1⟩
                          clear hf9 hg9 T0
                          go_simp
                          refine hK.out _ _ (by exact SA) (fun hHeld => ?_)
                          clear hK K
                          (try simp only [List.getElem_toArray, List.getElem_cons_succ, List.getElem_cons_zero, Act.put, List.setIfInBounds_toArray, List.set_cons_zero, List.set_cons_succ])
                          refine wpAnyH_done (by as_aux_lemma => kernel_rfl) ?_ _
                          clear SA
                          obtain ⟨z9, hz9⟩ : ∃ z9 : Fm, z9 = { z with P := P', g := g', cap := cap', F := z.F } := ⟨_, rfl⟩
                          have f1 : w9.frozen? ⟨b, q, none⟩ = false := T9.out.1.fa.frozen q
                          have c1 := T9.out.1.f q hq2
                          have R9 : Hid (Two b w (w9.setCell ⟨b, q, none⟩ (.pointer (some ⟨P', 0, none⟩))) b (b + 1) (up X q z9) ∧ Bts (up X q z9) ∧ (w9.setCell ⟨b, q, none⟩ (.pointer (some ⟨P', 0, none⟩))).rowIs e 28 32 (u8V I)) := Lib.hid (by
                            refine ⟨?_, T8.out.2.1.put (by rw [hz9]; exact BZ.out), T9.out.2.1.of_block (Below.heap_setCell _ _ _ _ (fun h => blk_buf_ne T9.out.1.fa (bufIs.of_row T9.out.2.1) (by decide) h.symm))⟩
                            have r := T9.out.1.setP hq2 (up_at X q { z with F := addF z.F I z.n z.H }) T9.out.2.2 T8.out.2.2.2.2.1 T8.out.2.2.2.2.2.1 (fun j u hj hjk hu => by
                              unfold up at hu
                              rw [if_neg hjk] at hu
                              exact T8.out.2.2.2.2.2.2 j u hj hu)
                            rw [up_up] at r
                            rw [hz9]
                            exact r)
                          clear hz9 T9 T8 BZ
                          obtain ⟨X9, hX9⟩ : ∃ X9, up X q z9 = X9 := ⟨_, rfl⟩
                          rw [hX9] at R9
                          have ZQ9 : Hid (X9 q = some z9) := Lib.hid (by rw [← hX9]; exact up_at X q z9)
                          clear hX9
                          go_wp2
                          go_meet
                          exact ⟨X9, z9, R9.out.1, R9.out.2.1, R9.out.2.2, ZQ9.out⟩
                      as_aux_lemma =>
                        go_wp2
                        go_meet
                        exact ⟨X, z, E5.out.1, E5.out.2.1, E5.out.2.2, HZQ.out⟩
                · as_aux_lemma =>
                  by_cases hw : who = 0
                  · go_wp2
                    go_meet
                    exact ⟨0, by omega, rfl, rfl⟩
                  · go_wp2
                    go_meet
                    exact ⟨1, by omega, rfl, rfl⟩
              · as_aux_lemma =>
                rcases (show ¬ (k : Int) < (n' : Int) ∨ ((k : Int) < (n' : Int) ∧ ¬ (k : Int) < 60) by omega) with h1 | ⟨h1, h2⟩
                · go_wp2
                  go_ret
                  exact ⟨rfl, by rw [HB.out]; exact HX.out.1.below⟩
                · go_wp2
                  go_ret
                  exact ⟨rfl, by rw [HB.out]; exact HX.out.1.below⟩
          · as_aux_lemma =>
            cases d with
            | true =>
              have h1n := hd1 rfl
              obtain ⟨ad, rfl, _⟩ := HRD.out (by omega)
              have hc1 : (1 : Int) ≤ (c : Int) := by omega
              have hn1 : (1 : Int) ≤ (n : Int) := by omega
              clear hd1
              go_wp2
              go_meet
              exact ⟨1, by omega, rfl, rfl⟩
            | false =>
              clear hd1
              go_wp2
              go_meet
              exact ⟨n, Nat.le_refl _, rfl, rfl⟩
        · as_aux_lemma =>
          by_cases h1 : bits = 16777216
          · by_cases h2 : 1 < n
            · have h2i : (1 : Int) < (n : Int) := by omega
              have hd2 : d = true := by rw [← hd, decide_eq_true h1, decide_eq_true h2]; rfl
              subst hd2
              have g1 : decide (bits = 16777216) = true := decide_eq_true h1
              have g2 : (bits == 16777216) = true := by rw [beq_iff_eq]; exact h1
              clear h1 hd
              go_wp2
              go_meet
              exact ⟨rfl, rfl⟩
            · have h2i : ¬ (1 : Int) < (n : Int) := by omega
              have hd2 : d = false := by rw [← hd, decide_eq_true h1, decide_eq_false h2]; rfl
              subst hd2
              have g1 : decide (bits = 16777216) = true := decide_eq_true h1
              have g2 : (bits == 16777216) = true := by rw [beq_iff_eq]; exact h1
              clear h1 hd
              go_wp2
              go_meet
              exact ⟨rfl, rfl⟩
          · have hd2 : d = false := by rw [← hd, decide_eq_false h1]; rfl
            subst hd2
            clear hd
            go_wp2
            go_meet
            exact ⟨rfl, rfl⟩
        --ENDREST
  · by_cases h1 : 16384 < bits
    · have h2 : bits = 16777216 := by have := HRET.out; omega
      have g1 : decide (bits = 16777216) = true := decide_eq_true h2
      have g2 : (bits == 16777216) = true := by rw [beq_iff_eq]; exact h2
      have g3 : (bits != 16777216) = false := by rw [bne, g2]; rfl
      clear h2
      go_wp2
      go_meet
      exact ⟨rfl, rfl⟩
    · go_wp2
      go_meet
      exact ⟨rfl, rfl⟩
end Go.Proofs.Ytbfmdingbgdflaa
