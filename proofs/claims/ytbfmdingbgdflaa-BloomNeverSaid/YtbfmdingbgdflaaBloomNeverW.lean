/- Walk: the law BloomNever returns true. -/
import Derived.Test.YtbfmdingbgdflaaBloJ
import Derived.Test.YtbfmdingbgdflaaBloomFinerW
import Derived.Deep.DeepCutAuto
namespace Go.Proofs.Ytbfmdingbgdflaa
open Go.RowKit Blo Wir
set_option linter.unusedVariables false
set_option linter.unusedSimpArgs false
/-- append of a list to a list of the call's own. -/
theorem append_own_wp {P : Program} {w : World} {t e : TypeId} {z : Value} {bytes : Nat} (E : Elem1 P t e z bytes) {ops : Array Oper} {rest : List Oper} {o : Oper} {a : Act} {Q : Exit → Act → World → Prop} (hgd : o.guard = none) (s x : Operand)
    (ho : o.op = .call { callee := .builtin .append, args := #[s, x], argTypes := #[t, t] }) (base : Nat) (v : Value) (n : Nat) (ys : List Value) (hs : a.eval s = v) (hown : w.ownsRow base e 1 v n ys)
    (B : Nat) (A : Option Addr) (m c : Nat) (xs : List Value) (hx : a.eval x = .slice A m c) (hr : Reads w B 1 A m xs) (hB : B ≤ w.heap.size)
    (h1 : ∀ u ∈ xs, u.oneCell' = true) (hm : n + m ≤ 4611686018427387904) (hb : (n + m) * bytes ≤ 140737488355328) (hbase : base ≤ w.heap.size)
    (h : ∀ v' w', w'.ownsRow base e 1 v' (n + m) (ys ++ xs) → w.grownBy w' v.ownBlock → wpList P ops Q rest (a.put o.dst v') w') : wpList P ops Q (o :: rest) a w := by
  obtain ⟨i, hi, hz0, hz1, hz2⟩ := E.info
  exact wpList_append_any w hgd s x t ho base e i z 1 bytes E.ht hi hz0 hz1 hz2 E.hz (by decide) v n ys hs hown B A m c xs hx hr h1 (by unfold maxLen; omega) hb hbase (fun v' w' h2 h3 _ => h v' w' h2 h3)
theorem twice_mem (l : List ByteArray) : ∀ I, I ∈ (l.reverse.flatMap fun s => [s, s]).map byteAt ↔ I ∈ l.map byteAt := by
  intro I
  simp only [List.mem_map, List.mem_flatMap, List.mem_reverse]
  constructor
  · rintro ⟨s, ⟨t, ht, hs⟩, rfl⟩
    have : s = t := by simpa using hs
    subst this
    exact ⟨s, ht, rfl⟩
  · rintro ⟨s, hs, rfl⟩
    exact ⟨s, ⟨s, hs, by simp⟩, rfl⟩
theorem step_append2 {P : Program} {w : World} {t e : TypeId} {z : Value} {bytes : Nat} (E : Elem1 P t e z bytes) {ops : Array Oper} {o : Oper} {a : Act} {K : Act → World → Prop} {Q : Exit → Act → World → Prop} {F : Prop} (hgd : o.guard = none) (s x : Operand)
    (ho : o.op = .call { callee := .builtin .append, args := #[s, x], argTypes := #[t, t] })
    (base : Nat) (v : Value) (n : Nat) (xs : List Value) (hs : a.eval s = v) (hown : w.ownsRow base e 1 v n xs) (u1 u2 : Value) (hx : a.eval x = .slice (some ⟨w.heap.size, 0, none⟩) 2 2)
    (h1 : u1.oneCell' = true) (h2 : u2.oneCell' = true) (hn : n ≤ 4611686018427387904) (hbytes : (n + 2) * bytes ≤ 140737488355328) (hbase : base ≤ w.heap.size)
    (h : ∀ v' w', w'.ownsRow base e 1 v' (n + 2) (xs ++ [u1, u2]) → w.grownBy w' v.ownBlock → K (a.put o.dst v') w') :
    if Region.wanted o (yielded ops a.tmps) = true then Oper.wp P o a (w.alloc (.cells #[u1, u2] e)).drew K Q else F := by
  obtain ⟨i, hi, hz0, hz1, hz2⟩ := E.info
  refine step_append_any (w.alloc (.cells #[u1, u2] e)).drew hgd s x t ho base e i z 1 bytes E.ht hi hz0 hz1 hz2 E.hz (by decide) v n xs hs (own_drew (hown.alloc _)) (w.heap.size + 1) (some ⟨w.heap.size, 0, none⟩) 2 2 [u1, u2] hx
    ⟨rfl, fun _ => ⟨_, rfl, by simp, fun j u' hj => ?_⟩⟩ (by intro u' hu'; simp only [List.mem_cons, List.mem_nil_iff, or_false] at hu'; rcases hu' with rfl | rfl <;> assumption) (by unfold maxLen; omega) hbytes (by simp; omega) (fun v' w' h2 h3 h4 => h v' w' h2 ?_)
  · have := ((Blk.new w e #[u1, u2]).drew).cell j
    rw [add0, this]
    match j, hj with
    | 0, hj => simpa using hj
    | 1, hj => simpa using hj
  · exact ⟨h3.os, h3.tape, h3.output, Nat.le_trans (by simp) h3.size, fun k hk hne => (h3.block k (by simp; omega) hne).trans (Below.heap_alloc w _ k hk)⟩
theorem only_of_grown {w a : World} (h : w.grownBy a none) : Below w.heap.size w a := ⟨h.os, h.tape, h.output, h.size, fun k hk => h.block k hk (by simp)⟩
/-- The last of a list, each twice, the last first. -/
def backTwice (l : List ByteArray) (r : Nat) : List ByteArray := (l.drop r).reverse.flatMap fun s => [s, s]
theorem backTwice_step (l : List ByteArray) (k : Nat) (h : k < l.length) : strV (backTwice l (k + 1)) ++ [.string (sAt l k), .string (sAt l k)] = strV (backTwice l k) := by
  unfold backTwice
  rw [List.drop_eq_getElem_cons h, List.reverse_cons, List.flatMap_append, sAt_get h]
  simp [strV]
theorem backTwice_length (l : List ByteArray) (r : Nat) : (backTwice l r).length = 2 * (l.length - r) := by
  have e : ∀ q : List ByteArray, (q.flatMap fun s => [s, s]).length = 2 * q.length := fun q => by
    induction q with
    | nil => rfl
    | cons s q ih => rw [List.flatMap_cons, List.length_append, ih]; simp; omega
  unfold backTwice
  rw [e, List.length_reverse, List.length_drop]
theorem backTwice_all (l : List ByteArray) : backTwice l l.length = [] := by unfold backTwice; simp
theorem backTwice_sizes (l : List ByteArray) (r B : Nat) (h : ∀ s ∈ l, s.size ≤ B) : ∀ s ∈ backTwice l r, s.size ≤ B := by
  intro s hs
  unfold backTwice at hs
  rw [List.mem_flatMap] at hs
  obtain ⟨t, ht, hst⟩ := hs
  have : s = t := by simpa using hst
  subst this
  exact h s (List.mem_of_mem_drop (List.mem_reverse.1 ht))
set_option maxRecDepth 100000 in
set_option maxHeartbeats 0 in
theorem bloomNever_walk (size hashes : Int) (A : Option Addr) (n c : Nat) (l : List ByteArray) (A' : Option Addr) (n' c' : Nat) (l' : List ByteArray) (A2 : Option Addr) (n2 c2 : Nat) (l2 : List ByteArray) (h1 : -9223372036854775808 ≤ size) (h2 : size ≤ 9223372036854775807) (h5 : -9223372036854775808 ≤ hashes) (h6 : hashes ≤ 9223372036854775807)
    (w : World) (hr : Reads w w.heap.size 1 A n (strV l)) (hn : n * 16 ≤ 140737488351232) (hz : ∀ s ∈ l, s.size ≤ 9223372036854775807) (hcap : n ≤ c) (hr' : Reads w w.heap.size 1 A' n' (strV l')) (hn' : n' * 16 ≤ 140737488351232) (hz' : ∀ s ∈ l', s.size ≤ 9223372036854775807) (hcap' : n' ≤ c')
    (hr2 : Reads w w.heap.size 1 A2 n2 (strV l2)) (hn2 : n2 * 16 ≤ 140737488351232) (hz2 : ∀ s ∈ l2, s.size ≤ 9223372036854775807) (hcap2 : n2 ≤ c2) :
    Calls Try.prog 5 #[.int .i64 size, .int .i64 hashes, .slice A n c, .slice A' n' c', .slice A2 n2 c2] w fun e w' => e = .returned (.bool true) ∧ Below w.heap.size w w' := by
  obtain ⟨b1, b2⟩ := tmod_bd size 6 (by omega)
  obtain ⟨b5, b6⟩ := tmod_bd hashes 8 (by omega)
  obtain ⟨H, hH⟩ : ∃ R : Nat, 1 + hashes.tmod 8 % 8 = (R : Int) := ⟨(1 + hashes.tmod 8 % 8).toNat, by omega⟩
  have H1 : 1 ≤ H := by omega
  have H8 : H ≤ 8 := by omega
  obtain ⟨a, ha⟩ : ∃ a, (size.tmod 6 % 6).toNat = a := ⟨_, rfl⟩
  have ha5 : a ≤ 5 := by omega
  have hpa : 2 ^ a ≤ 2 ^ 5 := Nat.pow_le_pow_right (by omega) ha5
  have hpa1 : 1 ≤ 2 ^ a := Nat.one_le_two_pow
  obtain ⟨N, hN⟩ : ∃ N, 64 * 2 ^ a = N := ⟨_, rfl⟩
  obtain ⟨K, hK⟩ : ∃ K, 8 * 2 ^ a = K := ⟨_, rfl⟩
  have hB : wrap64 (64 * 2 ^ (size.tmod 6 % 6).toNat) = (N : Int) := by
    rw [ha, ← hN]; exact shl_wrap 64 0 a (by omega) (by omega)
  have EN1 : Hid (8 * K = N) := Lib.hid (by omega)
  have EN2 : Hid (8 * K = 2 ^ (6 + a)) := Lib.hid (by rw [← hK, Nat.pow_add]; omega)
  have K1 : 1 ≤ K := by omega
  have K2 : K ≤ 256 := by omega
  have HAK := Lib.hid (And.intro ha (And.intro hN hK))
  clear hN hK ha hpa hpa1
  have take : ∀ (A : Option Addr) (n : Nat) (l : List ByteArray), Reads w w.heap.size 1 A n (strV l) → (∀ s ∈ l, s.size ≤ 9223372036854775807) → ∃ m U, Hid ((if 100 < n then 100 else n) = m) ∧ Hid (Reads w w.heap.size 1 A m (strV U)) ∧ m ≤ 100 ∧ Hid (∀ s ∈ U, s.size ≤ 9223372036854775807) := fun A n l hr hz => by
    by_cases h : 100 < n
    · rw [if_pos h]
      exact ⟨100, l.take 100, Lib.hid rfl, Lib.hid (reads_strs_take hr (by omega)), by omega, Lib.hid (fun s hs => hz s (List.mem_of_mem_take hs))⟩
    · rw [if_neg h]
      exact ⟨n, l, Lib.hid rfl, Lib.hid hr, by omega, Lib.hid hz⟩
  obtain ⟨m, U, EM, RU, m100, ZU⟩ := take A n l hr hz
  obtain ⟨m', V, EM', RV, m100', ZV⟩ := take A' n' l' hr' hz'
  have R2 := Lib.hid hr2
  have Z2 := Lib.hid hz2
  clear hr hr' hr2 hz hz' hz2 take
  go_enter Try.func5, Try.ntmps5
  go_upto_if 40 with (go_at_call 13; refine (bawake_any _).mono ?_; rintro e w1 ⟨rfl, hb1⟩)
  have B1 := Lib.hid hb1
  clear hb1
  go_cut [2] (fun s2 wx => s2 = .slice A m c ∧ wx = w1)
  case first =>
    have EMo := EM.out
    clear EM
    by_cases h : 100 < n
    · rw [if_pos h] at EMo; subst EMo
      go_wp2_with fail
      go_meet
      exact ⟨rfl, rfl⟩
    · rw [if_neg h] at EMo; subst EMo
      go_wp2_with fail
      go_meet
      exact ⟨rfl, rfl⟩
  case rest =>
    obtain ⟨rfl, rfl⟩ := hcut
    go_upto_if 45 with fail
    go_cut [3] (fun s3 wx => s3 = .slice A' m' c' ∧ wx = wc)
    case first =>
      have EMo := EM'.out
      clear EM'
      by_cases h : 100 < n'
      · rw [if_pos h] at EMo; subst EMo
        go_wp2_with fail
        go_meet
        exact ⟨rfl, rfl⟩
      · rw [if_neg h] at EMo; subst EMo
        go_wp2_with fail
        go_meet
        exact ⟨rfl, rfl⟩
    case rest =>
      obtain ⟨rfl, rfl⟩ := hcut
      have s1 := B1.out.size
      go_wp2_with fail
      refine (made_n _ w.heap.size A m c K H (6 + a) N U (RU.out.below B1.out) s1 (by omega) ZU.out EN1.out EN2.out (by omega) (by omega) H1 H8).mono ?_
      rintro e w2 ⟨rfl, hf2, hb2⟩
      have F2 := Lib.hid hf2
      have B2 := Lib.hid (B1.out.trans (hb2.mono s1))
      have s2 : wc.heap.size + 1 < w2.heap.size := hf2.blk.lt
      clear hf2 hb2
      go_wp2_with fail
      clear hB hH
      refine (made_n _ w.heap.size A' m' c' K H (6 + a) N V (RV.out.below B2.out) (by omega) (by omega) ZV.out EN1.out EN2.out (by omega) (by omega) H1 H8).mono ?_
      rintro e w3 ⟨rfl, hf3, hb3⟩
      have F3 := Lib.hid (And.intro (F2.out.below hb3) hf3)
      have B3 := Lib.hid (B2.out.trans (hb3.mono (by omega)))
      have s3 : w2.heap.size + 1 < w3.heap.size := hf3.blk.lt
      clear hf3 hb3 F2
      have RU3 := Lib.hid (RU.out.below B3.out)
      have RV3 := Lib.hid (RV.out.below B3.out)
      have hw3 : w.heap.size ≤ w3.heap.size := B3.out.size
      have q1 : m' ≤ 4611686018427387904 := by omega
      have q2 : m' * 16 ≤ 140737488355328 := by omega
      have q3 : m' + m ≤ 4611686018427387904 := by omega
      have q4 : (m' + m) * 16 ≤ 140737488355328 := by omega
      go_wp2_with (first
        | (at_builtin; refine appendE_wp elemStr rfl _ _ rfl rfl w.heap.size A' m' c' _ rfl RV3.out hw3 (oneStr _) q1 q2 ?_; intro v1 wa o1 g1)
        | (at_builtin; refine append_own_wp elemStr rfl _ _ rfl w3.heap.size _ m' _ rfl o1 w.heap.size A m c _ rfl (RU3.out.grown g1 hw3 (by intro g h; cases h)) (Nat.le_trans hw3 g1.size) (oneStr _) q3 q4 g1.size ?_; intro v2 wb o2 g2; obtain ⟨Aq, cq, rfl, r2⟩ := own_reads o2))
      have BA : Hid (Below w3.heap.size w3 wb) := Lib.hid (below_grown (only_of_grown g1) g2 (own_ge o1))
      have RA : Hid (Reads wb wb.heap.size 1 Aq (m' + m) (strV (V ++ U))) := Lib.hid (by
        have := r2; rwa [show strV V ++ strV U = strV (V ++ U) from by simp [strV]] at this)
      have AB : Hid (∀ ad, Aq = some ad → w3.heap.size ≤ ad.block) := Lib.hid (fun ad e => by subst e; exact own_ge o2 ad.block rfl)
      have LU := RU.out.len
      have LV := RV.out.len
      obtain ⟨mm, hmm⟩ : ∃ mm, m' + m = mm := ⟨_, rfl⟩
      rw [hmm] at RA ⊢
      have LALL : Hid ((V ++ U).length = mm) := Lib.hid (by rw [List.length_append, LU, LV, hmm])
      have ZALL : Hid (∀ s ∈ V ++ U, s.size ≤ 9223372036854775807) := Lib.hid (fun s hs => by
        rcases List.mem_append.1 hs with h | h
        · exact ZV.out s h
        · exact ZU.out s h)
      have F4 := Lib.hid (And.intro (F3.out.1.below BA.out) (F3.out.2.below BA.out))
      have B4 := Lib.hid (B3.out.trans (BA.out.mono hw3))
      have s4 := BA.out.size
      have HMM := Lib.hid hmm
      have mm200 : mm ≤ 200 := by omega
      have LEN := Lib.hid (And.intro LU LV)
      clear o1 g1 o2 g2 r2 RU3 RV3 F3 LU LV hmm q1 q2 q3 q4
      obtain ⟨ALL, hALL⟩ : ∃ L, V ++ U = L := ⟨_, rfl⟩
      rw [hALL] at RA LALL ZALL
      have HALL := Lib.hid hALL
      clear hALL
      go_wp2
      go_loopw [15, 16] (fun v i wr => ∃ (r : Nat) (x : Int), r ≤ mm ∧ x + 1 = r ∧ i = .int .i64 x ∧ Hid (wr.ownsRow wb.heap.size 9 1 v (2 * (mm - r)) (strV (backTwice ALL r)) ∧ Below wb.heap.size wb wr)) (fun _ i _ => (intOf i + 1).toNat)
      case atStart => exact ⟨mm, (mm : Int) - 1, by omega, by omega, by rw [show (m' : Int) + (m : Int) = (mm : Int) from by have := HMM.out; omega], Lib.hid ⟨by rw [Nat.sub_self, ← LALL.out, backTwice_all]; exact World.ownsRow_nil _ _ _ _, Below.refl _ _⟩⟩
      case round =>
        obtain ⟨r, x, hr, hx, rfl, HR⟩ := hrel
        by_cases hr0 : 0 < r
        · obtain ⟨k, rfl⟩ : ∃ k : Nat, x = k := ⟨x.toNat, by omega⟩
          obtain rfl : r = k + 1 := by omega
          clear hx
          obtain ⟨ad, rfl, hbk, hck⟩ := RA.out.str (k := k) (by omega)
          have RC : Hid (∀ w', Below wb.heap.size wb w' → w'.cell? (ad.add k) = some (.string (sAt ALL k))) := Lib.hid (fun w' hb' => (hb'.cell (by rw [block_of_add]; exact hbk)).trans (hck k (by omega)))
          have BT := Lib.hid (backTwice_step ALL k (by rw [LALL.out]; omega))
          clear hck
          generalize sAt ALL k = sk at *
          have hkn : (k : Int) < (mm : Int) := by omega
          have hle := HR.out.2.size
          have hj1 : 2 * (mm - (k + 1)) ≤ 4611686018427387904 := by omega
          have hj2 : (2 * (mm - (k + 1)) + 2) * 16 ≤ 140737488355328 := by omega
          have HO := Lib.hid HR.out.1
          go_wp2
          go_region_held3 (fun w' => w'.cell? (ad.add k) = some (.string sk))
            (first | exact RC.out _ HR.out.2 | exact RC.out _ (below_drewN HR.out.2 1) | exact RC.out _ (below_drewN (HR.out.2.alloc hle _) 1) | exact RC.out _ (below_own HR.out.2 HO.out hg))
            ((refine step_append2 elemStr (by rfl) _ _ (by rfl) wb.heap.size _ _ _ (by rfl) HO.out _ _ (by rfl) (by rfl) (by rfl) hj1 hj2 hle ?_; intro v' w' ho hg))
          have HR' : Hid (w'.ownsRow wb.heap.size 9 1 v' (2 * (mm - k)) (strV (backTwice ALL k)) ∧ Below wb.heap.size wb w') := Lib.hid ⟨by
            rw [BT.out, show 2 * (mm - (k + 1)) + 2 = 2 * (mm - k) from by omega] at ho; exact ho, below_own HR.out.2 HR.out.1 hg⟩
          clear ho hg
          go_wp2
          go_roundw
          case rel => exact ⟨k, (k : Int) - 1, by omega, by omega, by first | rfl | go_num, HR'⟩
          case measure => simp [intOf]
        · obtain rfl : x = -1 := by omega
          obtain rfl : r = 0 := by omega
          clear hx hr hr0
          obtain ⟨At, ct, rfl, rt⟩ := own_reads HR.out.1
          obtain ⟨tt, htt⟩ : ∃ tt, 2 * (mm - 0) = tt := ⟨_, rfl⟩
          rw [htt] at rt ⊢
          have RT := Lib.hid rt
          have tt400 : tt ≤ 400 := by omega
          have BW := Lib.hid HR.out.2
          have F5 := Lib.hid (And.intro (F4.out.1.below HR.out.2) (F4.out.2.below HR.out.2))
          have B5 := Lib.hid (B4.out.trans (HR.out.2.mono B4.out.size))
          have s5 := HR.out.2.size
          have ZT := Lib.hid (backTwice_sizes ALL 0 9223372036854775807 ZALL.out)
          clear rt HR F4 htt
          go_wp2_with fail
          refine (made_n wr wr.heap.size At tt ct K H (6 + a) N (backTwice ALL 0) RT.out (Nat.le_refl _) (by omega) ZT.out EN1.out EN2.out (by omega) (by omega) H1 H8).mono ?_
          rintro e w6 ⟨rfl, hf6, hb6⟩
          have TS : Hid (∀ j, j < K → addL K H (fun _ => 0) ((backTwice ALL 0).map byteAt) j = addL K H (fun _ => 0) (ALL.map byteAt) j) := Lib.hid (addL_same K H _ _ (by
            have := twice_mem ALL
            unfold backTwice
            rw [List.drop_zero]; exact this))
          have JS : Hid (∀ j, j < K → orF (addL K H (fun _ => 0) (U.map byteAt)) (addL K H (fun _ => 0) (V.map byteAt)) K j = addL K H (fun _ => 0) (ALL.map byteAt) j) := Lib.hid (fun j hj => by
            have e1 := join_sets K H (U.map byteAt) (V.map byteAt) j hj
            have e2 := addL_same K H (U.map byteAt ++ V.map byteAt) (ALL.map byteAt) (fun I => by
              rw [← HALL.out, List.map_append, List.mem_append, List.mem_append]; exact Or.comm) j hj
            exact e1.trans e2)
          have ON1 : onesF (addL K H (fun _ => 0) (U.map byteAt)) K ≤ m * H := by have := ones_le K H (U.map byteAt); rwa [List.length_map, LEN.out.1] at this
          have ON2 : onesF (addL K H (fun _ => 0) (V.map byteAt)) K ≤ m' * H := by have := ones_le K H (V.map byteAt); rwa [List.length_map, LEN.out.2] at this
          have ON3 : onesF (addL K H (fun _ => 0) (ALL.map byteAt)) K ≤ mm * H := by have := ones_le K H (ALL.map byteAt); rwa [List.length_map, LALL.out] at this
          have OZ : onesF (addL K H (fun _ => 0) (ALL.map byteAt)) K = 0 ↔ mm = 0 := by have := ones_iff K H (ALL.map byteAt) K1 H1; rwa [List.length_map, LALL.out] at this
          have HS : Hid (∀ k, k < mm → hasF (addL K H (fun _ => 0) (ALL.map byteAt)) (byteAt (sAt ALL k)) K H = true) := Lib.hid (fun k hk => has_added K H _ _ (List.mem_map.2 ⟨_, sAt_mem (by rw [LALL.out]; exact hk), rfl⟩))
          have HZ : Hid (mm = 0 → ∀ I, hasF (addL K H (fun _ => 0) (ALL.map byteAt)) I K H = false) := Lib.hid (fun h I => by
            have : ALL = [] := List.eq_nil_of_length_eq_zero (by rw [LALL.out, h])
            rw [this]
            exact has_none K H I H1)
          have F6 := Lib.hid (And.intro (F5.out.1.below hb6) (And.intro (F5.out.2.below hb6) (hf6.congr TS.out)))
          have B6 := Lib.hid (B5.out.trans (hb6.mono B5.out.size))
          have RA6 := Lib.hid (RA.out.below (BW.out.trans (hb6.mono s5)))
          have sb6 : wb.heap.size ≤ w6.heap.size := Nat.le_trans s5 hb6.size
          have s6 := hf6.blk.lt
          clear hf6 hb6 F5 TS
          generalize addL K H (fun _ => 0) (ALL.map byteAt) = FU at F6 JS ON3 OZ HS HZ
          generalize addL K H (fun _ => 0) (U.map byteAt) = FA at F6 JS ON1
          generalize addL K H (fun _ => 0) (V.map byteAt) = FB at F6 JS ON2
          have O1 := Lib.hid (And.intro ON1 (And.intro ON2 (And.intro ON3 OZ)))
          clear ON1 ON2 ON3 OZ
          obtain ⟨x1, hx1⟩ : ∃ x, onesF FA K = x := ⟨_, rfl⟩
          obtain ⟨x2, hx2⟩ : ∃ x, onesF FB K = x := ⟨_, rfl⟩
          obtain ⟨x3, hx3⟩ : ∃ x, onesF FU K = x := ⟨_, rfl⟩
          obtain ⟨MH, hMH⟩ : ∃ x, m * H = x := ⟨_, rfl⟩
          obtain ⟨MH', hMH'⟩ : ∃ x, m' * H = x := ⟨_, rfl⟩
          obtain ⟨MMH, hMMH⟩ : ∃ x, mm * H = x := ⟨_, rfl⟩
          have hq1 : MH ≤ 800 := by rw [← hMH]; exact Nat.mul_le_mul m100 H8
          have hq2 : MH' ≤ 800 := by rw [← hMH']; exact Nat.mul_le_mul m100' H8
          have hq3 : MMH ≤ 1600 := by rw [← hMMH]; exact Nat.mul_le_mul mm200 H8
          have i1 : x1 ≤ MH := by rw [← hx1, ← hMH]; exact O1.out.1
          have i2 : x2 ≤ MH' := by rw [← hx2, ← hMH']; exact O1.out.2.1
          have i3 : x3 ≤ MMH := by rw [← hx3, ← hMMH]; exact O1.out.2.2.1
          have iz : x3 = 0 ↔ mm = 0 := by rw [← hx3]; exact O1.out.2.2.2
          have p1 : (m : Int) * (H : Int) = (MH : Int) := by rw [← hMH]; simp
          have p2 : (m' : Int) * (H : Int) = (MH' : Int) := by rw [← hMH']; simp
          have p3 : (mm : Int) * (H : Int) = (MMH : Int) := by rw [← hMMH]; simp
          have hd1 : decide (MH < x1) = false := by rw [decide_eq_false_iff_not]; omega
          have hd2 : decide (MH' < x2) = false := by rw [decide_eq_false_iff_not]; omega
          have hd3 : decide (MMH < x3) = false := by rw [decide_eq_false_iff_not]; omega
          have EX1 := Lib.hid hx1
          have EX2 := Lib.hid hx2
          have EX3 := Lib.hid hx3
          have IZ := Lib.hid iz
          clear hx1 hx2 hx3 hMH hMH' hMMH O1 iz
          go_wp2_with fail
          refine (ones_any w6 _ _ K _ H FA F6.out.1 (by omega)).mono ?_
          rintro e w' ⟨rfl, rfl⟩
          rw [EX1.out]
          go_wp2_with fail
          refine (join_any w6 _ _ _ _ _ _ K H FA FB F6.out.1 F6.out.2.1 (by omega) (by omega)).mono ?_
          rintro e w7 ⟨rfl, hf7, hg7⟩
          have F7 := Lib.hid (And.intro (hf7.congr JS.out) (And.intro (F6.out.2.1.beside F6.out.1.buf hg7 (by omega)) (F6.out.2.2.beside F6.out.1.buf hg7 (by omega))))
          have B7 := Lib.hid (below_grown B6.out hg7 (by intro g' e; injection e with e; omega))
          have RA7 := Lib.hid (reads_far RA6.out sb6 hg7 (fun ad e h => by have := AB.out ad e; injection h with h; omega))
          have s7 := hg7.size
          have sb7 := Nat.le_trans sb6 s7
          clear hf7 hg7 F6 JS
          go_wp2_with fail
          refine (encode_any w7 _ _ K _ H FU F7.out.1 (by omega) H8).mono ?_
          rintro e w8 ⟨rfl, hb8⟩
          have F8 := Lib.hid (And.intro (F7.out.1.below hb8) (And.intro (F7.out.2.1.below hb8) (F7.out.2.2.below hb8)))
          have B8 := Lib.hid (B7.out.trans (hb8.mono B7.out.size))
          have RA8 := Lib.hid (RA7.out.below (hb8.mono sb7))
          have s8 := hb8.size
          have sb8 := Nat.le_trans sb7 s8
          clear hb8 F7
          go_wp2_with fail
          refine (encode_any w8 _ _ K _ H FU F8.out.2.2 (by omega) H8).mono ?_
          rintro e w9 ⟨rfl, hb9⟩
          have F9 := Lib.hid (And.intro (F8.out.1.below hb9) (And.intro (F8.out.2.1.below hb9) (F8.out.2.2.below hb9)))
          have B9 := Lib.hid (B8.out.trans (hb9.mono B8.out.size))
          have RA9 := Lib.hid (RA8.out.below (hb9.mono sb8))
          have s9 := hb9.size
          have sb9 := Nat.le_trans sb8 s9
          clear hb9 F8
          go_wp2_with fail
          refine (decode_enc K H (6 + a) FU w9 EN2.out (by omega) (by omega) H1 H8).mono ?_
          rintro e w10 ⟨P6, g6, c6, rfl, hp6, hg6, hf6, hb10⟩
          have F10 := Lib.hid (And.intro (F9.out.1.below hb10) (And.intro (F9.out.2.1.below hb10) (And.intro (F9.out.2.2.below hb10) hf6)))
          have B10 := Lib.hid (B9.out.trans (hb10.mono B9.out.size))
          have RA10 := Lib.hid (RA9.out.below (hb10.mono sb9))
          have sb10 := Nat.le_trans sb9 hb10.size
          clear hf6 hb10 F9
          generalize encB K H FU = S
          have hw10 : w.heap.size ≤ w10.heap.size := B10.out.size
          obtain ⟨zz, hzz⟩ : ∃ z, decide (mm = 0) = z := ⟨_, rfl⟩
          have z1 : ((x3 : Int) == 0) = zz := by
            rw [← hzz, Bool.eq_iff_iff, beq_iff_eq, decide_eq_true_eq, ← IZ.out]; omega
          have z2 : ((mm : Int) == 0) = zz := by
            rw [← hzz, Bool.eq_iff_iff, beq_iff_eq, decide_eq_true_eq]; omega
          have HZZ := Lib.hid hzz
          clear hzz
          have zself : (zz != zz) = false := by simp
          go_wp2_with fail
          refine (ones_any w10 _ _ K _ H FU F10.out.1 (by omega)).mono ?_
          rintro e w' ⟨rfl, rfl⟩
          rw [EX3.out]
          go_wp2_with fail
          refine (ones_any w10 _ _ K _ H FU F10.out.1 (by omega)).mono ?_
          rintro e w' ⟨rfl, rfl⟩
          rw [EX3.out]
          go_wp2_with fail
          refine (ones_any w10 _ _ K _ H FB F10.out.2.1 (by omega)).mono ?_
          rintro e w' ⟨rfl, rfl⟩
          rw [EX2.out]
          go_wp2
          clear p1 p2 p3 z1 z2 zself hd1 hd2 hd3 i1 i2 i3
          go_loopw [10, 24] (fun _ i wr => ∃ k : Nat, k ≤ mm ∧ i = .int .i64 k ∧ Hid (Below w10.heap.size w10 wr)) (fun _ i _ => mm - (intOf i).toNat)
          case atStart => exact ⟨0, by omega, rfl, Lib.hid (Below.refl _ _)⟩
          case round =>
            obtain ⟨k, hk, rfl, HR⟩ := hrel
            by_cases hlt : k < mm
            · obtain ⟨ad, rfl, hbk, hck⟩ := RA10.out.str hlt
              have RC : Hid (∀ w', Below w10.heap.size w10 w' → w'.cell? (ad.add k) = some (.string (sAt ALL k))) := Lib.hid (fun w' hb' => (hb'.cell (by rw [block_of_add]; omega)).trans (hck k hlt))
              have hsz : (sAt ALL k).size ≤ 9223372036854775807 := ZALL.out _ (sAt_mem (by rw [LALL.out]; exact hlt))
              have HF := Lib.hid (HS.out k hlt)
              clear hck
              generalize sAt ALL k = sk at *
              have hck1 := RC.out _ HR.out
              go_wp2_with fail
              refine (id_any sk _ hsz).mono ?_
              rintro e wi ⟨rfl, hbi⟩
              have Bi := Lib.hid (HR.out.trans (hbi.mono HR.out.size))
              clear hbi hck1
              go_wp2_with fail
              refine (has_any wi _ _ _ _ H (6 + a) _ _ (F10.out.1.below Bi.out) EN2.out (by omega) H8).mono ?_
              rintro e wj ⟨rfl, hbj⟩
              rw [HF.out]
              have Bj := Lib.hid (Bi.out.trans (hbj.mono Bi.out.size))
              have hck2 := RC.out _ Bj.out
              clear hbj
              go_wp2_with fail
              refine (id_any sk _ hsz).mono ?_
              rintro e wk ⟨rfl, hbk2⟩
              have Bk := Lib.hid (Bj.out.trans (hbk2.mono Bj.out.size))
              clear hbk2 hck2
              go_wp2_with fail
              refine (has_any wk _ _ _ _ H (6 + a) _ _ (F10.out.2.2.2.below Bk.out) EN2.out (by omega) H8).mono ?_
              rintro e wl ⟨rfl, hbl⟩
              rw [HF.out]
              have Bl := Lib.hid (Bk.out.trans (hbl.mono Bk.out.size))
              clear hbl
              go_wp2
              go_roundw
              case rel => exact ⟨k + 1, by omega, by go_num, Bl⟩
              case measure => simp [intOf]; omega
            · obtain rfl : k = mm := by omega
              go_wp2
              obtain ⟨wx, hwx⟩ : ∃ x, x = wr := ⟨_, rfl⟩
              have BX : Hid (Below w10.heap.size w10 wx) := Lib.hid (by rw [hwx]; exact HR.out)
              rw [← hwx]
              clear hwx HR
              have z2 : ((k : Int) == 0) = zz := by
                rw [← HZZ.out, Bool.eq_iff_iff, beq_iff_eq, decide_eq_true_eq]; omega
              go_loopw [10, 25] (fun _ i wr => ∃ j : Nat, j ≤ n2 ∧ i = .int .i64 j ∧ Hid (Below w10.heap.size w10 wr)) (fun _ i _ => n2 - (intOf i).toNat)
              case atStart => exact ⟨0, by omega, rfl, BX⟩
              case round =>
                obtain ⟨j, hj, rfl, HJ⟩ := hrel
                by_cases hjl : j < n2
                · obtain ⟨ad, rfl, hbk, hck⟩ := (R2.out.below B10.out).str hjl
                  have RC : Hid (∀ w', Below w10.heap.size w10 w' → w'.cell? (ad.add j) = some (.string (sAt l2 j))) := Lib.hid (fun w' hb' => (hb'.cell (by rw [block_of_add]; omega)).trans (hck j hjl))
                  have L2 := R2.out.len
                  have hsz : (sAt l2 j).size ≤ 9223372036854775807 := Z2.out _ (sAt_mem (by omega))
                  clear hck L2
                  generalize sAt l2 j = sk at *
                  have hji : (j : Int) < (n2 : Int) := by omega
                  have hB : Below w10.heap.size w10 wr.drew := below_drewN HJ.out 1
                  obtain ⟨bb, hbb⟩ : ∃ b, hasF FU (byteAt sk) K H = b := ⟨_, rfl⟩
                  have HBV := Lib.hid hbb
                  clear hbb
                  go_upto_region 35 with fail
                  go_cut [242] (fun s242 wx => s242 = .bool false ∧ Hid (Below w10.heap.size w10 wx))
                  case rest =>
                    obtain ⟨rfl, HC⟩ := hcut
                    go_wp2
                    go_roundw
                    case rel => exact ⟨j + 1, by omega, by go_num, HC⟩
                    case measure => simp [intOf]; omega
                  cases zz with
                  | false =>
                    have hself : (bb != bb) = false := by simp
                    have BVV := HBV.out
                    refine wp_region_held_drew (S := fun w' => w'.cell? (ad.add j) = some (.string sk)) (by kernel_rfl) (by exact RC.out _ hB) (fun hHeld => ?_)
                    refine wpAnyH_take (i := 0) (oi := _) (v := _) rfl (by as_aux_lemma => kernel_rfl) (by as_aux_lemma => kernel_rfl) (by as_aux_lemma => kernel_rfl) (fun _ _ _ h => h) (Or.inl ⟨by kernel_rfl, by (intro w hSw; (try dsimp only at hSw); go_simp; first | done | with_reducible rfl)⟩) (by assumption) ?_
                    (try simp only [Act.put, List.setIfInBounds_toArray, List.set_cons_zero, List.set_cons_succ])
                    refine wpAnyH_take (i := 1) (oi := _) (v := _) rfl (by as_aux_lemma => kernel_rfl) (by as_aux_lemma => kernel_rfl) (by as_aux_lemma => kernel_rfl) (fun _ _ _ h => h) (Or.inl ⟨by kernel_rfl, by (intro w hSw; (try dsimp only at hSw); go_simp; first | done | with_reducible rfl)⟩) (by assumption) ?_
                    (try simp only [Act.put, List.setIfInBounds_toArray, List.set_cons_zero, List.set_cons_succ])
                    refine wpAnyH_take (i := 2) (oi := _) (v := _) rfl (by as_aux_lemma => kernel_rfl) (by as_aux_lemma => kernel_rfl) (by as_aux_lemma => kernel_rfl) (fun _ _ _ h => h) (Or.inl ⟨by kernel_rfl, by (intro w hSw; (try dsimp only at hSw); go_simp; first | done | with_reducible rfl)⟩) (by assumption) ?_
                    (try simp only [Act.put, List.setIfInBounds_toArray, List.set_cons_zero, List.set_cons_succ])
                    refine wpAnyH_take (i := 3) (oi := _) (v := _) rfl (by as_aux_lemma => kernel_rfl) (by as_aux_lemma => kernel_rfl) (by as_aux_lemma => kernel_rfl) (fun _ _ _ h => h) (Or.inl ⟨by kernel_rfl, by (intro w hSw; (try dsimp only at hSw); go_simp; first | done | with_reducible rfl)⟩) (by assumption) ?_
                    (try simp only [Act.put, List.setIfInBounds_toArray, List.set_cons_zero, List.set_cons_succ])
                    refine wpAnyH_take (i := 4) (oi := _) (v := _) rfl (by as_aux_lemma => kernel_rfl) (by as_aux_lemma => kernel_rfl) (by as_aux_lemma => kernel_rfl) (fun _ _ _ h => h) (Or.inl ⟨by kernel_rfl, by (intro w hSw; (try dsimp only at hSw); go_simp; first | done | with_reducible rfl)⟩) (by assumption) ?_
                    (try simp only [Act.put, List.setIfInBounds_toArray, List.set_cons_zero, List.set_cons_succ])
                    refine wpAnyH_take (i := 7) (oi := _) (v := _) rfl (by as_aux_lemma => kernel_rfl) (by as_aux_lemma => kernel_rfl) (by as_aux_lemma => kernel_rfl) (fun _ _ _ h => h) (Or.inl ⟨by kernel_rfl, by (intro w hSw; (try dsimp only at hSw); go_simp; first | done | with_reducible rfl)⟩) (by assumption) ?_
                    (try simp only [Act.put, List.setIfInBounds_toArray, List.set_cons_zero, List.set_cons_succ])
                    refine wpAnyH_take (i := 8) (oi := _) (v := _) rfl (by as_aux_lemma => kernel_rfl) (by as_aux_lemma => kernel_rfl) (by as_aux_lemma => kernel_rfl) (fun _ _ _ h => h) (Or.inl ⟨by kernel_rfl, by (intro w hSw; (try dsimp only at hSw); go_simp; first | done | with_reducible rfl)⟩) (by assumption) ?_
                    (try simp only [Act.put, List.setIfInBounds_toArray, List.set_cons_zero, List.set_cons_succ])
                    refine wpAnyH_take (i := 9) (oi := _) (v := _) rfl (by as_aux_lemma => kernel_rfl) (by as_aux_lemma => kernel_rfl) (by as_aux_lemma => kernel_rfl) (fun _ _ _ h => h) (Or.inl ⟨by kernel_rfl, by (intro w hSw; (try dsimp only at hSw); go_simp; first | done | with_reducible rfl)⟩) (by assumption) ?_
                    (try simp only [Act.put, List.setIfInBounds_toArray, List.set_cons_zero, List.set_cons_succ])
                    refine wpAnyH_take (i := 10) (oi := _) (v := _) rfl (by as_aux_lemma => kernel_rfl) (by as_aux_lemma => kernel_rfl) (by as_aux_lemma => kernel_rfl) (fun _ _ _ h => h) (Or.inl ⟨by kernel_rfl, by (intro w hSw; (try dsimp only at hSw); go_simp; first | done | with_reducible rfl)⟩) (by assumption) ?_
                    (try simp only [Act.put, List.setIfInBounds_toArray, List.set_cons_zero, List.set_cons_succ])
                    refine wpAnyH_take (i := 11) (oi := _) (v := _) rfl (by as_aux_lemma => kernel_rfl) (by as_aux_lemma => kernel_rfl) (by as_aux_lemma => kernel_rfl) (fun _ _ _ h => h) (Or.inl ⟨by kernel_rfl, by (intro w hSw; (try dsimp only at hSw); go_simp; first | done | with_reducible rfl)⟩) (by assumption) ?_
                    (try simp only [Act.put, List.setIfInBounds_toArray, List.set_cons_zero, List.set_cons_succ])
                    refine wpAnyH_ready (rs := [5]) (by as_aux_lemma => kernel_rfl) (by simp) (AllReadyH.cons rfl (fun K hK => ?_) AllReadyH.nil)
                    try simp only [List.getElem_toArray, List.getElem_cons_succ, List.getElem_cons_zero]
                    go_simp
                    go_at_call 16
                    refine (id_any sk _ hsz).mono ?_
                    rintro e wX ⟨rfl, hbx⟩
                    have hB := Below.trans hB (hbx.mono hB.size)
                    clear hbx
                    go_simp
                    refine hK.out _ _ (by exact RC.out _ hB) (fun hHeld => ?_)
                    clear hK K
                    (try simp only [Act.put, List.setIfInBounds_toArray, List.set_cons_zero, List.set_cons_succ])
                    refine wpAnyH_ready (rs := [6]) (by as_aux_lemma => kernel_rfl) (by simp) (AllReadyH.cons rfl (fun K hK => ?_) AllReadyH.nil)
                    try simp only [List.getElem_toArray, List.getElem_cons_succ, List.getElem_cons_zero]
                    go_simp
                    go_at_call 15
                    refine (has_any _ (wc.heap.size + 1) _ _ _ H (6 + a) FU _ (F10.out.1.below hB) EN2.out (by omega) H8).mono ?_
                    rintro e wX ⟨rfl, hbx⟩
                    rw [BVV]
                    have hB := Below.trans hB (hbx.mono hB.size)
                    clear hbx
                    go_simp
                    refine hK.out _ _ (by exact RC.out _ hB) (fun hHeld => ?_)
                    clear hK K
                    (try simp only [Act.put, List.setIfInBounds_toArray, List.set_cons_zero, List.set_cons_succ])
                    refine wpAnyH_ready (rs := [12]) (by as_aux_lemma => kernel_rfl) (by simp) (AllReadyH.cons rfl (fun K hK => ?_) AllReadyH.nil)
                    try simp only [List.getElem_toArray, List.getElem_cons_succ, List.getElem_cons_zero]
                    go_simp
                    go_at_call 16
                    refine (id_any sk _ hsz).mono ?_
                    rintro e wX ⟨rfl, hbx⟩
                    have hB := Below.trans hB (hbx.mono hB.size)
                    clear hbx
                    go_simp
                    refine hK.out _ _ (by exact RC.out _ hB) (fun hHeld => ?_)
                    clear hK K
                    (try simp only [Act.put, List.setIfInBounds_toArray, List.set_cons_zero, List.set_cons_succ])
                    refine wpAnyH_ready (rs := [13]) (by as_aux_lemma => kernel_rfl) (by simp) (AllReadyH.cons rfl (fun K hK => ?_) AllReadyH.nil)
                    try simp only [List.getElem_toArray, List.getElem_cons_succ, List.getElem_cons_zero]
                    go_simp
                    go_at_call 15
                    refine (has_any _ P6 _ _ _ H (6 + a) FU _ (F10.out.2.2.2.below hB) EN2.out (by omega) H8).mono ?_
                    rintro e wX ⟨rfl, hbx⟩
                    rw [BVV]
                    have hB := Below.trans hB (hbx.mono hB.size)
                    clear hbx
                    go_simp
                    refine hK.out _ _ (by exact RC.out _ hB) (fun hHeld => ?_)
                    clear hK K
                    (try simp only [Act.put, List.setIfInBounds_toArray, List.set_cons_zero, List.set_cons_succ])
                    refine wpAnyH_take (i := 14) (oi := _) (v := _) rfl (by as_aux_lemma => kernel_rfl) (by as_aux_lemma => kernel_rfl) (by as_aux_lemma => kernel_rfl) (fun _ _ _ h => h) (Or.inl ⟨by kernel_rfl, by (intro w hSw; (try dsimp only at hSw); go_simp; first | done | with_reducible rfl)⟩) (by assumption) ?_
                    (try simp only [Act.put, List.setIfInBounds_toArray, List.set_cons_zero, List.set_cons_succ])
                    refine wpAnyH_take (i := 15) (oi := _) (v := _) rfl (by as_aux_lemma => kernel_rfl) (by as_aux_lemma => kernel_rfl) (by as_aux_lemma => kernel_rfl) (fun _ _ _ h => h) (Or.inl ⟨by kernel_rfl, by (intro w hSw; (try dsimp only at hSw); go_simp; first | done | with_reducible rfl)⟩) (by assumption) ?_
                    (try simp only [Act.put, List.setIfInBounds_toArray, List.set_cons_zero, List.set_cons_succ])
                    refine wpAnyH_take (i := 16) (oi := _) (v := _) rfl (by as_aux_lemma => kernel_rfl) (by as_aux_lemma => kernel_rfl) (by as_aux_lemma => kernel_rfl) (fun _ _ _ h => h) (Or.inl ⟨by kernel_rfl, by (intro w hSw; (try dsimp only at hSw); go_simp; first | done | with_reducible rfl)⟩) (by assumption) ?_
                    (try simp only [Act.put, List.setIfInBounds_toArray, List.set_cons_zero, List.set_cons_succ])
                    refine wpAnyH_take (i := 17) (oi := _) (v := _) rfl (by as_aux_lemma => kernel_rfl) (by as_aux_lemma => kernel_rfl) (by as_aux_lemma => kernel_rfl) (fun _ _ _ h => h) (Or.inl ⟨by kernel_rfl, by (intro w hSw; (try dsimp only at hSw); go_simp; first | done | with_reducible rfl)⟩) (by assumption) ?_
                    (try simp only [Act.put, List.setIfInBounds_toArray, List.set_cons_zero, List.set_cons_succ])
                    refine wpAnyH_take (i := 18) (oi := _) (v := _) rfl (by as_aux_lemma => kernel_rfl) (by as_aux_lemma => kernel_rfl) (by as_aux_lemma => kernel_rfl) (fun _ _ _ h => h) (Or.inl ⟨by kernel_rfl, by (intro w hSw; (try dsimp only at hSw); go_simp; first | done | with_reducible rfl)⟩) (by assumption) ?_
                    (try simp only [Act.put, List.setIfInBounds_toArray, List.set_cons_zero, List.set_cons_succ])
                    refine wpAnyH_take (i := 19) (oi := _) (v := _) rfl (by as_aux_lemma => kernel_rfl) (by as_aux_lemma => kernel_rfl) (by as_aux_lemma => kernel_rfl) (fun _ _ _ h => h) (Or.inl ⟨by kernel_rfl, by (intro w hSw; (try dsimp only at hSw); go_simp; first | done | with_reducible rfl)⟩) (by assumption) ?_
                    (try simp only [Act.put, List.setIfInBounds_toArray, List.set_cons_zero, List.set_cons_succ])
                    refine wpAnyH_take (i := 20) (oi := _) (v := _) rfl (by as_aux_lemma => kernel_rfl) (by as_aux_lemma => kernel_rfl) (by as_aux_lemma => kernel_rfl) (fun _ _ _ h => h) (Or.inl ⟨by kernel_rfl, by (intro w hSw; (try dsimp only at hSw); go_simp; first | done | with_reducible rfl)⟩) (by assumption) ?_
                    (try simp only [Act.put, List.setIfInBounds_toArray, List.set_cons_zero, List.set_cons_succ])
                    refine wpAnyH_take (i := 23) (oi := _) (v := _) rfl (by as_aux_lemma => kernel_rfl) (by as_aux_lemma => kernel_rfl) (by as_aux_lemma => kernel_rfl) (fun _ _ _ h => h) (Or.inl ⟨by kernel_rfl, by (intro w hSw; (try dsimp only at hSw); go_simp; first | done | with_reducible rfl)⟩) (by assumption) ?_
                    (try simp only [Act.put, List.setIfInBounds_toArray, List.set_cons_zero, List.set_cons_succ])
                    refine wpAnyH_take (i := 24) (oi := _) (v := _) rfl (by as_aux_lemma => kernel_rfl) (by as_aux_lemma => kernel_rfl) (by as_aux_lemma => kernel_rfl) (fun _ _ _ h => h) (Or.inl ⟨by kernel_rfl, by (intro w hSw; (try dsimp only at hSw); go_simp; first | done | with_reducible rfl)⟩) (by assumption) ?_
                    (try simp only [Act.put, List.setIfInBounds_toArray, List.set_cons_zero, List.set_cons_succ])
                    refine wpAnyH_take (i := 25) (oi := _) (v := _) rfl (by as_aux_lemma => kernel_rfl) (by as_aux_lemma => kernel_rfl) (by as_aux_lemma => kernel_rfl) (fun _ _ _ h => h) (Or.inl ⟨by kernel_rfl, by (intro w hSw; (try dsimp only at hSw); go_simp; first | done | with_reducible rfl)⟩) (by assumption) ?_
                    (try simp only [Act.put, List.setIfInBounds_toArray, List.set_cons_zero, List.set_cons_succ])
                    refine wpAnyH_take (i := 26) (oi := _) (v := _) rfl (by as_aux_lemma => kernel_rfl) (by as_aux_lemma => kernel_rfl) (by as_aux_lemma => kernel_rfl) (fun _ _ _ h => h) (Or.inl ⟨by kernel_rfl, by (intro w hSw; (try dsimp only at hSw); go_simp; first | done | with_reducible rfl)⟩) (by assumption) ?_
                    (try simp only [Act.put, List.setIfInBounds_toArray, List.set_cons_zero, List.set_cons_succ])
                    refine wpAnyH_take (i := 27) (oi := _) (v := _) rfl (by as_aux_lemma => kernel_rfl) (by as_aux_lemma => kernel_rfl) (by as_aux_lemma => kernel_rfl) (fun _ _ _ h => h) (Or.inl ⟨by kernel_rfl, by (intro w hSw; (try dsimp only at hSw); go_simp; first | done | with_reducible rfl)⟩) (by assumption) ?_
                    (try simp only [Act.put, List.setIfInBounds_toArray, List.set_cons_zero, List.set_cons_succ])
                    refine wpAnyH_ready (rs := [21]) (by as_aux_lemma => kernel_rfl) (by simp) (AllReadyH.cons rfl (fun K hK => ?_) AllReadyH.nil)
                    try simp only [List.getElem_toArray, List.getElem_cons_succ, List.getElem_cons_zero]
                    go_simp
                    go_at_call 16
                    refine (id_any sk _ hsz).mono ?_
                    rintro e wX ⟨rfl, hbx⟩
                    have hB := Below.trans hB (hbx.mono hB.size)
                    clear hbx
                    go_simp
                    refine hK.out _ _ (by exact RC.out _ hB) (fun hHeld => ?_)
                    clear hK K
                    (try simp only [Act.put, List.setIfInBounds_toArray, List.set_cons_zero, List.set_cons_succ])
                    refine wpAnyH_ready (rs := [22]) (by as_aux_lemma => kernel_rfl) (by simp) (AllReadyH.cons rfl (fun K hK => ?_) AllReadyH.nil)
                    try simp only [List.getElem_toArray, List.getElem_cons_succ, List.getElem_cons_zero]
                    go_simp
                    go_at_call 15
                    refine (has_any _ (wc.heap.size + 1) _ _ _ H (6 + a) FU _ (F10.out.1.below hB) EN2.out (by omega) H8).mono ?_
                    rintro e wX ⟨rfl, hbx⟩
                    rw [BVV]
                    have hB := Below.trans hB (hbx.mono hB.size)
                    clear hbx
                    go_simp
                    refine hK.out _ _ (by exact RC.out _ hB) (fun hHeld => ?_)
                    clear hK K
                    (try simp only [Act.put, List.setIfInBounds_toArray, List.set_cons_zero, List.set_cons_succ])
                    refine wpAnyH_ready (rs := [28]) (by as_aux_lemma => kernel_rfl) (by simp) (AllReadyH.cons rfl (fun K hK => ?_) AllReadyH.nil)
                    try simp only [List.getElem_toArray, List.getElem_cons_succ, List.getElem_cons_zero]
                    go_simp
                    go_at_call 16
                    refine (id_any sk _ hsz).mono ?_
                    rintro e wX ⟨rfl, hbx⟩
                    have hB := Below.trans hB (hbx.mono hB.size)
                    clear hbx
                    go_simp
                    refine hK.out _ _ (by exact RC.out _ hB) (fun hHeld => ?_)
                    clear hK K
                    (try simp only [Act.put, List.setIfInBounds_toArray, List.set_cons_zero, List.set_cons_succ])
                    refine wpAnyH_ready (rs := [29]) (by as_aux_lemma => kernel_rfl) (by simp) (AllReadyH.cons rfl (fun K hK => ?_) AllReadyH.nil)
                    try simp only [List.getElem_toArray, List.getElem_cons_succ, List.getElem_cons_zero]
                    go_simp
                    go_at_call 15
                    refine (has_any _ _ _ _ _ H (6 + a) FU _ (F10.out.2.2.1.below hB) EN2.out (by omega) H8).mono ?_
                    rintro e wX ⟨rfl, hbx⟩
                    rw [BVV]
                    have hB := Below.trans hB (hbx.mono hB.size)
                    clear hbx
                    go_simp
                    refine hK.out _ _ (by exact RC.out _ hB) (fun hHeld => ?_)
                    clear hK K
                    (try simp only [Act.put, List.setIfInBounds_toArray, List.set_cons_zero, List.set_cons_succ])
                    refine wpAnyH_take (i := 30) (oi := _) (v := _) rfl (by as_aux_lemma => kernel_rfl) (by as_aux_lemma => kernel_rfl) (by as_aux_lemma => kernel_rfl) (fun _ _ _ h => h) (Or.inl ⟨by kernel_rfl, by (intro w hSw; (try dsimp only at hSw); go_simp; first | done | with_reducible rfl)⟩) (by assumption) ?_
                    (try simp only [Act.put, List.setIfInBounds_toArray, List.set_cons_zero, List.set_cons_succ])
                    refine wpAnyH_take (i := 31) (oi := _) (v := _) rfl (by as_aux_lemma => kernel_rfl) (by as_aux_lemma => kernel_rfl) (by as_aux_lemma => kernel_rfl) (fun _ _ _ h => h) (Or.inl ⟨by kernel_rfl, by (intro w hSw; (try dsimp only at hSw); go_simp; first | done | with_reducible rfl)⟩) (by assumption) ?_
                    (try simp only [Act.put, List.setIfInBounds_toArray, List.set_cons_zero, List.set_cons_succ])
                    refine wpAnyH_take (i := 32) (oi := _) (v := _) rfl (by as_aux_lemma => kernel_rfl) (by as_aux_lemma => kernel_rfl) (by as_aux_lemma => kernel_rfl) (fun _ _ _ h => h) (Or.inl ⟨by kernel_rfl, by (intro w hSw; (try dsimp only at hSw); go_simp; first | done | with_reducible rfl)⟩) (by assumption) ?_
                    (try simp only [Act.put, List.setIfInBounds_toArray, List.set_cons_zero, List.set_cons_succ])
                    refine wpAnyH_take (i := 33) (oi := _) (v := _) rfl (by as_aux_lemma => kernel_rfl) (by as_aux_lemma => kernel_rfl) (by as_aux_lemma => kernel_rfl) (fun _ _ _ h => h) (Or.inl ⟨by kernel_rfl, by (intro w hSw; (try dsimp only at hSw); go_simp; first | done | with_reducible rfl)⟩) (by assumption) ?_
                    (try simp only [Act.put, List.setIfInBounds_toArray, List.set_cons_zero, List.set_cons_succ])
                    refine wpAnyH_take (i := 34) (oi := _) (v := _) rfl (by as_aux_lemma => kernel_rfl) (by as_aux_lemma => kernel_rfl) (by as_aux_lemma => kernel_rfl) (fun _ _ _ h => h) (Or.inl ⟨by kernel_rfl, by (intro w hSw; (try dsimp only at hSw); go_simp; first | done | with_reducible rfl)⟩) (by assumption) ?_
                    (try simp only [Act.put, List.setIfInBounds_toArray, List.set_cons_zero, List.set_cons_succ])
                    refine wpAnyH_take (i := 35) (oi := _) (v := _) rfl (by as_aux_lemma => kernel_rfl) (by as_aux_lemma => kernel_rfl) (by as_aux_lemma => kernel_rfl) (fun _ _ _ h => h) (Or.inl ⟨by kernel_rfl, by (intro w hSw; (try dsimp only at hSw); go_simp; first | done | with_reducible rfl)⟩) (by assumption) ?_
                    (try simp only [Act.put, List.setIfInBounds_toArray, List.set_cons_zero, List.set_cons_succ])
                    refine wpAnyH_take (i := 36) (oi := _) (v := _) rfl (by as_aux_lemma => kernel_rfl) (by as_aux_lemma => kernel_rfl) (by as_aux_lemma => kernel_rfl) (fun _ _ _ h => h) (Or.inl ⟨by kernel_rfl, by (intro w hSw; (try dsimp only at hSw); go_simp; first | done | with_reducible rfl)⟩) (by assumption) ?_
                    (try simp only [Act.put, List.setIfInBounds_toArray, List.set_cons_zero, List.set_cons_succ])
                    refine wpAnyH_take (i := 37) (oi := _) (v := undef) rfl (by as_aux_lemma => kernel_rfl) (by as_aux_lemma => kernel_rfl) (by as_aux_lemma => kernel_rfl) (fun _ _ _ h => h) (Or.inr ⟨by kernel_rfl, rfl⟩) (by assumption) ?_
                    (try simp only [Act.put, List.setIfInBounds_toArray, List.set_cons_zero, List.set_cons_succ])
                    refine wpAnyH_take (i := 38) (oi := _) (v := undef) rfl (by as_aux_lemma => kernel_rfl) (by as_aux_lemma => kernel_rfl) (by as_aux_lemma => kernel_rfl) (fun _ _ _ h => h) (Or.inr ⟨by kernel_rfl, rfl⟩) (by assumption) ?_
                    (try simp only [Act.put, List.setIfInBounds_toArray, List.set_cons_zero, List.set_cons_succ])
                    refine wpAnyH_take (i := 39) (oi := _) (v := undef) rfl (by as_aux_lemma => kernel_rfl) (by as_aux_lemma => kernel_rfl) (by as_aux_lemma => kernel_rfl) (fun _ _ _ h => h) (Or.inr ⟨by kernel_rfl, rfl⟩) (by assumption) ?_
                    (try simp only [Act.put, List.setIfInBounds_toArray, List.set_cons_zero, List.set_cons_succ])
                    refine wpAnyH_take (i := 40) (oi := _) (v := undef) rfl (by as_aux_lemma => kernel_rfl) (by as_aux_lemma => kernel_rfl) (by as_aux_lemma => kernel_rfl) (fun _ _ _ h => h) (Or.inr ⟨by kernel_rfl, rfl⟩) (by assumption) ?_
                    (try simp only [Act.put, List.setIfInBounds_toArray, List.set_cons_zero, List.set_cons_succ])
                    refine wpAnyH_take (i := 41) (oi := _) (v := undef) rfl (by as_aux_lemma => kernel_rfl) (by as_aux_lemma => kernel_rfl) (by as_aux_lemma => kernel_rfl) (fun _ _ _ h => h) (Or.inr ⟨by kernel_rfl, rfl⟩) (by assumption) ?_
                    (try simp only [Act.put, List.setIfInBounds_toArray, List.set_cons_zero, List.set_cons_succ])
                    refine wpAnyH_take (i := 42) (oi := _) (v := undef) rfl (by as_aux_lemma => kernel_rfl) (by as_aux_lemma => kernel_rfl) (by as_aux_lemma => kernel_rfl) (fun _ _ _ h => h) (Or.inr ⟨by kernel_rfl, rfl⟩) (by assumption) ?_
                    (try simp only [Act.put, List.setIfInBounds_toArray, List.set_cons_zero, List.set_cons_succ])
                    refine wpAnyH_take (i := 43) (oi := _) (v := undef) rfl (by as_aux_lemma => kernel_rfl) (by as_aux_lemma => kernel_rfl) (by as_aux_lemma => kernel_rfl) (fun _ _ _ h => h) (Or.inr ⟨by kernel_rfl, rfl⟩) (by assumption) ?_
                    (try simp only [Act.put, List.setIfInBounds_toArray, List.set_cons_zero, List.set_cons_succ])
                    refine wpAnyH_take (i := 44) (oi := _) (v := _) rfl (by as_aux_lemma => kernel_rfl) (by as_aux_lemma => kernel_rfl) (by as_aux_lemma => kernel_rfl) (fun _ _ _ h => h) (Or.inl ⟨by kernel_rfl, by (intro w hSw; (try dsimp only at hSw); go_simp; first | done | with_reducible rfl)⟩) (by assumption) ?_
                    (try simp only [List.getElem_toArray, List.getElem_cons_succ, List.getElem_cons_zero, Act.put, List.setIfInBounds_toArray, List.set_cons_zero, List.set_cons_succ])
                    refine wpAnyH_take (i := 45) (oi := _) (v := _) rfl (by as_aux_lemma => kernel_rfl) (by as_aux_lemma => kernel_rfl) (by as_aux_lemma => kernel_rfl) (fun _ _ _ h => h) (Or.inl ⟨by kernel_rfl, by (intro w hSw; (try dsimp only at hSw); go_simp; first | done | with_reducible rfl)⟩) (by assumption) ?_
                    (try simp only [List.getElem_toArray, List.getElem_cons_succ, List.getElem_cons_zero, Act.put, List.setIfInBounds_toArray, List.set_cons_zero, List.set_cons_succ])
                    refine wpAnyH_done (by as_aux_lemma => kernel_rfl) ?_ _
                    all_goals
                      go_wp2_with fail
                      go_meet
                      exact ⟨rfl, Lib.hid hB⟩
                  | true =>
                    have hbf : bb = false := by rw [← HBV.out]; exact HZ.out (of_decide_eq_true HZZ.out) _
                    subst hbf
                    have BVV := HBV.out
                    refine wp_region_held_drew (S := fun w' => w'.cell? (ad.add j) = some (.string sk)) (by kernel_rfl) (by exact RC.out _ hB) (fun hHeld => ?_)
                    refine wpAnyH_take (i := 0) (oi := _) (v := _) rfl (by as_aux_lemma => kernel_rfl) (by as_aux_lemma => kernel_rfl) (by as_aux_lemma => kernel_rfl) (fun _ _ _ h => h) (Or.inl ⟨by kernel_rfl, by (intro w hSw; (try dsimp only at hSw); go_simp; first | done | with_reducible rfl)⟩) (by assumption) ?_
                    (try simp only [Act.put, List.setIfInBounds_toArray, List.set_cons_zero, List.set_cons_succ])
                    refine wpAnyH_take (i := 1) (oi := _) (v := _) rfl (by as_aux_lemma => kernel_rfl) (by as_aux_lemma => kernel_rfl) (by as_aux_lemma => kernel_rfl) (fun _ _ _ h => h) (Or.inl ⟨by kernel_rfl, by (intro w hSw; (try dsimp only at hSw); go_simp; first | done | with_reducible rfl)⟩) (by assumption) ?_
                    (try simp only [Act.put, List.setIfInBounds_toArray, List.set_cons_zero, List.set_cons_succ])
                    refine wpAnyH_take (i := 2) (oi := _) (v := _) rfl (by as_aux_lemma => kernel_rfl) (by as_aux_lemma => kernel_rfl) (by as_aux_lemma => kernel_rfl) (fun _ _ _ h => h) (Or.inl ⟨by kernel_rfl, by (intro w hSw; (try dsimp only at hSw); go_simp; first | done | with_reducible rfl)⟩) (by assumption) ?_
                    (try simp only [Act.put, List.setIfInBounds_toArray, List.set_cons_zero, List.set_cons_succ])
                    refine wpAnyH_take (i := 3) (oi := _) (v := _) rfl (by as_aux_lemma => kernel_rfl) (by as_aux_lemma => kernel_rfl) (by as_aux_lemma => kernel_rfl) (fun _ _ _ h => h) (Or.inl ⟨by kernel_rfl, by (intro w hSw; (try dsimp only at hSw); go_simp; first | done | with_reducible rfl)⟩) (by assumption) ?_
                    (try simp only [Act.put, List.setIfInBounds_toArray, List.set_cons_zero, List.set_cons_succ])
                    refine wpAnyH_take (i := 4) (oi := _) (v := _) rfl (by as_aux_lemma => kernel_rfl) (by as_aux_lemma => kernel_rfl) (by as_aux_lemma => kernel_rfl) (fun _ _ _ h => h) (Or.inl ⟨by kernel_rfl, by (intro w hSw; (try dsimp only at hSw); go_simp; first | done | with_reducible rfl)⟩) (by assumption) ?_
                    (try simp only [Act.put, List.setIfInBounds_toArray, List.set_cons_zero, List.set_cons_succ])
                    refine wpAnyH_take (i := 7) (oi := _) (v := _) rfl (by as_aux_lemma => kernel_rfl) (by as_aux_lemma => kernel_rfl) (by as_aux_lemma => kernel_rfl) (fun _ _ _ h => h) (Or.inl ⟨by kernel_rfl, by (intro w hSw; (try dsimp only at hSw); go_simp; first | done | with_reducible rfl)⟩) (by assumption) ?_
                    (try simp only [Act.put, List.setIfInBounds_toArray, List.set_cons_zero, List.set_cons_succ])
                    refine wpAnyH_take (i := 8) (oi := _) (v := _) rfl (by as_aux_lemma => kernel_rfl) (by as_aux_lemma => kernel_rfl) (by as_aux_lemma => kernel_rfl) (fun _ _ _ h => h) (Or.inl ⟨by kernel_rfl, by (intro w hSw; (try dsimp only at hSw); go_simp; first | done | with_reducible rfl)⟩) (by assumption) ?_
                    (try simp only [Act.put, List.setIfInBounds_toArray, List.set_cons_zero, List.set_cons_succ])
                    refine wpAnyH_take (i := 9) (oi := _) (v := _) rfl (by as_aux_lemma => kernel_rfl) (by as_aux_lemma => kernel_rfl) (by as_aux_lemma => kernel_rfl) (fun _ _ _ h => h) (Or.inl ⟨by kernel_rfl, by (intro w hSw; (try dsimp only at hSw); go_simp; first | done | with_reducible rfl)⟩) (by assumption) ?_
                    (try simp only [Act.put, List.setIfInBounds_toArray, List.set_cons_zero, List.set_cons_succ])
                    refine wpAnyH_take (i := 10) (oi := _) (v := _) rfl (by as_aux_lemma => kernel_rfl) (by as_aux_lemma => kernel_rfl) (by as_aux_lemma => kernel_rfl) (fun _ _ _ h => h) (Or.inl ⟨by kernel_rfl, by (intro w hSw; (try dsimp only at hSw); go_simp; first | done | with_reducible rfl)⟩) (by assumption) ?_
                    (try simp only [Act.put, List.setIfInBounds_toArray, List.set_cons_zero, List.set_cons_succ])
                    refine wpAnyH_take (i := 11) (oi := _) (v := _) rfl (by as_aux_lemma => kernel_rfl) (by as_aux_lemma => kernel_rfl) (by as_aux_lemma => kernel_rfl) (fun _ _ _ h => h) (Or.inl ⟨by kernel_rfl, by (intro w hSw; (try dsimp only at hSw); go_simp; first | done | with_reducible rfl)⟩) (by assumption) ?_
                    (try simp only [Act.put, List.setIfInBounds_toArray, List.set_cons_zero, List.set_cons_succ])
                    refine wpAnyH_ready (rs := [5]) (by as_aux_lemma => kernel_rfl) (by simp) (AllReadyH.cons rfl (fun K hK => ?_) AllReadyH.nil)
                    try simp only [List.getElem_toArray, List.getElem_cons_succ, List.getElem_cons_zero]
                    go_simp
                    go_at_call 16
                    refine (id_any sk _ hsz).mono ?_
                    rintro e wX ⟨rfl, hbx⟩
                    have hB := Below.trans hB (hbx.mono hB.size)
                    clear hbx
                    go_simp
                    refine hK.out _ _ (by exact RC.out _ hB) (fun hHeld => ?_)
                    clear hK K
                    (try simp only [Act.put, List.setIfInBounds_toArray, List.set_cons_zero, List.set_cons_succ])
                    refine wpAnyH_ready (rs := [6]) (by as_aux_lemma => kernel_rfl) (by simp) (AllReadyH.cons rfl (fun K hK => ?_) AllReadyH.nil)
                    try simp only [List.getElem_toArray, List.getElem_cons_succ, List.getElem_cons_zero]
                    go_simp
                    go_at_call 15
                    refine (has_any _ (wc.heap.size + 1) _ _ _ H (6 + a) FU _ (F10.out.1.below hB) EN2.out (by omega) H8).mono ?_
                    rintro e wX ⟨rfl, hbx⟩
                    rw [BVV]
                    have hB := Below.trans hB (hbx.mono hB.size)
                    clear hbx
                    go_simp
                    refine hK.out _ _ (by exact RC.out _ hB) (fun hHeld => ?_)
                    clear hK K
                    (try simp only [Act.put, List.setIfInBounds_toArray, List.set_cons_zero, List.set_cons_succ])
                    refine wpAnyH_ready (rs := [12]) (by as_aux_lemma => kernel_rfl) (by simp) (AllReadyH.cons rfl (fun K hK => ?_) AllReadyH.nil)
                    try simp only [List.getElem_toArray, List.getElem_cons_succ, List.getElem_cons_zero]
                    go_simp
                    go_at_call 16
                    refine (id_any sk _ hsz).mono ?_
                    rintro e wX ⟨rfl, hbx⟩
                    have hB := Below.trans hB (hbx.mono hB.size)
                    clear hbx
                    go_simp
                    refine hK.out _ _ (by exact RC.out _ hB) (fun hHeld => ?_)
                    clear hK K
                    (try simp only [Act.put, List.setIfInBounds_toArray, List.set_cons_zero, List.set_cons_succ])
                    refine wpAnyH_ready (rs := [13]) (by as_aux_lemma => kernel_rfl) (by simp) (AllReadyH.cons rfl (fun K hK => ?_) AllReadyH.nil)
                    try simp only [List.getElem_toArray, List.getElem_cons_succ, List.getElem_cons_zero]
                    go_simp
                    go_at_call 15
                    refine (has_any _ P6 _ _ _ H (6 + a) FU _ (F10.out.2.2.2.below hB) EN2.out (by omega) H8).mono ?_
                    rintro e wX ⟨rfl, hbx⟩
                    rw [BVV]
                    have hB := Below.trans hB (hbx.mono hB.size)
                    clear hbx
                    go_simp
                    refine hK.out _ _ (by exact RC.out _ hB) (fun hHeld => ?_)
                    clear hK K
                    (try simp only [Act.put, List.setIfInBounds_toArray, List.set_cons_zero, List.set_cons_succ])
                    refine wpAnyH_take (i := 14) (oi := _) (v := _) rfl (by as_aux_lemma => kernel_rfl) (by as_aux_lemma => kernel_rfl) (by as_aux_lemma => kernel_rfl) (fun _ _ _ h => h) (Or.inl ⟨by kernel_rfl, by (intro w hSw; (try dsimp only at hSw); go_simp; first | done | with_reducible rfl)⟩) (by assumption) ?_
                    (try simp only [Act.put, List.setIfInBounds_toArray, List.set_cons_zero, List.set_cons_succ])
                    refine wpAnyH_take (i := 15) (oi := _) (v := _) rfl (by as_aux_lemma => kernel_rfl) (by as_aux_lemma => kernel_rfl) (by as_aux_lemma => kernel_rfl) (fun _ _ _ h => h) (Or.inl ⟨by kernel_rfl, by (intro w hSw; (try dsimp only at hSw); go_simp; first | done | with_reducible rfl)⟩) (by assumption) ?_
                    (try simp only [Act.put, List.setIfInBounds_toArray, List.set_cons_zero, List.set_cons_succ])
                    refine wpAnyH_take (i := 16) (oi := _) (v := _) rfl (by as_aux_lemma => kernel_rfl) (by as_aux_lemma => kernel_rfl) (by as_aux_lemma => kernel_rfl) (fun _ _ _ h => h) (Or.inl ⟨by kernel_rfl, by (intro w hSw; (try dsimp only at hSw); go_simp; first | done | with_reducible rfl)⟩) (by assumption) ?_
                    (try simp only [Act.put, List.setIfInBounds_toArray, List.set_cons_zero, List.set_cons_succ])
                    refine wpAnyH_take (i := 17) (oi := _) (v := _) rfl (by as_aux_lemma => kernel_rfl) (by as_aux_lemma => kernel_rfl) (by as_aux_lemma => kernel_rfl) (fun _ _ _ h => h) (Or.inl ⟨by kernel_rfl, by (intro w hSw; (try dsimp only at hSw); go_simp; first | done | with_reducible rfl)⟩) (by assumption) ?_
                    (try simp only [Act.put, List.setIfInBounds_toArray, List.set_cons_zero, List.set_cons_succ])
                    refine wpAnyH_take (i := 18) (oi := _) (v := _) rfl (by as_aux_lemma => kernel_rfl) (by as_aux_lemma => kernel_rfl) (by as_aux_lemma => kernel_rfl) (fun _ _ _ h => h) (Or.inl ⟨by kernel_rfl, by (intro w hSw; (try dsimp only at hSw); go_simp; first | done | with_reducible rfl)⟩) (by assumption) ?_
                    (try simp only [Act.put, List.setIfInBounds_toArray, List.set_cons_zero, List.set_cons_succ])
                    refine wpAnyH_take (i := 19) (oi := _) (v := _) rfl (by as_aux_lemma => kernel_rfl) (by as_aux_lemma => kernel_rfl) (by as_aux_lemma => kernel_rfl) (fun _ _ _ h => h) (Or.inl ⟨by kernel_rfl, by (intro w hSw; (try dsimp only at hSw); go_simp; first | done | with_reducible rfl)⟩) (by assumption) ?_
                    (try simp only [Act.put, List.setIfInBounds_toArray, List.set_cons_zero, List.set_cons_succ])
                    refine wpAnyH_take (i := 20) (oi := _) (v := _) rfl (by as_aux_lemma => kernel_rfl) (by as_aux_lemma => kernel_rfl) (by as_aux_lemma => kernel_rfl) (fun _ _ _ h => h) (Or.inl ⟨by kernel_rfl, by (intro w hSw; (try dsimp only at hSw); go_simp; first | done | with_reducible rfl)⟩) (by assumption) ?_
                    (try simp only [Act.put, List.setIfInBounds_toArray, List.set_cons_zero, List.set_cons_succ])
                    refine wpAnyH_take (i := 23) (oi := _) (v := _) rfl (by as_aux_lemma => kernel_rfl) (by as_aux_lemma => kernel_rfl) (by as_aux_lemma => kernel_rfl) (fun _ _ _ h => h) (Or.inl ⟨by kernel_rfl, by (intro w hSw; (try dsimp only at hSw); go_simp; first | done | with_reducible rfl)⟩) (by assumption) ?_
                    (try simp only [Act.put, List.setIfInBounds_toArray, List.set_cons_zero, List.set_cons_succ])
                    refine wpAnyH_take (i := 24) (oi := _) (v := _) rfl (by as_aux_lemma => kernel_rfl) (by as_aux_lemma => kernel_rfl) (by as_aux_lemma => kernel_rfl) (fun _ _ _ h => h) (Or.inl ⟨by kernel_rfl, by (intro w hSw; (try dsimp only at hSw); go_simp; first | done | with_reducible rfl)⟩) (by assumption) ?_
                    (try simp only [Act.put, List.setIfInBounds_toArray, List.set_cons_zero, List.set_cons_succ])
                    refine wpAnyH_take (i := 25) (oi := _) (v := _) rfl (by as_aux_lemma => kernel_rfl) (by as_aux_lemma => kernel_rfl) (by as_aux_lemma => kernel_rfl) (fun _ _ _ h => h) (Or.inl ⟨by kernel_rfl, by (intro w hSw; (try dsimp only at hSw); go_simp; first | done | with_reducible rfl)⟩) (by assumption) ?_
                    (try simp only [Act.put, List.setIfInBounds_toArray, List.set_cons_zero, List.set_cons_succ])
                    refine wpAnyH_take (i := 26) (oi := _) (v := _) rfl (by as_aux_lemma => kernel_rfl) (by as_aux_lemma => kernel_rfl) (by as_aux_lemma => kernel_rfl) (fun _ _ _ h => h) (Or.inl ⟨by kernel_rfl, by (intro w hSw; (try dsimp only at hSw); go_simp; first | done | with_reducible rfl)⟩) (by assumption) ?_
                    (try simp only [Act.put, List.setIfInBounds_toArray, List.set_cons_zero, List.set_cons_succ])
                    refine wpAnyH_take (i := 27) (oi := _) (v := _) rfl (by as_aux_lemma => kernel_rfl) (by as_aux_lemma => kernel_rfl) (by as_aux_lemma => kernel_rfl) (fun _ _ _ h => h) (Or.inl ⟨by kernel_rfl, by (intro w hSw; (try dsimp only at hSw); go_simp; first | done | with_reducible rfl)⟩) (by assumption) ?_
                    (try simp only [Act.put, List.setIfInBounds_toArray, List.set_cons_zero, List.set_cons_succ])
                    refine wpAnyH_ready (rs := [21]) (by as_aux_lemma => kernel_rfl) (by simp) (AllReadyH.cons rfl (fun K hK => ?_) AllReadyH.nil)
                    try simp only [List.getElem_toArray, List.getElem_cons_succ, List.getElem_cons_zero]
                    go_simp
                    go_at_call 16
                    refine (id_any sk _ hsz).mono ?_
                    rintro e wX ⟨rfl, hbx⟩
                    have hB := Below.trans hB (hbx.mono hB.size)
                    clear hbx
                    go_simp
                    refine hK.out _ _ (by exact RC.out _ hB) (fun hHeld => ?_)
                    clear hK K
                    (try simp only [Act.put, List.setIfInBounds_toArray, List.set_cons_zero, List.set_cons_succ])
                    refine wpAnyH_ready (rs := [22]) (by as_aux_lemma => kernel_rfl) (by simp) (AllReadyH.cons rfl (fun K hK => ?_) AllReadyH.nil)
                    try simp only [List.getElem_toArray, List.getElem_cons_succ, List.getElem_cons_zero]
                    go_simp
                    go_at_call 15
                    refine (has_any _ (wc.heap.size + 1) _ _ _ H (6 + a) FU _ (F10.out.1.below hB) EN2.out (by omega) H8).mono ?_
                    rintro e wX ⟨rfl, hbx⟩
                    rw [BVV]
                    have hB := Below.trans hB (hbx.mono hB.size)
                    clear hbx
                    go_simp
                    refine hK.out _ _ (by exact RC.out _ hB) (fun hHeld => ?_)
                    clear hK K
                    (try simp only [Act.put, List.setIfInBounds_toArray, List.set_cons_zero, List.set_cons_succ])
                    refine wpAnyH_ready (rs := [28]) (by as_aux_lemma => kernel_rfl) (by simp) (AllReadyH.cons rfl (fun K hK => ?_) AllReadyH.nil)
                    try simp only [List.getElem_toArray, List.getElem_cons_succ, List.getElem_cons_zero]
                    go_simp
                    go_at_call 16
                    refine (id_any sk _ hsz).mono ?_
                    rintro e wX ⟨rfl, hbx⟩
                    have hB := Below.trans hB (hbx.mono hB.size)
                    clear hbx
                    go_simp
                    refine hK.out _ _ (by exact RC.out _ hB) (fun hHeld => ?_)
                    clear hK K
                    (try simp only [Act.put, List.setIfInBounds_toArray, List.set_cons_zero, List.set_cons_succ])
                    refine wpAnyH_ready (rs := [29]) (by as_aux_lemma => kernel_rfl) (by simp) (AllReadyH.cons rfl (fun K hK => ?_) AllReadyH.nil)
                    try simp only [List.getElem_toArray, List.getElem_cons_succ, List.getElem_cons_zero]
                    go_simp
                    go_at_call 15
                    refine (has_any _ _ _ _ _ H (6 + a) FU _ (F10.out.2.2.1.below hB) EN2.out (by omega) H8).mono ?_
                    rintro e wX ⟨rfl, hbx⟩
                    rw [BVV]
                    have hB := Below.trans hB (hbx.mono hB.size)
                    clear hbx
                    go_simp
                    refine hK.out _ _ (by exact RC.out _ hB) (fun hHeld => ?_)
                    clear hK K
                    (try simp only [Act.put, List.setIfInBounds_toArray, List.set_cons_zero, List.set_cons_succ])
                    refine wpAnyH_take (i := 30) (oi := _) (v := _) rfl (by as_aux_lemma => kernel_rfl) (by as_aux_lemma => kernel_rfl) (by as_aux_lemma => kernel_rfl) (fun _ _ _ h => h) (Or.inl ⟨by kernel_rfl, by (intro w hSw; (try dsimp only at hSw); go_simp; first | done | with_reducible rfl)⟩) (by assumption) ?_
                    (try simp only [Act.put, List.setIfInBounds_toArray, List.set_cons_zero, List.set_cons_succ])
                    refine wpAnyH_take (i := 31) (oi := _) (v := _) rfl (by as_aux_lemma => kernel_rfl) (by as_aux_lemma => kernel_rfl) (by as_aux_lemma => kernel_rfl) (fun _ _ _ h => h) (Or.inl ⟨by kernel_rfl, by (intro w hSw; (try dsimp only at hSw); go_simp; first | done | with_reducible rfl)⟩) (by assumption) ?_
                    (try simp only [Act.put, List.setIfInBounds_toArray, List.set_cons_zero, List.set_cons_succ])
                    refine wpAnyH_take (i := 32) (oi := _) (v := _) rfl (by as_aux_lemma => kernel_rfl) (by as_aux_lemma => kernel_rfl) (by as_aux_lemma => kernel_rfl) (fun _ _ _ h => h) (Or.inl ⟨by kernel_rfl, by (intro w hSw; (try dsimp only at hSw); go_simp; first | done | with_reducible rfl)⟩) (by assumption) ?_
                    (try simp only [Act.put, List.setIfInBounds_toArray, List.set_cons_zero, List.set_cons_succ])
                    refine wpAnyH_take (i := 33) (oi := _) (v := _) rfl (by as_aux_lemma => kernel_rfl) (by as_aux_lemma => kernel_rfl) (by as_aux_lemma => kernel_rfl) (fun _ _ _ h => h) (Or.inl ⟨by kernel_rfl, by (intro w hSw; (try dsimp only at hSw); go_simp; first | done | with_reducible rfl)⟩) (by assumption) ?_
                    (try simp only [Act.put, List.setIfInBounds_toArray, List.set_cons_zero, List.set_cons_succ])
                    refine wpAnyH_take (i := 34) (oi := _) (v := _) rfl (by as_aux_lemma => kernel_rfl) (by as_aux_lemma => kernel_rfl) (by as_aux_lemma => kernel_rfl) (fun _ _ _ h => h) (Or.inl ⟨by kernel_rfl, by (intro w hSw; (try dsimp only at hSw); go_simp; first | done | with_reducible rfl)⟩) (by assumption) ?_
                    (try simp only [Act.put, List.setIfInBounds_toArray, List.set_cons_zero, List.set_cons_succ])
                    refine wpAnyH_take (i := 35) (oi := _) (v := _) rfl (by as_aux_lemma => kernel_rfl) (by as_aux_lemma => kernel_rfl) (by as_aux_lemma => kernel_rfl) (fun _ _ _ h => h) (Or.inl ⟨by kernel_rfl, by (intro w hSw; (try dsimp only at hSw); go_simp; first | done | with_reducible rfl)⟩) (by assumption) ?_
                    (try simp only [Act.put, List.setIfInBounds_toArray, List.set_cons_zero, List.set_cons_succ])
                    refine wpAnyH_take (i := 36) (oi := _) (v := _) rfl (by as_aux_lemma => kernel_rfl) (by as_aux_lemma => kernel_rfl) (by as_aux_lemma => kernel_rfl) (fun _ _ _ h => h) (Or.inl ⟨by kernel_rfl, by (intro w hSw; (try dsimp only at hSw); go_simp; first | done | with_reducible rfl)⟩) (by assumption) ?_
                    (try simp only [Act.put, List.setIfInBounds_toArray, List.set_cons_zero, List.set_cons_succ])
                    refine wpAnyH_take (i := 37) (oi := _) (v := _) rfl (by as_aux_lemma => kernel_rfl) (by as_aux_lemma => kernel_rfl) (by as_aux_lemma => kernel_rfl) (fun _ _ _ h => h) (Or.inl ⟨by kernel_rfl, by (intro w hSw; (try dsimp only at hSw); go_simp; first | done | with_reducible rfl)⟩) (by assumption) ?_
                    (try simp only [Act.put, List.setIfInBounds_toArray, List.set_cons_zero, List.set_cons_succ])
                    refine wpAnyH_take (i := 38) (oi := _) (v := _) rfl (by as_aux_lemma => kernel_rfl) (by as_aux_lemma => kernel_rfl) (by as_aux_lemma => kernel_rfl) (fun _ _ _ h => h) (Or.inl ⟨by kernel_rfl, by (intro w hSw; (try dsimp only at hSw); go_simp; first | done | with_reducible rfl)⟩) (by assumption) ?_
                    (try simp only [Act.put, List.setIfInBounds_toArray, List.set_cons_zero, List.set_cons_succ])
                    refine wpAnyH_take (i := 39) (oi := _) (v := _) rfl (by as_aux_lemma => kernel_rfl) (by as_aux_lemma => kernel_rfl) (by as_aux_lemma => kernel_rfl) (fun _ _ _ h => h) (Or.inl ⟨by kernel_rfl, by (intro w hSw; (try dsimp only at hSw); go_simp; first | done | with_reducible rfl)⟩) (by assumption) ?_
                    (try simp only [Act.put, List.setIfInBounds_toArray, List.set_cons_zero, List.set_cons_succ])
                    refine wpAnyH_take (i := 40) (oi := _) (v := _) rfl (by as_aux_lemma => kernel_rfl) (by as_aux_lemma => kernel_rfl) (by as_aux_lemma => kernel_rfl) (fun _ _ _ h => h) (Or.inl ⟨by kernel_rfl, by (intro w hSw; (try dsimp only at hSw); go_simp; first | done | with_reducible rfl)⟩) (by assumption) ?_
                    (try simp only [Act.put, List.setIfInBounds_toArray, List.set_cons_zero, List.set_cons_succ])
                    refine wpAnyH_take (i := 41) (oi := _) (v := _) rfl (by as_aux_lemma => kernel_rfl) (by as_aux_lemma => kernel_rfl) (by as_aux_lemma => kernel_rfl) (fun _ _ _ h => h) (Or.inl ⟨by kernel_rfl, by (intro w hSw; (try dsimp only at hSw); go_simp; first | done | with_reducible rfl)⟩) (by assumption) ?_
                    (try simp only [Act.put, List.setIfInBounds_toArray, List.set_cons_zero, List.set_cons_succ])
                    refine wpAnyH_ready (rs := [42]) (by as_aux_lemma => kernel_rfl) (by simp) (AllReadyH.cons rfl (fun K hK => ?_) AllReadyH.nil)
                    try simp only [List.getElem_toArray, List.getElem_cons_succ, List.getElem_cons_zero]
                    go_simp
                    go_at_call 16
                    refine (id_any sk _ hsz).mono ?_
                    rintro e wX ⟨rfl, hbx⟩
                    have hB := Below.trans hB (hbx.mono hB.size)
                    clear hbx
                    go_simp
                    refine hK.out _ _ (by exact RC.out _ hB) (fun hHeld => ?_)
                    clear hK K
                    (try simp only [Act.put, List.setIfInBounds_toArray, List.set_cons_zero, List.set_cons_succ])
                    refine wpAnyH_ready (rs := [43]) (by as_aux_lemma => kernel_rfl) (by simp) (AllReadyH.cons rfl (fun K hK => ?_) AllReadyH.nil)
                    try simp only [List.getElem_toArray, List.getElem_cons_succ, List.getElem_cons_zero]
                    go_simp
                    go_at_call 15
                    refine (has_any _ (wc.heap.size + 1) _ _ _ H (6 + a) FU _ (F10.out.1.below hB) EN2.out (by omega) H8).mono ?_
                    rintro e wX ⟨rfl, hbx⟩
                    rw [BVV]
                    have hB := Below.trans hB (hbx.mono hB.size)
                    clear hbx
                    go_simp
                    refine hK.out _ _ (by exact RC.out _ hB) (fun hHeld => ?_)
                    clear hK K
                    (try simp only [Act.put, List.setIfInBounds_toArray, List.set_cons_zero, List.set_cons_succ])
                    refine wpAnyH_take (i := 44) (oi := _) (v := _) rfl (by as_aux_lemma => kernel_rfl) (by as_aux_lemma => kernel_rfl) (by as_aux_lemma => kernel_rfl) (fun _ _ _ h => h) (Or.inl ⟨by kernel_rfl, by (intro w hSw; (try dsimp only at hSw); go_simp; first | done | with_reducible rfl)⟩) (by assumption) ?_
                    (try simp only [List.getElem_toArray, List.getElem_cons_succ, List.getElem_cons_zero, Act.put, List.setIfInBounds_toArray, List.set_cons_zero, List.set_cons_succ])
                    refine wpAnyH_take (i := 45) (oi := _) (v := _) rfl (by as_aux_lemma => kernel_rfl) (by as_aux_lemma => kernel_rfl) (by as_aux_lemma => kernel_rfl) (fun _ _ _ h => h) (Or.inl ⟨by kernel_rfl, by (intro w hSw; (try dsimp only at hSw); go_simp; first | done | with_reducible rfl)⟩) (by assumption) ?_
                    (try simp only [List.getElem_toArray, List.getElem_cons_succ, List.getElem_cons_zero, Act.put, List.setIfInBounds_toArray, List.set_cons_zero, List.set_cons_succ])
                    refine wpAnyH_done (by as_aux_lemma => kernel_rfl) ?_ _
                    all_goals
                      go_wp2_with fail
                      go_meet
                      exact ⟨rfl, Lib.hid hB⟩
                · obtain rfl : j = n2 := by omega
                  have BE := Lib.hid (B10.out.trans (HJ.out.mono hw10))
                  go_wp2
                  go_ret
                  exact ⟨rfl, BE.out⟩
end Go.Proofs.Ytbfmdingbgdflaa
