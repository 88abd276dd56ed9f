/- Walk: the reference's Read of a set of attributes. Conditions: the tables of utf8 are there; the text can be held. -/
import Derived.Test.YtpfccicahfncbaaDoorMgAttrsOne9
import Derived.Test.YtpfccicahfncbaaDoorMgAttrsOne10
namespace Go.Proofs.YtpfccicahfncbaaDoor
open Go.RowKit Wir
set_option linter.unusedVariables false
set_option linter.unusedSimpArgs false
theorem tkS_fst (p : ByteArray × Bool) (m : Nat) : (tkS p m).1 = txS p.1 m := rfl
theorem elemRX : ElemN Tryd.prog 29 60 (.agg #[.string ByteArray.empty, .string ByteArray.empty]) 2 32 := ElemN.of (by kernel_rfl) (by kernel_rfl) rfl (by omega)
theorem ruint_p (p : ByteArray × Bool) (R : Nat) (w : World) (h : RRdr w R p.1) (hs : p.1.size ≤ 9223372036854775807) :
    Calls Tryd.prog 35 #[.pointer (some ⟨R, 0, none⟩)] w
      fun e w' => e = .returned (.tuple #[.int .u64 (numN p : Int), .int .i64 (uintE p.1)]) ∧ RRdr w' R (uintS p.1) ∧ w.grownBy w' (some R) := ruint_g p.1 R w h hs
theorem or9 (b0 b1 b2 b3 b4 b5 b6 b7 b8 : Bool) : b0 = true ∨ (b0 = false ∧ b1 = true) ∨ (b0 = false ∧ b1 = false ∧ b2 = true) ∨ (b0 = false ∧ b1 = false ∧ b2 = false ∧ b3 = true) ∨ (b0 = false ∧ b1 = false ∧ b2 = false ∧ b3 = false ∧ b4 = true) ∨ (b0 = false ∧ b1 = false ∧ b2 = false ∧ b3 = false ∧ b4 = false ∧ b5 = true) ∨ (b0 = false ∧ b1 = false ∧ b2 = false ∧ b3 = false ∧ b4 = false ∧ b5 = false ∧ b6 = true) ∨ (b0 = false ∧ b1 = false ∧ b2 = false ∧ b3 = false ∧ b4 = false ∧ b5 = false ∧ b6 = false ∧ b7 = true) ∨ (b0 = false ∧ b1 = false ∧ b2 = false ∧ b3 = false ∧ b4 = false ∧ b5 = false ∧ b6 = false ∧ b7 = false ∧ b8 = true) ∨ (b0 = false ∧ b1 = false ∧ b2 = false ∧ b3 = false ∧ b4 = false ∧ b5 = false ∧ b6 = false ∧ b7 = false ∧ b8 = false) := by
  cases b0 <;> cases b1 <;> cases b2 <;> cases b3 <;> cases b4 <;> cases b5 <;> cases b6 <;> cases b7 <;> cases b8 <;> simp
theorem attV0b (s t : ByteArray) (L : List (ByteArray × ByteArray)) (A : Option Addr) (n c : Nat) (h : fixV s 1 < 256) (h1 : numN (p1 s) ≤ 4095) (h2 : numN (p2 s) ≤ 4294967295) (h3 : numN (p3 s) ≤ 4294967295) (h4 : numN (p4 s) ≤ 1099511627776) : attV (rdA0 s t L) A n c = #[.int .u8 (fixV s 1 : Int), .int .u32 (numN (p1 s) : Int), .int .u32 (numN (p2 s) : Int), .int .u32 (numN (p3 s) : Int), .int .i64 (numN (p4 s) : Int), .string t, .slice A n c] := by
  rw [attV0 s t L A n c h]
  generalize numN (p1 s) = n1 at *
  generalize numN (p2 s) = n2 at *
  generalize numN (p3 s) = n3 at *
  generalize numN (p4 s) = n4 at *
  have e1 : (n1 : Int) % 4294967296 = n1 := by omega
  have e2 : (n2 : Int) % 4294967296 = n2 := by omega
  have e3 : (n3 : Int) % 4294967296 = n3 := by omega
  have e4 : wrap64 (n4 : Int) = n4 := by unfold wrap64; omega
  rw [e1, e2, e3, e4]
/-- What holds at the head of the reading loop. -/
structure RRI (w wr : World) (R ab B : Nat) (s : ByteArray) (k : Nat) (q : ByteArray) (L : List (ByteArray × ByteArray)) (A : Option Addr) (c : Nat) : Prop where
  rd : RRdr wr R q
  cell : Blk wr ab 31 (attV (rdA0 s (rdT s) L) A k c)
  own : wr.ownsRow B 60 2 (.slice A k c) k (xtV L)
  zero : Blk wr w.heap.size 31 (attV zAtt none 0 0)
  below : Below w.heap.size w wr
  low : B ≤ wr.heap.size
  o1 : w.heap.size < R
  o2 : R < ab
  o3 : ab < B
theorem RRI.read {w wr w' : World} {R ab B k c : Nat} {s q q' : ByteArray} {L : List (ByteArray × ByteArray)} {A : Option Addr} (h : RRI w wr R ab B s k q L A c) (hr : RRdr w' R q') (hg : wr.grownBy w' (some R)) : RRI w w' R ab B s k q' L A c := by
  have o1 := h.o1; have o2 := h.o2; have o3 := h.o3
  refine ⟨hr, h.cell.grown hg (by intro e; injection e with e; omega), own_moved h.own hg (fun g e => by injection e with e; omega), h.zero.grown hg (by intro e; injection e with e; omega), h.below.grown hg h.below.size (fun k e => by injection e with e; omega), Nat.le_trans h.low hg.size, o1, o2, o3⟩
theorem RRI.push {w wr w' : World} {R ab B k c g c' : Nat} {s q : ByteArray} {L : List (ByteArray × ByteArray)} {A : Option Addr} {x : ByteArray × ByteArray} (h : RRI w wr R ab B s k q L A c)
    (ho : w'.ownsRow B 60 2 (.slice (some ⟨g, 0, none⟩) (k + 1) c') (k + 1) (xtV L ++ [.string x.1, .string x.2])) (hg : wr.grownBy w' (Value.slice A k c).ownBlock) :
    RRI w (w'.setCell ⟨ab, 6, none⟩ (.slice (some ⟨g, 0, none⟩) (k + 1) c')) R ab B s (k + 1) q (L ++ [x]) (some ⟨g, 0, none⟩) c' ∧ Blk w' ab 31 (attV (rdA0 s (rdT s) L) A k c) := by
  have hne : ∀ b, b < B → some b ≠ (Value.slice A k c).ownBlock := fun b hb e => by
    have := (h.own.lt b e.symm).1; omega
  have hgB : B ≤ g := (ho.lt g rfl).1
  have o1 := h.o1; have o2 := h.o2; have o3 := h.o3
  have hk : Blk w' ab 31 (attV (rdA0 s (rdT s) L) A k c) := h.cell.grown hg (hne ab o3)
  have hr : RRdr w' R q := Blk.grown h.rd hg (hne _ (by omega))
  have hb : Below w.heap.size w w' := h.below.grown hg h.below.size (fun j e => by have := (h.own.lt j e).1; omega)
  have hc := hk.set_ 6 (.slice (some ⟨g, 0, none⟩) (k + 1) c')
  rw [attV_set6 s (rdT s) L (L ++ [x])] at hc
  refine ⟨⟨Blk.far hr (p := ⟨ab, 6, none⟩) (by show R ≠ ab; omega) _, hc, ?_, (h.zero.grown hg (hne _ (by omega))).far (p := ⟨ab, 6, none⟩) (by show w.heap.size ≠ ab; omega) _, hb.setCell (p := ⟨ab, 6, none⟩) (by show w.heap.size ≤ ab; omega) _, by rw [World.size_setCell]; exact Nat.le_trans h.low hg.size, o1, o2, o3⟩, hk⟩
  have ho2 : w'.ownsRow B 60 2 (.slice (some ⟨g, 0, none⟩) (k + 1) c') (k + 1) (xtV (L ++ [x])) := by rw [xtV_app]; exact ho
  exact ho2.kept (only_setCell (grown_refl w' (some ab)) (p := ⟨ab, 6, none⟩) (.inl rfl) _) (.inr (by show some g ≠ some ab; intro e; injection e with e; omega))
theorem zero_fin (w W : World) (h : (Blk W w.heap.size 31 (attV zAtt none 0 0) ∧ Below w.heap.size w W)) : Blk (((((((W.setCell ⟨w.heap.size, 0, none⟩ (.int .u8 0)).setCell ⟨w.heap.size, 1, none⟩ (.int .u32 0)).setCell ⟨w.heap.size, 2, none⟩ (.int .u32 0)).setCell ⟨w.heap.size, 3, none⟩ (.int .u32 0)).setCell ⟨w.heap.size, 4, none⟩ (.int .i64 0)).setCell ⟨w.heap.size, 5, none⟩ (.string ⟨#[]⟩)).setCell ⟨w.heap.size, 6, none⟩ (.slice none 0 0)) w.heap.size 31 (attV zAtt none 0 0) ∧ Below w.heap.size w (((((((W.setCell ⟨w.heap.size, 0, none⟩ (.int .u8 0)).setCell ⟨w.heap.size, 1, none⟩ (.int .u32 0)).setCell ⟨w.heap.size, 2, none⟩ (.int .u32 0)).setCell ⟨w.heap.size, 3, none⟩ (.int .u32 0)).setCell ⟨w.heap.size, 4, none⟩ (.int .i64 0)).setCell ⟨w.heap.size, 5, none⟩ (.string ⟨#[]⟩)).setCell ⟨w.heap.size, 6, none⟩ (.slice none 0 0)) :=
  ⟨(((((((h.1.set_ 0 (.int .u8 0)).set_ 1 (.int .u32 0)).set_ 2 (.int .u32 0)).set_ 3 (.int .u32 0)).set_ 4 (.int .i64 0)).set_ 5 (.string ⟨#[]⟩)).set_ 6 (.slice none 0 0)), (((((((h.2.setCell (p := ⟨w.heap.size, 0, none⟩) (Nat.le_refl _) (.int .u8 0)).setCell (p := ⟨w.heap.size, 1, none⟩) (Nat.le_refl _) (.int .u32 0)).setCell (p := ⟨w.heap.size, 2, none⟩) (Nat.le_refl _) (.int .u32 0)).setCell (p := ⟨w.heap.size, 3, none⟩) (Nat.le_refl _) (.int .u32 0)).setCell (p := ⟨w.heap.size, 4, none⟩) (Nat.le_refl _) (.int .i64 0)).setCell (p := ⟨w.heap.size, 5, none⟩) (Nat.le_refl _) (.string ⟨#[]⟩)).setCell (p := ⟨w.heap.size, 6, none⟩) (Nat.le_refl _) (.slice none 0 0))⟩

set_option maxRecDepth 100000 in
set_option maxHeartbeats 8000000 in
theorem rr_loop (c1 c3 c5 c6 c8 c9 c10 c11 c12 c13 c14 c15 c17 c18 c19 c20 c21 c22 c23 c24 c25 c26 c27 c28 c29 c30 c31 c32 c33 c34 c35 c36 c37 c38 c39 c40 c41 c42 c43 c44 c45 c46 c47 c48 c49 c50 c51 c52 c53 c54 c55 c56 c57 c58 c59 c60 c61 c62 c63 c64 c65 c66 c67 c68 c69 c70 c71 c72 c73 c74 c75 c76 c77 c78 c79 c80 c81 c82 c83 c84 c85 c86 c87 c88 c89 c90 c91 c92 c93 c94 c95 c96 c97 c98 c99 c100 c101 c102 c103 c104 c105 c106 c107 c108 c109 c110 c111 c112 c113 c114 c115 c116 c117 c118 c119 c120 c121 c122 c123 c124 c125 c126 c127 c128 c129 c130 c131 c132 c133 c134 c135 c136 c137 c138 c139 c140 c141 c142 c143 c144 c145 c146 c147 c148 c149 c150 c151 c152 c153 c154 c155 c156 c157 c158 c159 c160 c161 c162 c163 c164 c165 : Value) (s : ByteArray) (w : World) (R ab nn : Nat) (v7 : World) (B0 : Nat) (HT : Hid (Tabs w)) (hs : s.size ≤ 140737488355328) (hn16 : nn ≤ 16) (HT5 : Hid ((rdT s).size ≤ s.size)) (HZ7 : Hid ((p7 s).1.size ≤ s.size)) (HL1 : Hid (rdXs nn ((p7 s).1, true) [] = rdL s)) (HI : Hid (RRI w v7 R ab B0 s 0 (p7 s).1 [] none 0)) :
    Code.wp Tryd.prog (tailC 16 (Tryd.f17.body.getD .skip)) (bodyPost Tryd.prog Tryd.f17 fun e w' => ∃ A n c, e = .returned (.tuple #[.agg (attV (rdR s).1 A n c), .int .i64 (rdR s).2]) ∧ w'.ownsRow w.heap.size 60 2 (.slice A n c) n (xtV (rdR s).1.xs) ∧ Below w.heap.size w w')
      ⟨#[.string s, c1, .pointer (some ⟨w.heap.size, 0, none⟩), c3, .pointer (some ⟨R, 0, none⟩), c5, c6, .pointer (some ⟨ab, 0, none⟩), c8, c9, c10, c11, c12, c13, c14, c15, .int .u64 (nn : Int), c17, c18, c19, c20, c21, c22, c23, c24, c25, c26, c27, c28, c29, c30, c31, c32, c33, c34, c35, c36, c37, c38, c39, c40, c41, c42, c43, c44, c45, c46, c47, c48, c49, c50, c51, c52, c53, c54, c55, c56, c57, c58, c59, c60, c61, c62, c63, c64, c65, c66, c67, c68, c69, c70, c71, c72, c73, c74, c75, c76, c77, c78, c79, c80, c81, c82, c83, c84, c85, c86, c87, c88, c89, c90, c91, c92, c93, c94, c95, c96, c97, c98, c99, c100, c101, c102, c103, c104, c105, c106, c107, c108, c109, c110, c111, c112, c113, c114, c115, c116, c117, c118, c119, c120, c121, c122, c123, c124, c125, c126, c127, c128, c129, c130, c131, c132, c133, c134, c135, c136, c137, c138, c139, c140, c141, c142, c143, c144, c145, c146, c147, c148, c149, c150, c151, c152, c153, c154, c155, c156, c157, c158, c159, c160, c161, c162, c163, c164, c165], []⟩ v7 := by
  conv => arg 2; whnf
  go_wp2_with fail
  go_loopw [18] (fun i wr => ∃ (k c : Nat) (q : ByteArray) (L : List (ByteArray × ByteArray)) (A : Option Addr), k ≤ nn ∧ i = .int .u64 k ∧ Hid (rdXs (nn - k) (q, true) L = rdL s) ∧ Hid (q.size ≤ s.size) ∧ Hid (∀ x ∈ L, x.1.size ≤ s.size ∧ x.2.size ≤ s.size) ∧ Hid (RRI w wr R ab B0 s k q L A c)) (fun i _ => nn - (intOf i).toNat)
  case atStart => exact ⟨0, 0, (p7 s).1, [], none, by omega, rfl, HL1, HZ7, Lib.hid (fun x hx => by cases hx), HI⟩
  case round =>
    obtain ⟨k, c, q, L, A, hk, rfl, HX, HS, HZL, HI⟩ := hrel
    by_cases hlt : k < nn
    · have HX2 : Hid (rdXs (nn - (k + 1)) (txS (txS q 255) 4096, txB q 255 && txB (txS q 255) 4096) (L ++ [(txT q 255, txT (txS q 255) 4096)]) = rdL s) := Lib.hid (by
        have := HX.out
        rw [show nn - k = (nn - (k + 1)) + 1 from by omega, rdXs_step, tk_two] at this
        exact this)
      have hzq : q.size ≤ s.size := HS.out
      have hz1 := Nat.le_trans (txS_size q 255) hzq
      have hz2 := Nat.le_trans (txS_size (txS q 255) 4096) hz1
      have hz3 := Nat.le_trans (txT_size q 255) hzq
      have hz4 := Nat.le_trans (txT_size (txS q 255) 4096) hz1
      have HZL2 : Hid (∀ x ∈ L ++ [(txT q 255, txT (txS q 255) 4096)], x.1.size ≤ s.size ∧ x.2.size ≤ s.size) := Lib.hid (fun x hx => by
        rcases List.mem_append.1 hx with h | h
        · exact HZL.out x h
        · rw [List.mem_singleton] at h
          subst h
          exact ⟨hz3, hz4⟩)
      have C1 := Lib.hid (rtext_g q R 255 wr HI.out.rd (by omega) (by omega))
      rw [show ((255 : Nat) : Int) = 255 from rfl] at C1
      have C2 := Lib.hid (fun W h => rtext_g (txS q 255) R 4096 W h (by omega) (by omega))
      rw [show ((4096 : Nat) : Int) = 4096 from rfl] at C2
      have E1 : Hid (txE q 255 = if txB q 255 = true then 0 else 4) := Lib.hid rfl
      have E2' : Hid (txE (txS q 255) 4096 = if txB (txS q 255) 4096 = true then 0 else 4) := Lib.hid rfl
      generalize txT (txS q 255) 4096 = t2 at *
      generalize txE (txS q 255) 4096 = f2 at *
      generalize txB (txS q 255) 4096 = d2 at *
      generalize txS (txS q 255) 4096 = s2 at *
      generalize txT q 255 = t1 at *
      generalize txE q 255 = f1 at *
      generalize txB q 255 = d1 at *
      generalize txS q 255 = s1 at *
      have HZ2 := Lib.hid hz2
      clear HX HS HZL hzq hz1 hz2 hz3 hz4
      have hki : (k : Int) < (nn : Int) := by omega
      go_wp2_with fail
      (with_reducible refine C1.out.mono ?_)
      rintro e y1 ⟨rfl, hr, hg⟩
      have HI1 := Lib.hid (HI.out.read hr hg)
      clear hr hg C1 HI
      have C3 := Lib.hid (C2.out y1 HI1.out.rd)
      clear C2
      go_wp2_with fail
      (with_reducible refine C3.out.mono ?_)
      rintro e y2 ⟨rfl, hr, hg⟩
      have HI2 := Lib.hid (HI1.out.read hr hg)
      clear hr hg C3 HI1
      cases hd : (d1 && d2) with
      | false =>
        have HFL : Hid ((rdL s).2.2 = false) := Lib.hid (by rw [← HX2.out, rdXs_bad _ _ _ hd]; exact hd)
        have h12 : (f1 != 0) = true ∨ ((f1 != 0) = false ∧ (f2 != 0) = true) := by
          have h1 := E1.out
          have h2 := E2'.out
          cases d1 with
          | false => left; rw [h1]; rfl
          | true =>
            cases d2 with
            | false => right; rw [h1, h2]; exact ⟨rfl, rfl⟩
            | true => cases hd
        clear HX2 hd E1 E2'
        have HZR : Hid (Blk y2 w.heap.size 31 (attV zAtt none 0 0) ∧ Below w.heap.size w y2) := Lib.hid ⟨HI2.out.zero, HI2.out.below⟩
        rcases h12 with h | ⟨h, h'⟩
        all_goals
          have FF : Hid (rdR s = (zAtt, 4)) := Lib.hid (rd_no3 HFL.out)
          have z0 : ∀ i, y2.cell? ⟨w.heap.size, i, none⟩ = (attV zAtt none 0 0)[i]? := fun i => HZR.out.1.cell i
          have zc0 : y2.cell? ⟨w.heap.size, 0, none⟩ = some (.int .u8 0) := z0 0
          have zc1 : y2.cell? ⟨w.heap.size, 1, none⟩ = some (.int .u32 0) := z0 1
          have zc2 : y2.cell? ⟨w.heap.size, 2, none⟩ = some (.int .u32 0) := z0 2
          have zc3 : y2.cell? ⟨w.heap.size, 3, none⟩ = some (.int .u32 0) := z0 3
          have zc4 : y2.cell? ⟨w.heap.size, 4, none⟩ = some (.int .i64 0) := z0 4
          have zc5 : y2.cell? ⟨w.heap.size, 5, none⟩ = some (.string ⟨#[]⟩) := z0 5
          have zc6 : y2.cell? ⟨w.heap.size, 6, none⟩ = some (.slice none 0 0) := z0 6
          have g0 : ∀ i, y2.frozen? ⟨w.heap.size, i, none⟩ = false := fun i => HZR.out.1.frozen i
          clear z0
          go_wp2
          exact bodyPost_ret (results_rec_tmp (p := 2) (u := 3) rfl _ _ w.heap.size 31 (attV zAtt none 0 0) (0, 0) rfl (zero_fin w y2 HZR.out).1 Tryd.underlying31 (by kernel_rfl)) rfl ⟨none, 0, 0, by rw [FF.out]; rfl, by rw [FF.out]; exact World.ownsRow_nil _ _ _ _, (zero_fin w y2 HZR.out).2⟩
      | true =>
        rw [Bool.and_eq_true] at hd
        obtain ⟨rfl, rfl⟩ := hd
        obtain rfl : f1 = 0 := E1.out
        obtain rfl : f2 = 0 := E2'.out
        clear E1 E2'
        have c6 : y2.cell? ⟨ab, 6, none⟩ = some (.slice A k c) := HI2.out.cell.cell 6
        have hk1 : k ≤ 4611686018427387904 := by omega
        have hk2 : (k + 1) * 32 ≤ 140737488355328 := by omega
        go_wp2_with (at_builtin; refine appendN_new elemRX rfl _ _ rfl B0 (.slice A k c) k _ (by rfl) HI2.out.own #[.string t1, .string t2] rfl (by rfl) (by intro u hu; simp at hu; rcases hu with rfl | rfl <;> rfl) hk1 hk2 HI2.out.low ?_; intro v' w' ho hg hd; clear hd; obtain ⟨gg, cg, rfl, hcg⟩ := own_slX ho (by omega); have HPP := Lib.hid (HI2.out.push (x := (t1, t2)) ho hg); clear ho hg; have ew : w'.cell? ⟨ab, 6, none⟩ = some (.slice A k c) := HPP.out.2.cell 6; have fw : w'.frozen? ⟨ab, 6, none⟩ = false := HPP.out.2.frozen 6)
        go_roundw
        case rel => exact ⟨k + 1, cg, s2, L ++ [(t1, t2)], some ⟨gg, 0, none⟩, by omega, by go_num, HX2, HZ2, HZL2, Lib.hid HPP.out.1⟩
        case measure => simp [intOf]; omega
    · obtain rfl : k = nn := by omega
      have HRL : Hid (rdL s = (L, (q, true))) := Lib.hid (by rw [← HX.out, Nat.sub_self, rdXs])
      have HAe : Hid (rdA s = rdA0 s (rdT s) L) := Lib.hid (by rw [rdA, HRL.out])
      clear HX HL1
      have hRd : Reads wr wr.heap.size 2 A k (xtV L) := Reads.of_own HI.out.own
      obtain ⟨w64a, w64b⟩ := wrap64_fit (numN (p4 s) : Int)
      have CH := Lib.hid (rattChk_any (rdA0 s (rdT s) L) A k c wr wr.heap.size hRd (Utf8Tabs_below HT.out HI.out.below) (Nat.le_refl _) ⟨w64a, w64b⟩ (by omega) (Nat.le_trans HT5.out (by omega)) (fun x hx => ⟨Nat.le_trans (HZL.out x hx).1 (by omega), Nat.le_trans (HZL.out x hx).2 (by omega)⟩))
      have LD := Lib.hid (fun W hb (h0 : chkA (rdA0 s (rdT s) L) = 0) => rattLaid_any (rdA0 s (rdT s) L) A k c W wr.heap.size (hRd.below hb) hb.size h0)
      clear hRd w64a w64b
      have AC := Lib.hid (fun (W : World) hb => ratt_cells (rdA0 s (rdT s) L) A k c W ab hb)
      obtain ⟨a0, a1, a2, a3, a4, a5, a6⟩ := AC.out wr HI.out.cell
      have hchor := chkA_or (rdA0 s (rdT s) L)
      have HF4 : Hid (chkA (rdA0 s (rdT s) L) ≠ 0 → rdR s = (zAtt, 4)) := Lib.hid (fun h => rd_no4 (by rw [HAe.out]; exact h))
      have HF5 : Hid (layA (rdA0 s (rdT s) L) ≠ s → rdR s = (zAtt, 4)) := Lib.hid (fun h => rd_no5 (by rw [HAe.out]; exact h))
      have HF6 : Hid (chkA (rdA0 s (rdT s) L) = 0 → layA (rdA0 s (rdT s) L) = s → rdR s = (rdA0 s (rdT s) L, 0)) := Lib.hid (fun h h' => by rw [← HAe.out] at h h' ⊢; exact rd_yes h h')
      go_wp2_with fail
      change Calls _ _ #[.agg (attV (rdA0 s (rdT s) L) A k c)] _ _
      (with_reducible refine CH.out.mono ?_)
      rintro e y3 ⟨rfl, hb3⟩
      have HY3 : Hid (Blk y3 ab 31 (attV (rdA0 s (rdT s) L) A k c) ∧ (Blk y3 w.heap.size 31 (attV zAtt none 0 0) ∧ Below w.heap.size w y3) ∧ y3.ownsRow B0 60 2 (.slice A k c) k (xtV L) ∧ Below wr.heap.size wr y3) := Lib.hid ⟨HI.out.cell.below hb3 HI.out.cell.lt, ⟨HI.out.zero.below hb3 HI.out.zero.lt, HI.out.below.trans (hb3.mono HI.out.below.size)⟩, own_below HI.out.own hb3, hb3⟩
      clear hb3 CH a0 a1 a2 a3 a4 a5 a6
      by_cases hch : chkA (rdA0 s (rdT s) L) = 0
      · have LD2 := Lib.hid (LD.out y3 HY3.out.2.2.2 hch)
        obtain ⟨a0, a1, a2, a3, a4, a5, a6⟩ := AC.out y3 HY3.out.1
        have HF7 := Lib.hid (HF6.out hch)
        rw [hch]
        clear LD HF6 HF4 hch hchor
        go_wp2_with fail
        change Calls _ _ #[.agg (attV (rdA0 s (rdT s) L) A k c)] _ _
        (with_reducible refine LD2.out.mono ?_)
        rintro e y4 ⟨rfl, hb4⟩
        have HY4 : Hid (Blk y4 ab 31 (attV (rdA0 s (rdT s) L) A k c) ∧ (Blk y4 w.heap.size 31 (attV zAtt none 0 0) ∧ Below w.heap.size w y4) ∧ y4.ownsRow B0 60 2 (.slice A k c) k (xtV L)) := Lib.hid ⟨HY3.out.1.below hb4 HY3.out.1.lt, ⟨HY3.out.2.1.1.below hb4 HY3.out.2.1.1.lt, HY3.out.2.1.2.trans (hb4.mono HY3.out.2.1.2.size)⟩, own_below HY3.out.2.2.1 hb4⟩
        clear hb4 LD2 a0 a1 a2 a3 a4 a5 a6
        by_cases hl : layA (rdA0 s (rdT s) L) = s
        · have FF := Lib.hid (HF7.out hl)
          have hneq : (s.toList == s.toList) = true := by rw [beq_iff_eq]
          rw [hl]
          obtain ⟨a0, a1, a2, a3, a4, a5, a6⟩ := AC.out y4 HY4.out.1
          clear HF5 HF7 hl
          have z0 : ∀ i, y4.cell? ⟨w.heap.size, i, none⟩ = (attV zAtt none 0 0)[i]? := fun i => HY4.out.2.1.1.cell i
          have zc0 : y4.cell? ⟨w.heap.size, 0, none⟩ = some (.int .u8 0) := z0 0
          have zc1 : y4.cell? ⟨w.heap.size, 1, none⟩ = some (.int .u32 0) := z0 1
          have zc2 : y4.cell? ⟨w.heap.size, 2, none⟩ = some (.int .u32 0) := z0 2
          have zc3 : y4.cell? ⟨w.heap.size, 3, none⟩ = some (.int .u32 0) := z0 3
          have zc4 : y4.cell? ⟨w.heap.size, 4, none⟩ = some (.int .i64 0) := z0 4
          have zc5 : y4.cell? ⟨w.heap.size, 5, none⟩ = some (.string ⟨#[]⟩) := z0 5
          have zc6 : y4.cell? ⟨w.heap.size, 6, none⟩ = some (.slice none 0 0) := z0 6
          have g0 : ∀ i, y4.frozen? ⟨w.heap.size, i, none⟩ = false := fun i => HY4.out.2.1.1.frozen i
          clear z0

          have HG2 : Hid (Blk (((((((y4.setCell ⟨w.heap.size, 0, none⟩ (.int .u8 ((rdA0 s (rdT s) L).nd.toNat : Int))).setCell ⟨w.heap.size, 1, none⟩ (.int .u32 ((rdA0 s (rdT s) L).md.toNat : Int))).setCell ⟨w.heap.size, 2, none⟩ (.int .u32 ((rdA0 s (rdT s) L).ui.toNat : Int))).setCell ⟨w.heap.size, 3, none⟩ (.int .u32 ((rdA0 s (rdT s) L).gi.toNat : Int))).setCell ⟨w.heap.size, 4, none⟩ (.int .i64 (rdA0 s (rdT s) L).mt)).setCell ⟨w.heap.size, 5, none⟩ (.string (rdA0 s (rdT s) L).tg)).setCell ⟨w.heap.size, 6, none⟩ (.slice A k c)) w.heap.size 31 (attV (rdA0 s (rdT s) L) A k c)) := Lib.hid (((((((HY4.out.2.1.1.set_ 0 (.int .u8 ((rdA0 s (rdT s) L).nd.toNat : Int))).set_ 1 (.int .u32 ((rdA0 s (rdT s) L).md.toNat : Int))).set_ 2 (.int .u32 ((rdA0 s (rdT s) L).ui.toNat : Int))).set_ 3 (.int .u32 ((rdA0 s (rdT s) L).gi.toNat : Int))).set_ 4 (.int .i64 (rdA0 s (rdT s) L).mt)).set_ 5 (.string (rdA0 s (rdT s) L).tg)).set_ 6 (.slice A k c))
          have HB2 : Hid (Below w.heap.size w (((((((y4.setCell ⟨w.heap.size, 0, none⟩ (.int .u8 ((rdA0 s (rdT s) L).nd.toNat : Int))).setCell ⟨w.heap.size, 1, none⟩ (.int .u32 ((rdA0 s (rdT s) L).md.toNat : Int))).setCell ⟨w.heap.size, 2, none⟩ (.int .u32 ((rdA0 s (rdT s) L).ui.toNat : Int))).setCell ⟨w.heap.size, 3, none⟩ (.int .u32 ((rdA0 s (rdT s) L).gi.toNat : Int))).setCell ⟨w.heap.size, 4, none⟩ (.int .i64 (rdA0 s (rdT s) L).mt)).setCell ⟨w.heap.size, 5, none⟩ (.string (rdA0 s (rdT s) L).tg)).setCell ⟨w.heap.size, 6, none⟩ (.slice A k c))) := Lib.hid (((((((HY4.out.2.1.2.setCell (p := ⟨w.heap.size, 0, none⟩) (Nat.le_refl _) (.int .u8 ((rdA0 s (rdT s) L).nd.toNat : Int))).setCell (p := ⟨w.heap.size, 1, none⟩) (Nat.le_refl _) (.int .u32 ((rdA0 s (rdT s) L).md.toNat : Int))).setCell (p := ⟨w.heap.size, 2, none⟩) (Nat.le_refl _) (.int .u32 ((rdA0 s (rdT s) L).ui.toNat : Int))).setCell (p := ⟨w.heap.size, 3, none⟩) (Nat.le_refl _) (.int .u32 ((rdA0 s (rdT s) L).gi.toNat : Int))).setCell (p := ⟨w.heap.size, 4, none⟩) (Nat.le_refl _) (.int .i64 (rdA0 s (rdT s) L).mt)).setCell (p := ⟨w.heap.size, 5, none⟩) (Nat.le_refl _) (.string (rdA0 s (rdT s) L).tg)).setCell (p := ⟨w.heap.size, 6, none⟩) (Nat.le_refl _) (.slice A k c))
          have HO2 : Hid ((((((((y4.setCell ⟨w.heap.size, 0, none⟩ (.int .u8 ((rdA0 s (rdT s) L).nd.toNat : Int))).setCell ⟨w.heap.size, 1, none⟩ (.int .u32 ((rdA0 s (rdT s) L).md.toNat : Int))).setCell ⟨w.heap.size, 2, none⟩ (.int .u32 ((rdA0 s (rdT s) L).ui.toNat : Int))).setCell ⟨w.heap.size, 3, none⟩ (.int .u32 ((rdA0 s (rdT s) L).gi.toNat : Int))).setCell ⟨w.heap.size, 4, none⟩ (.int .i64 (rdA0 s (rdT s) L).mt)).setCell ⟨w.heap.size, 5, none⟩ (.string (rdA0 s (rdT s) L).tg)).setCell ⟨w.heap.size, 6, none⟩ (.slice A k c)).ownsRow w.heap.size 60 2 (.slice A k c) k (xtV L)) := Lib.hid (by
            have h1 := HI.out.o1
            have h2 := HI.out.o2
            have h3 := HI.out.o3
            have hg := (only_setCell (only_setCell (only_setCell (only_setCell (only_setCell (only_setCell (only_setCell (grown_refl y4 (some w.heap.size)) (p := ⟨w.heap.size, 0, none⟩) (.inl rfl) (.int .u8 ((rdA0 s (rdT s) L).nd.toNat : Int))) (p := ⟨w.heap.size, 1, none⟩) (.inl rfl) (.int .u32 ((rdA0 s (rdT s) L).md.toNat : Int))) (p := ⟨w.heap.size, 2, none⟩) (.inl rfl) (.int .u32 ((rdA0 s (rdT s) L).ui.toNat : Int))) (p := ⟨w.heap.size, 3, none⟩) (.inl rfl) (.int .u32 ((rdA0 s (rdT s) L).gi.toNat : Int))) (p := ⟨w.heap.size, 4, none⟩) (.inl rfl) (.int .i64 (rdA0 s (rdT s) L).mt)) (p := ⟨w.heap.size, 5, none⟩) (.inl rfl) (.string (rdA0 s (rdT s) L).tg)) (p := ⟨w.heap.size, 6, none⟩) (.inl rfl) (.slice A k c))
            refine own_lower (HY4.out.2.2.kept hg ?_) (by omega)
            right
            intro e
            have := (HY4.out.2.2.lt _ e).1
            omega)
          go_wp2
          exact bodyPost_ret (results_rec_tmp (p := 2) (u := 3) rfl _ _ w.heap.size 31 (attV (rdA0 s (rdT s) L) A k c) (0, 0) rfl HG2.out Tryd.underlying31 (by kernel_rfl)) rfl ⟨A, k, c, by rw [FF.out]; rfl, by rw [FF.out]; exact HO2.out, HB2.out⟩
        · have hneq : ((layA (rdA0 s (rdT s) L)).toList == s.toList) = false := by rw [beq_eq_false_iff_ne]; exact fun h => hl (toList_inj h)
          have hneq2 : ((layA (rdA0 s (rdT s) L)).toList != s.toList) = true := by rw [bne, hneq]; rfl
          have FF : Hid (rdR s = (zAtt, 4)) := Lib.hid (HF5.out hl)
          have z0 : ∀ i, y4.cell? ⟨w.heap.size, i, none⟩ = (attV zAtt none 0 0)[i]? := fun i => HY4.out.2.1.1.cell i
          have zc0 : y4.cell? ⟨w.heap.size, 0, none⟩ = some (.int .u8 0) := z0 0
          have zc1 : y4.cell? ⟨w.heap.size, 1, none⟩ = some (.int .u32 0) := z0 1
          have zc2 : y4.cell? ⟨w.heap.size, 2, none⟩ = some (.int .u32 0) := z0 2
          have zc3 : y4.cell? ⟨w.heap.size, 3, none⟩ = some (.int .u32 0) := z0 3
          have zc4 : y4.cell? ⟨w.heap.size, 4, none⟩ = some (.int .i64 0) := z0 4
          have zc5 : y4.cell? ⟨w.heap.size, 5, none⟩ = some (.string ⟨#[]⟩) := z0 5
          have zc6 : y4.cell? ⟨w.heap.size, 6, none⟩ = some (.slice none 0 0) := z0 6
          have g0 : ∀ i, y4.frozen? ⟨w.heap.size, i, none⟩ = false := fun i => HY4.out.2.1.1.frozen i
          clear z0
          go_wp2
          exact bodyPost_ret (results_rec_tmp (p := 2) (u := 3) rfl _ _ w.heap.size 31 (attV zAtt none 0 0) (0, 0) rfl (zero_fin w y4 HY4.out.2.1).1 Tryd.underlying31 (by kernel_rfl)) rfl ⟨none, 0, 0, by rw [FF.out]; rfl, by rw [FF.out]; exact World.ownsRow_nil _ _ _ _, (zero_fin w y4 HY4.out.2.1).2⟩
      · have hcb : (chkA (rdA0 s (rdT s) L) != 0) = true := by rw [bne_iff_ne]; exact hch
        have FF : Hid (rdR s = (zAtt, 4)) := Lib.hid (HF4.out hch)
        have z0 : ∀ i, y3.cell? ⟨w.heap.size, i, none⟩ = (attV zAtt none 0 0)[i]? := fun i => HY3.out.2.1.1.cell i
        have zc0 : y3.cell? ⟨w.heap.size, 0, none⟩ = some (.int .u8 0) := z0 0
        have zc1 : y3.cell? ⟨w.heap.size, 1, none⟩ = some (.int .u32 0) := z0 1
        have zc2 : y3.cell? ⟨w.heap.size, 2, none⟩ = some (.int .u32 0) := z0 2
        have zc3 : y3.cell? ⟨w.heap.size, 3, none⟩ = some (.int .u32 0) := z0 3
        have zc4 : y3.cell? ⟨w.heap.size, 4, none⟩ = some (.int .i64 0) := z0 4
        have zc5 : y3.cell? ⟨w.heap.size, 5, none⟩ = some (.string ⟨#[]⟩) := z0 5
        have zc6 : y3.cell? ⟨w.heap.size, 6, none⟩ = some (.slice none 0 0) := z0 6
        have g0 : ∀ i, y3.frozen? ⟨w.heap.size, i, none⟩ = false := fun i => HY3.out.2.1.1.frozen i
        clear z0
        go_wp2
        exact bodyPost_ret (results_rec_tmp (p := 2) (u := 3) rfl _ _ w.heap.size 31 (attV zAtt none 0 0) (0, 0) rfl (zero_fin w y3 HY3.out.2.1).1 Tryd.underlying31 (by kernel_rfl)) rfl ⟨none, 0, 0, by rw [FF.out]; rfl, by rw [FF.out]; exact World.ownsRow_nil _ _ _ _, (zero_fin w y3 HY3.out.2.1).2⟩

set_option maxRecDepth 100000 in
set_option maxHeartbeats 8000000 in
theorem rattRead_any (s : ByteArray) (w : World) (hT : Tabs w) (hs : s.size ≤ 140737488355328) :
    Calls Tryd.prog 17 #[.string s] w fun e w' => ∃ A n c, e = .returned (.tuple #[.agg (attV (rdR s).1 A n c), .int .i64 (rdR s).2]) ∧ w'.ownsRow w.heap.size 60 2 (.slice A n c) n (xtV (rdR s).1.xs) ∧ Below w.heap.size w w' := by
  have HT := Lib.hid hT
  clear hT
  go_enter Tryd.func17, Tryd.ntmps17
  go_upto_region 2 with fail
  have H0 : Hid (RRdr ((w.alloc (.cells (attV zAtt none 0 0) 31)).alloc (.cells #[.string s] 74)) (w.heap.size + 1) s ∧ (Blk ((w.alloc (.cells (attV zAtt none 0 0) 31)).alloc (.cells #[.string s] 74)) w.heap.size 31 (attV zAtt none 0 0) ∧ Below w.heap.size w ((w.alloc (.cells (attV zAtt none 0 0) 31)).alloc (.cells #[.string s] 74)))) := Lib.hid (by
    have h2 := Blk.new (w.alloc (.cells (attV zAtt none 0 0) 31)) 74 #[.string s]
    rw [show (w.alloc (.cells (attV zAtt none 0 0) 31)).heap.size = w.heap.size + 1 from by simp] at h2
    exact ⟨h2, (Blk.new _ _ _).alloc _, ((Below.refl _ _).alloc (Nat.le_refl _) _).alloc (by simp) _⟩)
  change Code.wp _ _ _ _ ((w.alloc (.cells (attV zAtt none 0 0) 31)).alloc (.cells #[.string s] 74))
  generalize (w.alloc (.cells (attV zAtt none 0 0) 31)).alloc (.cells #[.string s] 74) = w0 at H0 ⊢
  obtain ⟨R, hR⟩ : ∃ R, w.heap.size + 1 = R := ⟨_, rfl⟩
  rw [hR] at H0 ⊢
  have hR0 : w.heap.size < R := by omega
  clear hR
  have NX : Hid (∀ W W' : World, (Blk W w.heap.size 31 (attV zAtt none 0 0) ∧ Below w.heap.size w W) → W.grownBy W' (some R) → (Blk W' w.heap.size 31 (attV zAtt none 0 0) ∧ Below w.heap.size w W')) := Lib.hid (fun W W' h hg => ⟨h.1.grown hg (by intro e; injection e with e; omega), h.2.grown hg h.2.size (fun k e => by injection e with e; omega)⟩)
  have ZS := Lib.hid (p_sizes s)
  have hfb := fixV_byte s
  have F1 := Lib.hid (rfix1_g s R w0 H0.out.1 hs)
  go_wp2_with fail
  (with_reducible refine F1.out.mono ?_)
  rintro e w1 ⟨rfl, hr, hg⟩
  have H1 : Hid (RRdr w1 R (p1 s).1 ∧ (Blk w1 w.heap.size 31 (attV zAtt none 0 0) ∧ Below w.heap.size w w1)) := Lib.hid ⟨hr, NX.out _ _ H0.out.2 hg⟩
  clear hr hg F1 H0
  have hR1 := H1.out.1.lt
  go_upto_region 4 with fail
  have HA : Hid (RRdr (w1.alloc (.cells #[.int .u8 (fixV s 1 : Int), .int .u32 0, .int .u32 0, .int .u32 0, .int .i64 0, .string ⟨#[]⟩, .slice none 0 0] 31)) R (p1 s).1 ∧ Blk (w1.alloc (.cells #[.int .u8 (fixV s 1 : Int), .int .u32 0, .int .u32 0, .int .u32 0, .int .i64 0, .string ⟨#[]⟩, .slice none 0 0] 31)) w1.heap.size 31 #[.int .u8 (fixV s 1 : Int), .int .u32 0, .int .u32 0, .int .u32 0, .int .i64 0, .string ⟨#[]⟩, .slice none 0 0] ∧ (Blk (w1.alloc (.cells #[.int .u8 (fixV s 1 : Int), .int .u32 0, .int .u32 0, .int .u32 0, .int .i64 0, .string ⟨#[]⟩, .slice none 0 0] 31)) w.heap.size 31 (attV zAtt none 0 0) ∧ Below w.heap.size w (w1.alloc (.cells #[.int .u8 (fixV s 1 : Int), .int .u32 0, .int .u32 0, .int .u32 0, .int .i64 0, .string ⟨#[]⟩, .slice none 0 0] 31)))) := Lib.hid ⟨Blk.alloc H1.out.1 _, Blk.new _ _ _, H1.out.2.1.alloc _, H1.out.2.2.alloc H1.out.2.2.size _⟩
  generalize w1.alloc (.cells #[.int .u8 (fixV s 1 : Int), .int .u32 0, .int .u32 0, .int .u32 0, .int .i64 0, .string ⟨#[]⟩, .slice none 0 0] 31) = v0 at HA ⊢
  generalize w1.heap.size = ab at HA hR1 ⊢
  clear H1

  have C1 := Lib.hid (ruint_p (p1 s) R v0 HA.out.1 (Nat.le_trans (Nat.le_trans (ZS.out.1) hs) (by omega)))
  go_wp2_with fail
  (with_reducible refine C1.out.mono ?_)
  rintro e v1 ⟨rfl, hr, hg⟩
  have HA' : Hid (RRdr v1 R (p2 s).1 ∧ Blk v1 ab 31 #[.int .u8 (fixV s 1 : Int), .int .u32 0, .int .u32 0, .int .u32 0, .int .i64 0, .string ⟨#[]⟩, .slice none 0 0] ∧ (Blk v1 w.heap.size 31 (attV zAtt none 0 0) ∧ Below w.heap.size w v1)) := Lib.hid ⟨hr, HA.out.2.1.grown hg (by intro e; injection e with e; omega), NX.out _ _ HA.out.2.2 hg⟩
  clear hr hg C1 HA
  have HA := HA'
  clear HA'

  have C2 := Lib.hid (ruint_p (p2 s) R v1 HA.out.1 (Nat.le_trans (Nat.le_trans (ZS.out.2.1) hs) (by omega)))
  go_wp2_with fail
  (with_reducible refine C2.out.mono ?_)
  rintro e v2 ⟨rfl, hr, hg⟩
  have HA' : Hid (RRdr v2 R (p3 s).1 ∧ Blk v2 ab 31 #[.int .u8 (fixV s 1 : Int), .int .u32 0, .int .u32 0, .int .u32 0, .int .i64 0, .string ⟨#[]⟩, .slice none 0 0] ∧ (Blk v2 w.heap.size 31 (attV zAtt none 0 0) ∧ Below w.heap.size w v2)) := Lib.hid ⟨hr, HA.out.2.1.grown hg (by intro e; injection e with e; omega), NX.out _ _ HA.out.2.2 hg⟩
  clear hr hg C2 HA
  have HA := HA'
  clear HA'

  have C3 := Lib.hid (ruint_p (p3 s) R v2 HA.out.1 (Nat.le_trans (Nat.le_trans (ZS.out.2.2.1) hs) (by omega)))
  go_wp2_with fail
  (with_reducible refine C3.out.mono ?_)
  rintro e v3 ⟨rfl, hr, hg⟩
  have HA' : Hid (RRdr v3 R (p4 s).1 ∧ Blk v3 ab 31 #[.int .u8 (fixV s 1 : Int), .int .u32 0, .int .u32 0, .int .u32 0, .int .i64 0, .string ⟨#[]⟩, .slice none 0 0] ∧ (Blk v3 w.heap.size 31 (attV zAtt none 0 0) ∧ Below w.heap.size w v3)) := Lib.hid ⟨hr, HA.out.2.1.grown hg (by intro e; injection e with e; omega), NX.out _ _ HA.out.2.2 hg⟩
  clear hr hg C3 HA
  have HA := HA'
  clear HA'

  have C4 := Lib.hid (ruint_p (p4 s) R v3 HA.out.1 (Nat.le_trans (Nat.le_trans (ZS.out.2.2.2.1) hs) (by omega)))
  go_wp2_with fail
  (with_reducible refine C4.out.mono ?_)
  rintro e v4 ⟨rfl, hr, hg⟩
  have HA' : Hid (RRdr v4 R (p5 s).1 ∧ Blk v4 ab 31 #[.int .u8 (fixV s 1 : Int), .int .u32 0, .int .u32 0, .int .u32 0, .int .i64 0, .string ⟨#[]⟩, .slice none 0 0] ∧ (Blk v4 w.heap.size 31 (attV zAtt none 0 0) ∧ Below w.heap.size w v4)) := Lib.hid ⟨hr, HA.out.2.1.grown hg (by intro e; injection e with e; omega), NX.out _ _ HA.out.2.2 hg⟩
  clear hr hg C4 HA
  have HA := HA'
  clear HA'

  have HB1 : Hid (refB1 s = ((takeE s 1 != 0) || ((uintE (p1 s).1 != 0) || ((uintE (p2 s).1 != 0) || ((uintE (p3 s).1 != 0) || ((uintE (p4 s).1 != 0) || (decide (4095 < numN (p1 s)) || (decide (4294967295 < numN (p2 s)) || (decide (4294967295 < numN (p3 s)) || decide (1099511627776 < numN (p4 s)))))))))) ) := Lib.hid rfl
  have HAV := Lib.hid (attV0b s)
  have HMT : Hid (wrap64 (numN (p4 s) : Int) = wrap64 (numN (p4 s) : Int)) := Lib.hid rfl
  obtain ⟨e0, he0⟩ : ∃ e0, takeE s 1 = e0 := ⟨_, rfl⟩
  rw [he0] at HB1 ⊢

  obtain ⟨e1, he1⟩ : ∃ e, uintE (p1 s).1 = e := ⟨_, rfl⟩
  obtain ⟨n1, hn1⟩ : ∃ n, numN (p1 s) = n := ⟨_, rfl⟩
  rw [he1, hn1] at HB1
  rw [he1, hn1]
  rw [hn1] at HAV

  obtain ⟨e2, he2⟩ : ∃ e, uintE (p2 s).1 = e := ⟨_, rfl⟩
  obtain ⟨n2, hn2⟩ : ∃ n, numN (p2 s) = n := ⟨_, rfl⟩
  rw [he2, hn2] at HB1
  rw [he2, hn2]
  rw [hn2] at HAV

  obtain ⟨e3, he3⟩ : ∃ e, uintE (p3 s).1 = e := ⟨_, rfl⟩
  obtain ⟨n3, hn3⟩ : ∃ n, numN (p3 s) = n := ⟨_, rfl⟩
  rw [he3, hn3] at HB1
  rw [he3, hn3]
  rw [hn3] at HAV

  obtain ⟨e4, he4⟩ : ∃ e, uintE (p4 s).1 = e := ⟨_, rfl⟩
  obtain ⟨n4, hn4⟩ : ∃ n, numN (p4 s) = n := ⟨_, rfl⟩
  rw [he4, hn4] at HB1
  rw [he4, hn4]
  rw [hn4] at HAV

  have HE0 := Lib.hid he0
  clear he0 he1 he2 he3 he4 hn1 hn2 hn3 hn4 HMT
  have dN : ∀ (m n : Nat), decide (m < n) = decide ((m : Int) < (n : Int)) := fun m n => by rw [Bool.eq_iff_iff, decide_eq_true_eq, decide_eq_true_eq]; omega
  rw [dN, dN, dN, dN] at HB1
  clear dN
  obtain ⟨N, hN⟩ : ∃ N, fixV s 1 = N := ⟨_, rfl⟩
  have HN := Lib.hid hN
  rw [hN] at HA HAV hfb ⊢
  clear hN
  obtain ⟨BB, hBB⟩ : ∃ BB, refB1 s = BB := ⟨_, rfl⟩
  have HBB := Lib.hid hBB
  rw [hBB] at HB1
  clear hBB
  have HQ : Hid (BB = false → n1 ≤ 4095 ∧ n2 ≤ 4294967295 ∧ n3 ≤ 4294967295 ∧ n4 ≤ 1099511627776 ∧ e0 = 0) := Lib.hid (fun h => by
    have := HB1.out.symm.trans h
    simp only [Bool.or_eq_false_iff, bne_eq_false_iff_eq, decide_eq_false_iff_not] at this
    omega)
  go_upto_region 8 with fail
  go_cut [87] (fun v wx => v = .bool BB ∧ v4 = wx)
  case first =>

    obtain ⟨c0, hc0⟩ : ∃ c, (e0 != 0) = c := ⟨_, rfl⟩
    obtain ⟨c1, hc1⟩ : ∃ c, (e1 != 0) = c := ⟨_, rfl⟩
    obtain ⟨c2, hc2⟩ : ∃ c, (e2 != 0) = c := ⟨_, rfl⟩
    obtain ⟨c3, hc3⟩ : ∃ c, (e3 != 0) = c := ⟨_, rfl⟩
    obtain ⟨c4, hc4⟩ : ∃ c, (e4 != 0) = c := ⟨_, rfl⟩
    obtain ⟨c5, hc5⟩ : ∃ c, decide ((4095 : Int) < (n1 : Int)) = c := ⟨_, rfl⟩
    obtain ⟨c6, hc6⟩ : ∃ c, decide ((4294967295 : Int) < (n2 : Int)) = c := ⟨_, rfl⟩
    obtain ⟨c7, hc7⟩ : ∃ c, decide ((4294967295 : Int) < (n3 : Int)) = c := ⟨_, rfl⟩
    obtain ⟨c8, hc8⟩ : ∃ c, decide ((1099511627776 : Int) < (n4 : Int)) = c := ⟨_, rfl⟩
    have HB2 : Hid (BB = (c0 || (c1 || (c2 || (c3 || (c4 || (c5 || (c6 || (c7 || c8))))))))) := Lib.hid (by rw [HB1.out, ← hc0, ← hc1, ← hc2, ← hc3, ← hc4, ← hc5, ← hc6, ← hc7, ← hc8]; rfl)
    clear HB1 HAV HQ
    rcases or9 c0 c1 c2 c3 c4 c5 c6 c7 c8 with rfl | ⟨rfl, rfl⟩ | ⟨rfl, rfl, rfl⟩ | ⟨rfl, rfl, rfl, rfl⟩ | ⟨rfl, rfl, rfl, rfl, rfl⟩ | ⟨rfl, rfl, rfl, rfl, rfl, rfl⟩ | ⟨rfl, rfl, rfl, rfl, rfl, rfl, rfl⟩ | ⟨rfl, rfl, rfl, rfl, rfl, rfl, rfl, rfl⟩ | ⟨rfl, rfl, rfl, rfl, rfl, rfl, rfl, rfl, rfl⟩ | ⟨rfl, rfl, rfl, rfl, rfl, rfl, rfl, rfl, rfl⟩
    all_goals
      go_wp2
      go_meet
      exact ⟨by rw [HB2.out]; rfl, rfl⟩
  case rest =>
    obtain ⟨rfl, rfl⟩ := hcut

    cases BB with
    | true =>
      have FF : Hid (rdR s = (zAtt, 4)) := Lib.hid (rd_no1 HBB.out)
      have z0 : ∀ i, v4.cell? ⟨w.heap.size, i, none⟩ = (attV zAtt none 0 0)[i]? := fun i => HA.out.2.2.1.cell i
      have zc0 : v4.cell? ⟨w.heap.size, 0, none⟩ = some (.int .u8 0) := z0 0
      have zc1 : v4.cell? ⟨w.heap.size, 1, none⟩ = some (.int .u32 0) := z0 1
      have zc2 : v4.cell? ⟨w.heap.size, 2, none⟩ = some (.int .u32 0) := z0 2
      have zc3 : v4.cell? ⟨w.heap.size, 3, none⟩ = some (.int .u32 0) := z0 3
      have zc4 : v4.cell? ⟨w.heap.size, 4, none⟩ = some (.int .i64 0) := z0 4
      have zc5 : v4.cell? ⟨w.heap.size, 5, none⟩ = some (.string ⟨#[]⟩) := z0 5
      have zc6 : v4.cell? ⟨w.heap.size, 6, none⟩ = some (.slice none 0 0) := z0 6
      have g0 : ∀ i, v4.frozen? ⟨w.heap.size, i, none⟩ = false := fun i => HA.out.2.2.1.frozen i
      clear z0
      go_wp2
      exact bodyPost_ret (results_rec_tmp (p := 2) (u := 3) rfl _ _ w.heap.size 31 (attV zAtt none 0 0) (0, 0) rfl (zero_fin w v4 HA.out.2.2).1 Tryd.underlying31 (by kernel_rfl)) rfl ⟨none, 0, 0, by rw [FF.out]; rfl, by rw [FF.out]; exact World.ownsRow_nil _ _ _ _, (zero_fin w v4 HA.out.2.2).2⟩
    | false =>
      obtain ⟨q1, q2, q3, q4, rfl⟩ := HQ.out rfl
      have H5 : Hid ((p5 s).2 = true) := Lib.hid ((refB1_iff s).1 HBB.out).2
      clear HQ HB1
      have a0 : ∀ i, v4.frozen? ⟨ab, i, none⟩ = false := fun i => HA.out.2.1.frozen i
      have a1 : v4.cell? ⟨ab, 1, none⟩ = some (.int .u32 0) := HA.out.2.1.cell 1
      have a2 : v4.cell? ⟨ab, 2, none⟩ = some (.int .u32 0) := HA.out.2.1.cell 2
      have a3 : v4.cell? ⟨ab, 3, none⟩ = some (.int .u32 0) := HA.out.2.1.cell 3
      have a4 : v4.cell? ⟨ab, 4, none⟩ = some (.int .i64 0) := HA.out.2.1.cell 4
      go_upto_region 14 with fail
      have HC : Hid (RRdr ((((v4.setCell ⟨ab, 1, none⟩ (.int .u32 n1)).setCell ⟨ab, 2, none⟩ (.int .u32 n2)).setCell ⟨ab, 3, none⟩ (.int .u32 n3)).setCell ⟨ab, 4, none⟩ (.int .i64 n4)) R (p5 s).1 ∧ Blk ((((v4.setCell ⟨ab, 1, none⟩ (.int .u32 n1)).setCell ⟨ab, 2, none⟩ (.int .u32 n2)).setCell ⟨ab, 3, none⟩ (.int .u32 n3)).setCell ⟨ab, 4, none⟩ (.int .i64 n4)) ab 31 (attV (rdA0 s ⟨#[]⟩ []) none 0 0) ∧ (Blk ((((v4.setCell ⟨ab, 1, none⟩ (.int .u32 n1)).setCell ⟨ab, 2, none⟩ (.int .u32 n2)).setCell ⟨ab, 3, none⟩ (.int .u32 n3)).setCell ⟨ab, 4, none⟩ (.int .i64 n4)) w.heap.size 31 (attV zAtt none 0 0) ∧ Below w.heap.size w ((((v4.setCell ⟨ab, 1, none⟩ (.int .u32 n1)).setCell ⟨ab, 2, none⟩ (.int .u32 n2)).setCell ⟨ab, 3, none⟩ (.int .u32 n3)).setCell ⟨ab, 4, none⟩ (.int .i64 n4)))) := Lib.hid (by
        have hA := HA.out
        have hne : R ≠ ab := by omega
        have hnz : w.heap.size ≠ ab := by omega
        have hlz : w.heap.size ≤ ab := by omega
        rw [HAV.out ⟨#[]⟩ [] none 0 0 hfb q1 q2 q3 q4]
        exact ⟨Blk.far (Blk.far (Blk.far (Blk.far hA.1 (p := ⟨ab, 1, none⟩) hne _) (p := ⟨ab, 2, none⟩) hne _) (p := ⟨ab, 3, none⟩) hne _) (p := ⟨ab, 4, none⟩) hne _, (((hA.2.1.set_ 1 _).set_ 2 _).set_ 3 _).set_ 4 _, (((hA.2.2.1.far (p := ⟨ab, 1, none⟩) hnz _).far (p := ⟨ab, 2, none⟩) hnz _).far (p := ⟨ab, 3, none⟩) hnz _).far (p := ⟨ab, 4, none⟩) hnz _, (((hA.2.2.2.setCell (p := ⟨ab, 1, none⟩) hlz _).setCell (p := ⟨ab, 2, none⟩) hlz _).setCell (p := ⟨ab, 3, none⟩) hlz _).setCell (p := ⟨ab, 4, none⟩) hlz _⟩)
      generalize (((v4.setCell ⟨ab, 1, none⟩ (.int .u32 n1)).setCell ⟨ab, 2, none⟩ (.int .u32 n2)).setCell ⟨ab, 3, none⟩ (.int .u32 n3)).setCell ⟨ab, 4, none⟩ (.int .i64 n4) = v5 at HC ⊢
      clear HA a0 a1 a2 a3 a4 HAV q1 q2 q3 q4
      obtain ⟨E2, hE2⟩ : ∃ E2, refE2 s = E2 := ⟨_, rfl⟩
      have HE2 := Lib.hid hE2
      clear hE2
      obtain ⟨Q6, hQ6⟩ : ∃ q, (p6 s).1 = q := ⟨_, rfl⟩
      have HQ6 := Lib.hid hQ6
      clear hQ6
      obtain ⟨TT, hTT⟩ : ∃ q, rdT s = q := ⟨_, rfl⟩
      have HTT := Lib.hid hTT
      clear hTT
      go_upto_if 102 with fail
      go_cut [6] (fun v wx => v = .int .i64 E2 ∧ Hid (RRdr wx R Q6 ∧ Blk wx ab 31 (attV (rdA0 s TT []) none 0 0) ∧ (Blk wx w.heap.size 31 (attV zAtt none 0 0) ∧ Below w.heap.size w wx)))
      case first =>
        by_cases h3 : N = 3
        · have q3 : ((N : Int) == 3) = true := by rw [beq_iff_eq]; omega
          have E6 : Hid (Q6 = txS (p5 s).1 1024) := Lib.hid (by rw [← HQ6.out, p6, if_pos (HN.out.trans h3), tkS_fst])
          have ET : Hid (TT = txT (p5 s).1 1024) := Lib.hid (by rw [← HTT.out, rdT, if_pos (HN.out.trans h3)])
          have EE : Hid (E2 = txE (p5 s).1 1024) := Lib.hid (by rw [← HE2.out, refE2, if_pos (HN.out.trans h3)])
          have C1 := Lib.hid (rtext_g (p5 s).1 R 1024 v5 HC.out.1 (Nat.le_trans (Nat.le_trans ZS.out.2.2.2.2.1 hs) (by omega)) (by omega))
          rw [show ((1024 : Nat) : Int) = 1024 from rfl] at C1
          clear h3
          go_wp2_with fail
          (with_reducible refine C1.out.mono ?_)
          rintro e v6 ⟨rfl, hr, hg⟩
          have HD : Hid (RRdr v6 R Q6 ∧ Blk v6 ab 31 (attV (rdA0 s ⟨#[]⟩ []) none 0 0) ∧ (Blk v6 w.heap.size 31 (attV zAtt none 0 0) ∧ Below w.heap.size w v6)) := Lib.hid ⟨by rw [E6.out]; exact hr, HC.out.2.1.grown hg (by intro e; injection e with e; omega), NX.out _ _ HC.out.2.2 hg⟩
          rw [← ET.out, ← EE.out]
          clear hr hg C1 E6 ET EE
          have f5 : v6.frozen? ⟨ab, 5, none⟩ = false := HD.out.2.1.frozen 5
          have c5 : v6.cell? ⟨ab, 5, none⟩ = some (.string ⟨#[]⟩) := HD.out.2.1.cell 5
          go_wp2
          go_meet
          have hq2 := HD.out.2.1.set_ 5 (.string TT)
          rw [attV_set5] at hq2
          exact ⟨rfl, Lib.hid ⟨Blk.far HD.out.1 (p := ⟨ab, 5, none⟩) (by show R ≠ ab; omega) _, hq2, HD.out.2.2.1.far (p := ⟨ab, 5, none⟩) (by show w.heap.size ≠ ab; omega) _, HD.out.2.2.2.setCell (p := ⟨ab, 5, none⟩) (by show w.heap.size ≤ ab; omega) _⟩⟩
        · have q3 : ((N : Int) == 3) = false := by rw [beq_eq_false_iff_ne]; omega
          have E6 : Hid (Q6 = (p5 s).1) := Lib.hid (by rw [← HQ6.out, p6, if_neg (by rw [HN.out]; exact h3)])
          have ET : Hid (TT = ⟨#[]⟩) := Lib.hid (by rw [← HTT.out, rdT, if_neg (by rw [HN.out]; exact h3)]; rfl)
          have EE : Hid (E2 = 0) := Lib.hid (by rw [← HE2.out, refE2, if_neg (by rw [HN.out]; exact h3)])
          clear h3
          go_wp2
          go_meet
          rw [E6.out, ET.out, EE.out]
          exact ⟨rfl, HC⟩
      case rest =>
        obtain ⟨rfl, HD⟩ := hcut
        rw [← HQ6.out, ← HTT.out] at HD
        clear HC HQ6 HTT Q6 TT
        have C1 := Lib.hid (ruint_p (p6 s) R wc HD.out.1 (Nat.le_trans (Nat.le_trans ZS.out.2.2.2.2.2.1 hs) (by omega)))
        go_wp2_with fail
        (with_reducible refine C1.out.mono ?_)
        rintro e v7 ⟨rfl, hr, hg⟩
        have HG : Hid (RRdr v7 R (p7 s).1 ∧ Blk v7 ab 31 (attV (rdA0 s (rdT s) []) none 0 0) ∧ (Blk v7 w.heap.size 31 (attV zAtt none 0 0) ∧ Below w.heap.size w v7)) := Lib.hid ⟨hr, HD.out.2.1.grown hg (by intro e; injection e with e; omega), NX.out _ _ HD.out.2.2 hg⟩
        clear hr hg C1 HD NX
        have HB1 : Hid (refB2 s = ((E2 != 0) || ((uintE (p6 s).1 != 0) || decide (16 < numN (p6 s))))) := Lib.hid (by rw [← HE2.out]; rfl)
        have HL0 : Hid (rdXs (numN (p6 s)) (p7 s) [] = rdL s) := Lib.hid rfl
        obtain ⟨e6, he6⟩ : ∃ e, uintE (p6 s).1 = e := ⟨_, rfl⟩
        obtain ⟨nn, hnn⟩ : ∃ n, numN (p6 s) = n := ⟨_, rfl⟩
        rw [he6, hnn] at HB1
        rw [hnn] at HL0
        rw [he6, hnn]
        clear he6 hnn
        have dN : decide (16 < nn) = decide ((16 : Int) < (nn : Int)) := by rw [Bool.eq_iff_iff, decide_eq_true_eq, decide_eq_true_eq]; omega
        rw [dN] at HB1
        clear dN
        obtain ⟨BB, hBB⟩ : ∃ BB, refB2 s = BB := ⟨_, rfl⟩
        have HBC := Lib.hid hBB
        rw [hBB] at HB1
        clear hBB
        have HQ : Hid (BB = false → nn ≤ 16) := Lib.hid (fun h => by
          have := HB1.out.symm.trans h
          simp only [Bool.or_eq_false_iff, bne_eq_false_iff_eq, decide_eq_false_iff_not] at this
          omega)
        go_upto_region 17 with fail
        go_cut [123] (fun v wx => v = .bool BB ∧ v7 = wx)
        case first =>
          obtain ⟨c0, hc0⟩ : ∃ c, (E2 != 0) = c := ⟨_, rfl⟩
          obtain ⟨c1, hc1⟩ : ∃ c, (e6 != 0) = c := ⟨_, rfl⟩
          obtain ⟨c2, hc2⟩ : ∃ c, decide ((16 : Int) < (nn : Int)) = c := ⟨_, rfl⟩
          have HB2 : Hid (BB = (c0 || (c1 || c2))) := Lib.hid (by rw [HB1.out, ← hc0, ← hc1, ← hc2])
          clear HB1 HQ
          cases c0 with
          | true =>
            go_wp2
            go_meet
            exact ⟨by rw [HB2.out]; rfl, rfl⟩
          | false =>
            cases c1 with
            | true =>
              go_wp2
              go_meet
              exact ⟨by rw [HB2.out]; rfl, rfl⟩
            | false =>
              cases c2 with
              | true =>
                go_wp2
                go_meet
                exact ⟨by rw [HB2.out]; rfl, rfl⟩
              | false =>
                go_wp2
                go_meet
                exact ⟨by rw [HB2.out]; rfl, rfl⟩
        case rest =>
          obtain ⟨rfl, rfl⟩ := hcut
          cases BB with
          | true =>
            have FF : Hid (rdR s = (zAtt, 4)) := Lib.hid (rd_no2 HBC.out)
            have z0 : ∀ i, v7.cell? ⟨w.heap.size, i, none⟩ = (attV zAtt none 0 0)[i]? := fun i => HG.out.2.2.1.cell i
            have zc0 : v7.cell? ⟨w.heap.size, 0, none⟩ = some (.int .u8 0) := z0 0
            have zc1 : v7.cell? ⟨w.heap.size, 1, none⟩ = some (.int .u32 0) := z0 1
            have zc2 : v7.cell? ⟨w.heap.size, 2, none⟩ = some (.int .u32 0) := z0 2
            have zc3 : v7.cell? ⟨w.heap.size, 3, none⟩ = some (.int .u32 0) := z0 3
            have zc4 : v7.cell? ⟨w.heap.size, 4, none⟩ = some (.int .i64 0) := z0 4
            have zc5 : v7.cell? ⟨w.heap.size, 5, none⟩ = some (.string ⟨#[]⟩) := z0 5
            have zc6 : v7.cell? ⟨w.heap.size, 6, none⟩ = some (.slice none 0 0) := z0 6
            have g0 : ∀ i, v7.frozen? ⟨w.heap.size, i, none⟩ = false := fun i => HG.out.2.2.1.frozen i
            clear z0
            go_wp2
            exact bodyPost_ret (results_rec_tmp (p := 2) (u := 3) rfl _ _ w.heap.size 31 (attV zAtt none 0 0) (0, 0) rfl (zero_fin w v7 HG.out.2.2).1 Tryd.underlying31 (by kernel_rfl)) rfl ⟨none, 0, 0, by rw [FF.out]; rfl, by rw [FF.out]; exact World.ownsRow_nil _ _ _ _, (zero_fin w v7 HG.out.2.2).2⟩
          | false =>
            have hn16 := HQ.out rfl
            have HL1 : Hid (rdXs nn ((p7 s).1, true) [] = rdL s) := Lib.hid (by
              rw [← HL0.out]
              have h7 := (refB2_iff s H5.out).1 HBC.out
              rw [← h7])
            have HI : Hid (RRI w v7 R ab v7.heap.size s 0 (p7 s).1 [] none 0) := Lib.hid ⟨HG.out.1, HG.out.2.1, World.ownsRow_nil _ _ _ _, HG.out.2.2.1, HG.out.2.2.2, Nat.le_refl _, hR0, hR1, HG.out.2.1.lt⟩
            clear HQ HB1 HL0 HG
            have HT5' := Lib.hid (rdT_size s ZS.out.2.2.2.2.1)
            have HZ7 := Lib.hid ZS.out.2.2.2.2.2.2
            rename_i K1 a1 K2 a2
            have A1 := Lib.hid a1
            clear a1
            go_wp2_with fail
            exact A1.out _ _ (rr_loop _ _ _ _ _ _ _ _ _ _ _ _ _ _ _ _ _ _ _ _ _ _ _ _ _ _ _ _ _ _ _ _ _ _ _ _ _ _ _ _ _ _ _ _ _ _ _ _ _ _ _ _ _ _ _ _ _ _ _ _ _ _ _ _ _ _ _ _ _ _ _ _ _ _ _ _ _ _ _ _ _ _ _ _ _ _ _ _ _ _ _ _ _ _ _ _ _ _ _ _ _ _ _ _ _ _ _ _ _ _ _ _ _ _ _ _ _ _ _ _ _ _ _ _ _ _ _ _ _ _ _ _ _ _ _ _ _ _ _ _ _ _ _ _ _ _ _ _ _ _ _ _ _ _ _ _ _ _ _ _ _ s w R ab nn v7 v7.heap.size HT hs hn16 HT5' HZ7 HL1 HI)
end Go.Proofs.YtpfccicahfncbaaDoor
