/- Two filters and their bits side by side in memory: what stays when one of them turns. The filter's Size; Join of unlike sizes. No conditions. -/
import Derived.Test.YtbfmdingbgdflaaRbB
import Derived.Test.YtbfmdingbgdflaaRbC
import Derived.Test.YtbfmdingbgdflaaRbD
import Derived.Test.YtbfmdingbgdflaaBloG
import Derived.Test.YtbfmdingbgdflaaBloI
import Derived.Test.YtbfmdingbgdflaaBloJ
import Derived.Test.YtbfmdingbgdflaaBloNil
import Derived.Test.YtbfmdingbgdflaaId
namespace Go.Proofs.Ytbfmdingbgdflaa
open Go.RowKit Blo Wir
set_option linter.unusedVariables false
theorem size_any (w : World) (P g n cap H : Nat) (F : Nat → UInt8) (h : Flt w P g n cap H F) (hn : n ≤ 2097152) :
    Calls Try.prog 34 #[.pointer (some ⟨P, 0, none⟩)] w fun e w' => e = .returned (.tuple #[.int .i64 ((8 * n : Nat) : Int), .int .i64 (H : Int)]) ∧ Below w.heap.size w w' := by
  have c0 : w.cell? ⟨P, 0, none⟩ = some (.slice (some ⟨g, 0, none⟩) n cap) := h.blk.cell 0
  have c1 : w.cell? ⟨P, 1, none⟩ = some (.int .i64 (H : Int)) := h.blk.cell 1
  obtain ⟨N, hN⟩ : ∃ N, 8 * n = N := ⟨_, rfl⟩
  have E : 8 * (n : Int) = (N : Int) := by omega
  rw [hN]
  clear h hN
  go_enter Try.func34, Try.ntmps34
  go_wp2
  go_quiet (fail)
  go_wp2
  go_ret2
  exact ⟨rfl, below_drewN (Below.refl _ _) _⟩
theorem new_v (n H N : Nat) (w : World) (hN : 8 * n = N) (hn : N ≤ 16777216) (hH : H ≤ 8) (hz : szB (N : Int) (H : Int) = true) :
    Calls Try.prog 29 #[.int .i64 (N : Int), .int .i64 (H : Int)] w fun e w' => e = .returned (.tuple #[.pointer (some ⟨w.heap.size + 1, 0, none⟩), .int .i64 0]) ∧
      Flt w' (w.heap.size + 1) w.heap.size n n H (fun _ => 0) ∧ Below w.heap.size w w' := by
  subst hN
  exact new_any n H w hn hH hz
theorem join_no (w : World) (P g n cap H P' g' n' cap' H' : Nat) (F G : Nat → UInt8) (h : Flt w P g n cap H F) (h' : Flt w P' g' n' cap' H' G) (hne : n ≠ n' ∨ H ≠ H') :
    Calls Try.prog 25 #[.pointer (some ⟨P, 0, none⟩), .pointer (some ⟨P', 0, none⟩)] w fun e w' => e = .returned (.int .i64 1) ∧ Below w.heap.size w w' := by
  have c0 : w.cell? ⟨P, 0, none⟩ = some (.slice (some ⟨g, 0, none⟩) n cap) := h.blk.cell 0
  have c1 : w.cell? ⟨P, 1, none⟩ = some (.int .i64 (H : Int)) := h.blk.cell 1
  have d0 : w.cell? ⟨P', 0, none⟩ = some (.slice (some ⟨g', 0, none⟩) n' cap') := h'.blk.cell 0
  have d1 : w.cell? ⟨P', 1, none⟩ = some (.int .i64 (H' : Int)) := h'.blk.cell 1
  clear h h'
  by_cases e : n = n'
  · have e2 : ¬ (H : Int) = (H' : Int) := by omega
    subst e
    clear hne
    go_enter Try.func25, Try.ntmps25
    go_wp2
    go_quiet (fail)
    go_wp2
    go_ret
    exact ⟨rfl, below_drewN (Below.refl _ _) _⟩
  · have e1 : ¬ (n : Int) = (n' : Int) := by omega
    clear hne
    go_enter Try.func25, Try.ntmps25
    go_wp2
    go_quiet (fail)
    go_wp2
    go_ret
    exact ⟨rfl, below_drewN (Below.refl _ _) _⟩
theorem buf_ne {w : World} {g h n c n' c' : Nat} {T U : TypeId} {f f' : Nat → Value} (a : bufIs w T g n c f) (b : bufIs w U h n' c' f') (hne : T ≠ U) : g ≠ h := by
  rintro rfl
  obtain ⟨x, fr, hx, _⟩ := a
  obtain ⟨y, fr', hy, _⟩ := b
  rw [hx] at hy
  injection hy with hy
  injection hy with _ h2 _
  exact hne h2
/-- A filter and its bits: where they lie, what they hold. -/
structure Fm where
  P : Nat
  g : Nat
  n : Nat
  cap : Nat
  H : Nat
  m : Nat
  F : Nat → UInt8
  Q : Nat
  h : Nat
  B : Nat → Bool
structure Fm.Ok (b : Nat) (wr : World) (z : Fm) : Prop where
  flt : Flt wr z.P z.g z.n z.cap z.H z.F
  rf : Rf wr z.Q z.h (8 * z.n) z.H z.B
  pow : 8 * z.n = 2 ^ z.m
  m6 : 6 ≤ z.m
  m24 : z.m ≤ 24
  h1 : 1 ≤ z.H
  h8 : z.H ≤ 8
  lP : b ≤ z.P
  lg : b ≤ z.g
  lQ : b ≤ z.Q
  lh : b ≤ z.h
theorem Fm.Ok.n24 {b : Nat} {wr : World} {z : Fm} (o : z.Ok b wr) : 8 * z.n ≤ 16777216 := by
  rw [o.pow]; exact Nat.pow_le_pow_right (by omega) o.m24
theorem Fm.Ok.n64 {b : Nat} {wr : World} {z : Fm} (o : z.Ok b wr) : 64 ≤ 8 * z.n := by
  rw [o.pow]; exact Nat.pow_le_pow_right (n := 2) (by omega) o.m6
theorem Fm.Ok.mono {b : Nat} {wr w' : World} {z : Fm} (o : z.Ok b wr) (hb : Below wr.heap.size wr w') : z.Ok b w' :=
  ⟨o.flt.below hb, o.rf.below hb, o.pow, o.m6, o.m24, o.h1, o.h8, o.lP, o.lg, o.lQ, o.lh⟩
/-- Another filter's bytes turn. -/
theorem Fm.Ok.far_g {b : Nat} {wr w' : World} {z : Fm} {g n c : Nat} {G : Nat → UInt8} (o : z.Ok b wr) (hb : bufIs wr 5 g n c (u8V G)) (hne : z.g ≠ g) (hg : wr.grownBy w' (some g)) : z.Ok b w' :=
  ⟨o.flt.beside hb hg hne, ⟨o.rf.blk.grown hg (by intro e; injection e with e; exact blk_buf_ne o.rf.blk hb (by decide) e), o.rf.row.of_block (hg.block _ o.rf.row.lt (by intro e; injection e with e; exact buf_ne (bufIs.of_row o.rf.row) hb (by decide) e))⟩, o.pow, o.m6, o.m24, o.h1, o.h8, o.lP, o.lg, o.lQ, o.lh⟩
/-- Another filter's bits turn. -/
theorem Fm.Ok.far_h {b : Nat} {wr w' : World} {z : Fm} {h N : Nat} {B : Nat → Bool} (o : z.Ok b wr) (hb : wr.rowIs h 4 N (fun i => .bool (B i))) (hne : z.h ≠ h) (hg : wr.grownBy w' (some h)) : z.Ok b w' :=
  ⟨⟨o.flt.blk.grown hg (by intro e; injection e with e; exact blk_buf_ne o.flt.blk (bufIs.of_row hb) (by decide) e), o.flt.buf.grown hg (by intro e; injection e with e; exact buf_ne o.flt.buf (bufIs.of_row hb) (by decide) e)⟩,
   ⟨o.rf.blk.grown hg (by intro e; injection e with e; exact blk_buf_ne o.rf.blk (bufIs.of_row hb) (by decide) e), o.rf.row.of_block (hg.block _ o.rf.row.lt (by intro e; injection e with e; exact hne e))⟩, o.pow, o.m6, o.m24, o.h1, o.h8, o.lP, o.lg, o.lQ, o.lh⟩
def fp : Option Fm → Value
  | none => .pointer none
  | some z => .pointer (some ⟨z.P, 0, none⟩)
def mp : Option Fm → Value
  | none => .pointer none
  | some z => .pointer (some ⟨z.Q, 0, none⟩)
def up (X : Nat → Option Fm) (k : Nat) (z : Fm) : Nat → Option Fm := fun i => if i = k then some z else X i
/-- Both places of both lists. -/
structure Two (b : Nat) (w wr : World) (p q : Nat) (X : Nat → Option Fm) : Prop where
  fa : Blk wr p 51 #[fp (X 0), fp (X 1)]
  mb : Blk wr q 53 #[mp (X 0), mp (X 1)]
  ok : ∀ k z, k < 2 → X k = some z → z.Ok b wr
  apart : ∀ k j z u, k < 2 → j < 2 → k ≠ j → X k = some z → X j = some u → z.g ≠ u.g ∧ z.h ≠ u.h
  lp : b ≤ p
  lq : b ≤ q
  below : Below b w wr
theorem two_get (X : Nat → Option Fm) (f : Option Fm → Value) (k : Nat) (hk : k < 2) : (#[f (X 0), f (X 1)] : Array Value)[k]? = some (f (X k)) := by
  have : k = 0 ∨ k = 1 := by omega
  rcases this with rfl | rfl <;> rfl
theorem Two.f {b p q : Nat} {w wr : World} {X : Nat → Option Fm} (r : Two b w wr p q X) (k : Nat) (hk : k < 2) : wr.cell? ⟨p, k, none⟩ = some (fp (X k)) := by
  rw [r.fa.cell k]; exact two_get X fp k hk
theorem Two.m {b p q : Nat} {w wr : World} {X : Nat → Option Fm} (r : Two b w wr p q X) (k : Nat) (hk : k < 2) : wr.cell? ⟨q, k, none⟩ = some (mp (X k)) := by
  rw [r.mb.cell k]; exact two_get X mp k hk
theorem Two.mono {b p q : Nat} {w wr w' : World} {X : Nat → Option Fm} (r : Two b w wr p q X) (hl : b ≤ wr.heap.size) (hb : Below wr.heap.size wr w') : Two b w w' p q X :=
  ⟨r.fa.below hb r.fa.lt, r.mb.below hb r.mb.lt, fun k z hk hz => (r.ok k z hk hz).mono hb, r.apart, r.lp, r.lq, r.below.trans (hb.mono hl)⟩
theorem Two.low {b p q : Nat} {w wr : World} {X : Nat → Option Fm} (r : Two b w wr p q X) : b ≤ wr.heap.size := Nat.le_trans r.lp (Nat.le_of_lt r.fa.lt)
theorem below_row {b : Nat} {w wr w' : World} {g : Nat} (h : Below b w wr) (hl : b ≤ wr.heap.size) (hg : wr.grownBy w' (some g)) (hb : b ≤ g) : Below b w w' :=
  ⟨hg.os.trans h.os, hg.tape.trans h.tape, hg.output.trans h.output, Nat.le_trans h.size hg.size, fun k hk => (hg.block k (Nat.lt_of_lt_of_le hk hl) (fun e => by injection e with e; omega)).trans (h.block k hk)⟩
theorem up_two {X : Nat → Option Fm} {k : Nat} {z u : Fm} (f : Option Fm → Value) (hk : k < 2) (hz : X k = some z) (he : f (some u) = f (some z)) : (#[f (up X k u 0), f (up X k u 1)] : Array Value) = #[f (X 0), f (X 1)] := by
  have : k = 0 ∨ k = 1 := by omega
  rcases this with rfl | rfl
  · simp [up, he, hz]
  · simp [up, he, hz]
theorem Two.setF {b p q k : Nat} {w wr w' : World} {X : Nat → Option Fm} {z : Fm} {G : Nat → UInt8} (r : Two b w wr p q X) (hk : k < 2) (hz : X k = some z) (hf : Flt w' z.P z.g z.n z.cap z.H G) (hg : wr.grownBy w' (some z.g)) :
    Two b w w' p q (up X k { z with F := G }) := by
  have o := r.ok k z hk hz
  refine ⟨?_, ?_, fun i u hi hu => ?_, fun i j a c hi hj hne ha hc => ?_, r.lp, r.lq, below_row r.below r.low hg o.lg⟩
  · rw [up_two (u := { z with F := G }) fp hk hz rfl]
    exact r.fa.grown hg (by intro e; injection e with e; exact blk_buf_ne r.fa o.flt.buf (by decide) e)
  · rw [up_two (u := { z with F := G }) mp hk hz rfl]
    exact r.mb.grown hg (by intro e; injection e with e; exact blk_buf_ne r.mb o.flt.buf (by decide) e)
  · unfold up at hu
    by_cases e : i = k
    · rw [if_pos e] at hu
      injection hu with hu
      subst hu
      exact ⟨hf, ⟨o.rf.blk.grown hg (by intro e; injection e with e; exact blk_buf_ne o.rf.blk o.flt.buf (by decide) e), o.rf.row.of_block (hg.block _ o.rf.row.lt (by intro e; injection e with e; exact buf_ne (bufIs.of_row o.rf.row) o.flt.buf (by decide) e))⟩, o.pow, o.m6, o.m24, o.h1, o.h8, o.lP, o.lg, o.lQ, o.lh⟩
    · rw [if_neg e] at hu
      exact (r.ok i u hi hu).far_g o.flt.buf (r.apart i k u z hi hk e hu hz).1 hg
  · unfold up at ha hc
    by_cases e : i = k
    · rw [if_pos e] at ha
      rw [if_neg (fun h => hne (e.trans h.symm))] at hc
      injection ha with ha
      subst ha
      exact r.apart i j z c hi hj hne (by rw [e]; exact hz) hc
    · rw [if_neg e] at ha
      by_cases e2 : j = k
      · rw [if_pos e2] at hc
        injection hc with hc
        subst hc
        exact r.apart i j a z hi hj hne ha (by rw [e2]; exact hz)
      · rw [if_neg e2] at hc
        exact r.apart i j a c hi hj hne ha hc
theorem Two.setB {b p q k : Nat} {w wr w' : World} {X : Nat → Option Fm} {z : Fm} {C : Nat → Bool} (r : Two b w wr p q X) (hk : k < 2) (hz : X k = some z) (hf : Rf w' z.Q z.h (8 * z.n) z.H C) (hg : wr.grownBy w' (some z.h)) :
    Two b w w' p q (up X k { z with B := C }) := by
  have o := r.ok k z hk hz
  refine ⟨?_, ?_, fun i u hi hu => ?_, fun i j a c hi hj hne ha hc => ?_, r.lp, r.lq, below_row r.below r.low hg o.lh⟩
  · rw [up_two (u := { z with B := C }) fp hk hz rfl]
    exact r.fa.grown hg (by intro e; injection e with e; exact blk_buf_ne r.fa (bufIs.of_row o.rf.row) (by decide) e)
  · rw [up_two (u := { z with B := C }) mp hk hz rfl]
    exact r.mb.grown hg (by intro e; injection e with e; exact blk_buf_ne r.mb (bufIs.of_row o.rf.row) (by decide) e)
  · unfold up at hu
    by_cases e : i = k
    · rw [if_pos e] at hu
      injection hu with hu
      subst hu
      exact ⟨⟨o.flt.blk.grown hg (by intro e; injection e with e; exact blk_buf_ne o.flt.blk (bufIs.of_row o.rf.row) (by decide) e), o.flt.buf.grown hg (by intro e; injection e with e; exact buf_ne o.flt.buf (bufIs.of_row o.rf.row) (by decide) e)⟩, hf, o.pow, o.m6, o.m24, o.h1, o.h8, o.lP, o.lg, o.lQ, o.lh⟩
    · rw [if_neg e] at hu
      exact (r.ok i u hi hu).far_h o.rf.row (r.apart i k u z hi hk e hu hz).2 hg
  · unfold up at ha hc
    by_cases e : i = k
    · rw [if_pos e] at ha
      rw [if_neg (fun h => hne (e.trans h.symm))] at hc
      injection ha with ha
      subst ha
      exact r.apart i j z c hi hj hne (by rw [e]; exact hz) hc
    · rw [if_neg e] at ha
      by_cases e2 : j = k
      · rw [if_pos e2] at hc
        injection hc with hc
        subst hc
        exact r.apart i j a z hi hj hne ha (by rw [e2]; exact hz)
      · rw [if_neg e2] at hc
        exact r.apart i j a c hi hj hne ha hc
/-- A place of one of the two lists turns. -/
theorem Fm.Ok.cellF {b p : Nat} {wr : World} {z : Fm} {cs : Array Value} (o : z.Ok b wr) (hp : Blk wr p 51 cs) (k : Nat) (v : Value) : z.Ok b (wr.setCell ⟨p, k, none⟩ v) :=
  have hb : ∀ i, i ≠ p → (wr.setCell ⟨p, k, none⟩ v).heap[i]? = wr.heap[i]? := fun i hi => Below.heap_setCell _ _ _ _ hi
  ⟨⟨(hb _ (Blk.ne_ o.flt.blk hp (by decide))).trans o.flt.blk, o.flt.buf.of_block (hb _ (fun e => blk_buf_ne hp o.flt.buf (by decide) e.symm))⟩,
   ⟨(hb _ (Blk.ne_ o.rf.blk hp (by decide))).trans o.rf.blk, o.rf.row.of_block (hb _ (fun e => blk_buf_ne hp (bufIs.of_row o.rf.row) (by decide) e.symm))⟩, o.pow, o.m6, o.m24, o.h1, o.h8, o.lP, o.lg, o.lQ, o.lh⟩
theorem Fm.Ok.cellM {b p : Nat} {wr : World} {z : Fm} {cs : Array Value} (o : z.Ok b wr) (hp : Blk wr p 53 cs) (k : Nat) (v : Value) : z.Ok b (wr.setCell ⟨p, k, none⟩ v) :=
  have hb : ∀ i, i ≠ p → (wr.setCell ⟨p, k, none⟩ v).heap[i]? = wr.heap[i]? := fun i hi => Below.heap_setCell _ _ _ _ hi
  ⟨⟨(hb _ (Blk.ne_ o.flt.blk hp (by decide))).trans o.flt.blk, o.flt.buf.of_block (hb _ (fun e => blk_buf_ne hp o.flt.buf (by decide) e.symm))⟩,
   ⟨(hb _ (Blk.ne_ o.rf.blk hp (by decide))).trans o.rf.blk, o.rf.row.of_block (hb _ (fun e => blk_buf_ne hp (bufIs.of_row o.rf.row) (by decide) e.symm))⟩, o.pow, o.m6, o.m24, o.h1, o.h8, o.lP, o.lg, o.lQ, o.lh⟩
theorem set_two (X : Nat → Option Fm) (f : Option Fm → Value) (k : Nat) (z : Fm) : (#[f (X 0), f (X 1)] : Array Value).setIfInBounds k (f (some z)) = #[f (up X k z 0), f (up X k z 1)] := by
  match k with
  | 0 => simp [up]
  | 1 => simp [up]
  | k + 2 => simp [up]
/-- A place that was empty is filled, in both lists. -/
theorem Two.new {b p q k : Nat} {w wr : World} {X : Nat → Option Fm} {z : Fm} (r : Two b w wr p q X) (hk : k < 2) (hX : ∀ j, k ≤ j → X j = none) (o : z.Ok b wr) (hn : ∀ j u, j < 2 → X j = some u → z.g ≠ u.g ∧ z.h ≠ u.h) :
    Two b w ((wr.setCell ⟨p, k, none⟩ (fp (some z))).setCell ⟨q, k, none⟩ (mp (some z))) p q (up X k z) := by
  have hpq : p ≠ q := Blk.ne_ r.fa r.mb (by decide)
  have mb1 : Blk (wr.setCell ⟨p, k, none⟩ (fp (some z))) q 53 #[mp (X 0), mp (X 1)] := r.mb.far (by show q ≠ p; exact hpq.symm) _
  refine ⟨?_, ?_, fun i u hi hu => ?_, fun i j a c hi hj hne ha hc => ?_, r.lp, r.lq, (r.below.setCell (by show b ≤ p; exact r.lp) _).setCell (by show b ≤ q; exact r.lq) _⟩
  · have := (r.fa.set_ k (fp (some z))).far (p := ⟨q, k, none⟩) (by show p ≠ q; exact hpq) (mp (some z))
    rw [set_two X fp k z] at this
    exact this
  · have := mb1.set_ k (mp (some z))
    rw [set_two X mp k z] at this
    exact this
  · have key : u.Ok b wr := by
      unfold up at hu
      by_cases e : i = k
      · rw [if_pos e] at hu; injection hu with hu; subst hu; exact o
      · rw [if_neg e] at hu; exact r.ok i u hi hu
    exact (key.cellF r.fa k _).cellM mb1 k _
  · unfold up at ha hc
    by_cases e : i = k
    · rw [if_pos e] at ha
      injection ha with ha
      subst ha
      rw [if_neg (fun h => hne (e.trans h.symm))] at hc
      exact hn j c hj hc
    · rw [if_neg e] at ha
      by_cases e2 : j = k
      · rw [if_pos e2] at hc
        injection hc with hc
        subst hc
        have := hn i a hi ha
        exact ⟨this.1.symm, this.2.symm⟩
      · rw [if_neg e2] at hc
        exact r.apart i j a c hi hj hne ha hc
/-- A place that was empty stays empty. -/
theorem Two.none_ {b p q k : Nat} {w wr : World} {X : Nat → Option Fm} (r : Two b w wr p q X) (hk : k < 2) (hX : X k = none) :
    Two b w ((wr.setCell ⟨p, k, none⟩ (.pointer none)).setCell ⟨q, k, none⟩ (.pointer none)) p q X := by
  have hpq : p ≠ q := Blk.ne_ r.fa r.mb (by decide)
  have mb1 : Blk (wr.setCell ⟨p, k, none⟩ (.pointer none)) q 53 #[mp (X 0), mp (X 1)] := r.mb.far (by show q ≠ p; exact hpq.symm) _
  have hk2 : k = 0 ∨ k = 1 := by omega
  have e1 : (#[fp (X 0), fp (X 1)] : Array Value).setIfInBounds k (.pointer none) = #[fp (X 0), fp (X 1)] := by
    rcases hk2 with rfl | rfl <;> simp [hX, fp]
  have e2 : (#[mp (X 0), mp (X 1)] : Array Value).setIfInBounds k (.pointer none) = #[mp (X 0), mp (X 1)] := by
    rcases hk2 with rfl | rfl <;> simp [hX, mp]
  refine ⟨?_, ?_, fun i u hi hu => ((r.ok i u hi hu).cellF r.fa k _).cellM mb1 k _, r.apart, r.lp, r.lq, (r.below.setCell (by show b ≤ p; exact r.lp) _).setCell (by show b ≤ q; exact r.lq) _⟩
  · have := (r.fa.set_ k (.pointer none)).far (p := ⟨q, k, none⟩) (by show p ≠ q; exact hpq) (.pointer none)
    rw [e1] at this
    exact this
  · have := mb1.set_ k (.pointer none)
    rw [e2] at this
    exact this
/-- Another filter of the same size and bits in a place. -/
theorem Two.setP {b p q k : Nat} {w wr : World} {X : Nat → Option Fm} {z : Fm} {P g cap : Nat} {G : Nat → UInt8} (r : Two b w wr p q X) (hk : k < 2) (hz : X k = some z) (hf : Flt wr P g z.n cap z.H G) (hP : b ≤ P) (hg : b ≤ g)
    (hn : ∀ j u, j < 2 → j ≠ k → X j = some u → g ≠ u.g) :
    Two b w (wr.setCell ⟨p, k, none⟩ (.pointer (some ⟨P, 0, none⟩))) p q (up X k { z with P := P, g := g, cap := cap, F := G }) := by
  have hpq : p ≠ q := Blk.ne_ r.fa r.mb (by decide)
  have o := r.ok k z hk hz
  have o' : Fm.Ok b wr { z with P := P, g := g, cap := cap, F := G } := ⟨hf, o.rf, o.pow, o.m6, o.m24, o.h1, o.h8, hP, hg, o.lQ, o.lh⟩
  refine ⟨?_, ?_, fun i u hi hu => ?_, fun i j a c hi hj hne ha hc => ?_, r.lp, r.lq, r.below.setCell (by show b ≤ p; exact r.lp) _⟩
  · have := r.fa.set_ k (.pointer (some ⟨P, 0, none⟩))
    rw [show (Value.pointer (some ⟨P, 0, none⟩)) = fp (some { z with P := P, g := g, cap := cap, F := G }) from rfl, set_two X fp k] at this
    exact this
  · rw [up_two (u := { z with P := P, g := g, cap := cap, F := G }) mp hk hz rfl]
    exact r.mb.far (by show q ≠ p; exact hpq.symm) _
  · have key : u.Ok b wr := by
      unfold up at hu
      by_cases e : i = k
      · rw [if_pos e] at hu; injection hu with hu; subst hu; exact o'
      · rw [if_neg e] at hu; exact r.ok i u hi hu
    exact key.cellF r.fa k _
  · unfold up at ha hc
    by_cases e : i = k
    · rw [if_pos e] at ha
      injection ha with ha
      subst ha
      have hjk : j ≠ k := fun h => hne (e.trans h.symm)
      rw [if_neg hjk] at hc
      exact ⟨hn j c hj hjk hc, (r.apart k j z c hk hj hjk.symm hz hc).2⟩
    · rw [if_neg e] at ha
      by_cases e2 : j = k
      · rw [if_pos e2] at hc
        injection hc with hc
        subst hc
        exact ⟨(hn i a hi e ha).symm, (r.apart i k a z hi hk e ha hz).2⟩
      · rw [if_neg e2] at hc
        exact r.apart i j a c hi hj hne ha hc
/-- The bytes hold just the bits. -/
def Bts (X : Nat → Option Fm) : Prop := ∀ k z, k < 2 → X k = some z → Bt z.B z.F z.n
theorem up_at (X : Nat → Option Fm) (k : Nat) (z : Fm) : up X k z k = some z := if_pos rfl
theorem Two.pq {b p q k : Nat} {w wr : World} {X : Nat → Option Fm} {z : Fm} (r : Two b w wr p q X) (hk : k < 2) (hz : X k = some z) : wr.cell? ⟨p, k, none⟩ = some (.pointer (some ⟨z.P, 0, none⟩)) := by
  have := r.f k hk
  rw [hz] at this
  exact this
theorem Two.mq {b p q k : Nat} {w wr : World} {X : Nat → Option Fm} {z : Fm} (r : Two b w wr p q X) (hk : k < 2) (hz : X k = some z) : wr.cell? ⟨q, k, none⟩ = some (.pointer (some ⟨z.Q, 0, none⟩)) := by
  have := r.m k hk
  rw [hz] at this
  exact this
theorem row_far {w w' : World} {e g n c : Nat} {T U : TypeId} {f f' : Nat → Value} (r : w.rowIs e T 32 f) (hb : bufIs w U g n c f') (hne : T ≠ U) (hg : w.grownBy w' (some g)) : w'.rowIs e T 32 f :=
  r.of_block (hg.block _ r.lt (by intro h; injection h with h; exact buf_ne (bufIs.of_row r) hb hne h))
theorem radd_v {b : Nat} {w : World} {z : Fm} {I : Nat → UInt8} (o : z.Ok b w) :
    Calls Try.prog 31 #[.pointer (some ⟨z.Q, 0, none⟩), .agg (idA I)] w fun e w' => e = .returned (.tuple #[]) ∧ Rf w' z.Q z.h (8 * z.n) z.H (addB z.B I z.n z.H) ∧ w.grownBy w' (some z.h) :=
  radd_any w z.Q z.h (8 * z.n) z.n z.H z.B I o.rf rfl (by have := o.n64; omega) o.n24 o.h8
theorem add_v {b : Nat} {w : World} {z : Fm} {I : Nat → UInt8} (o : z.Ok b w) :
    Calls Try.prog 28 #[.pointer (some ⟨z.P, 0, none⟩), .agg (idA I)] w fun e w' => e = .returned (.int .i64 0) ∧ Flt w' z.P z.g z.n z.cap z.H (addF z.F I z.n z.H) ∧ w.grownBy w' (some z.g) :=
  add_any w z.P z.g z.n z.cap z.H z.m z.F I o.flt o.pow o.m24 o.h8
theorem rjoin_v {b : Nat} {w : World} {z u : Fm} (o : z.Ok b w) (p : u.Ok b w) (en : u.n = z.n) (eh : u.H = z.H) (hne : z.h ≠ u.h) :
    Calls Try.prog 32 #[.pointer (some ⟨z.Q, 0, none⟩), .pointer (some ⟨u.Q, 0, none⟩)] w fun e w' => e = .returned (.int .i64 0) ∧ Rf w' z.Q z.h (8 * z.n) z.H (orB z.B u.B (8 * z.n)) ∧ w.grownBy w' (some z.h) := by
  have hr := p.rf
  rw [en, eh] at hr
  exact rjoin_any w z.Q z.h u.Q u.h (8 * z.n) z.H z.B u.B o.rf hr hne o.n24
theorem join_v {b : Nat} {w : World} {z u : Fm} (o : z.Ok b w) (p : u.Ok b w) (en : u.n = z.n) (eh : u.H = z.H) (hne : z.g ≠ u.g) :
    Calls Try.prog 25 #[.pointer (some ⟨z.P, 0, none⟩), .pointer (some ⟨u.P, 0, none⟩)] w fun e w' => e = .returned (.int .i64 0) ∧ Flt w' z.P z.g z.n z.cap z.H (orF z.F u.F z.n) ∧ w.grownBy w' (some z.g) := by
  have hf := p.flt
  rw [en, eh] at hf
  exact join_any w z.P z.g z.cap u.P u.g u.cap z.n z.H z.F u.F o.flt hf hne (by have := o.n24; omega)
theorem rjoinNo_v {b : Nat} {w : World} {z u : Fm} (o : z.Ok b w) (p : u.Ok b w) (hne : ¬ (u.n = z.n ∧ u.H = z.H)) :
    Calls Try.prog 32 #[.pointer (some ⟨z.Q, 0, none⟩), .pointer (some ⟨u.Q, 0, none⟩)] w fun e w' => e = .returned (.int .i64 1) ∧ Below w.heap.size w w' :=
  rjoin_no w z.Q z.h (8 * z.n) z.H u.Q u.h (8 * u.n) u.H z.B u.B o.rf p.rf (by omega)
theorem joinNo_v {b : Nat} {w : World} {z u : Fm} (o : z.Ok b w) (p : u.Ok b w) (hne : ¬ (u.n = z.n ∧ u.H = z.H)) :
    Calls Try.prog 25 #[.pointer (some ⟨z.P, 0, none⟩), .pointer (some ⟨u.P, 0, none⟩)] w fun e w' => e = .returned (.int .i64 1) ∧ Below w.heap.size w w' :=
  join_no w z.P z.g z.n z.cap z.H u.P u.g u.n u.cap u.H z.F u.F o.flt p.flt (by omega)
theorem Bts.put {X : Nat → Option Fm} {k : Nat} {z : Fm} (h : Bts X) (hz : Bt z.B z.F z.n) : Bts (up X k z) := fun j u hj hu => by
  unfold up at hu
  by_cases e : j = k
  · rw [if_pos e] at hu; injection hu with hu; subst hu; exact hz
  · rw [if_neg e] at hu; exact h j u hj hu
theorem up_up (X : Nat → Option Fm) (k : Nat) (z u : Fm) : up (up X k z) k u = up X k u := by
  funext i
  unfold up
  by_cases e : i = k
  · rw [if_pos e, if_pos e]
  · rw [if_neg e, if_neg e, if_neg e]
end Go.Proofs.Ytbfmdingbgdflaa
