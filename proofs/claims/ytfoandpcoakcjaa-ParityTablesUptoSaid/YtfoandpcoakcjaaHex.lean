/- Walks: wire's digits, Hex. No conditions. -/
import Derived.Test.YtfoandpcoakcjaaRow16
import Derived.Test.YtfoandpcoakcjaaTxt
import Derived.Test.YtfoandpcoakcjaaId
namespace Go.Proofs.Ytfoandpcoakcjaa
open Go.RowKit
set_option linter.unusedVariables false
attribute [local go_sem ↓] execOp_ld16 execOp_st16
attribute [local go_sem] run_ld16 run_st16
def digF : Nat → UInt8 := fun i => [48, 49, 50, 51, 52, 53, 54, 55, 56, 57, 97, 98, 99, 100, 101, 102].getD i 0
def hexL (l : List UInt8) : List UInt8 := l.flatMap fun c => [digF (c.toNat / 16), digF (c.toNat % 16)]
theorem hexL_len (l : List UInt8) : (hexL l).length = 2 * l.length := by
  unfold hexL
  induction l with
  | nil => rfl
  | cons a l ih => rw [List.flatMap_cons, List.length_append, ih]; simp; omega
theorem hexL_snoc (l : List UInt8) (c : UInt8) : hexL (l ++ [c]) = hexL l ++ [digF (c.toNat / 16), digF (c.toNat % 16)] := by simp [hexL]
def z16 : Obj := .cells #[.int .u8 0, .int .u8 0, .int .u8 0, .int .u8 0, .int .u8 0, .int .u8 0, .int .u8 0, .int .u8 0, .int .u8 0, .int .u8 0, .int .u8 0, .int .u8 0, .int .u8 0, .int .u8 0, .int .u8 0, .int .u8 0] 141
theorem dig_lit : (#[.int .u8 48, .int .u8 49, .int .u8 50, .int .u8 51, .int .u8 52, .int .u8 53, .int .u8 54, .int .u8 55, .int .u8 56, .int .u8 57, .int .u8 97, .int .u8 98, .int .u8 99, .int .u8 100, .int .u8 101, .int .u8 102] : Array Value) = dgA digF := by kernel_rfl
theorem dig_new (w : World) : ok16 (w.alloc z16) w.heap.size 0 = true ∧ (put16 (w.alloc z16) w.heap.size 0 (dgA digF)).rowIs w.heap.size 141 16 (u8V digF) ∧ Below w.heap.size w (put16 (w.alloc z16) w.heap.size 0 (dgA digF)) ∧ (put16 (w.alloc z16) w.heap.size 0 (dgA digF)).heap[w.heap.size]? = some (.cells (dgA digF) 141 (0, 0)) := by
  have z : (w.alloc z16).rowIs w.heap.size 141 16 (fun _ => .int .u8 0) := zeros_row w (T := 141) (c := _) (n := 16) (z := .int .u8 0) (by rfl)
  obtain ⟨q1, q2⟩ := put16_row z 0 (dgA digF) (by omega) (dgA_full digF)
  have q3 := q1.congr (g := u8V digF) (fun i hi => by
    rw [if_pos (by omega), Nat.sub_zero, List.getD_eq_getElem?_getD, Array.getElem?_toList, dgA_get digF i hi]; rfl)
  refine ⟨ok16_of z (by omega), q3, below_grown ((Below.refl _ _).alloc (Nat.le_refl _) _) q2 (fun g hg => by cases hg; exact Nat.le_refl _), ?_⟩
  obtain ⟨c, hc, hs, hg⟩ := q3
  have e : c = dgA digF := by
    apply Array.ext
    · rw [hs, dgA_size]
    · intro i h1 h2
      have a := hg i (by omega)
      have b := dgA_get digF i (by omega)
      rw [Array.getElem?_eq_getElem h1] at a
      rw [Array.getElem?_eq_getElem h2] at b
      rw [Option.some.inj a, Option.some.inj b]; rfl
  rw [hc, e]
set_option maxRecDepth 100000 in
theorem digits_any (w : World) : Calls Try.prog 96 #[] w fun e w' => e = .returned (.agg (dgA digF)) ∧ Below w.heap.size w w' := by
  obtain ⟨h1, h2, h3, h4⟩ := dig_new w
  have f1 := dgA_full digF
  have H := Lib.hid (And.intro h3 h4)
  clear h2 h3 h4
  rw [← dig_lit] at f1
  unfold z16 at h1
  go_enter Try.func96, Try.ntmps96
  go_wp2
  exact bodyPost_ret (v := .agg (dgA digF)) (results_cell_row rfl _ _ w.heap.size 141 (dgA digF) (0, 0) _ rfl H.out.2 Try.underlying141 rfl (by rw [dgA_size]; kernel_rfl)) rfl ⟨rfl, H.out.1⟩
theorem and15 : ∀ n : Nat, n < 256 → bits .and .u8 (n : Int) 15 = ((n % 16 : Nat) : Int) := by decide +kernel
theorem step_append2 {P : Program} {w : World} {t e : TypeId} {z : Value} {bytes : Nat} (E : Elem1 P t e z bytes) {ops : Array Oper} {o : Oper} {a : Act} {K : Act → World → Prop} {Q : Exit → Act → World → Prop} {F : Prop} (hgd : o.guard = none) (s x : Operand)
    (ho : o.op = .call { callee := .builtin .append, args := #[s, x], argTypes := #[t, t] })
    (base : Nat) (v : Value) (n : Nat) (xs : List Value) (hs : a.eval s = v) (hown : w.ownsRow base e 1 v n xs) (u1 u2 : Value) (hx : a.eval x = .slice (some ⟨w.heap.size, 0, none⟩) 2 2)
    (h1 : u1.oneCell' = true) (h2 : u2.oneCell' = true) (hn : n ≤ 4611686018427387904) (hbytes : (n + 2) * bytes ≤ 140737488355328) (hbase : base ≤ w.heap.size)
    (h : ∀ v' w', w'.ownsRow base e 1 v' (n + 2) (xs ++ [u1, u2]) → w.grownBy w' v.ownBlock → (v'.ownBlock = v.ownBlock ∨ v'.ownBlock = some (w.heap.size + 1)) → K (a.put o.dst v') w') :
    if Region.wanted o (yielded ops a.tmps) = true then Oper.wp P o a (w.alloc (.cells #[u1, u2] e)).drew K Q else F := by
  obtain ⟨i, hi, hz0, hz1, hz2⟩ := E.info
  refine step_append_any (w.alloc (.cells #[u1, u2] e)).drew hgd s x t ho base e i z 1 bytes E.ht hi hz0 hz1 hz2 E.hz (by decide) v n xs hs (own_drew (hown.alloc _)) (w.heap.size + 1) (some ⟨w.heap.size, 0, none⟩) 2 2 [u1, u2] hx
    ⟨rfl, fun _ => ⟨_, rfl, by simp, fun j u' hj => ?_⟩⟩ (by intro u' hu'; simp at hu'; rcases hu' with rfl | rfl; exact h1; exact h2) (by unfold maxLen; omega) hbytes (by simp; omega) (fun v' w' h2 h3 h4 => h v' w' h2 ?_ (by simpa using h4))
  · rw [add0]
    have := (World.rowIs_alloc w #[u1, u2] e (fun j => [u1, u2].getD j undef) (fun i hi => by
      have : i = 0 ∨ i = 1 := by simp at hi; omega
      rcases this with rfl | rfl <;> rfl)).cell (i := j) (by
        match j, hj with
        | 0, _ => simp
        | 1, _ => simp)
    refine (show World.cell? _ _ = _ from this).trans ?_
    rw [List.getD_eq_getElem?_getD, hj]; rfl
  · exact ⟨h3.os, h3.tape, h3.output, Nat.le_trans (by simp) h3.size, fun k hk hne => (h3.block k (by simp; omega) hne).trans (Below.heap_alloc w _ k hk)⟩
theorem own_lt {w : World} {base : Nat} {e : TypeId} {size n : Nat} {v : Value} {xs : List Value} (h : w.ownsRow base e size v n xs) : ∀ x, v.ownBlock = some x → x < w.heap.size := by
  intro x hx
  rcases h.2 with ⟨h', _⟩ | ⟨g', cap', cur, h', _, hg, _⟩
  · rw [h'] at hx; cases hx
  · rw [h'] at hx
    have e : g' = x := by simpa [Value.ownBlock] using hx
    subst e
    exact (Array.getElem?_eq_some_iff.1 hg).1
end Go.Proofs.Ytfoandpcoakcjaa
