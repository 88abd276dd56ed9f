/- Several texts of the claim joined into one (part 3): plain facts and walks. No conditions but those that each theorem tells. -/
import Derived.Test.YtpfccicahfncbaaMgPackBack2
import Derived.Deep.DeepCutAuto
import Derived.Test.YtpfccicahfncbaaMem3
import Derived.Maps.OwnOps
import Derived.Maps.OwnSet
import Derived.WideKeyEntry
import Derived.Test.YtpfccicahfncbaaRow32
import Derived.DeepKeys4
import Derived.Test.YtpfccicahfncbaaMgPackBack1
import Derived.Shelf.Strings.Builder1
import Derived.Shelf.Small.Strs
import Derived.Shelf.Small.Wraps
import Derived.Shelf.Strings.BuilderF
import Derived.Shelf.Strings.BuilderK
import Derived.Shelf.Strings.Search1
import Derived.Shelf.Strings.Search2
import Derived.Shelf.Strings.Search3
import Derived.Shelf.LaysM
import Derived.Shelf.Strings.Shaped
import Derived.Shelf.Strings.Prefix
import Derived.Test.YtpfccicahfncbaaProg
namespace Go.Proofs.Ytpfccicahfncbaa
open Go.RowKit Wir Dig
set_option linter.unusedVariables false
set_option linter.unusedSimpArgs false
/-- An entry as a value. -/
def entA (off : Nat) (o : PObj) : Array Value := nmA o ++ #[.int .u8 (o.1.toNat : Int), .int .i64 (off : Int), .int .i64 (o.2.size : Int)]
def zeroE : Nat → Value := fun i => if i < 33 then .int .u8 0 else .int .i64 0
theorem entA_size (off : Nat) (o : PObj) : (entA off o).size = 35 := by unfold entA; rw [Array.size_append, nmA_size]; rfl
def zeroEnt : Obj := .cells #[.int .u8 0, .int .u8 0, .int .u8 0, .int .u8 0, .int .u8 0, .int .u8 0, .int .u8 0, .int .u8 0, .int .u8 0, .int .u8 0, .int .u8 0, .int .u8 0, .int .u8 0, .int .u8 0, .int .u8 0, .int .u8 0, .int .u8 0, .int .u8 0, .int .u8 0, .int .u8 0, .int .u8 0, .int .u8 0, .int .u8 0, .int .u8 0, .int .u8 0, .int .u8 0, .int .u8 0, .int .u8 0, .int .u8 0, .int .u8 0, .int .u8 0, .int .u8 0, .int .u8 0, .int .i64 0, .int .i64 0] 44
theorem zeroE_row (w : World) : (w.alloc zeroEnt).rowIs w.heap.size 44 35 zeroE := by
  refine World.rowIs_alloc w #[.int .u8 0, .int .u8 0, .int .u8 0, .int .u8 0, .int .u8 0, .int .u8 0, .int .u8 0, .int .u8 0, .int .u8 0, .int .u8 0, .int .u8 0, .int .u8 0, .int .u8 0, .int .u8 0, .int .u8 0, .int .u8 0, .int .u8 0, .int .u8 0, .int .u8 0, .int .u8 0, .int .u8 0, .int .u8 0, .int .u8 0, .int .u8 0, .int .u8 0, .int .u8 0, .int .u8 0, .int .u8 0, .int .u8 0, .int .u8 0, .int .u8 0, .int .u8 0, .int .u8 0, .int .i64 0, .int .i64 0] 44 zeroE (fun i hi => ?_)
  have h : i < 35 := hi
  have e : #[.int .u8 0, .int .u8 0, .int .u8 0, .int .u8 0, .int .u8 0, .int .u8 0, .int .u8 0, .int .u8 0, .int .u8 0, .int .u8 0, .int .u8 0, .int .u8 0, .int .u8 0, .int .u8 0, .int .u8 0, .int .u8 0, .int .u8 0, .int .u8 0, .int .u8 0, .int .u8 0, .int .u8 0, .int .u8 0, .int .u8 0, .int .u8 0, .int .u8 0, .int .u8 0, .int .u8 0, .int .u8 0, .int .u8 0, .int .u8 0, .int .u8 0, .int .u8 0, .int .u8 0, .int .i64 0, .int .i64 0] = ((List.range 35).map zeroE).toArray := by rfl
  rw [e]
  simp [h]
theorem entA_full (off : Nat) (o : PObj) : full35 (entA off o) = true := by
  unfold full35
  rw [Bool.and_eq_true, decide_eq_true_eq]
  refine ⟨entA_size off o, ?_⟩
  rw [Array.all_eq_true_iff_forall_mem]
  intro v hv
  unfold entA at hv
  rw [Array.mem_append] at hv
  rcases hv with hv | hv
  · simp only [nmA, idA, List.mem_toArray, List.mem_map, List.mem_range] at hv
    obtain ⟨j, hj, rfl⟩ := hv
    rfl
  · simp at hv
    rcases hv with rfl | rfl | rfl <;> rfl
theorem entry_put {w wr : World} {g : Nat} {T : TypeId} {f : Nat → Value} (off : Nat) (o : PObj) (h : wr.rowIs g T 35 f) (hb : Below w.heap.size w wr) (hg : w.heap.size ≤ g) : (put35 wr g 0 (entA off o)).heap[g]? = some (.cells (entA off o) T (0, 0)) ∧ Below w.heap.size w (put35 wr g 0 (entA off o)) ∧ wr.grownBy (put35 wr g 0 (entA off o)) (some g) := by
  obtain ⟨h1, h2⟩ := put35_row h 0 (entA off o) (by omega) (entA_full off o)
  refine ⟨?_, below_grown hb h2 (by intro g' e; injection e with e; omega), h2⟩
  have hs := entA_size off o
  obtain ⟨c, hc, hn, hv⟩ := h1
  rw [hc]
  have e : c = entA off o := by
    apply Array.ext
    · rw [hn, hs]
    · intro i h3 h4
      have a := hv i (by omega)
      dsimp only at a
      rw [if_pos (by omega), Nat.sub_zero, List.getD_eq_getElem?_getD, Array.getElem?_toList, Array.getElem?_eq_getElem h4, Array.getElem?_eq_getElem h3] at a
      exact Option.some.inj a
  rw [e]
def bldE (a b c d : Value) : Sem Next := do pure (.value (← Instr.build 44 #[(0, a), (1, b), (2, c), (3, d)]))
theorem execOp_bldE (ρ : Operand → Value) (dst : Option Tmp) (a b c d : Operand) (ty : TypeId) (pos : String) (after : Array Edge) (guard : Option (Nat × Bool)) :
    execOp ρ { dst, op := .build 44 #[(0, a), (1, b), (2, c), (3, d)], type := ty, pos, after, guard } = bldE (ρ a) (ρ b) (ρ c) (ρ d) := by
  unfold execOp bldE; simp
theorem run_bldE (w : World) (vs : Array Value) (h : vs.size = 32) (x y z : Int) : (bldE (.agg vs) (.int .u8 x) (.int .i64 y) (.int .i64 z)).run Try.prog w = .ok (.value (.agg (vs ++ #[.int .u8 x, .int .i64 y, .int .i64 z]))) w := by
  obtain ⟨l⟩ := vs
  obtain ⟨a0, a1, a2, a3, a4, a5, a6, a7, a8, a9, a10, a11, a12, a13, a14, a15, a16, a17, a18, a19, a20, a21, a22, a23, a24, a25, a26, a27, a28, a29, a30, a31, e⟩ : ∃ a0 a1 a2 a3 a4 a5 a6 a7 a8 a9 a10 a11 a12 a13 a14 a15 a16 a17 a18 a19 a20 a21 a22 a23 a24 a25 a26 a27 a28 a29 a30 a31, l = [a0, a1, a2, a3, a4, a5, a6, a7, a8, a9, a10, a11, a12, a13, a14, a15, a16, a17, a18, a19, a20, a21, a22, a23, a24, a25, a26, a27, a28, a29, a30, a31] := by
    match l, h with
    | [a0, a1, a2, a3, a4, a5, a6, a7, a8, a9, a10, a11, a12, a13, a14, a15, a16, a17, a18, a19, a20, a21, a22, a23, a24, a25, a26, a27, a28, a29, a30, a31], _ => exact ⟨a0, a1, a2, a3, a4, a5, a6, a7, a8, a9, a10, a11, a12, a13, a14, a15, a16, a17, a18, a19, a20, a21, a22, a23, a24, a25, a26, a27, a28, a29, a30, a31, rfl⟩
  subst e
  unfold bldE
  go_simp
attribute [local go_sem ↓] execOp_ld35 execOp_st35 execOp_bldE
attribute [local go_sem] run_ld35 run_st35 run_bldE
set_option maxRecDepth 100000 in
theorem entry_any (off : Nat) (o : PObj) (w : World) (ho : o.2.size ≤ 2097152) (hoff : off ≤ 4611686018427387904) :
    Calls Try.prog 42 #[.int .i64 (off : Int), objA o] w fun e w' => e = .returned (.agg (entA off o)) ∧ Below w.heap.size w w' := by
  have C4 : Hid (∀ W, Calls Try.prog 26 #[.int .u8 (o.1.toNat : Int), .string o.2] W fun e w' => e = .returned (.agg (nmA o)) ∧ Below W.heap.size W w') := Lib.hid (fun W => of_any o.1 o.2 W (by omega))
  unfold objA
  go_enter Try.func42, Try.ntmps42
  go_wp2_with fail
  change Code.wp _ _ _ _ ((w.alloc (.cells #[.int .u8 (o.1.toNat : Int), .string o.2] 30)).alloc zeroEnt)
  have B1 : Hid (Blk ((w.alloc (.cells #[.int .u8 (o.1.toNat : Int), .string o.2] 30)).alloc zeroEnt) w.heap.size 30 #[.int .u8 (o.1.toNat : Int), .string o.2] ∧ ((w.alloc (.cells #[.int .u8 (o.1.toNat : Int), .string o.2] 30)).alloc zeroEnt).rowIs (w.heap.size + 1) 44 35 zeroE ∧ Below w.heap.size w ((w.alloc (.cells #[.int .u8 (o.1.toNat : Int), .string o.2] 30)).alloc zeroEnt)) := Lib.hid ⟨(Blk.new _ _ _).alloc _, by rw [size1]; exact zeroE_row _, ((Below.refl _ _).alloc (Nat.le_refl _) _).alloc (by simp) _⟩
  generalize ((w.alloc (.cells #[.int .u8 (o.1.toNat : Int), .string o.2] 30)).alloc zeroEnt) = w1 at B1 ⊢
  have SA : w1.drew.cell? ⟨w.heap.size, 0, none⟩ = some (.int .u8 (o.1.toNat : Int)) ∧ w1.drew.cell? ⟨w.heap.size, 1, none⟩ = some (.string o.2) := And.intro (B1.out.1.cell 0) (B1.out.1.cell 1)
  have hsz : (nmA o).size = 32 := nmA_size o
  refine wp_region_held_drew (S := fun w' => w'.cell? ⟨w.heap.size, 0, none⟩ = some (.int .u8 (o.1.toNat : Int)) ∧ w'.cell? ⟨w.heap.size, 1, none⟩ = some (.string o.2)) (by kernel_rfl) (by first | exact SC | exact SB | exact SA) (fun hHeld => ?_)
  refine wpAnyH_take (i := 0) (oi := _) (v := _) rfl (by as_aux_lemma => kernel_rfl) (by as_aux_lemma => kernel_rfl) (by as_aux_lemma => kernel_rfl) (fun _ _ _ h => h) (Or.inl ⟨by kernel_rfl, by (intro w hSw; (try dsimp only at hSw); go_simp; first | done | with_reducible rfl)⟩) (by assumption) ?_
  (try simp only [Act.put, List.setIfInBounds_toArray, List.set_cons_zero, List.set_cons_succ])
  refine wpAnyH_take (i := 1) (oi := _) (v := _) rfl (by as_aux_lemma => kernel_rfl) (by as_aux_lemma => kernel_rfl) (by as_aux_lemma => kernel_rfl) (fun _ _ _ h => h) (Or.inl ⟨by kernel_rfl, by (intro w hSw; (try dsimp only at hSw); go_simp; first | done | with_reducible rfl)⟩) (by assumption) ?_
  (try simp only [Act.put, List.setIfInBounds_toArray, List.set_cons_zero, List.set_cons_succ])
  refine wpAnyH_take (i := 2) (oi := _) (v := _) rfl (by as_aux_lemma => kernel_rfl) (by as_aux_lemma => kernel_rfl) (by as_aux_lemma => kernel_rfl) (fun _ _ _ h => h) (Or.inl ⟨by kernel_rfl, by (intro w hSw; (try dsimp only at hSw); go_simp; first | done | with_reducible rfl)⟩) (by assumption) ?_
  (try simp only [Act.put, List.setIfInBounds_toArray, List.set_cons_zero, List.set_cons_succ])
  refine wpAnyH_take (i := 3) (oi := _) (v := _) rfl (by as_aux_lemma => kernel_rfl) (by as_aux_lemma => kernel_rfl) (by as_aux_lemma => kernel_rfl) (fun _ _ _ h => h) (Or.inl ⟨by kernel_rfl, by (intro w hSw; (try dsimp only at hSw); go_simp; first | done | with_reducible rfl)⟩) (by assumption) ?_
  (try simp only [Act.put, List.setIfInBounds_toArray, List.set_cons_zero, List.set_cons_succ])
  refine wpAnyH_take (i := 5) (oi := _) (v := _) rfl (by as_aux_lemma => kernel_rfl) (by as_aux_lemma => kernel_rfl) (by as_aux_lemma => kernel_rfl) (fun _ _ _ h => h) (Or.inl ⟨by kernel_rfl, by (intro w hSw; (try dsimp only at hSw); go_simp; first | done | with_reducible rfl)⟩) (by assumption) ?_
  (try simp only [Act.put, List.setIfInBounds_toArray, List.set_cons_zero, List.set_cons_succ])
  refine wpAnyH_take (i := 6) (oi := _) (v := _) rfl (by as_aux_lemma => kernel_rfl) (by as_aux_lemma => kernel_rfl) (by as_aux_lemma => kernel_rfl) (fun _ _ _ h => h) (Or.inl ⟨by kernel_rfl, by (intro w hSw; (try dsimp only at hSw); go_simp; first | done | with_reducible rfl)⟩) (by assumption) ?_
  (try simp only [Act.put, List.setIfInBounds_toArray, List.set_cons_zero, List.set_cons_succ])
  refine wpAnyH_take (i := 7) (oi := _) (v := _) rfl (by as_aux_lemma => kernel_rfl) (by as_aux_lemma => kernel_rfl) (by as_aux_lemma => kernel_rfl) (fun _ _ _ h => h) (Or.inl ⟨by kernel_rfl, by (intro w hSw; (try dsimp only at hSw); go_simp; first | done | with_reducible rfl)⟩) (by assumption) ?_
  (try simp only [Act.put, List.setIfInBounds_toArray, List.set_cons_zero, List.set_cons_succ])
  refine wpAnyH_take (i := 8) (oi := _) (v := _) rfl (by as_aux_lemma => kernel_rfl) (by as_aux_lemma => kernel_rfl) (by as_aux_lemma => kernel_rfl) (fun _ _ _ h => h) (Or.inl ⟨by kernel_rfl, by (intro w hSw; (try dsimp only at hSw); go_simp; first | done | with_reducible rfl)⟩) (by assumption) ?_
  (try simp only [Act.put, List.setIfInBounds_toArray, List.set_cons_zero, List.set_cons_succ])
  refine wpAnyH_take (i := 9) (oi := _) (v := _) rfl (by as_aux_lemma => kernel_rfl) (by as_aux_lemma => kernel_rfl) (by as_aux_lemma => kernel_rfl) (fun _ _ _ h => h) (Or.inl ⟨by kernel_rfl, by (intro w hSw; (try dsimp only at hSw); go_simp; first | done | with_reducible rfl)⟩) (by assumption) ?_
  (try simp only [Act.put, List.setIfInBounds_toArray, List.set_cons_zero, List.set_cons_succ])
  refine wpAnyH_take (i := 10) (oi := _) (v := _) rfl (by as_aux_lemma => kernel_rfl) (by as_aux_lemma => kernel_rfl) (by as_aux_lemma => kernel_rfl) (fun _ _ _ h => h) (Or.inl ⟨by kernel_rfl, by (intro w hSw; (try dsimp only at hSw); go_simp; first | done | with_reducible rfl)⟩) (by assumption) ?_
  (try simp only [Act.put, List.setIfInBounds_toArray, List.set_cons_zero, List.set_cons_succ])
  refine wpAnyH_ready (rs := [4]) (by as_aux_lemma => kernel_rfl) (by simp) (AllReadyH.cons rfl (fun K hK => ?_) AllReadyH.nil)
  try simp only [List.getElem_toArray, List.getElem_cons_succ, List.getElem_cons_zero]
  go_simp
  (with_reducible refine (C4.out _).mono ?_)
  rintro e w2 ⟨rfl, hb2⟩
  have B2 : Hid (Blk w2 w.heap.size 30 #[.int .u8 (o.1.toNat : Int), .string o.2] ∧ w2.rowIs (w.heap.size + 1) 44 35 zeroE ∧ Below w.heap.size w w2) := Lib.hid ⟨B1.out.1.below (((Below.refl _ w1).drew).trans hb2) B1.out.1.lt, B1.out.2.1.of_block (hb2.block _ B1.out.2.1.lt), B1.out.2.2.trans ((((Below.refl _ w1).drew).trans hb2).mono B1.out.2.2.size)⟩
  have SB := And.intro (B2.out.1.cell 0) (B2.out.1.cell 1)
  clear hb2
  go_simp
  refine hK.out _ _ (by first | exact SC | exact SB | exact SA) (fun hHeld => ?_)
  clear hK K
  (try simp only [Act.put, List.setIfInBounds_toArray, List.set_cons_zero, List.set_cons_succ])
  refine wpAnyH_take (i := 11) (oi := { dst := some 16, op := .build 44 #[(0, .tmp 9), (1, .tmp 11), (2, .tmp 12), (3, .tmp 15)], type := 44, pos := "pack.go:91", after := #[{ on := 4, ground := .data }, { on := 6, ground := .data }, { on := 7, ground := .data }, { on := 10, ground := .data }], guard := none }) (v := _) rfl (by as_aux_lemma => kernel_rfl) (by as_aux_lemma => kernel_rfl) (by as_aux_lemma => kernel_rfl) (fun _ _ _ h => h) (Or.inl ⟨by kernel_rfl, by (intro w hSw; (try dsimp only at hSw); go_simp; first | done | with_reducible rfl)⟩) (by assumption) ?_
  (try simp only [Act.put, List.setIfInBounds_toArray, List.set_cons_zero, List.set_cons_succ])
  have o5 := ok35_of B2.out.2.1 (Nat.le_refl 35)
  have f5 := entA_full off o
  unfold entA at f5
  have HP := Lib.hid (entry_put (w := w) (g := w.heap.size + 1) off o B2.out.2.1 B2.out.2.2 (Nat.le_succ _))
  have SC : (put35 w2 (w.heap.size + 1) 0 (entA off o)).cell? ⟨w.heap.size, 0, none⟩ = some (.int .u8 (o.1.toNat : Int)) ∧ (put35 w2 (w.heap.size + 1) 0 (entA off o)).cell? ⟨w.heap.size, 1, none⟩ = some (.string o.2) := by
    have := B2.out.1.grown (entry_put (w := w) (g := w.heap.size + 1) off o B2.out.2.1 B2.out.2.2 (Nat.le_succ _)).2.2 (by simp)
    exact ⟨this.cell 0, this.cell 1⟩
  refine wpAnyH_ready (rs := [12]) (by as_aux_lemma => kernel_rfl) (by simp) (AllReadyH.cons rfl (fun K hK => ?_) AllReadyH.nil)
  try simp only [List.getElem_toArray, List.getElem_cons_succ, List.getElem_cons_zero]
  go_simp
  refine hK.out _ _ (by first | exact SC | exact SB | exact SA) (fun hHeld => ?_)
  clear hK K
  (try simp only [Act.put, List.setIfInBounds_toArray, List.set_cons_zero, List.set_cons_succ])
  refine wpAnyH_done (by as_aux_lemma => kernel_rfl) ?_ _
  go_wp2
  exact bodyPost_ret (v := .agg (entA off o)) (results_cell_row rfl _ _ (w.heap.size + 1) 44 _ (0, 0) _ rfl HP.out.1 Try.underlying44 rfl (by rw [entA_size]; kernel_rfl)) rfl ⟨rfl, HP.out.2.1⟩
end Go.Proofs.Ytpfccicahfncbaa
namespace Go.Proofs.Ytpfccicahfncbaa
open Go.RowKit Go.Maps Go.WideElems Go.MapKept
open Go.ChangeMaps (setBlock heap_setBlock_same heap_setBlock_other)
/-- Block b is a map of at most n entries; f says what stands under a key. -/
def MapInt (w : World) (P : Program) (k e : TypeId) (b n : Nat) (f : Value → Option Int) : Prop :=
  ∃ D : DataW Unit, w.ownsMap P k (plainElem P e) b n D ∧ ∀ key kl, keyOf P k key = some kl → Maps.has D kl = (f key).isSome ∧ D.atKey kl (.lit (.int .i64 0)) = .lit (.int .i64 ((f key).getD 0))
open Classical in
noncomputable def upF (f : Value → Option Int) (key : Value) (v : Int) : Value → Option Int := fun x => if x = key then some v else f x
theorem upF_same (f : Value → Option Int) (key : Value) (v : Int) : upF f key v key = some v := by unfold upF; rw [if_pos rfl]
theorem upF_other (f : Value → Option Int) {key x : Value} (v : Int) (h : x ≠ key) : upF f key v x = f x := by unfold upF; rw [if_neg h]
section
variable {w : World} {P : Program} {t k e : TypeId} {b n : Nat} {f : Value → Option Int}
theorem MapInt.made (w : World) (P : Program) (k e : TypeId) : MapInt (w.alloc (.map #[] 0)) P k e w.heap.size 0 (fun _ => none) :=
  ⟨.map [], World.ownsMap_made _ _ _ _, fun _ _ _ => ⟨rfl, rfl⟩⟩
theorem MapInt.lt (h : MapInt w P k e b n f) : b < w.heap.size := by obtain ⟨D, h, _⟩ := h; exact h.lt
theorem MapInt.mono {n' : Nat} (h : MapInt w P k e b n f) (hn : n ≤ n') : MapInt w P k e b n' f := by obtain ⟨D, h1, h2⟩ := h; exact ⟨D, h1.mono hn, h2⟩
theorem MapInt.congr {g : Value → Option Int} (h : MapInt w P k e b n f) (hg : ∀ x kl, keyOf P k x = some kl → f x = g x) : MapInt w P k e b n g := by
  obtain ⟨D, h1, h2⟩ := h
  exact ⟨D, h1, fun x kl hx => by rw [← hg x kl hx]; exact h2 x kl hx⟩
theorem MapInt.of_block {w' : World} (h : MapInt w P k e b n f) (hb : w'.heap[b]? = w.heap[b]?) : MapInt w' P k e b n f := by
  obtain ⟨D, ⟨es, clock, h1, h2⟩, h3⟩ := h
  exact ⟨D, ⟨es, clock, hb.trans h1, h2⟩, h3⟩
theorem MapInt.map_block (h : MapInt w P k e b n f) : ∃ es clock, w.heap[b]? = some (.map es clock) := by
  obtain ⟨D, ⟨es, clock, h1, _⟩, _⟩ := h; exact ⟨es, clock, h1⟩
theorem MapInt.look (h : MapInt w P k e b n f) (K : Keyed P k) (ht : P.underlying t = some (.map k e)) (he : P.underlying e = some (.int .i64)) (hz : (zeroValue e).run P w = .ok (.int .i64 0) w) {key : Value} {kl : Lit} (hkey : keyOf P k key = some kl) :
    (Instr.lookup t (.map (some b)) key false).run P w = .ok (.int .i64 ((f key).getD 0)) w := by
  obtain ⟨D, h1, h2⟩ := h
  obtain ⟨c, hr, hc, _⟩ := h1.lookup_int K ht he hz hkey
  have := (h2 key kl hkey).2
  rw [hc] at this
  injection this with this
  injection this with _ this
  rw [hr, this]
theorem MapInt.look_ok (h : MapInt w P k e b n f) (K : Keyed P k) (ht : P.underlying t = some (.map k e)) (he : P.underlying e = some (.int .i64)) (hz : (zeroValue e).run P w = .ok (.int .i64 0) w) {key : Value} {kl : Lit} (hkey : keyOf P k key = some kl) :
    (Instr.lookup t (.map (some b)) key true).run P w = .ok (.tuple #[.int .i64 ((f key).getD 0), .bool (f key).isSome]) w := by
  obtain ⟨D, h1, h2⟩ := h
  obtain ⟨v, ps, hr, hv⟩ := h1.look_ok K ht hz (plainElem_int he (by decide)) hkey
  obtain ⟨c, rfl, hc, _⟩ := plainElem_int_inv he hv
  have h3 := h2 key kl hkey
  rw [h3.1] at hr
  have := h3.2
  simp only [Prod.mk.injEq] at hc
  rw [hc.1] at this
  injection this with this
  injection this with _ this
  rw [hr, this]
theorem upF_reads {D : DataW Unit} {key : Value} {kl : Lit} {v : Int} (K : Keyed P k) (hD : Maps.IsMap D) (hkey : keyOf P k key = some kl)
    (h2 : ∀ key kl, keyOf P k key = some kl → Maps.has D kl = (f key).isSome ∧ D.atKey kl (.lit (.int .i64 0)) = .lit (.int .i64 ((f key).getD 0))) :
    ∀ x xl, keyOf P k x = some xl → Maps.has (D.put kl (.lit (.int .i64 v))) xl = (upF f key v x).isSome ∧ (D.put kl (.lit (.int .i64 v))).atKey xl (.lit (.int .i64 0)) = .lit (.int .i64 ((upF f key v x).getD 0)) := fun x xl hx => by
  by_cases e : xl = kl
  · subst e
    obtain rfl := K.inj hx hkey
    rw [upF_same]
    exact ⟨Maps.has_put_same hD (K.key hkey) _, Maps.atKey_put_same hD (K.key hkey) _ _⟩
  · have hne : x ≠ key := fun h => by subst h; rw [hx] at hkey; injection hkey with hkey; exact e hkey
    rw [upF_other f v hne, Maps.has_put_other e, Maps.atKey_put_other e]
    exact h2 x xl hx
theorem MapInt.update (h : MapInt w P k e b n f) (K : Keyed P k) (ht : P.underlying t = some (.map k e)) (he : P.underlying e = some (.int .i64)) (hn : n < maxLen) {key : Value} {kl : Lit} (hkey : keyOf P k key = some kl) {v : Int} (hv : (Lit.int .i64 v).wf = true) :
    ∃ w', (Instr.mapUpdate t (.map (some b)) key (.int .i64 v)).run P w = .ok () w' ∧ MapInt w' P k e b (n + 1) (upF f key v) ∧ w.grownBy w' (some b) := by
  obtain ⟨D, h1, h2⟩ := h
  obtain ⟨w', hr, ho, hg⟩ := h1.update K ht hn hkey (plainElem_int he hv)
  exact ⟨w', hr, ⟨_, ho, upF_reads K h1.isMap hkey h2⟩, hg⟩
theorem setBlock_self {es : Array MapEntry} {clock : Nat} (hb : w.heap[b]? = some (.map es clock)) : setBlock w b (.map es clock) = w := by
  have e : w.heap.setIfInBounds b (.map es clock) = w.heap := by
    apply Array.ext_getElem?
    intro i
    rw [Array.getElem?_setIfInBounds]
    by_cases hi : b = i
    · subst hi
      rw [if_pos rfl, hb, if_pos (Array.getElem?_eq_some_iff.1 hb).1]
    · rw [if_neg hi]
  show { w with heap := w.heap.setIfInBounds b (.map es clock) } = w
  rw [e]
theorem setBlock_grown {o : Obj} {es : Array MapEntry} {clock : Nat} (hb : w.heap[b]? = some (.map es clock)) : w.grownBy (setBlock w b o) (some b) :=
  ⟨rfl, rfl, rfl, by simp [setBlock], fun i _ hi => heap_setBlock_other hb _ (fun e => hi (by rw [e]))⟩
/-- m[key] = v by its two halves, as m[key]++ does it: what stands under key is told and an entry is there behind the first; the second writes it. -/
theorem MapInt.entry (h : MapInt w P k e b n f) (K : Keyed P k) (ht : P.underlying t = some (.map k e)) (he : P.underlying e = some (.int .i64)) (hz : ∀ u, (zeroValue e).run P u = .ok (.int .i64 0) u) (hn : n < maxLen) {key : Value} {kl : Lit} (hkey : keyOf P k key = some kl) :
    ∃ (st : Nat) (w1 : World), (Instr.mapEntry t (.map (some b)) key).run P w = .ok (.tuple #[.int .i64 ((f key).getD 0), goInt st]) w1 ∧ MapInt w1 P k e b (n + 1) (upF f key ((f key).getD 0)) ∧ w.grownBy w1 (some b) ∧
      ∀ (w2 : World) (v : Int), w2.heap[b]? = w1.heap[b]? → (Lit.int .i64 v).wf = true → ∃ w3, (Instr.entryStore t (.map (some b)) (goInt st) (.int .i64 v)).run P w2 = .ok () w3 ∧ MapInt w3 P k e b (n + 1) (upF f key v) ∧ w2.grownBy w3 (some b) := by
  have hlook := h.look K ht he (hz w) hkey
  have hupd := fun (v : Int) hv => h.update K ht he hn hkey (v := v) hv
  have hb0 := h.map_block
  obtain ⟨D, ⟨es, clock, hb, F, hs, hD⟩, hf⟩ := id h
  obtain ⟨s1, s2, _⟩ := F.stamped
  rcases K.find w hkey es.toList F.keys with ⟨h1, h2⟩ | ⟨j, e0, h1, h2, h3⟩
  · have hv0 : (f key).getD 0 = 0 := by
      have : (Instr.lookup t (.map (some b)) key false).run P w = .ok (.int .i64 0) w := by
        simp [Instr.lookup, run_underlying ht, MapKept.run_getObj_map hb, K.check w _ hkey, h1, hz, Result.andThen]
      rw [this] at hlook
      injection hlook with hlook
      injection hlook with _ hlook
      exact hlook.symm
    have hst : ∀ v : Int, (Lit.int .i64 v).wf = true → MapInt (setBlock w b (.map (es.push ⟨key, .int .i64 v, clock⟩) (clock + 1))) P k e b (n + 1) (upF f key v) := fun v hv => by
      obtain ⟨w', hr, hm, _⟩ := hupd v hv
      have : (Instr.mapUpdate t (.map (some b)) key (.int .i64 v)).run P w = .ok () (setBlock w b (.map (es.push ⟨key, .int .i64 v, clock⟩) (clock + 1))) := by
        simp [Instr.mapUpdate, run_underlying ht, MapKept.run_getObj_map hb, K.check w false hkey, h1, MapKept.run_setObj_map _ hb, Result.andThen, setBlock]
      rw [this] at hr
      injection hr with _ hr
      rw [hr]; exact hm
    refine ⟨clock, setBlock w b (.map (es.push ⟨key, .int .i64 0, clock⟩) (clock + 1)), ?_, by rw [hv0]; exact hst 0 (by decide), setBlock_grown hb, fun w2 v hw2 hv => ?_⟩
    · rw [hv0]
      simp [Instr.mapEntry, run_underlying ht, MapKept.run_getObj_map hb, K.check w false hkey, h1, hz, MapKept.run_setObj_map _ hb, Result.andThen, setBlock]
    · rw [heap_setBlock_same hb] at hw2
      refine ⟨setBlock w2 b (.map (es.push ⟨key, .int .i64 v, clock⟩) (clock + 1)), ?_, (hst v hv).of_block (by rw [heap_setBlock_same hw2, heap_setBlock_same hb]), setBlock_grown hw2⟩
      have hidx : (es.push ⟨key, .int .i64 0, clock⟩).findIdx? (fun e => ((e.born : Nat) : Int) == ((clock : Nat) : Int)) = some es.size := by
        rw [findIdx_arr]
        have := findIdx_born (l := (es.push ⟨key, .int .i64 0, clock⟩).toList) (j := es.size) (e0 := ⟨key, .int .i64 0, clock⟩) (by
          simp only [Array.toList_push, List.map_append, List.map_cons, List.map_nil]
          refine List.nodup_append.2 ⟨s2, by simp, fun a ha c hc e1 => ?_⟩
          simp only [List.mem_singleton] at hc
          obtain ⟨x, hx, rfl⟩ := List.mem_map.1 ha
          have := s1 x hx
          omega) (by simp)
        exact this
      have hmod : (es.push ⟨key, .int .i64 0, clock⟩).modify es.size (fun e => { e with val := .int .i64 v }) = es.push ⟨key, .int .i64 v, clock⟩ := by
        apply Array.ext'
        rw [Array.toList_modify, Array.toList_push, Array.toList_push, ← Array.length_toList, modify_last]
      simp [Instr.entryStore, MapKept.run_getObj_map hw2, asInt, asIntOf, goInt, hidx, hmod, MapKept.run_setObj_map _ hw2, Result.andThen, setBlock]
  · have hj : es[j]? = some e0 := by simpa using h2
    have hv0 : e0.val = .int .i64 ((f key).getD 0) := by
      have : (Instr.lookup t (.map (some b)) key false).run P w = .ok e0.val w := by
        simp [Instr.lookup, run_underlying ht, MapKept.run_getObj_map hb, K.check w _ hkey, h1, Result.andThen]
      rw [this] at hlook
      injection hlook
    have hsame : es.modify j (fun e => { e with key := key }) = es := by
      apply Array.ext'
      rw [Array.toList_modify, ChangeMaps.modify_eq_set _ _ _ _ h2]
      have : ({ e0 with key := key } : MapEntry) = e0 := by rw [← h3]
      rw [this]
      exact set_self _ _ _ h2
    have hsome : ∃ c, f key = some c := by
      have h4 := (hf key kl hkey).1
      obtain ⟨v, ps, hr, _⟩ := (show w.ownsMap P k (plainElem P e) b n D from ⟨es, clock, hb, F, hs, hD⟩).look_ok K ht (hz w) (plainElem_int he (by decide)) hkey
      have : (Instr.lookup t (.map (some b)) key true).run P w = .ok (.tuple #[e0.val, .bool true]) w := by
        simp [Instr.lookup, run_underlying ht, MapKept.run_getObj_map hb, K.check w _ hkey, h1, Result.andThen]
      rw [this] at hr
      injection hr with hr
      injection hr with hr
      simp only [Array.mk.injEq, List.cons.injEq, Value.bool.injEq, and_true] at hr
      rw [← hr.2] at h4
      exact Option.isSome_iff_exists.1 h4.symm
    refine ⟨e0.born, setBlock w b (.map es clock), ?_, ?_, setBlock_grown hb, fun w2 v hw2 hv => ?_⟩
    · rw [← hv0]
      simp [Instr.mapEntry, run_underlying ht, MapKept.run_getObj_map hb, K.check w false hkey, h1, hj, h3, K.stays w hkey, hsame, MapKept.run_setObj_map _ hb, Result.andThen, setBlock]
    · rw [setBlock_self hb]
      refine (h.mono (Nat.le_succ _)).congr fun x xl hx => ?_
      obtain ⟨c, hc⟩ := hsome
      by_cases ex : x = key
      · subst ex; rw [upF_same, hc]; rfl
      · rw [upF_other _ _ ex]
    · rw [heap_setBlock_same hb] at hw2
      obtain ⟨w', hr, hm, _⟩ := hupd v hv
      have hmu : (Instr.mapUpdate t (.map (some b)) key (.int .i64 v)).run P w = .ok () (setBlock w b (.map (es.modify j (fun e' => { e' with key := key, val := .int .i64 v })) clock)) := by
        simp [Instr.mapUpdate, run_underlying ht, MapKept.run_getObj_map hb, K.check w false hkey, h1, hj, h3, K.stays w hkey, MapKept.run_setObj_map _ hb, Result.andThen, setBlock]
      rw [hmu] at hr
      injection hr with _ hr
      have hidx : es.findIdx? (fun e => ((e.born : Nat) : Int) == ((e0.born : Nat) : Int)) = some j := by
        rw [findIdx_arr]
        exact findIdx_born s2 h2
      have hmod : es.modify j (fun e => { e with val := .int .i64 v }) = es.modify j (fun e' => { e' with key := key, val := .int .i64 v }) := by
        apply Array.ext'
        rw [Array.toList_modify, Array.toList_modify, ChangeMaps.modify_eq_set _ _ _ _ h2, ChangeMaps.modify_eq_set _ _ _ _ h2, h3]
      refine ⟨setBlock w2 b (.map (es.modify j (fun e' => { e' with key := key, val := .int .i64 v })) clock), ?_, hm.of_block (by rw [heap_setBlock_same hw2, ← hr, heap_setBlock_same hb]), setBlock_grown hw2⟩
      simp [Instr.entryStore, MapKept.run_getObj_map hw2, asInt, asIntOf, goInt, hidx, hmod, MapKept.run_setObj_map _ hw2, Result.andThen, setBlock]
end
end Go.Proofs.Ytpfccicahfncbaa
namespace Go.Proofs.Ytpfccicahfncbaa
open Go.RowKit Go.Maps
theorem laidAll : laidOutB Try.prog = true := by kernel_rfl
theorem keyed_id : Keyed Try.prog 42 := Keyed.of_law (deep_law_laid laidAll (m := 2) (by omega) (of_decide_eq_true (by kernel_rfl)) (by kernel_rfl) (by kernel_rfl))
theorem keyLits_u8 (D : Nat) (x : UInt8) : Try.prog.keyLits (D + 1) 5 [.int .u8 (x.toNat : Int)] = some [.int .u8 (x.toNat : Int)] := by
  have hu : Try.prog.underlying 5 = some (.int .u8) := Try.underlying5
  have hw : (Lit.int .u8 (x.toNat : Int)).wf = true := by
    have := x.toNat_lt
    exact WalkArith.wf_u8 ⟨by omega, by omega⟩
  unfold Program.keyLits
  simp [hu, hw]
set_option maxRecDepth 100000 in
theorem key_id (I : Nat → UInt8) : ∃ kl, keyOf Try.prog 42 (.agg (idA I)) = some kl := by
  have hu : Try.prog.underlying 42 = some (.array 32 5) := Try.underlying42
  have hk : Try.prog.keyType 42 = true := by kernel_rfl
  have hc : Try.prog.cellsOf 42 = 32 := by kernel_rfl
  have hc1 : Try.prog.cellsOf 5 = 1 := by kernel_rfl
  have hf : (Value.agg (idA I)).formed Try.prog 42 = true := by
    simp [Value.formed, hu, hc, idA_size]
  obtain ⟨m, hm⟩ : ∃ m, Try.prog.types.size = m + 1 := ⟨Try.prog.types.size - 1, by
    have : 0 < Try.prog.types.size := of_decide_eq_true (by kernel_rfl)
    omega⟩
  have hl : ∀ L : List Nat, (∀ i ∈ L, i < 32) → (L.mapM fun i => Try.prog.keyLits (m + 1) 5 (((idA I).toList.drop (i * 1)).take 1)) = some (L.map fun i => [Lit.int .u8 ((I i).toNat : Int)]) := fun L => by
    induction L with
    | nil => intro _; rfl
    | cons i L ih =>
      intro h
      have hi := h i (by simp)
      have hd : ((idA I).toList.drop (i * 1)).take 1 = [.int .u8 ((I i).toNat : Int)] := by
        have hget := idA_get I i hi
        rw [Nat.mul_one]
        have hlen : i < (idA I).toList.length := by rw [Array.length_toList, idA_size]; exact hi
        rw [List.drop_eq_getElem_cons hlen]
        rw [← Array.getElem?_toList, List.getElem?_eq_getElem hlen] at hget
        injection hget with hget
        rw [hget]; rfl
      rw [List.mapM_cons, hd, keyLits_u8, ih (fun j hj => h j (by simp [hj]))]
      rfl
  refine ⟨.string (keyBytes (List.flatten ((List.range 32).map fun i => [Lit.int .u8 ((I i).toNat : Int)]))), ?_⟩
  unfold keyOf
  rw [hu]
  simp only [hk, hf, Bool.and_self, if_true]
  rw [hm]
  conv => lhs; arg 2; unfold Program.keyLits
  rw [hu]
  simp only [Value.cells, Array.length_toList, idA_size, hc, hc1, if_true]
  rw [hl _ (fun i hi => List.mem_range.1 hi)]
  rfl
theorem id_eq_iff (I J : Nat → UInt8) : Value.agg (idA I) = .agg (idA J) ↔ idA I = idA J := ⟨fun h => by injection h, fun h => by rw [h]⟩
end Go.Proofs.Ytpfccicahfncbaa
namespace Go.Proofs.Ytpfccicahfncbaa
open Go.RowKit
set_option linter.unusedVariables false
/-- The map's block tells which names are in S (each under some number). -/
def SeenI (w : World) (b n : Nat) (S : List (Array Value)) : Prop :=
  ∃ f, MapInt w Try.prog 42 3 b n f ∧ ∀ I, (f (.agg (idA I))).isSome = true ↔ idA I ∈ S
/-- The same, each under 1. -/
def SeenC (w : World) (b n : Nat) (S : List (Array Value)) : Prop :=
  ∃ f, MapInt w Try.prog 42 3 b n f ∧ ∀ I, (idA I ∈ S → f (.agg (idA I)) = some 1) ∧ (¬ idA I ∈ S → f (.agg (idA I)) = none)
theorem run_mk (P : Program) (t : TypeId) (w : World) : (Instr.makeMap t none).run P w = .ok (.map (some w.heap.size)) (w.alloc (.map #[] 0)) := rfl
theorem SeenI.made (w : World) : SeenI (w.alloc (.map #[] 0)) w.heap.size 0 [] := ⟨_, MapInt.made _ _ _ _, fun I => ⟨fun h => by simp at h, fun h => by simp at h⟩⟩
theorem SeenC.made (w : World) : SeenC (w.alloc (.map #[] 0)) w.heap.size 0 [] := ⟨_, MapInt.made _ _ _ _, fun I => ⟨fun h => by simp at h, fun h => rfl⟩⟩
theorem SeenI.lt {w : World} {b n : Nat} {S : List (Array Value)} (h : SeenI w b n S) : b < w.heap.size := by obtain ⟨f, h, _⟩ := h; exact h.lt
theorem SeenC.lt {w : World} {b n : Nat} {S : List (Array Value)} (h : SeenC w b n S) : b < w.heap.size := by obtain ⟨f, h, _⟩ := h; exact h.lt
theorem SeenI.of_block {w w' : World} {b n : Nat} {S : List (Array Value)} (h : SeenI w b n S) (hb : w'.heap[b]? = w.heap[b]?) : SeenI w' b n S := by
  obtain ⟨f, h, h2⟩ := h; exact ⟨f, h.of_block hb, h2⟩
theorem SeenC.of_block {w w' : World} {b n : Nat} {S : List (Array Value)} (h : SeenC w b n S) (hb : w'.heap[b]? = w.heap[b]?) : SeenC w' b n S := by
  obtain ⟨f, h, h2⟩ := h; exact ⟨f, h.of_block hb, h2⟩
theorem SeenI.below {w w' : World} {b n : Nat} {S : List (Array Value)} (h : SeenI w b n S) (hb : Below w.heap.size w w') : SeenI w' b n S := h.of_block (hb.block _ h.lt)
theorem SeenC.below {w w' : World} {b n : Nat} {S : List (Array Value)} (h : SeenC w b n S) (hb : Below w.heap.size w w') : SeenC w' b n S := h.of_block (hb.block _ h.lt)
theorem zero_int (w : World) : (zeroValue 3).run Try.prog w = .ok (.int .i64 0) w := by kernel_rfl
theorem SeenI.look {w : World} {b n : Nat} {S : List (Array Value)} (h : SeenI w b n S) (I : Nat → UInt8) :
    ∃ c : Int, (Instr.lookup 85 (.map (some b)) (.agg (idA I)) true).run Try.prog w = .ok (.tuple #[.int .i64 c, .bool (@decide (idA I ∈ S) (Classical.propDecidable _))]) w := by
  obtain ⟨f, h1, h2⟩ := h
  obtain ⟨kl, hk⟩ := key_id I
  refine ⟨(f (.agg (idA I))).getD 0, ?_⟩
  rw [h1.look_ok keyed_id (by kernel_rfl) (by kernel_rfl) (zero_int w) hk]
  have e : (f (.agg (idA I))).isSome = @decide (idA I ∈ S) (Classical.propDecidable _) := by
    cases hb : (f (.agg (idA I))).isSome with
    | true => exact (@decide_eq_true _ (Classical.propDecidable _) ((h2 I).1 hb)).symm
    | false => exact (@decide_eq_false _ (Classical.propDecidable _) fun hm => by have := (h2 I).2 hm; rw [hb] at this; cases this).symm
  rw [e]
theorem SeenI.put {w : World} {b n : Nat} {S : List (Array Value)} (h : SeenI w b n S) (I : Nat → UInt8) (v : Int) (hn : n < maxLen) (hv : (Lit.int .i64 v).wf = true) :
    ∃ w', (Instr.mapUpdate 85 (.map (some b)) (.agg (idA I)) (.int .i64 v)).run Try.prog w = .ok () w' ∧ SeenI w' b (n + 1) (idA I :: S) ∧ w.grownBy w' (some b) := by
  obtain ⟨f, h1, h2⟩ := h
  obtain ⟨kl, hk⟩ := key_id I
  obtain ⟨w', hr, hm, hg⟩ := h1.update keyed_id (by kernel_rfl) (by kernel_rfl) hn hk hv
  refine ⟨w', hr, ⟨_, hm, fun J => ?_⟩, hg⟩
  rw [List.mem_cons]
  by_cases e : idA J = idA I
  · rw [e, upF_same]; simp
  · rw [upF_other _ _ (fun h => e (by injection h)), h2 J]; simp [e]
theorem SeenC.look {w : World} {b n : Nat} {S : List (Array Value)} (h : SeenC w b n S) (I : Nat → UInt8) :
    (Instr.lookup 85 (.map (some b)) (.agg (idA I)) false).run Try.prog w = .ok (.int .i64 (@ite _ (idA I ∈ S) (Classical.propDecidable _) 1 0)) w := by
  obtain ⟨f, h1, h2⟩ := h
  obtain ⟨kl, hk⟩ := key_id I
  rw [h1.look keyed_id (by kernel_rfl) (by kernel_rfl) (zero_int w) hk]
  by_cases hm : idA I ∈ S
  · rw [(h2 I).1 hm, if_pos hm]; rfl
  · rw [(h2 I).2 hm, if_neg hm]; rfl
end Go.Proofs.Ytpfccicahfncbaa
namespace Go.Proofs
open Go.Shelf
def Try.lays170_ren : Go.Shelf.Ren := ⟨fun | 170 => 32 | n => n, fun | 70 => 77 | 3 => 3 | 0 => 0 | 72 => 80 | 37 => 78 | 5 => 5 | n => n, fun | n => n⟩
theorem Try.lays170 : Go.Proofs.Lays.n170 Try.prog Try.lays170_ren := {
  mixed := by kernel_rfl
  f170 := Try.func32.trans (congrArg some (by kernel_rfl))
  t0 := Try.underlying0
  a0 := Try.isAgg0
  z0 := Try.sizeOf0
  v0 := Try.zeroValue0
  t3 := Try.underlying3
  a3 := Try.isAgg3
  z3 := Try.sizeOf3
  v3 := Try.zeroValue3
  t37 := Try.underlying78
  a37 := Try.isAgg78
  z37 := Try.sizeOf78
  v37 := Try.zeroValue78
  t70 := Try.underlying77
  a70 := Try.isAgg77
  z70 := Try.sizeOf77
  v70 := Try.zeroValue77
  t72 := Try.underlying80
  a72 := Try.isAgg80
  z72 := Try.sizeOf80
  v72 := Try.zeroValue80 }
open Go.RowKit in
theorem Try.Builder_Len (B b : Nat) (bs : List Value) (w : World) (h : Lib.IsBuilder 80 5 B b bs w) :
    Calls Try.prog 32 #[.pointer (some ⟨b, 0, none⟩)] w fun e w' => e = .returned (.int .i64 bs.length) ∧ w' = w := Any.Builder_Len Try.lays170 B b bs w h
def Try.lays169_ren : Go.Shelf.Ren := ⟨fun | 169 => 35 | n => n, fun | 70 => 77 | 9 => 9 | 0 => 0 | 72 => 80 | 37 => 78 | 127 => 123 | 3 => 3 | 5 => 5 | n => n, fun | n => n⟩
theorem Try.lays169 : Go.Proofs.Lays.n169 Try.prog Try.lays169_ren := {
  mixed := by kernel_rfl
  f169 := Try.func35.trans (congrArg some (by kernel_rfl))
  t0 := Try.underlying0
  a0 := Try.isAgg0
  z0 := Try.sizeOf0
  v0 := Try.zeroValue0
  t3 := Try.underlying3
  a3 := Try.isAgg3
  z3 := Try.sizeOf3
  v3 := Try.zeroValue3
  t9 := Try.underlying9
  a9 := Try.isAgg9
  z9 := Try.sizeOf9
  v9 := Try.zeroValue9
  t37 := Try.underlying78
  a37 := Try.isAgg78
  z37 := Try.sizeOf78
  v37 := Try.zeroValue78
  t70 := Try.underlying77
  a70 := Try.isAgg77
  z70 := Try.sizeOf77
  v70 := Try.zeroValue77
  t72 := Try.underlying80
  a72 := Try.isAgg80
  z72 := Try.sizeOf80
  v72 := Try.zeroValue80
  t127 := Try.underlying123
  a127 := Try.isAgg123
  z127 := Try.sizeOf123
  v127 := Try.zeroValue123 }
theorem Try.Builder_Extra_169 : Builder.Extra Try.prog Try.lays169_ren := {
  sizeBuilder := by kernel_rfl
  liesBuilder := by kernel_rfl
  t5 := Try.underlying5
  a5 := Try.isAgg5
  z5 := Try.sizeOf5
  v5 := Try.zeroValue5
  infoByte := by kernel_rfl
  cellsByte := by kernel_rfl
  sizeByte := by kernel_rfl
  neB5 := by decide }
open Go.RowKit in
theorem Try.Builder_String (B b : Nat) (l : List UInt8) (w : World) (h : Lib.IsBuilder 80 5 B b (Lib.byteCells l) w) (h0 : l ≠ []) :
    Calls Try.prog 35 #[.pointer (some ⟨b, 0, none⟩)] w fun e w' => e = .returned (.string ⟨l.toArray⟩) ∧ Below B w w' := Any.Builder_String Try.lays169 Try.Builder_Extra_169 B b l w h h0
open Go.RowKit in
theorem Try.Builder_String_empty (B b : Nat) (w : World) (h : Lib.IsBuilder 80 5 B b [] w) (hBw : B ≤ w.heap.size) :
    Calls Try.prog 35 #[.pointer (some ⟨b, 0, none⟩)] w fun e w' => e = .returned (.string ⟨#[]⟩) ∧ Below B w w' := Any.Builder_String_empty Try.lays169 Try.Builder_Extra_169 B b w h hBw
open Go.RowKit in
theorem Try.Builder_String_any (B b : Nat) (l : List UInt8) (w : World) (h : Lib.IsBuilder 80 5 B b (Lib.byteCells l) w) (hBw : B ≤ w.heap.size) :
    Calls Try.prog 35 #[.pointer (some ⟨b, 0, none⟩)] w fun e w' => e = .returned (.string ⟨l.toArray⟩) ∧ Below B w w' := Any.Builder_String_any Try.lays169 Try.Builder_Extra_169 B b l w h hBw
def Try.lays137_ren : Go.Shelf.Ren := ⟨fun | 137 => 103 | 217 => 107 | 266 => 114 | n => n, fun | 9 => 9 | 5 => 5 | 3 => 3 | n => n, fun | n => n⟩
theorem Try.lays137 : Go.Proofs.Lays.n137 Try.prog Try.lays137_ren := {
  mixed := by kernel_rfl
  f137 := Try.func103.trans (congrArg some (by kernel_rfl))
  f217 := Try.func107.trans (congrArg some (by kernel_rfl))
  f266 := Try.func114.trans (congrArg some (by kernel_rfl))
  t3 := Try.underlying3
  a3 := Try.isAgg3
  z3 := Try.sizeOf3
  v3 := Try.zeroValue3
  t5 := Try.underlying5
  a5 := Try.isAgg5
  z5 := Try.sizeOf5
  v5 := Try.zeroValue5
  t9 := Try.underlying9
  a9 := Try.isAgg9
  z9 := Try.sizeOf9
  v9 := Try.zeroValue9 }
open Go.RowKit in
theorem Try.strings_IndexByte (s : ByteArray) (c : Int) (w : World) :
    Calls Try.prog 103 #[.string s, .int .u8 c] w fun e w' => e = .returned (.int .i64 (Lib.indexByte s.data.toList c.toNat.toUInt8)) ∧ w' = w := Any.strings_IndexByte Try.lays137 s c w
def Try.lays210_ren : Go.Shelf.Ren := ⟨fun | 210 => 87 | 206 => 75 | n => n, fun | 9 => 9 | 4 => 4 | 3 => 3 | n => n, fun | n => n⟩
theorem Try.lays210 : Go.Proofs.Lays.n210 Try.prog Try.lays210_ren := {
  mixed := by kernel_rfl
  f206 := Try.func75.trans (congrArg some (by kernel_rfl))
  f210 := Try.func87.trans (congrArg some (by kernel_rfl))
  t3 := Try.underlying3
  a3 := Try.isAgg3
  z3 := Try.sizeOf3
  v3 := Try.zeroValue3
  t4 := Try.underlying4
  a4 := Try.isAgg4
  z4 := Try.sizeOf4
  v4 := Try.zeroValue4
  t9 := Try.underlying9
  a9 := Try.isAgg9
  z9 := Try.sizeOf9
  v9 := Try.zeroValue9 }
open Go.RowKit in
theorem Try.stringslite_CutPrefix (s p : ByteArray) (w : World) :
    Calls Try.prog 87 #[.string s, .string p] w fun e w' => e = .returned (.tuple #[.string ⟨(Lib.trimPrefix s.data.toList p.data.toList).toArray⟩, .bool (Lib.hasPrefix s.data.toList p.data.toList)]) ∧ w' = w := Any.stringslite_CutPrefix Try.lays210 s p w
def Try.lays103_ren : Go.Shelf.Ren := ⟨fun | 103 => 64 | 210 => 87 | 206 => 75 | n => n, fun | 9 => 9 | 4 => 4 | 24 => 119 | 3 => 3 | n => n, fun | n => n⟩
theorem Try.lays103 : Go.Proofs.Lays.n103 Try.prog Try.lays103_ren := {
  mixed := by kernel_rfl
  f103 := Try.func64.trans (congrArg some (by kernel_rfl))
  f206 := Try.func75.trans (congrArg some (by kernel_rfl))
  f210 := Try.func87.trans (congrArg some (by kernel_rfl))
  t3 := Try.underlying3
  a3 := Try.isAgg3
  z3 := Try.sizeOf3
  v3 := Try.zeroValue3
  t4 := Try.underlying4
  a4 := Try.isAgg4
  z4 := Try.sizeOf4
  v4 := Try.zeroValue4
  t9 := Try.underlying9
  a9 := Try.isAgg9
  z9 := Try.sizeOf9
  v9 := Try.zeroValue9
  t24 := Try.underlying119
  a24 := Try.isAgg119
  z24 := Try.sizeOf119
  v24 := Try.zeroValue119 }
open Go.RowKit in
theorem Try.strings_CutPrefix (s p : ByteArray) (w : World) :
    Calls Try.prog 64 #[.string s, .string p] w fun e w' => e = .returned (.tuple #[.string ⟨(Lib.trimPrefix s.data.toList p.data.toList).toArray⟩, .bool (Lib.hasPrefix s.data.toList p.data.toList)]) ∧ w' = w := Any.strings_CutPrefix Try.lays103 s p w
def Try.lays211_ren : Go.Shelf.Ren := ⟨fun | 211 => 88 | 207 => 101 | n => n, fun | 9 => 9 | 4 => 4 | 3 => 3 | n => n, fun | n => n⟩
theorem Try.lays211 : Go.Proofs.Lays.n211 Try.prog Try.lays211_ren := {
  mixed := by kernel_rfl
  f207 := Try.func101.trans (congrArg some (by kernel_rfl))
  f211 := Try.func88.trans (congrArg some (by kernel_rfl))
  t3 := Try.underlying3
  a3 := Try.isAgg3
  z3 := Try.sizeOf3
  v3 := Try.zeroValue3
  t4 := Try.underlying4
  a4 := Try.isAgg4
  z4 := Try.sizeOf4
  v4 := Try.zeroValue4
  t9 := Try.underlying9
  a9 := Try.isAgg9
  z9 := Try.sizeOf9
  v9 := Try.zeroValue9 }
open Go.RowKit in
theorem Try.stringslite_CutSuffix (s p : ByteArray) (w : World) (hs : s.size ≤ 9223372036854775807) :
    Calls Try.prog 88 #[.string s, .string p] w fun e w' => e = .returned (.tuple #[.string ⟨(Lib.trimSuffix s.data.toList p.data.toList).toArray⟩, .bool (Lib.hasSuffix s.data.toList p.data.toList)]) ∧ w' = w := Any.stringslite_CutSuffix Try.lays211 s p w hs
def Try.lays104_ren : Go.Shelf.Ren := ⟨fun | 104 => 65 | 211 => 88 | 207 => 101 | n => n, fun | 9 => 9 | 4 => 4 | 24 => 119 | 3 => 3 | n => n, fun | n => n⟩
theorem Try.lays104 : Go.Proofs.Lays.n104 Try.prog Try.lays104_ren := {
  mixed := by kernel_rfl
  f104 := Try.func65.trans (congrArg some (by kernel_rfl))
  f207 := Try.func101.trans (congrArg some (by kernel_rfl))
  f211 := Try.func88.trans (congrArg some (by kernel_rfl))
  t3 := Try.underlying3
  a3 := Try.isAgg3
  z3 := Try.sizeOf3
  v3 := Try.zeroValue3
  t4 := Try.underlying4
  a4 := Try.isAgg4
  z4 := Try.sizeOf4
  v4 := Try.zeroValue4
  t9 := Try.underlying9
  a9 := Try.isAgg9
  z9 := Try.sizeOf9
  v9 := Try.zeroValue9
  t24 := Try.underlying119
  a24 := Try.isAgg119
  z24 := Try.sizeOf119
  v24 := Try.zeroValue119 }
open Go.RowKit in
theorem Try.strings_CutSuffix (s p : ByteArray) (w : World) (hs : s.size ≤ 9223372036854775807) :
    Calls Try.prog 65 #[.string s, .string p] w fun e w' => e = .returned (.tuple #[.string ⟨(Lib.trimSuffix s.data.toList p.data.toList).toArray⟩, .bool (Lib.hasSuffix s.data.toList p.data.toList)]) ∧ w' = w := Any.strings_CutSuffix Try.lays104 s p w hs
open Go.RowKit in
theorem Try.Builder_Len_f (B b : Nat) (bs : List Value) (w : World) (h : Lib.IsBuilderF 80 5 B b bs w) :
    Calls Try.prog 32 #[.pointer (some ⟨b, 0, none⟩)] w fun e w' => e = .returned (.int .i64 bs.length) ∧ w' = w := Any.Builder_Len_f Try.lays170 B b bs w h
open Go.RowKit in
theorem Try.Builder_String_f (B b : Nat) (l : List UInt8) (w : World) (h : Lib.IsBuilderF 80 5 B b (Lib.byteCells l) w) (h0 : l ≠ []) :
    Calls Try.prog 35 #[.pointer (some ⟨b, 0, none⟩)] w fun e w' => e = .returned (.string ⟨l.toArray⟩) ∧ (Lib.IsBuilderF 80 5 B b (Lib.byteCells l) w' ∧ Below B w w') := Any.Builder_String_f Try.lays169 Try.Builder_Extra_169 B b l w h h0
open Go.RowKit in
theorem Try.Builder_String_empty_f (B b : Nat) (w : World) (h : Lib.IsBuilderF 80 5 B b [] w) (hBw : B ≤ w.heap.size) :
    Calls Try.prog 35 #[.pointer (some ⟨b, 0, none⟩)] w fun e w' => e = .returned (.string ⟨#[]⟩) ∧ (Lib.IsBuilderF 80 5 B b [] w' ∧ Below B w w') := Any.Builder_String_empty_f Try.lays169 Try.Builder_Extra_169 B b w h hBw
open Go.RowKit in
theorem Try.Builder_String_any_f (B b : Nat) (l : List UInt8) (w : World) (h : Lib.IsBuilderF 80 5 B b (Lib.byteCells l) w) (hBw : B ≤ w.heap.size) :
    Calls Try.prog 35 #[.pointer (some ⟨b, 0, none⟩)] w fun e w' => e = .returned (.string ⟨l.toArray⟩) ∧ (Lib.IsBuilderF 80 5 B b (Lib.byteCells l) w' ∧ Below B w w') := Any.Builder_String_any_f Try.lays169 Try.Builder_Extra_169 B b l w h hBw
open Go.RowKit in
theorem Try.Builder_String_k (B b : Nat) (l : List UInt8) (w : World) (h : Lib.IsBuilderF 80 5 B b (Lib.byteCells l) w) (h0 : l ≠ []) :
    Calls Try.prog 35 #[.pointer (some ⟨b, 0, none⟩)] w fun e w' => e = .returned (.string ⟨l.toArray⟩) ∧ (Lib.IsBuilderF 80 5 B b (Lib.byteCells l) w' ∧ Below B w w' ∧ Lib.OthersKept 5 (some b) w w') := Any.Builder_String_k Try.lays169 Try.Builder_Extra_169 B b l w h h0
open Go.RowKit in
theorem Try.Builder_String_empty_k (B b : Nat) (w : World) (h : Lib.IsBuilderF 80 5 B b [] w) (hBw : B ≤ w.heap.size) :
    Calls Try.prog 35 #[.pointer (some ⟨b, 0, none⟩)] w fun e w' => e = .returned (.string ⟨#[]⟩) ∧ (Lib.IsBuilderF 80 5 B b [] w' ∧ Below B w w' ∧ Lib.OthersKept 5 (some b) w w') := Any.Builder_String_empty_k Try.lays169 Try.Builder_Extra_169 B b w h hBw
open Go.RowKit in
theorem Try.Builder_String_any_k (B b : Nat) (l : List UInt8) (w : World) (h : Lib.IsBuilderF 80 5 B b (Lib.byteCells l) w) (hBw : B ≤ w.heap.size) :
    Calls Try.prog 35 #[.pointer (some ⟨b, 0, none⟩)] w fun e w' => e = .returned (.string ⟨l.toArray⟩) ∧ (Lib.IsBuilderF 80 5 B b (Lib.byteCells l) w' ∧ Below B w w' ∧ Lib.OthersKept 5 (some b) w w') := Any.Builder_String_any_k Try.lays169 Try.Builder_Extra_169 B b l w h hBw
def Try.lays217_ren : Go.Shelf.Ren := ⟨fun | 217 => 107 | 266 => 114 | n => n, fun | 9 => 9 | 5 => 5 | 3 => 3 | n => n, fun | n => n⟩
theorem Try.lays217 : Go.Proofs.Lays.n217 Try.prog Try.lays217_ren := {
  mixed := by kernel_rfl
  f217 := Try.func107.trans (congrArg some (by kernel_rfl))
  f266 := Try.func114.trans (congrArg some (by kernel_rfl))
  t3 := Try.underlying3
  a3 := Try.isAgg3
  z3 := Try.sizeOf3
  v3 := Try.zeroValue3
  t5 := Try.underlying5
  a5 := Try.isAgg5
  z5 := Try.sizeOf5
  v5 := Try.zeroValue5
  t9 := Try.underlying9
  a9 := Try.isAgg9
  z9 := Try.sizeOf9
  v9 := Try.zeroValue9 }
open Go.RowKit Go.Lib in
theorem Try.stringslite_IndexByte (s : ByteArray) (c : Int) (w : World) :
    Calls Try.prog 107 #[.string s, .int .u8 c] w fun e w' => e = .returned (.int .i64 (Lib.indexByte s.data.toList c.toNat.toUInt8)) ∧ w' = w := Any.stringslite_IndexByte Try.lays217 s c w
def Try.lays224_ren : Go.Shelf.Ren := ⟨fun | 224 => 109 | n => n, fun | 3 => 3 | n => n, fun | n => n⟩
theorem Try.lays224 : Go.Proofs.Lays.n224 Try.prog Try.lays224_ren := {
  mixed := by kernel_rfl
  f224 := Try.func109.trans (congrArg some (by kernel_rfl))
  t3 := Try.underlying3
  a3 := Try.isAgg3
  z3 := Try.sizeOf3
  v3 := Try.zeroValue3 }
open Go.RowKit Go.Lib in
theorem Try.bytealg_Cutover (n : Int) (h0 : 0 ≤ n) (h1 : n < 4611686018427387904) (w : World) :
    Calls Try.prog 109 #[.int .i64 n] w fun e w' => e = .returned (.int .i64 ((n + 16) / 8)) ∧ w' = w := Any.bytealg_Cutover Try.lays224 n h0 h1 w
def Try.lays314_ren : Go.Shelf.Ren := ⟨fun | 314 => 115 | n => n, fun | 9 => 9 | 51 => 50 | 3 => 3 | 4 => 4 | 5 => 5 | 46 => 127 | n => n, fun | n => n⟩
theorem Try.lays314 : Go.Proofs.Lays.n314 Try.prog Try.lays314_ren := {
  mixed := by kernel_rfl
  f314 := Try.func115.trans (congrArg some (by kernel_rfl))
  t3 := Try.underlying3
  a3 := Try.isAgg3
  z3 := Try.sizeOf3
  v3 := Try.zeroValue3
  t4 := Try.underlying4
  a4 := Try.isAgg4
  z4 := Try.sizeOf4
  v4 := Try.zeroValue4
  t5 := Try.underlying5
  a5 := Try.isAgg5
  z5 := Try.sizeOf5
  v5 := Try.zeroValue5
  t9 := Try.underlying9
  a9 := Try.isAgg9
  z9 := Try.sizeOf9
  v9 := Try.zeroValue9
  t46 := Try.underlying127
  a46 := Try.isAgg127
  z46 := Try.sizeOf127
  v46 := Try.zeroValue127
  t51 := Try.underlying50
  a51 := Try.isAgg50
  z51 := Try.sizeOf50
  v51 := Try.zeroValue50 }
open Go.RowKit Go.Lib in
theorem Try.bytealg_hashStr (sep : ByteArray) (hs : sep.size < 4294967281) (w : World) :
    Calls Try.prog 115 #[.string sep] w fun e w' => e = .returned (.tuple #[.int .u32 (RK.H sep.data.toList % 4294967296), .int .u32 (16777619 ^ sep.size % 4294967296)]) ∧ w' = w := Any.bytealg_hashStr Try.lays314 sep hs w
def Try.lays267_ren : Go.Shelf.Ren := ⟨fun | 267 => 110 | 314 => 115 | n => n, fun | 9 => 9 | 3 => 3 | 146 => 161 | 51 => 50 | 4 => 4 | 5 => 5 | 46 => 127 | n => n, fun | n => n⟩
theorem Try.lays267 : Go.Proofs.Lays.n267 Try.prog Try.lays267_ren := {
  mixed := by kernel_rfl
  f267 := Try.func110.trans (congrArg some (by kernel_rfl))
  f314 := Try.func115.trans (congrArg some (by kernel_rfl))
  t3 := Try.underlying3
  a3 := Try.isAgg3
  z3 := Try.sizeOf3
  v3 := Try.zeroValue3
  t4 := Try.underlying4
  a4 := Try.isAgg4
  z4 := Try.sizeOf4
  v4 := Try.zeroValue4
  t5 := Try.underlying5
  a5 := Try.isAgg5
  z5 := Try.sizeOf5
  v5 := Try.zeroValue5
  t9 := Try.underlying9
  a9 := Try.isAgg9
  z9 := Try.sizeOf9
  v9 := Try.zeroValue9
  t46 := Try.underlying127
  a46 := Try.isAgg127
  z46 := Try.sizeOf127
  v46 := Try.zeroValue127
  t51 := Try.underlying50
  a51 := Try.isAgg50
  z51 := Try.sizeOf50
  v51 := Try.zeroValue50
  t146 := Try.underlying161
  a146 := Try.isAgg161
  z146 := Try.sizeOf161
  v146 := Try.zeroValue161 }
open Go.RowKit Go.Lib in
theorem Try.bytealg_IndexRabinKarp (s sep : ByteArray) (h1 : 1 ≤ sep.size) (h2 : sep.size ≤ s.size) (hs : s.size < 4294967281) (w : World) :
    Calls Try.prog 110 #[.string s, .string sep] w fun e w' => e = .returned (.int .i64 (Lib.index s.data.toList sep.data.toList)) ∧ w' = w := Any.bytealg_IndexRabinKarp Try.lays267 s sep h1 h2 hs w
def Try.lays219_ren : Go.Shelf.Ren := ⟨fun | 219 => 97 | 217 => 107 | 225 => 108 | 224 => 109 | 267 => 110 | 266 => 114 | 314 => 115 | n => n, fun | 9 => 9 | 3 => 3 | 4 => 4 | 5 => 5 | 46 => 127 | 146 => 161 | 51 => 50 | n => n, fun | 1 => 0 | n => n⟩
theorem Try.lays219 : Go.Proofs.Lays.n219 Try.prog Try.lays219_ren := {
  mixed := by kernel_rfl
  f217 := Try.func107.trans (congrArg some (by kernel_rfl))
  f219 := Try.func97.trans (congrArg some (by kernel_rfl))
  f224 := Try.func109.trans (congrArg some (by kernel_rfl))
  f225 := Try.func108.trans (congrArg some (by kernel_rfl))
  f266 := Try.func114.trans (congrArg some (by kernel_rfl))
  f267 := Try.func110.trans (congrArg some (by kernel_rfl))
  f314 := Try.func115.trans (congrArg some (by kernel_rfl))
  t3 := Try.underlying3
  a3 := Try.isAgg3
  z3 := Try.sizeOf3
  v3 := Try.zeroValue3
  t4 := Try.underlying4
  a4 := Try.isAgg4
  z4 := Try.sizeOf4
  v4 := Try.zeroValue4
  t5 := Try.underlying5
  a5 := Try.isAgg5
  z5 := Try.sizeOf5
  v5 := Try.zeroValue5
  t9 := Try.underlying9
  a9 := Try.isAgg9
  z9 := Try.sizeOf9
  v9 := Try.zeroValue9
  t46 := Try.underlying127
  a46 := Try.isAgg127
  z46 := Try.sizeOf127
  v46 := Try.zeroValue127
  t51 := Try.underlying50
  a51 := Try.isAgg50
  z51 := Try.sizeOf50
  v51 := Try.zeroValue50
  t146 := Try.underlying161
  a146 := Try.isAgg161
  z146 := Try.sizeOf161
  v146 := Try.zeroValue161
  g1 := by kernel_rfl }
open Go.RowKit Go.Lib in
theorem Try.stringslite_Index_one (s : ByteArray) (c : UInt8) (w : World) :
    Calls Try.prog 97 #[.string s, .string ⟨#[c]⟩] w fun e w' => e = .returned (.int .i64 (Lib.indexByte s.data.toList c)) ∧ w' = w := Any.stringslite_Index_one Try.lays219 s c w
open Go.RowKit Go.Lib in
theorem Try.stringslite_Index (s sub : ByteArray) (m : Int) (w : World) (hs : s.size < 4294967281) (hm : w.cell? ⟨0, 0, none⟩ = some (.int .i64 m)) :
    Calls Try.prog 97 #[.string s, .string sub] w fun e w' => e = .returned (.int .i64 (Lib.index s.data.toList sub.data.toList)) ∧ w' = w := Any.stringslite_Index Try.lays219 s sub m w hs hm
def Try.lays143_ren : Go.Shelf.Ren := ⟨fun | 143 => 76 | 219 => 97 | 217 => 107 | 225 => 108 | 224 => 109 | 267 => 110 | 266 => 114 | 314 => 115 | n => n, fun | 9 => 9 | 3 => 3 | 4 => 4 | 5 => 5 | 46 => 127 | 146 => 161 | 51 => 50 | n => n, fun | 1 => 0 | n => n⟩
theorem Try.lays143 : Go.Proofs.Lays.n143 Try.prog Try.lays143_ren := {
  mixed := by kernel_rfl
  f143 := Try.func76.trans (congrArg some (by kernel_rfl))
  f217 := Try.func107.trans (congrArg some (by kernel_rfl))
  f219 := Try.func97.trans (congrArg some (by kernel_rfl))
  f224 := Try.func109.trans (congrArg some (by kernel_rfl))
  f225 := Try.func108.trans (congrArg some (by kernel_rfl))
  f266 := Try.func114.trans (congrArg some (by kernel_rfl))
  f267 := Try.func110.trans (congrArg some (by kernel_rfl))
  f314 := Try.func115.trans (congrArg some (by kernel_rfl))
  t3 := Try.underlying3
  a3 := Try.isAgg3
  z3 := Try.sizeOf3
  v3 := Try.zeroValue3
  t4 := Try.underlying4
  a4 := Try.isAgg4
  z4 := Try.sizeOf4
  v4 := Try.zeroValue4
  t5 := Try.underlying5
  a5 := Try.isAgg5
  z5 := Try.sizeOf5
  v5 := Try.zeroValue5
  t9 := Try.underlying9
  a9 := Try.isAgg9
  z9 := Try.sizeOf9
  v9 := Try.zeroValue9
  t46 := Try.underlying127
  a46 := Try.isAgg127
  z46 := Try.sizeOf127
  v46 := Try.zeroValue127
  t51 := Try.underlying50
  a51 := Try.isAgg50
  z51 := Try.sizeOf50
  v51 := Try.zeroValue50
  t146 := Try.underlying161
  a146 := Try.isAgg161
  z146 := Try.sizeOf161
  v146 := Try.zeroValue161
  g1 := by kernel_rfl }
open Go.RowKit Go.Lib in
theorem Try.strings_Index_one (s : ByteArray) (c : UInt8) (w : World) :
    Calls Try.prog 76 #[.string s, .string ⟨#[c]⟩] w fun e w' => e = .returned (.int .i64 (Lib.indexByte s.data.toList c)) ∧ w' = w := Any.strings_Index_one Try.lays143 s c w
open Go.RowKit Go.Lib in
theorem Try.strings_Index (s sub : ByteArray) (m : Int) (w : World) (hs : s.size < 4294967281) (hm : w.cell? ⟨0, 0, none⟩ = some (.int .i64 m)) :
    Calls Try.prog 76 #[.string s, .string sub] w fun e w' => e = .returned (.int .i64 (Lib.index s.data.toList sub.data.toList)) ∧ w' = w := Any.strings_Index Try.lays143 s sub m w hs hm
def Try.lays144_ren : Go.Shelf.Ren := ⟨fun | 144 => 47 | 143 => 76 | 219 => 97 | 217 => 107 | 225 => 108 | 224 => 109 | 267 => 110 | 266 => 114 | 314 => 115 | n => n, fun | 9 => 9 | 4 => 4 | 3 => 3 | 5 => 5 | 46 => 127 | 146 => 161 | 51 => 50 | n => n, fun | 1 => 0 | n => n⟩
theorem Try.lays144 : Go.Proofs.Lays.n144 Try.prog Try.lays144_ren := {
  mixed := by kernel_rfl
  f143 := Try.func76.trans (congrArg some (by kernel_rfl))
  f144 := Try.func47.trans (congrArg some (by kernel_rfl))
  f217 := Try.func107.trans (congrArg some (by kernel_rfl))
  f219 := Try.func97.trans (congrArg some (by kernel_rfl))
  f224 := Try.func109.trans (congrArg some (by kernel_rfl))
  f225 := Try.func108.trans (congrArg some (by kernel_rfl))
  f266 := Try.func114.trans (congrArg some (by kernel_rfl))
  f267 := Try.func110.trans (congrArg some (by kernel_rfl))
  f314 := Try.func115.trans (congrArg some (by kernel_rfl))
  t3 := Try.underlying3
  a3 := Try.isAgg3
  z3 := Try.sizeOf3
  v3 := Try.zeroValue3
  t4 := Try.underlying4
  a4 := Try.isAgg4
  z4 := Try.sizeOf4
  v4 := Try.zeroValue4
  t5 := Try.underlying5
  a5 := Try.isAgg5
  z5 := Try.sizeOf5
  v5 := Try.zeroValue5
  t9 := Try.underlying9
  a9 := Try.isAgg9
  z9 := Try.sizeOf9
  v9 := Try.zeroValue9
  t46 := Try.underlying127
  a46 := Try.isAgg127
  z46 := Try.sizeOf127
  v46 := Try.zeroValue127
  t51 := Try.underlying50
  a51 := Try.isAgg50
  z51 := Try.sizeOf50
  v51 := Try.zeroValue50
  t146 := Try.underlying161
  a146 := Try.isAgg161
  z146 := Try.sizeOf161
  v146 := Try.zeroValue161
  g1 := by kernel_rfl }
open Go.RowKit Go.Lib in
theorem Try.strings_Contains_one (s : ByteArray) (c : UInt8) (w : World) :
    Calls Try.prog 47 #[.string s, .string ⟨#[c]⟩] w fun e w' => e = .returned (.bool (decide (0 ≤ Lib.indexByte s.data.toList c))) ∧ w' = w := Any.strings_Contains_one Try.lays144 s c w
open Go.RowKit Go.Lib in
theorem Try.strings_Contains (s sub : ByteArray) (m : Int) (w : World) (hs : s.size < 4294967281) (hm : w.cell? ⟨0, 0, none⟩ = some (.int .i64 m)) :
    Calls Try.prog 47 #[.string s, .string sub] w fun e w' => e = .returned (.bool (Lib.contains s.data.toList sub.data.toList)) ∧ w' = w := Any.strings_Contains Try.lays144 s sub m w hs hm
def Try.laysM219_ren : Go.Shelf.Ren := ⟨fun | 219 => 97 | 217 => 107 | 225 => 108 | 224 => 109 | 267 => 110 | 266 => 114 | 314 => 115 | n => n, fun | 9 => 9 | 3 => 3 | 4 => 4 | 5 => 5 | 46 => 127 | 146 => 161 | 51 => 50 | n => n, fun | 1 => 0 | n => n⟩
theorem Try.laysM219 : Go.Proofs.LaysM.n219 Try.prog Try.laysM219_ren := {
  mixed := by kernel_rfl
  f217 := Try.func107.trans (congrArg some (by kernel_rfl))
  f219 := Try.func97.trans (congrArg some (by kernel_rfl))
  f224 := Try.func109.trans (congrArg some (by kernel_rfl))
  f225 := Try.func108.trans (congrArg some (by kernel_rfl))
  f266 := Try.func114.trans (congrArg some (by kernel_rfl))
  f267 := Try.func110.trans (congrArg some (by kernel_rfl))
  f314 := Try.func115.trans (congrArg some (by kernel_rfl))
  t3 := Try.underlying3
  a3 := Try.isAgg3
  z3 := Try.sizeOf3
  v3 := Try.zeroValue3
  t4 := Try.underlying4
  a4 := Try.isAgg4
  z4 := Try.sizeOf4
  v4 := Try.zeroValue4
  t5 := Try.underlying5
  a5 := Try.isAgg5
  z5 := Try.sizeOf5
  v5 := Try.zeroValue5
  t9 := Try.underlying9
  a9 := Try.isAgg9
  z9 := Try.sizeOf9
  v9 := Try.zeroValue9
  t46 := Try.underlying127
  a46 := Try.isAgg127
  z46 := Try.sizeOf127
  v46 := Try.zeroValue127
  t51 := Try.underlying50
  a51 := Try.isAgg50
  z51 := Try.sizeOf50
  v51 := Try.zeroValue50
  t146 := Try.underlying161
  a146 := Try.isAgg161
  z146 := Try.sizeOf161
  v146 := Try.zeroValue161
  g1 := by kernel_rfl
  i3 := by kernel_rfl
  i4 := by kernel_rfl
  i5 := by kernel_rfl
  i9 := by kernel_rfl
  i46 := by kernel_rfl
  i51 := by kernel_rfl
  i146 := by kernel_rfl
  m1 := by kernel_rfl
  s1_3 := fun w h => Go.Proofs.cell_of_shapedOpen_int (zero := #[.int .i64 0]) (t := 3) h (of_decide_eq_true (by kernel_rfl)) (by kernel_rfl) rfl (by kernel_rfl) (by kernel_rfl) Try.underlying3 }
open Go.RowKit Go.Lib in
theorem Try.stringslite_Index_shaped (s sub : ByteArray) (w : World) (h : w.ShapedOpen Try.prog) (hs : s.size < 4294967281) :
    Calls Try.prog 97 #[.string s, .string sub] w fun e w' => e = .returned (.int .i64 (Lib.index s.data.toList sub.data.toList)) ∧ w' = w := Any.stringslite_Index_shaped Try.laysM219 s sub w h hs
def Try.laysM143_ren : Go.Shelf.Ren := ⟨fun | 143 => 76 | 219 => 97 | 217 => 107 | 225 => 108 | 224 => 109 | 267 => 110 | 266 => 114 | 314 => 115 | n => n, fun | 9 => 9 | 3 => 3 | 4 => 4 | 5 => 5 | 46 => 127 | 146 => 161 | 51 => 50 | n => n, fun | 1 => 0 | n => n⟩
theorem Try.laysM143 : Go.Proofs.LaysM.n143 Try.prog Try.laysM143_ren := {
  mixed := by kernel_rfl
  f143 := Try.func76.trans (congrArg some (by kernel_rfl))
  f217 := Try.func107.trans (congrArg some (by kernel_rfl))
  f219 := Try.func97.trans (congrArg some (by kernel_rfl))
  f224 := Try.func109.trans (congrArg some (by kernel_rfl))
  f225 := Try.func108.trans (congrArg some (by kernel_rfl))
  f266 := Try.func114.trans (congrArg some (by kernel_rfl))
  f267 := Try.func110.trans (congrArg some (by kernel_rfl))
  f314 := Try.func115.trans (congrArg some (by kernel_rfl))
  t3 := Try.underlying3
  a3 := Try.isAgg3
  z3 := Try.sizeOf3
  v3 := Try.zeroValue3
  t4 := Try.underlying4
  a4 := Try.isAgg4
  z4 := Try.sizeOf4
  v4 := Try.zeroValue4
  t5 := Try.underlying5
  a5 := Try.isAgg5
  z5 := Try.sizeOf5
  v5 := Try.zeroValue5
  t9 := Try.underlying9
  a9 := Try.isAgg9
  z9 := Try.sizeOf9
  v9 := Try.zeroValue9
  t46 := Try.underlying127
  a46 := Try.isAgg127
  z46 := Try.sizeOf127
  v46 := Try.zeroValue127
  t51 := Try.underlying50
  a51 := Try.isAgg50
  z51 := Try.sizeOf50
  v51 := Try.zeroValue50
  t146 := Try.underlying161
  a146 := Try.isAgg161
  z146 := Try.sizeOf161
  v146 := Try.zeroValue161
  g1 := by kernel_rfl
  i3 := by kernel_rfl
  i4 := by kernel_rfl
  i5 := by kernel_rfl
  i9 := by kernel_rfl
  i46 := by kernel_rfl
  i51 := by kernel_rfl
  i146 := by kernel_rfl
  m1 := by kernel_rfl
  s1_3 := fun w h => Go.Proofs.cell_of_shapedOpen_int (zero := #[.int .i64 0]) (t := 3) h (of_decide_eq_true (by kernel_rfl)) (by kernel_rfl) rfl (by kernel_rfl) (by kernel_rfl) Try.underlying3 }
open Go.RowKit Go.Lib in
theorem Try.strings_Index_shaped (s sub : ByteArray) (w : World) (h : w.ShapedOpen Try.prog) (hs : s.size < 4294967281) :
    Calls Try.prog 76 #[.string s, .string sub] w fun e w' => e = .returned (.int .i64 (Lib.index s.data.toList sub.data.toList)) ∧ w' = w := Any.strings_Index_shaped Try.laysM143 s sub w h hs
def Try.laysM144_ren : Go.Shelf.Ren := ⟨fun | 144 => 47 | 143 => 76 | 219 => 97 | 217 => 107 | 225 => 108 | 224 => 109 | 267 => 110 | 266 => 114 | 314 => 115 | n => n, fun | 9 => 9 | 4 => 4 | 3 => 3 | 5 => 5 | 46 => 127 | 146 => 161 | 51 => 50 | n => n, fun | 1 => 0 | n => n⟩
theorem Try.laysM144 : Go.Proofs.LaysM.n144 Try.prog Try.laysM144_ren := {
  mixed := by kernel_rfl
  f143 := Try.func76.trans (congrArg some (by kernel_rfl))
  f144 := Try.func47.trans (congrArg some (by kernel_rfl))
  f217 := Try.func107.trans (congrArg some (by kernel_rfl))
  f219 := Try.func97.trans (congrArg some (by kernel_rfl))
  f224 := Try.func109.trans (congrArg some (by kernel_rfl))
  f225 := Try.func108.trans (congrArg some (by kernel_rfl))
  f266 := Try.func114.trans (congrArg some (by kernel_rfl))
  f267 := Try.func110.trans (congrArg some (by kernel_rfl))
  f314 := Try.func115.trans (congrArg some (by kernel_rfl))
  t3 := Try.underlying3
  a3 := Try.isAgg3
  z3 := Try.sizeOf3
  v3 := Try.zeroValue3
  t4 := Try.underlying4
  a4 := Try.isAgg4
  z4 := Try.sizeOf4
  v4 := Try.zeroValue4
  t5 := Try.underlying5
  a5 := Try.isAgg5
  z5 := Try.sizeOf5
  v5 := Try.zeroValue5
  t9 := Try.underlying9
  a9 := Try.isAgg9
  z9 := Try.sizeOf9
  v9 := Try.zeroValue9
  t46 := Try.underlying127
  a46 := Try.isAgg127
  z46 := Try.sizeOf127
  v46 := Try.zeroValue127
  t51 := Try.underlying50
  a51 := Try.isAgg50
  z51 := Try.sizeOf50
  v51 := Try.zeroValue50
  t146 := Try.underlying161
  a146 := Try.isAgg161
  z146 := Try.sizeOf161
  v146 := Try.zeroValue161
  g1 := by kernel_rfl
  i3 := by kernel_rfl
  i4 := by kernel_rfl
  i5 := by kernel_rfl
  i9 := by kernel_rfl
  i46 := by kernel_rfl
  i51 := by kernel_rfl
  i146 := by kernel_rfl
  m1 := by kernel_rfl
  s1_3 := fun w h => Go.Proofs.cell_of_shapedOpen_int (zero := #[.int .i64 0]) (t := 3) h (of_decide_eq_true (by kernel_rfl)) (by kernel_rfl) rfl (by kernel_rfl) (by kernel_rfl) Try.underlying3 }
open Go.RowKit Go.Lib in
theorem Try.strings_Contains_shaped (s sub : ByteArray) (w : World) (h : w.ShapedOpen Try.prog) (hs : s.size < 4294967281) :
    Calls Try.prog 47 #[.string s, .string sub] w fun e w' => e = .returned (.bool (Lib.contains s.data.toList sub.data.toList)) ∧ w' = w := Any.strings_Contains_shaped Try.laysM144 s sub w h hs
def Try.lays206_ren : Go.Shelf.Ren := ⟨fun | 206 => 75 | n => n, fun | 9 => 9 | 4 => 4 | 3 => 3 | n => n, fun | n => n⟩
theorem Try.lays206 : Go.Proofs.Lays.n206 Try.prog Try.lays206_ren := {
  mixed := by kernel_rfl
  f206 := Try.func75.trans (congrArg some (by kernel_rfl))
  t3 := Try.underlying3
  a3 := Try.isAgg3
  z3 := Try.sizeOf3
  v3 := Try.zeroValue3
  t4 := Try.underlying4
  a4 := Try.isAgg4
  z4 := Try.sizeOf4
  v4 := Try.zeroValue4
  t9 := Try.underlying9
  a9 := Try.isAgg9
  z9 := Try.sizeOf9
  v9 := Try.zeroValue9 }
open Go.RowKit Go.Lib in
theorem Try.stringslite_HasPrefix (s p : ByteArray) (w : World) :
    Calls Try.prog 75 #[.string s, .string p] w fun e w' => e = .returned (.bool (Lib.hasPrefix s.data.toList p.data.toList)) ∧ w' = w := Any.stringslite_HasPrefix Try.lays206 s p w
def Try.lays99_ren : Go.Shelf.Ren := ⟨fun | 99 => 39 | 206 => 75 | n => n, fun | 9 => 9 | 4 => 4 | 3 => 3 | n => n, fun | n => n⟩
theorem Try.lays99 : Go.Proofs.Lays.n99 Try.prog Try.lays99_ren := {
  mixed := by kernel_rfl
  f99 := Try.func39.trans (congrArg some (by kernel_rfl))
  f206 := Try.func75.trans (congrArg some (by kernel_rfl))
  t3 := Try.underlying3
  a3 := Try.isAgg3
  z3 := Try.sizeOf3
  v3 := Try.zeroValue3
  t4 := Try.underlying4
  a4 := Try.isAgg4
  z4 := Try.sizeOf4
  v4 := Try.zeroValue4
  t9 := Try.underlying9
  a9 := Try.isAgg9
  z9 := Try.sizeOf9
  v9 := Try.zeroValue9 }
open Go.RowKit Go.Lib in
theorem Try.strings_HasPrefix (s p : ByteArray) (w : World) :
    Calls Try.prog 39 #[.string s, .string p] w fun e w' => e = .returned (.bool (Lib.hasPrefix s.data.toList p.data.toList)) ∧ w' = w := Any.strings_HasPrefix Try.lays99 s p w
def Try.lays207_ren : Go.Shelf.Ren := ⟨fun | 207 => 101 | n => n, fun | 9 => 9 | 4 => 4 | 3 => 3 | n => n, fun | n => n⟩
theorem Try.lays207 : Go.Proofs.Lays.n207 Try.prog Try.lays207_ren := {
  mixed := by kernel_rfl
  f207 := Try.func101.trans (congrArg some (by kernel_rfl))
  t3 := Try.underlying3
  a3 := Try.isAgg3
  z3 := Try.sizeOf3
  v3 := Try.zeroValue3
  t4 := Try.underlying4
  a4 := Try.isAgg4
  z4 := Try.sizeOf4
  v4 := Try.zeroValue4
  t9 := Try.underlying9
  a9 := Try.isAgg9
  z9 := Try.sizeOf9
  v9 := Try.zeroValue9 }
open Go.RowKit Go.Lib in
theorem Try.stringslite_HasSuffix (s p : ByteArray) (w : World) (hs : s.size ≤ 9223372036854775807) :
    Calls Try.prog 101 #[.string s, .string p] w fun e w' => e = .returned (.bool (Lib.hasSuffix s.data.toList p.data.toList)) ∧ w' = w := Any.stringslite_HasSuffix Try.lays207 s p w hs
end Go.Proofs
