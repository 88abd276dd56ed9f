/- Several texts of the claim joined into one (part 1): plain facts and walks. No conditions but those that each theorem tells. -/
import Derived.Test.YthlnnclpfgokjaaRows
import Derived.WalkKit
import Derived.ProofKit
import Derived.OpenShut
import Derived.WalkLawsBesides
import Derived.WalkSpells
import Derived.Handy
import Derived.Outline
import Derived.Lib.Hide
import Derived.Laws.BitsAllLaws
import Derived.Below
import Derived.Laws.OwnMore
import Derived.Laws.Rows
import Derived.Laws.AppendOwn
import Derived.Laws.CopyOwn
import Derived.Deep.AppendLies
import Derived.Deep.Draws
import Derived.Deep.QuietTactic
import Derived.Deep.OwnRows
import Derived.Deep.LoopGhost
import Derived.Deep.DeepFit
import Derived.Deep.DeepMust
import Derived.Maps.AppendAt
import Derived.BigQuiet
import Derived.RegionTactic
import Derived.OwnWalk
import Derived.ChangeSame
import Derived.SizedLaws
import Derived.Laws.BytesArg
namespace Go.Proofs.Ythlnnclpfgokjaa
open Go.RowKit Go.WideShapes Go.ChangeShapes
theorem block_of_add (a : Addr) (n : Nat) : (a.add n).block = a.block := by unfold Addr.add; split <;> rfl
theorem add_of_add (a : Addr) (i j : Nat) : (a.add i).add j = a.add (i + j) := by
  unfold Addr.add
  by_cases hi : i = 0 <;> by_cases hj : j = 0 <;> simp [hi, hj, Nat.add_assoc]

def Reads (w : World) (B size : Nat) (A : Option Addr) (n : Nat) (xs : List Value) : Prop :=
  xs.length = n * size ∧ (0 < n → ∃ ad, A = some ad ∧ ad.block < B ∧ ∀ j u, xs[j]? = some u → w.cell? (ad.add j) = some u)

section
variable {w w' : World} {B B' size n : Nat} {A : Option Addr} {xs : List Value}
theorem Reads.none_ : Reads w B size A 0 [] := ⟨by simp, fun h => absurd h (by omega)⟩
theorem Reads.at_ {k : Nat} (h : Reads w B 1 A n xs) (hk : k < n) : ∃ ad u, A = some ad ∧ ad.block < B ∧ xs[k]? = some u ∧ w.cell? (ad.add k) = some u := by
  obtain ⟨ad, e, hb, hc⟩ := h.2 (by omega)
  have hl : k < xs.length := by have := h.1; omega
  exact ⟨ad, xs[k], e, hb, List.getElem?_eq_getElem hl, hc k _ (List.getElem?_eq_getElem hl)⟩
theorem Reads.keep (h : Reads w B size A n xs) (hk : ∀ p : Addr, p.block < B → w'.cell? p = w.cell? p) : Reads w' B size A n xs :=
  ⟨h.1, fun hn => by
    obtain ⟨ad, e, hb, hc⟩ := h.2 hn
    exact ⟨ad, e, hb, fun j u hu => (hk _ (by rw [block_of_add]; exact hb)).trans (hc j u hu)⟩⟩
theorem Reads.more (h : Reads w B size A n xs) (hB : B ≤ B') : Reads w B' size A n xs :=
  ⟨h.1, fun hn => by
    obtain ⟨ad, e, hb, hc⟩ := h.2 hn
    exact ⟨ad, e, by omega, hc⟩⟩
theorem Reads.below (h : Reads w B size A n xs) (hb : Below B w w') : Reads w' B size A n xs := h.keep fun _ hp => hb.cell hp
theorem Reads.drew (h : Reads w B size A n xs) : Reads w.drew B size A n xs := h
theorem Reads.drewN (h : Reads w B size A n xs) (k : Nat) : Reads (w.drewN k) B size A n xs := h
theorem Reads.alloc (h : Reads w B size A n xs) (hB : B ≤ w.heap.size) (o : Obj) : Reads (w.alloc o) B size A n xs := h.keep fun p hp => World.cell?_alloc_lt w o p (by omega)
theorem Reads.setCell (h : Reads w B size A n xs) {p : Addr} (hB : B ≤ p.block) (u : Value) : Reads (w.setCell p u) B size A n xs :=
  h.keep fun q hq => World.cell?_setCell_other w p q u (fun e => by subst e; omega)
theorem Reads.grown (h : Reads w B size A n xs) {row : Option Nat} (hg : w.grownBy w' row) (hB : B ≤ w.heap.size) (hr : ∀ g, row = some g → B ≤ g) : Reads w' B size A n xs :=
  h.keep fun p hp => World.cell?_of_block (hg.block p.block (by omega) (fun e => by have := hr _ e.symm; omega))
theorem Reads.cut (h : Reads w B size A n xs) {k cap : Nat} (hk : k ≤ n) (hc : n ≤ cap) :
    Reads w B size (if cap = k then A else A.map (·.add (k * size))) (n - k) (xs.drop (k * size)) := by
  refine ⟨by rw [List.length_drop, h.1, Nat.sub_mul], fun hn => ?_⟩
  obtain ⟨ad, rfl, hb, hcell⟩ := h.2 (by omega)
  rw [if_neg (by omega)]
  refine ⟨ad.add (k * size), rfl, by rw [block_of_add]; exact hb, fun j u hu => ?_⟩
  rw [add_of_add]
  exact hcell _ u (by rw [← hu, List.getElem?_drop])
theorem Reads.of_own {base : Nat} {e : TypeId} {c : Nat} (h : w.ownsRow base e size (.slice A n c) n xs) : Reads w w.heap.size size A n xs := by
  refine ⟨h.1, fun hn => ?_⟩
  obtain ⟨g, cap, hv, _, hlt⟩ := h.form hn
  have hA : A = some ⟨g, 0, none⟩ := by injection hv
  subst hA
  exact ⟨_, rfl, hlt, h.cells (g := g) rfl⟩
end
def Blk (w : World) (g : Nat) (t : TypeId) (cs : Array Value) : Prop := w.heap[g]? = some (.cells cs t (0, 0))

section
variable {w w' : World} {g : Nat} {t : TypeId} {cs : Array Value}
theorem Blk.lt (h : Blk w g t cs) : g < w.heap.size := by
  rcases Nat.lt_or_ge g w.heap.size with hlt | hge
  · exact hlt
  · unfold Blk at h; rw [Array.getElem?_eq_none hge] at h; cases h
theorem Blk.cell (h : Blk w g t cs) (i : Nat) : w.cell? ⟨g, i, none⟩ = cs[i]? := cell_of_row w g i cs t (0, 0) h
theorem Blk.frozen (h : Blk w g t cs) (i : Nat) : w.frozen? ⟨g, i, none⟩ = false := by
  unfold Blk at h
  simp [World.frozen?, h]
theorem Blk.new (w : World) (t : TypeId) (cs : Array Value) : Blk (w.alloc (.cells cs t)) w.heap.size t cs := heap_alloc_new w _
theorem Blk.drew (h : Blk w g t cs) : Blk w.drew g t cs := h
theorem Blk.drewN (h : Blk w g t cs) (n : Nat) : Blk (w.drewN n) g t cs := h
theorem Blk.alloc (h : Blk w g t cs) (o : Obj) : Blk (w.alloc o) g t cs := (Below.heap_alloc w o g h.lt).trans h
theorem Blk.set_ (h : Blk w g t cs) (i : Nat) (u : Value) : Blk (w.setCell ⟨g, i, none⟩ u) g t (cs.setIfInBounds i u) := by
  unfold Blk at h ⊢
  simp [World.setCell, Array.getElem?_modify, h]
theorem Blk.far (h : Blk w g t cs) {p : Addr} (hp : g ≠ p.block) (u : Value) : Blk (w.setCell p u) g t cs := (Below.heap_setCell w p u g hp).trans h
theorem Blk.below {B : Nat} (h : Blk w g t cs) (hb : Below B w w') (hg : g < B) : Blk w' g t cs := (hb.block g hg).trans h
theorem Blk.grown {row : Option Nat} (h : Blk w g t cs) (hb : w.grownBy w' row) (hg : some g ≠ row) : Blk w' g t cs := (hb.block g h.lt hg).trans h
theorem Blk.ne_ {g' : Nat} {t' : TypeId} {cs' : Array Value} (h : Blk w g t cs) (h' : Blk w g' t' cs') (hne : t ≠ t') : g ≠ g' := by
  rintro rfl
  unfold Blk at h h'
  rw [h] at h'
  injection h' with h'
  injection h' with _ ht
  exact hne ht
theorem own_blk_ne {base : Nat} {e : TypeId} {size n : Nat} {v : Value} {xs : List Value} (h : w.ownsRow base e size v n xs) (hg : Blk w g t cs) (hne : e ≠ t) : v.ownBlock ≠ some g := by
  rcases h.2 with ⟨rfl, _⟩ | ⟨g', cap, cur, rfl, _, hh, _⟩
  · simp [Value.ownBlock]
  · intro he
    have : g' = g := by simpa [Value.ownBlock] using he
    subst this
    exact Blk.ne_ (t := e) hh hg hne rfl
end
section
variable {P : Program} (w : World)

theorem run_append_of_nil (base : Nat) (t ty e : TypeId) (i : TypeInfo) (size : Nat) (ht : P.underlying t = some (.slice e)) (hi : P.info? e = some i)
    (v : Value) (n : Nat) (xs : List Value) (hown : w.ownsRow base e size v n xs) (c : Nat) : (Builtin.append_ #[t, t] ty #[v, .slice none 0 c]).run P w = .ok v w := by
  rcases hown.2 with ⟨rfl, rfl⟩ | ⟨g, cap, cur, rfl, _, _, hnc, _⟩
  · simp [Builtin.append_, run_underlying ht, sizeOf, typeInfo, hi, Builtin.lenOf, Builtin.firstCells]
  · simp [Builtin.append_, run_underlying ht, sizeOf, typeInfo, hi, Builtin.lenOf, Builtin.firstCells, hnc, storeCells]

theorem run_append_any (base : Nat) (t ty e : TypeId) (i : TypeInfo) (z : Value) (size bytes : Nat) (ht : P.underlying t = some (.slice e)) (hi : P.info? e = some i) (hz : i.zero = some z)
    (hsize : i.size = size) (hby : i.bytes = bytes) (hzs : z.cells.size = size) (hsz : 0 < size)
    (v : Value) (n : Nat) (xs : List Value) (hown : w.ownsRow base e size v n xs)
    (B : Nat) (A : Option Addr) (m c : Nat) (news : List Value) (hr : Reads w B size A m news) (h1 : ∀ u ∈ news, u.oneCell' = true)
    (h63 : n + m ≤ maxLen) (hbytes : (n + m) * bytes ≤ 140737488355328) (hbase : base ≤ w.heap.size) :
    ∃ v' w', (Builtin.append_ #[t, t] ty #[v, .slice A m c]).run P w = .ok v' w' ∧ w'.ownsRow base e size v' (n + m) (xs ++ news) ∧ w.grownBy w' v.ownBlock ∧
      (v'.ownBlock = v.ownBlock ∨ v'.ownBlock = some w.heap.size) := by
  rcases A with _ | ad
  · have hm : m = 0 := by
      rcases Nat.eq_zero_or_pos m with h0 | h0
      · exact h0
      · obtain ⟨ad, h, _⟩ := hr.2 h0
        cases h
    subst hm
    have hn : news = [] := List.eq_nil_of_length_eq_zero (by simpa using hr.1)
    subst hn
    exact ⟨v, w, run_append_of_nil w base t ty e i size ht hi v n xs hown c, by simpa using hown, World.grownBy.refl w _, .inl rfl⟩
  · have hcells : ∀ j u, news[j]? = some u → w.cell? (ad.add j) = some u := by
      intro j u hu
      rcases Nat.eq_zero_or_pos m with h0 | h0
      · subst h0
        have hn : news = [] := List.eq_nil_of_length_eq_zero (by simpa using hr.1)
        subst hn
        simp at hu
      · obtain ⟨ad', h, _, hc⟩ := hr.2 h0
        injection h with h
        subst h
        exact hc j u hu
    obtain ⟨v', w', hrun, h2, h3, _, h5⟩ := run_append_own_at (P := P) w base t ty e i z size bytes ht hi hz hsize hby hzs hsz v n xs hown ad m c news hr.1 hcells h1 h63 hbytes hbase
    exact ⟨v', w', hrun, h2, h3, h5⟩

theorem wp_append_any {o : Oper} {a : Act} {K : Act → World → Prop} {Q : Exit → Act → World → Prop} (s x : Operand) (t : TypeId)
    (ho : o.op = .call { callee := .builtin .append, args := #[s, x], argTypes := #[t, t] })
    (base : Nat) (e : TypeId) (i : TypeInfo) (z : Value) (size bytes : Nat) (ht : P.underlying t = some (.slice e)) (hi : P.info? e = some i) (hz : i.zero = some z)
    (hsize : i.size = size) (hby : i.bytes = bytes) (hzs : z.cells.size = size) (hsz : 0 < size)
    (v : Value) (n : Nat) (xs : List Value) (hs : a.eval s = v) (hown : w.ownsRow base e size v n xs)
    (B : Nat) (A : Option Addr) (m c : Nat) (news : List Value) (hx : a.eval x = .slice A m c) (hr : Reads w B size A m news) (h1 : ∀ u ∈ news, u.oneCell' = true)
    (h63 : n + m ≤ maxLen) (hbytes : (n + m) * bytes ≤ 140737488355328) (hbase : base ≤ w.heap.size)
    (h : ∀ v' w', w'.ownsRow base e size v' (n + m) (xs ++ news) → w.grownBy w' v.ownBlock → (v'.ownBlock = v.ownBlock ∨ v'.ownBlock = some w.heap.size) → K (a.put o.dst v') w') : o.wp P a w K Q := by
  obtain ⟨v', w', hrun, h2, h3, h4⟩ := run_append_any (P := P) w base t o.type e i z size bytes ht hi hz hsize hby hzs hsz v n xs hown B A m c news hr h1 h63 hbytes hbase
  unfold Oper.wp execOp
  simp only [ho, resolve, invoke, builtin, Sem.run_bind, Sem.run_pure, Result.andThen_ok, List.map_toArray, List.map_cons, List.map_nil, hs, hx, hrun]
  exact h v' w' h2 h3 h4

theorem wpList_append_any {ops : Array Oper} {rest : List Oper} {o : Oper} {a : Act} {Q : Exit → Act → World → Prop} (hgd : o.guard = none) (s x : Operand) (t : TypeId)
    (ho : o.op = .call { callee := .builtin .append, args := #[s, x], argTypes := #[t, t] })
    (base : Nat) (e : TypeId) (i : TypeInfo) (z : Value) (size bytes : Nat) (ht : P.underlying t = some (.slice e)) (hi : P.info? e = some i) (hz : i.zero = some z)
    (hsize : i.size = size) (hby : i.bytes = bytes) (hzs : z.cells.size = size) (hsz : 0 < size)
    (v : Value) (n : Nat) (xs : List Value) (hs : a.eval s = v) (hown : w.ownsRow base e size v n xs)
    (B : Nat) (A : Option Addr) (m c : Nat) (news : List Value) (hx : a.eval x = .slice A m c) (hr : Reads w B size A m news) (h1 : ∀ u ∈ news, u.oneCell' = true)
    (h63 : n + m ≤ maxLen) (hbytes : (n + m) * bytes ≤ 140737488355328) (hbase : base ≤ w.heap.size)
    (h : ∀ v' w', w'.ownsRow base e size v' (n + m) (xs ++ news) → w.grownBy w' v.ownBlock → (v'.ownBlock = v.ownBlock ∨ v'.ownBlock = some w.heap.size) → wpList P ops Q rest (a.put o.dst v') w') : wpList P ops Q (o :: rest) a w :=
  wpList_plain hgd fun _ hK => wp_append_any w s x t ho base e i z size bytes ht hi hz hsize hby hzs hsz v n xs hs hown B A m c news hx hr h1 h63 hbytes hbase fun v' w' h2 h3 h4 => hK _ _ (h v' w' h2 h3 h4)

theorem step_append_any {ops : Array Oper} {o : Oper} {a : Act} {K : Act → World → Prop} {Q : Exit → Act → World → Prop} {E : Prop} (hgd : o.guard = none) (s x : Operand) (t : TypeId)
    (ho : o.op = .call { callee := .builtin .append, args := #[s, x], argTypes := #[t, t] })
    (base : Nat) (e : TypeId) (i : TypeInfo) (z : Value) (size bytes : Nat) (ht : P.underlying t = some (.slice e)) (hi : P.info? e = some i) (hz : i.zero = some z)
    (hsize : i.size = size) (hby : i.bytes = bytes) (hzs : z.cells.size = size) (hsz : 0 < size)
    (v : Value) (n : Nat) (xs : List Value) (hs : a.eval s = v) (hown : w.ownsRow base e size v n xs)
    (B : Nat) (A : Option Addr) (m c : Nat) (news : List Value) (hx : a.eval x = .slice A m c) (hr : Reads w B size A m news) (h1 : ∀ u ∈ news, u.oneCell' = true)
    (h63 : n + m ≤ maxLen) (hbytes : (n + m) * bytes ≤ 140737488355328) (hbase : base ≤ w.heap.size)
    (h : ∀ v' w', w'.ownsRow base e size v' (n + m) (xs ++ news) → w.grownBy w' v.ownBlock → (v'.ownBlock = v.ownBlock ∨ v'.ownBlock = some w.heap.size) → K (a.put o.dst v') w') :
    if Region.wanted o (yielded ops a.tmps) = true then Oper.wp P o a w K Q else E := by
  have hw : Region.wanted o (yielded ops a.tmps) = true := by simp [Region.wanted, hgd]
  rw [if_pos hw]
  exact wp_append_any w s x t ho base e i z size bytes ht hi hz hsize hby hzs hsz v n xs hs hown B A m c news hx hr h1 h63 hbytes hbase h
end
theorem quiet_add {P : Program} {f : FuncId} {args : Array Value} {w : World} {a n : Nat} {v : Value}
    (h : Calls P f args (w.drewN (a + n)) fun e w' => e = .returned v ∧ ∃ m, w' = (w.drewN (a + n)).drewN m) :
    Calls P f args (w.drewN (a + n)) fun e w'' => e = .returned v ∧ ∃ m, w'' = w.drewN (a + m) :=
  h.mono fun _ _ ⟨he, m, hm⟩ => ⟨he, n + m, by rw [hm, World.drewN_drewN, Nat.add_assoc]⟩
theorem quiet_add_same {P : Program} {f : FuncId} {args : Array Value} {w : World} {a n : Nat} {v : Value}
    (h : Calls P f args (w.drewN (a + n)) fun e w' => e = .returned v ∧ w' = w.drewN (a + n)) :
    Calls P f args (w.drewN (a + n)) fun e w'' => e = .returned v ∧ ∃ m, w'' = w.drewN (a + m) :=
  h.mono fun _ _ ⟨he, hm⟩ => ⟨he, n, hm⟩
theorem quiet_add_left {P : Program} {f : FuncId} {args : Array Value} {w : World} {a n : Nat} {v : Value}
    (h : Calls P f args (w.drewN (a + n)) fun e w' => e = .returned v ∧ w.drewN (a + n) = w') :
    Calls P f args (w.drewN (a + n)) fun e w'' => e = .returned v ∧ ∃ m, w'' = w.drewN (a + m) :=
  h.mono fun _ _ ⟨he, hm⟩ => ⟨he, n, hm.symm⟩
theorem quiet_left {P : Program} {f : FuncId} {args : Array Value} {w : World} {n : Nat} {v : Value}
    (h : Calls P f args (w.drewN n) fun e w' => e = .returned v ∧ w.drewN n = w') : Calls P f args (w.drewN n) fun e w'' => e = .returned v ∧ ∃ m, w'' = w.drewN m :=
  h.mono fun _ _ ⟨he, hm⟩ => ⟨he, n, hm.symm⟩
theorem below_drewN {B : Nat} {a w : World} (h : Below B a w) (n : Nat) : Below B a (w.drewN n) := ⟨h.os, h.tape, h.output, h.size, h.block⟩
theorem rowIs_drewN {w : World} {b : Nat} {t : TypeId} {n : Nat} {f : Nat → Value} (h : w.rowIs b t n f) (k : Nat) : (w.drewN k).rowIs b t n f := h
theorem grown_trans {a b c : World} (h : Grown a b) (k : Grown b c) : Grown a c :=
  ⟨World.keptBut_trans h.1 k.1, fun x => (k.2.1 x).trans (h.2.1 x), Nat.le_trans h.2.2 k.2.2⟩

theorem only_drewN {a w : World} {row : Option Nat} (h : a.grownBy w row) (n : Nat) : a.grownBy (w.drewN n) row := ⟨h.os, h.tape, h.output, h.size, h.block⟩
theorem only_drew {a w : World} {row : Option Nat} (h : a.grownBy w row) : a.grownBy w.drew row := ⟨h.os, h.tape, h.output, h.size, h.block⟩
theorem only_alloc {a w : World} {row : Option Nat} (h : a.grownBy w row) (o : Obj) : a.grownBy (w.alloc o) row :=
  ⟨h.os, h.tape, h.output, Nat.le_trans h.size (by simp), fun i hi hne => (Below.heap_alloc w o i (Nat.lt_of_lt_of_le hi h.size)).trans (h.block i hi hne)⟩
theorem only_setCell {a w : World} {g : Nat} (h : a.grownBy w (some g)) {p : Addr} (hp : p.block = g ∨ a.heap.size ≤ p.block) (u : Value) : a.grownBy (w.setCell p u) (some g) :=
  ⟨h.os, h.tape, h.output, by simpa [World.setCell] using h.size, fun i hi hne => (Below.heap_setCell w p u i (by
    rintro rfl
    rcases hp with hp | hp
    · exact hne (by rw [hp])
    · omega)).trans (h.block i hi hne)⟩
theorem only_of_below {a w : World} (h : Below a.heap.size a w) (row : Option Nat) : a.grownBy w row := ⟨h.os, h.tape, h.output, h.size, fun i hi _ => h.block i hi⟩
section
variable {H : Type} {enc : TypeId × Value → H} {P : Program}
theorem post_of_below {f : Func} {s : ChangeSpec} {apart fresh handsOn again : Bool} {W W' : World} {args : Array Value} {v : Value} {ds gs : List (DataW H)} {before pa pv : List MemPlace}
    (hW : DataW.Whole enc P f.params.toList s.vars apart W args.toList ds gs before)
    (hres : ∀ (b : Nat) (sp : Nat → Bool) (hd : Bool), DataW.TrodAll enc P W' b sp hd f.resultTypes.toList (v.resultList f.resultTypes.size) (s.fn H (ds ++ gs)).results [])
    (hargs : ∀ sp : Nat → Bool, (∀ p ∈ before, sp p.block = true) → DataW.TrodAll enc P W' 0 sp true f.params.toList args.toList (s.fn H (ds ++ gs)).args pa)
    (hvars : ∀ sp : Nat → Bool, (∀ p ∈ before, sp p.block = true) → DataW.TrodVars enc P W' sp s.vars (s.fn H (ds ++ gs)).vars pv)
    (hps : before = pa ++ pv) (hb : Below W.heap.size W W')
    (hok : ∀ (j : Nat) (t : TypeId) (r : Value), f.resultTypes[j]? = some t → (v.resultList f.resultTypes.size)[j]? = some r → Value.okWide P W' .any 0 t r) :
    s.post enc P f apart fresh handsOn again W args v W' := by
  have hlt : ∀ p ∈ before, p.block < W.heap.size := fun p hp => hW.lt p hp
  have hold : ∀ p ∈ before, (fun b => decide (b < W.heap.size)) p.block = true := fun p hp => by simpa using hlt p hp
  refine ⟨ds, gs, before, [], pa, pv, hW, hres _ _ _, hargs _ hold, hvars _ hold, World.keptBut_mono (fun p hp => ⟨hp, ?_⟩) (hb.frame (· ∈ before)), fun _ => ?_⟩
  · rw [hps, List.mem_append] at hp
    exact Or.inr hp
  · obtain ⟨_, _, _, _, _, hz, hn⟩ := hW
    refine ⟨hok, _, _, ([] ++ pa) ++ pv, ⟨[] ++ pa, pv, trodAll_append (hargs _ (fun _ _ => rfl)) (hres _ _ _), hvars _ (fun _ _ => rfl), rfl, ?_, ?_⟩, ?_⟩
    · intro b off hp
      have hin : MemPlace.cell b off ∈ before := by rw [hps]; simpa using hp
      rw [hb.frozen (hlt _ hin)]
      exact hz b off hin
    · intro ha
      have := hn ha
      rw [hps] at this
      simpa using this
    · intro p hp _
      rw [hps]
      simpa using hp
end
end Go.Proofs.Ythlnnclpfgokjaa
namespace Go.Proofs.Ythlnnclpfgokjaa
open Go.RowKit Go.WideShapes Go.ChangeShapes Go.WideElems
section
variable {H : Type} {enc : TypeId × Value → H} {P : Program}
theorem trodAll_below (hl : laidOutB P = true) {W W' : World} (hb : Below W.heap.size W W') {sp : Nat → Bool} :
    ∀ (ts : List TypeId) (vs : List Value) (ds : List (DataW H)) (ps : List MemPlace), (∀ t ∈ ts, P.readableRec t = true ∧ t < P.types.size) → DataW.TrodAll enc P W 0 (fun _ => true) true ts vs ds ps →
    (∀ p ∈ ps, p.block < W.heap.size) → (∀ p ∈ ps, sp p.block = true) → DataW.TrodAll enc P W' 0 sp true ts vs ds ps
  | [], [], [], ps, _, h, _, _ => h
  | t :: ts, v :: vs, d :: ds, ps, hr, h, hlt, hsp => by
    obtain ⟨p, q, h1, h2, rfl⟩ := h
    refine ⟨p, q, Trod_stays hl (hr t (by simp)).1 (hr t (by simp)).2 h1 (fun x hx => hb.same (hlt x (by simp [hx]))) (fun x hx => hsp x (by simp [hx])),
      trodAll_below hl hb ts vs ds q (fun t ht => hr t (by simp [ht])) h2 (fun x hx => hlt x (by simp [hx])) (fun x hx => hsp x (by simp [hx])), rfl⟩
  | [], _ :: _, _, _, _, h, _, _ => by simp [DataW.TrodAll] at h
  | [], [], _ :: _, _, _, h, _, _ => by simp [DataW.TrodAll] at h
  | _ :: _, [], _, _, _, h, _, _ => by simp [DataW.TrodAll] at h
  | _ :: _, _ :: _, [], _, _, h, _, _ => by simp [DataW.TrodAll] at h

theorem post_law {f : Func} {s : ChangeSpec} {W W' : World} {args : Array Value} {ds gs : List (DataW H)} {before : List MemPlace} {tb : TypeId}
    (hres : f.resultTypes = #[tb]) (htb : P.underlying tb = some .bool) (hvars : s.vars = []) (hspec : s.fn H (ds ++ gs) = { results := [.lit (.bool true)], args := ds })
    (hpar : ∀ t ∈ f.params.toList, P.readableRec t = true ∧ t < P.types.size) (hlaid : laidOutB P = true)
    (hW : DataW.Whole enc P f.params.toList s.vars false W args.toList ds gs before) (hb : Below W.heap.size W W') :
    s.post enc P f false true false false W args (.bool true) W' := by
  have hlt : ∀ p ∈ before, p.block < W.heap.size := fun p hp => hW.lt p hp
  have hW' := hW
  obtain ⟨p, q, hA, hV, rfl, _, _⟩ := hW
  rw [hvars] at hV
  obtain ⟨hg, hq⟩ := trodVars_none hV
  subst hq
  refine post_of_below (pa := p) (pv := []) hW' (fun _ _ _ => ?_) (fun sp hsp => ?_) (fun _ _ => ?_) rfl hb ?_
  · rw [hspec, hres]; exact trodAll_mk1 (shut_bool htb true)
  · rw [hspec]; exact trodAll_below hlaid hb _ _ _ _ hpar hA (fun x hx => hlt x (by simp [hx])) (fun x hx => hsp x (by simp [hx]))
  · rw [hspec, hvars]; exact rfl
  · exact ok_one hres rfl (okWide_bool_mk htb true)
end
end Go.Proofs.Ythlnnclpfgokjaa
namespace Go.Proofs.Ythlnnclpfgokjaa
open Go.RowKit

/-- Strings as values. -/
def strV (ss : List ByteArray) : List Value := ss.map Value.string
theorem strV_length (ss : List ByteArray) : (strV ss).length = ss.length := by simp [strV]
theorem strV_get (ss : List ByteArray) (j : Nat) (hj : j < ss.length) : (strV ss)[j]? = some (.string ss[j]) := by simp [strV, hj]
/-- The string at a place. -/
def sAt (ss : List ByteArray) (k : Nat) : ByteArray := ss.getD k ByteArray.empty
theorem sAt_mem {ss : List ByteArray} {k : Nat} (h : k < ss.length) : sAt ss k ∈ ss := by
  unfold sAt; rw [List.getD_eq_getElem?_getD, List.getElem?_eq_getElem h]; exact List.getElem_mem h
theorem sAt_get {ss : List ByteArray} {k : Nat} (h : k < ss.length) : sAt ss k = ss[k] := by
  unfold sAt; rw [List.getD_eq_getElem?_getD, List.getElem?_eq_getElem h]; rfl
theorem Reads.len {w : World} {B n : Nat} {A : Option Addr} {ss : List ByteArray} (h : Reads w B 1 A n (strV ss)) : ss.length = n := by
  have := h.1; rw [strV_length] at this; omega
theorem Reads.str {w : World} {B n : Nat} {A : Option Addr} {ss : List ByteArray} (h : Reads w B 1 A n (strV ss)) {k : Nat} (hk : k < n) :
    ∃ ad, A = some ad ∧ ad.block < B ∧ ∀ j, j < n → w.cell? (ad.add j) = some (.string (sAt ss j)) := by
  obtain ⟨ad, e, hb, hc⟩ := h.2 (by omega)
  exact ⟨ad, e, hb, fun j hj => by
    have hj' : j < ss.length := by rw [h.len]; exact hj
    rw [sAt_get hj']; exact hc j _ (strV_get ss j hj')⟩

def rowsOk (c : Nat) (ss : List ByteArray) : Bool := ss.all fun s => s.size == c
def col (ss : List ByteArray) : Nat := (sAt ss 0).size
def okM (ss : List ByteArray) : Bool := decide (1 ≤ ss.length) && decide (ss.length ≤ 64) && decide (1 ≤ col ss) && decide (col ss ≤ 64) && rowsOk (col ss) ss
theorem okM_iff (ss : List ByteArray) : okM ss = true ↔ 1 ≤ ss.length ∧ ss.length ≤ 64 ∧ 1 ≤ (sAt ss 0).size ∧ (sAt ss 0).size ≤ 64 ∧ ∀ k, k < ss.length → (sAt ss k).size = (sAt ss 0).size := by
  unfold okM col rowsOk
  simp only [Bool.and_eq_true, decide_eq_true_eq, List.all_eq_true, beq_iff_eq]
  constructor
  · rintro ⟨⟨⟨⟨a, b⟩, c⟩, d⟩, e⟩
    exact ⟨a, b, c, d, fun k hk => e _ (sAt_mem hk)⟩
  · rintro ⟨a, b, c, d, e⟩
    refine ⟨⟨⟨⟨a, b⟩, c⟩, d⟩, fun s hs => ?_⟩
    obtain ⟨j, hj, rfl⟩ := List.getElem_of_mem hs
    rw [← sAt_get hj]
    exact e j hj
def chkV (ss : List ByteArray) : Value := if okM ss = true then .tuple #[.int .i64 (ss.length : Int), .int .i64 (col ss : Int), .int .i64 0] else .tuple #[.int .i64 0, .int .i64 0, .int .i64 1]

theorem check_any (A : Option Addr) (n c : Nat) (ss : List ByteArray) (w : World) (B : Nat) (h : Reads w B 1 A n (strV ss)) (hn : n ≤ 9223372036854775807) (hz : ∀ s ∈ ss, s.size ≤ 9223372036854775807) :
    Calls Try.prog 30 #[.slice A n c] w fun e w' => e = .returned (chkV ss) ∧ ∃ m, w' = w.drewN m := by
  have hl : ss.length = n := by have := h.1; rw [strV_length] at this; omega
  by_cases h1 : n < 1 ∨ 64 < n
  · have X : Hid (chkV ss = .tuple #[.int .i64 0, .int .i64 0, .int .i64 1]) := Lib.hid (by
      unfold chkV; rw [if_neg]; unfold okM; simp; omega)
    clear h hl
    rcases h1 with h1 | h1
    · go_enter Try.func30, Try.ntmps30
      go_wp2
      go_ret3
      exact ⟨by rw [X.out]; rfl, 0, rfl⟩
    · go_enter Try.func30, Try.ntmps30
      go_wp2
      go_ret3
      exact ⟨by rw [X.out]; rfl, 0, rfl⟩
  · have h2 : 1 ≤ n := by omega
    have h3 : n ≤ 64 := by omega
    clear h1
    obtain ⟨ad, rfl, hb, hc⟩ := h.str (k := 0) (by omega)
    have hc0 : w.cell? ad = some (.string (sAt ss 0)) := by have := hc 0 (by omega); simpa [Addr.add] using this
    have hz0 : (sAt ss 0).size ≤ 9223372036854775807 := hz _ (sAt_mem (by omega))
    have HC := Lib.hid hc
    have HL := Lib.hid hl
    have HZ := Lib.hid hz
    clear hc hl hz h
    go_enter Try.func30, Try.ntmps30
    go_wp2
    go_loop [6, 17] (fun r i => ∃ k : Nat, k ≤ n ∧ i = .int .i64 k ∧ Hid (∀ j, j < k → (sAt ss j).size = (sAt ss 0).size ∧ 1 ≤ (sAt ss j).size ∧ (sAt ss j).size ≤ 64)) (fun _ i => n - (intOf i).toNat)
    case atStart => exact ⟨0, by omega, rfl, Lib.hid (fun j h => by omega)⟩
    case round =>
      obtain ⟨k, hk, rfl, H⟩ := hrel
      by_cases hlt : k < n
      · have hck := HC.out k hlt
        have hzk : (sAt ss k).size ≤ 9223372036854775807 := HZ.out _ (sAt_mem (by rw [HL.out]; omega))
        by_cases e : (sAt ss k).size = (sAt ss 0).size ∧ 1 ≤ (sAt ss k).size ∧ (sAt ss k).size ≤ 64
        · have e1 : (sAt ss k).size ≤ (sAt ss 0).size := by omega
          have e2 : (sAt ss 0).size ≤ (sAt ss k).size := by omega
          have e3 := e.2.1
          have e4 := e.2.2
          have E := Lib.hid e
          clear e
          go_wp2
          go_round
          case rel => exact ⟨k + 1, by omega, by go_num, Lib.hid (fun j hj => by
            by_cases hjk : j < k
            · exact H.out j hjk
            · obtain rfl : j = k := by omega
              exact E.out)⟩
          case measure => simp [intOf]; omega
        · have X : Hid (chkV ss = .tuple #[.int .i64 0, .int .i64 0, .int .i64 1]) := Lib.hid (by
            unfold chkV; rw [if_neg]; intro ho
            have ho := (okM_iff ss).1 ho
            have := ho.2.2.2.2 k (by rw [HL.out]; omega)
            exact e (by omega))
          by_cases e1 : (sAt ss k).size = (sAt ss 0).size
          · have e2 : (sAt ss k).size ≤ (sAt ss 0).size := by omega
            have e3 : (sAt ss 0).size ≤ (sAt ss k).size := by omega
            have e4 : (sAt ss k).size < 1 ∨ 64 < (sAt ss k).size := by omega
            clear e e1
            rcases e4 with e4 | e4
            · go_wp2
              go_ret3
              exact ⟨by rw [X.out]; rfl, 0, rfl⟩
            · go_wp2
              go_ret3
              exact ⟨by rw [X.out]; rfl, 0, rfl⟩
          · clear e
            go_wp2
            go_ret3
            exact ⟨by rw [X.out]; rfl, 0, rfl⟩
      · obtain rfl : k = n := by omega
        have X : Hid (chkV ss = .tuple #[.int .i64 (k : Int), .int .i64 ((sAt ss 0).size : Int), .int .i64 0]) := Lib.hid (by
          unfold chkV
          have ho : okM ss = true := (okM_iff ss).2 (by
            rw [HL.out]
            have h0 := H.out 0 (by omega)
            exact ⟨by omega, by omega, h0.2.1, h0.2.2, fun j hj => (H.out j hj).1⟩)
          rw [if_pos ho, HL.out]; rfl)
        go_wp2
        go_quiet (fail)
        go_wp2
        go_ret3
        exact ⟨by rw [X.out]; rfl, _, rfl⟩

theorem rcheck_any (A : Option Addr) (n c : Nat) (ss : List ByteArray) (w : World) (B : Nat) (h : Reads w B 1 A n (strV ss)) (hn : n ≤ 9223372036854775807) (hz : ∀ s ∈ ss, s.size ≤ 9223372036854775807) :
    Calls Try.prog 32 #[.slice A n c] w fun e w' => e = .returned (chkV ss) ∧ w = w' := by
  have hl : ss.length = n := by have := h.1; rw [strV_length] at this; omega
  by_cases h1 : n < 1 ∨ 64 < n
  · have X : Hid (chkV ss = .tuple #[.int .i64 0, .int .i64 0, .int .i64 1]) := Lib.hid (by
      unfold chkV; rw [if_neg]; unfold okM; simp; omega)
    clear h hl
    rcases h1 with h1 | h1
    · go_enter Try.func32, Try.ntmps32
      go_wp2
      go_ret3
      exact ⟨by rw [X.out]; rfl, rfl⟩
    · go_enter Try.func32, Try.ntmps32
      go_wp2
      go_ret3
      exact ⟨by rw [X.out]; rfl, rfl⟩
  · have h2 : 1 ≤ n := by omega
    have h3 : n ≤ 64 := by omega
    clear h1
    obtain ⟨ad, rfl, hb, hc⟩ := h.str (k := 0) (by omega)
    have hc0 : w.cell? ad = some (.string (sAt ss 0)) := by have := hc 0 (by omega); simpa [Addr.add] using this
    have hz0 : (sAt ss 0).size ≤ 9223372036854775807 := hz _ (sAt_mem (by omega))
    have HC := Lib.hid hc
    have HL := Lib.hid hl
    have HZ := Lib.hid hz
    clear hc hl hz h
    go_enter Try.func32, Try.ntmps32
    go_wp2
    go_loop [6] (fun i => ∃ k : Nat, k ≤ n ∧ i = .int .i64 k ∧ Hid (∀ j, j < k → (sAt ss j).size = (sAt ss 0).size)) (fun i => n - (intOf i).toNat)
    case atStart => exact ⟨0, by omega, rfl, Lib.hid (fun j h => by omega)⟩
    case round =>
      obtain ⟨k, hk, rfl, H⟩ := hrel
      by_cases hlt : k < n
      · have hck := HC.out k hlt
        have hzk : (sAt ss k).size ≤ 9223372036854775807 := HZ.out _ (sAt_mem (by rw [HL.out]; omega))
        by_cases e : (sAt ss k).size = (sAt ss 0).size
        · have e1 : (sAt ss k).size ≤ (sAt ss 0).size := by omega
          have e2 : (sAt ss 0).size ≤ (sAt ss k).size := by omega
          have E := Lib.hid e
          clear e
          go_wp2
          go_round
          case rel => exact ⟨k + 1, by omega, by go_num, Lib.hid (fun j hj => by
            by_cases hjk : j < k
            · exact H.out j hjk
            · obtain rfl : j = k := by omega
              exact E.out)⟩
          case measure => simp [intOf]; omega
        · have X : Hid (chkV ss = .tuple #[.int .i64 0, .int .i64 0, .int .i64 1]) := Lib.hid (by
            unfold chkV; rw [if_neg]; intro ho
            have ho := (okM_iff ss).1 ho
            exact e (ho.2.2.2.2 k (by rw [HL.out]; omega)))
          go_wp2
          go_ret3
          exact ⟨by rw [X.out]; rfl, rfl⟩
      · obtain rfl : k = n := by omega
        by_cases e : 1 ≤ (sAt ss 0).size ∧ (sAt ss 0).size ≤ 64
        · have e1 := e.1
          have e2 := e.2
          clear e
          have X : Hid (chkV ss = .tuple #[.int .i64 (k : Int), .int .i64 ((sAt ss 0).size : Int), .int .i64 0]) := Lib.hid (by
            unfold chkV
            have ho : okM ss = true := (okM_iff ss).2 (by
              rw [HL.out]
              exact ⟨by omega, by omega, e1, e2, fun j hj => H.out j hj⟩)
            rw [if_pos ho, HL.out]; rfl)
          go_wp2
          go_ret3
          exact ⟨by rw [X.out]; rfl, rfl⟩
        · have X : Hid (chkV ss = .tuple #[.int .i64 0, .int .i64 0, .int .i64 1]) := Lib.hid (by
            unfold chkV; rw [if_neg]; intro ho
            have ho := (okM_iff ss).1 ho
            exact e ⟨ho.2.2.1, ho.2.2.2.1⟩)
          have e' : (sAt ss 0).size < 1 ∨ 64 < (sAt ss 0).size := by omega
          clear e
          rcases e' with e' | e'
          · go_wp2
            go_ret3
            exact ⟨by rw [X.out]; rfl, rfl⟩
          · go_wp2
            go_ret3
            exact ⟨by rw [X.out]; rfl, rfl⟩

theorem beq_str (a b : ByteArray) : (a.toList == b.toList) = decide (a = b) := by
  by_cases h : a = b
  · subst h; simp
  · rw [decide_eq_false h, beq_eq_false_iff_ne, ByteArray.toList_eq, ByteArray.toList_eq]
    intro e; exact h (Go.WideShapes.bytes_inj e)

theorem strs_ext {ss tt : List ByteArray} (hl : ss.length = tt.length) (h : ∀ j, j < ss.length → sAt ss j = sAt tt j) : ss = tt := by
  refine List.ext_getElem hl fun j h1 h2 => ?_
  rw [← sAt_get h1, ← sAt_get h2]; exact h j h1

theorem same_any (A A' : Option Addr) (n c n' c' : Nat) (ss tt : List ByteArray) (w : World) (B B' : Nat) (h : Reads w B 1 A n (strV ss)) (h' : Reads w B' 1 A' n' (strV tt))
    (hn : n ≤ 9223372036854775807) (hn' : n' ≤ 9223372036854775807) :
    Calls Try.prog 38 #[.slice A n c, .slice A' n' c'] w fun e w' => e = .returned (.bool (decide (ss = tt))) ∧ ∃ m, w' = w.drewN m := by
  have hl := h.len
  have hl' := h'.len
  by_cases e : n = n'
  · subst e
    have HL := Lib.hid hl
    have HL' := Lib.hid hl'
    have H1 := Lib.hid h
    have H2 := Lib.hid h'
    clear hl hl' h h'
    go_enter Try.func38, Try.ntmps38
    go_wp2
    go_loopw [5] (fun i wr => ∃ k : Nat, k ≤ n ∧ i = .int .i64 k ∧ Hid (∀ j, j < k → sAt ss j = sAt tt j) ∧ ∃ m, wr = w.drewN m) (fun i _ => n - (intOf i).toNat)
    case atStart => exact ⟨0, by omega, rfl, Lib.hid (fun j h => by omega), 0, rfl⟩
    case round =>
      obtain ⟨k, hk, rfl, H, m, rfl⟩ := hrel
      by_cases hlt : k < n
      · obtain ⟨ad, rfl, hb, hc⟩ := H1.out.str hlt
        obtain ⟨ad', rfl, hb', hc'⟩ := H2.out.str hlt
        have hck := hc k hlt
        have hck' := hc' k hlt
        clear hc hc'
        by_cases e : sAt ss k = sAt tt k
        · have t : ((sAt ss k).toList == (sAt tt k).toList) = true := by rw [beq_str]; simpa using e
          have E := Lib.hid e
          clear e
          go_wp2
          go_quiet (fail)
          go_wp2
          go_roundw
          case rel => exact ⟨k + 1, by omega, by go_num, Lib.hid (fun j hj => by
            by_cases hjk : j < k
            · exact H.out j hjk
            · obtain rfl : j = k := by omega
              exact E.out), _, rfl⟩
          case measure => simp [intOf]; omega
        · have t : ((sAt ss k).toList == (sAt tt k).toList) = false := by rw [beq_str]; simpa using e
          have X : Hid (decide (ss = tt) = false) := Lib.hid (by rw [decide_eq_false_iff_not]; intro h; subst h; exact e rfl)
          clear e
          go_wp2
          go_quiet (fail)
          go_wp2
          go_ret
          exact ⟨by rw [X.out]; rfl, _, World.drewN_drewN _ _ _⟩
      · obtain rfl : k = n := by omega
        have X : Hid (decide (ss = tt) = true) := Lib.hid (by
          rw [decide_eq_true_eq]
          exact strs_ext (by rw [HL.out, HL'.out]) (fun j hj => H.out j (by rw [← HL.out]; exact hj)))
        go_wp2
        go_ret
        exact ⟨by rw [X.out]; rfl, _, rfl⟩
  · have X : Hid (decide (ss = tt) = false) := Lib.hid (by rw [decide_eq_false_iff_not]; intro h; subst h; omega)
    clear hl hl' h h'
    go_enter Try.func38, Try.ntmps38
    go_wp2
    go_ret
    exact ⟨by rw [X.out]; rfl, 0, rfl⟩
end Go.Proofs.Ythlnnclpfgokjaa
namespace Go.Proofs.Ythlnnclpfgokjaa
open Go.RowKit Go.WideShapes Go.ChangeShapes
theorem u8_of_wf {n : Int} (h : (Lit.int .u8 n).wf = true) : ∃ a : UInt8, n = (a.toNat : Int) := by
  have h := bounds_u8 h
  refine ⟨UInt8.ofNat n.toNat, ?_⟩
  rw [UInt8.toNat_ofNat']
  omega
theorem str_reach {s : ByteArray} (h : s.data.toList.length ≤ reachBytes) : s.size ≤ 140737488351232 := by
  have h2 : s.data.size ≤ reachBytes := by rw [← Array.length_toList]; exact h
  have h3 : s.size = s.data.size := rfl
  unfold reachBytes at h2
  omega
section
variable {H : Type} {enc : TypeId × Value → H} {P : Program} {W : World}
/-- A list of texts. -/
theorem open_strs {t e : TypeId} {base0 base : Nat} {r : Reach} {v : Value} {d : DataW H} {ps : List MemPlace} {ts : List TypeId} {ds : List (DataW H)} {held : Bool}
    (ht : P.underlying t = some (.slice e)) (he : P.underlying e = some .string) (hc : P.cellsOf e = 1) (hb : P.bytesOf e = 16)
    (hval : Value.okWide P W r base0 t v) (hd : DataW.Trod enc P W base (fun _ => true) held t v d ps)
    (hsz : (DataW.weightsEach P ts ds).all (· ≤ reachBytes) = true) (j : Nat) (hts : ts[j]? = some t) (hds : ds[j]? = some d) (mem : ∀ x ∈ ps, x.block < W.heap.size) :
    ∃ (A : Option Addr) (n c : Nat) (ss : List ByteArray), v = .slice A n c ∧ Reads W W.heap.size 1 A n (strV ss) ∧ n * 16 ≤ 140737488351232 ∧ ∀ s ∈ ss, s.size ≤ 9223372036854775807 := by
  obtain ⟨a0, len, cap, rfl⟩ := okWide_slice ht hval
  obtain ⟨fuel, hf⟩ := hd
  rcases open_strings ht he hc hf with ⟨hcs, hx⟩ | ⟨a, len', cap', ss, hcs, _, hl, hm, hz, hx, hcell, hws⟩
  · simp [Value.cells] at hcs
    obtain ⟨rfl, rfl, rfl⟩ := hcs
    exact ⟨none, 0, 0, [], rfl, Reads.none_, by omega, by simp⟩
  · simp [Value.cells] at hcs
    obtain ⟨rfl, rfl, rfl⟩ := hcs
    simp only [Prod.mk.injEq] at hx
    obtain ⟨rfl, rfl⟩ := hx
    simp only [if_true] at hz
    have hw := sized_slice hsz hts hds ht
    rw [hb] at hw
    simp only [strs, List.length_map, List.length_take, List.length_drop, reachBytes] at hw
    refine ⟨some a, len, cap, ss.take len, rfl, ⟨by simp [strV]; omega, fun hn => ⟨a, rfl, mem _ (MemPlace.mem_row.2 ⟨0, by omega, rfl⟩), fun k u hu => ?_⟩⟩, by omega, fun s hs => hws s (List.mem_of_mem_take hs)⟩
    have hk : k < len := by
      rcases Nat.lt_or_ge k len with h | h
      · exact h
      · rw [List.getElem?_eq_none (by simp [strV]; omega)] at hu; cases hu
    rw [hcell k (by omega)]
    simp only [strV, List.getElem?_map] at hu
    rw [List.getElem?_take, if_pos hk, List.getElem?_eq_getElem (by omega)] at hu
    simp at hu
    rw [← hu, List.getD_eq_getElem?_getD, List.getElem?_eq_getElem (by omega)]; rfl
end
end Go.Proofs.Ythlnnclpfgokjaa
namespace Go.Proofs.Ythlnnclpfgokjaa
open Go.RowKit
/-- What the table says of a slice type and its element type (one cell). -/
structure Elem1 (P : Program) (t e : TypeId) (z : Value) (bytes : Nat) : Prop where
  ht : P.underlying t = some (.slice e)
  info : ∃ i, P.info? e = some i ∧ i.zero = some z ∧ i.size = 1 ∧ i.bytes = bytes
  hz : z.cells.size = 1
theorem Elem1.of {P : Program} {t e : TypeId} {z : Value} {bytes : Nat} (ht : P.underlying t = some (.slice e))
    (hi : (P.info? e).map (fun i => (i.zero, i.size, i.bytes)) = some (some z, 1, bytes)) (hz : z.cells.size = 1) : Elem1 P t e z bytes := by
  obtain ⟨i, h1, h2, h3, h4⟩ := info_parts hi
  exact ⟨ht, ⟨i, h1, h2, h3, h4⟩, hz⟩

def bs (l : List UInt8) : ByteArray := ⟨l.toArray⟩
theorem bs_size (l : List UInt8) : (bs l).size = l.length := by simp [bs, ByteArray.size]
theorem bs_data (l : List UInt8) : (bs l).data.toList = l := by simp [bs]
theorem bs_inj {a b : List UInt8} (h : bs a = bs b) : a = b := by rw [← bs_data a, h, bs_data]
theorem bs_of (s : ByteArray) : bs s.data.toList = s := by unfold bs; rfl

section
variable {P : Program} {w : World}
theorem append1_wp {t e : TypeId} {z : Value} {bytes : Nat} (E : Elem1 P t e z bytes) {ops : Array Oper} {rest : List Oper} {o : Oper} {a : Act} {Q : Exit → Act → World → Prop} (hgd : o.guard = none) (s x : Operand)
    (ho : o.op = .call { callee := .builtin .append, args := #[s, x], argTypes := #[t, t] })
    (base : Nat) (v : Value) (n : Nat) (xs : List Value) (hs : a.eval s = v) (hown : w.ownsRow base e 1 v n xs) (g : Nat) (u : Value) (hx : a.eval x = .slice (some ⟨g, 0, none⟩) 1 1)
    (hu : w.cell? ⟨g, 0, none⟩ = some u) (h1 : u.oneCell' = true) (hn : n ≤ 4611686018427387904) (hbytes : (n + 1) * bytes ≤ 140737488355328) (hbase : base ≤ w.heap.size)
    (h : ∀ v' w', w'.ownsRow base e 1 v' (n + 1) (xs ++ [u]) → w.grownBy w' v.ownBlock → wpList P ops Q rest (a.put o.dst v') w') : wpList P ops Q (o :: rest) a w := by
  obtain ⟨i, hi, hz0, hz1, hz2⟩ := E.info
  refine wpList_append_own w hgd s x t ho base e i z 1 bytes E.ht hi hz0 hz1 hz2 E.hz (by decide) v n xs hs hown ⟨g, 0, none⟩ 1 1 [u] hx rfl ?_ ?_ (by unfold maxLen; omega) hbytes hbase (fun v' w' h2 h3 _ => h v' w' h2 h3)
  · intro j u' hj
    match j, hj with
    | 0, hj => simp at hj; subst hj; simpa [Addr.add] using hu
  · intro u' hu'
    simp at hu'
    subst hu'
    exact h1

theorem make0_wp {t e : TypeId} {z : Value} {bytes : Nat} (E : Elem1 P t e z bytes) {ops : Array Oper} {rest : List Oper} {o : Oper} {a : Act} {Q : Exit → Act → World → Prop}
    (hg : o.guard = none) (l c : Operand) (hop : o.op = Op.makeSlice t l c) (base : Nat) (kl kc : IntKind) (C : Int) (n : Nat) (hl : a.eval l = .int kl 0) (hc : a.eval c = .int kc C) (hC : C = (n : Int))
    (b2 : bytes * n ≤ 281474976710656) (b3 : n ≤ 4611686018427387904) (b4 : base ≤ w.heap.size)
    (hK : ∀ v' w', w'.ownsRow base e 1 v' 0 [] → w.grownBy w' none → wpList P ops Q rest (a.put o.dst v') w') :
    wpList P ops Q (o :: rest) a w := by
  obtain ⟨i, hi, hz0, hz1, hz2⟩ := E.info
  exact wpList_make_own w hg l c t hop base e i z 1 E.ht hi hz0 hz1 kl kc C n hl hc hC (by rw [hz2]; exact b2) (by unfold maxLen; omega) b4 (fun w' h1 h2 => hK _ w' h1 h2)

theorem run_str (src e dst : TypeId) (hs : P.underlying src = some (.slice e)) (he : P.underlying e = some (.int .u8)) (hd : P.underlying dst = some .string) (ad : Addr) (len cap : Nat) (l : List UInt8) (hl : l.length = len)
    (hc : ∀ j, j < len → w.cell? (ad.add j) = some (.int .u8 ((l.getD j 0).toNat : Int))) :
    (convert src dst (.slice (some ad) len cap)).run P w = .ok (.string (bs l)) w := by
  have hl' : (loadCells ad len).run P w = .ok ((l.map fun b => ((b.toNat : Nat) : Int)).map (Value.int .u8)).toArray w := by
    have := run_loadCells_list (P := P) w ad ((l.map fun b => ((b.toNat : Nat) : Int)).map (Value.int .u8)) (fun j v hj => by
      have hjl : j < l.length := by
        rcases Nat.lt_or_ge j l.length with h | h
        · exact h
        · simp [h] at hj
      rw [hc j (by omega)]
      simp [hjl] at hj
      subst hj
      simp [List.getD, hjl])
    simpa [hl] using this
  rw [run_convert_bytes_string w src dst e _ len cap hs he hd, run_bytesToString w _ len cap _ hl', foldl_push_bytes]
  congr 2
  have : ((l.map fun b => ((b.toNat : Nat) : Int)).map fun n => UInt8.ofNat n.toNat) = l := by
    rw [List.map_map]
    conv => rhs; rw [← List.map_id l]
    apply List.map_congr_left
    intro b _
    simp
  rw [this]
  simp [bs, ByteArray.empty, ByteArray.emptyWithCapacity]
  rfl

/-- make([]T, n, n), elements of any number of cells: an equation for every world. -/
theorem run_make_rowN (t e : TypeId) (i : TypeInfo) (z : Value) (ht : P.underlying t = some (.slice e)) (hi : P.info? e = some i) (hz : i.zero = some z)
    (kl kc : IntKind) (n c : Nat) (hnc : n ≤ c) (hbytes : i.bytes * c ≤ 281474976710656) (h63 : c ≤ 9223372036854775807) (w : World) :
    (Instr.makeSlice t (.int kl (n : Int)) (.int kc (c : Int))).run P w = .ok (.slice (some ⟨w.heap.size, 0, none⟩) n c) (w.alloc (.cells (madeCells z.cells (c * i.size)) e)) := by
  have hb : (i.bytes : Int) * (c : Int) ≤ 281474976710656 := by
    have h : ((i.bytes * c : Nat) : Int) ≤ 281474976710656 := by omega
    rwa [Int.natCast_mul] at h
  have hr := run_make (P := P) w t e i z ht hi hz kl kc n c (by omega) (by omega) hb (by omega)
  simp only [Int.toNat_natCast] at hr
  exact hr
theorem rowIs_madeN (w : World) (z : Array Value) (x : Value) (n : Nat) (t : TypeId) (hz : 0 < z.size) (hx : ∀ j, j < z.size → z[j]? = some x) :
    (w.alloc (.cells (madeCells z n) t)).rowIs w.heap.size t n (fun _ => x) := by
  have := World.rowIs_alloc w (madeCells z n) t (fun _ => x) (fun i hi => by
    have hm : i % z.size < z.size := Nat.mod_lt _ hz
    rw [size_madeCells] at hi
    have := hx _ hm
    rw [Array.getElem?_eq_getElem hm] at this
    injection this with this
    simp [madeCells, hi, hm, this])
  rw [size_madeCells] at this
  exact this
end

section
variable {P : Program} (w : World)
/-- a[l:h] of an array behind a pointer, one cell an element. -/
theorem run_cut_array {t e : TypeId} {n : Nat} {i : TypeInfo} (ht : P.underlying t = some (.array n e)) (hi : P.info? e = some i) (hs : i.size = 1) (a : Addr) (kl kh : IntKind) (L H : Int) (l h : Nat) (hL : L = (l : Int)) (hH : H = (h : Int))
    (h1 : l ≤ h) (h2 : h ≤ n) (h3 : l < n) :
    (Instr.sliceAt t (.pointer (some a)) (some (.int kl L)) (some (.int kh H)) none).run P w = .ok (.slice (some (a.add l)) (h - l) (n - l)) w := by
  subst hL hH
  have hne : ¬ n = l := by omega
  simp [Instr.sliceAt, Instr.sureAddr, run_underlying ht, Instr.sliceBounds, run_sliceBound, sizeOf, typeInfo, hi, hs, hne, h1, h2]
theorem run_all_array {t e : TypeId} {n : Nat} {i : TypeInfo} (ht : P.underlying t = some (.array n e)) (hi : P.info? e = some i) (a : Addr) :
    (Instr.sliceAt t (.pointer (some a)) none none none).run P w = .ok (.slice (some a) n n) w := by
  simp [Instr.sliceAt, Instr.sureAddr, run_underlying ht, Instr.sliceBounds, sizeOf, typeInfo, hi, Addr.add]
end

/-- Below a world's size, what is 'grownBy' one of the blocks that are new since is as it was. -/
theorem below_grown {w a b : World} {row : Option Nat} (h : Below w.heap.size w a) (hg : a.grownBy b row) (hr : ∀ g, row = some g → w.heap.size ≤ g) : Below w.heap.size w b :=
  ⟨hg.os.trans h.os, hg.tape.trans h.tape, hg.output.trans h.output, Nat.le_trans h.size hg.size, fun k hk => (hg.block k (Nat.lt_of_lt_of_le hk h.size) (fun e => by have := hr _ e.symm; omega)).trans (h.block k hk)⟩
theorem grown_both {a b c : World} {row : Option Nat} (h : a.grownBy b row) (k : b.grownBy c row) : a.grownBy c row :=
  ⟨k.os.trans h.os, k.tape.trans h.tape, k.output.trans h.output, Nat.le_trans h.size k.size, fun i hi hne => (k.block i (Nat.lt_of_lt_of_le hi h.size) hne).trans (h.block i hi hne)⟩
/-- Writes to another row, that is new since a. -/
theorem grown_new {a b c : World} {row row' : Option Nat} (h : a.grownBy b row) (k : b.grownBy c row') (hr : row' = row ∨ ∀ g, row' = some g → a.heap.size ≤ g) : a.grownBy c row :=
  ⟨k.os.trans h.os, k.tape.trans h.tape, k.output.trans h.output, Nat.le_trans h.size k.size, fun i hi hne => (k.block i (Nat.lt_of_lt_of_le hi h.size) (by
    rcases hr with rfl | hr
    · exact hne
    · intro e; have := hr i e.symm; omega)).trans (h.block i hi hne)⟩
theorem alloc_le {w : World} {b : Nat} (h : b ≤ w.heap.size) (o : Obj) : b ≤ (w.alloc o).heap.size := by simp; omega
theorem zeros_row (w : World) {T : TypeId} {c : Array Value} {n : Nat} {z : Value} (hc : c = Array.replicate n z) : (w.alloc (.cells c T)).rowIs w.heap.size T n (fun _ => z) := by
  subst hc
  have := World.rowIs_alloc w (Array.replicate n z) T (fun _ => z) (fun i hi => by
    rw [Array.size_replicate] at hi
    rw [Array.getElem?_replicate, if_pos hi])
  rw [Array.size_replicate] at this
  exact this
theorem own_types {w : World} {base base' : Nat} {e e' : TypeId} {size size' n n' : Nat} {v v' : Value} {xs xs' : List Value} (h : w.ownsRow base e size v n xs) (h' : w.ownsRow base' e' size' v' n' xs') (hne : e ≠ e') : v.ownBlock = none ∨ v.ownBlock ≠ v'.ownBlock := by
  rcases h.2 with ⟨rfl, _⟩ | ⟨g, cap, cur, rfl, _, hh, _⟩
  · exact .inl rfl
  · rcases h'.2 with ⟨rfl, _⟩ | ⟨g', cap', cur', rfl, _, hh', _⟩
    · right; simp [Value.ownBlock]
    · right
      intro e
      have : g = g' := by simpa [Value.ownBlock] using e
      subst this
      rw [hh] at hh'
      injection hh' with hh'
      injection hh' with _ ht
      exact hne ht
theorem own_keep {w w' : World} {base base' : Nat} {e e' : TypeId} {size size' n n' : Nat} {v v' : Value} {xs xs' : List Value} (h : w.ownsRow base e size v n xs) (h' : w.ownsRow base' e' size' v' n' xs') (hne : e ≠ e') (hg : w.grownBy w' v'.ownBlock) : w'.ownsRow base e size v n xs :=
  h.kept hg (own_types h h' hne)
theorem own_keep' {w : World} {base g N : Nat} {e t : TypeId} {n : Nat} {v : Value} {xs : List Value} {f : Nat → Value} (h : w.ownsRow base e 1 v n xs) (hr : w.rowIs g t N f) (hne : e ≠ t) {i : Nat} (u : Value) : (w.setCell ⟨g, i, none⟩ u).ownsRow base e 1 v n xs := by
  refine ⟨h.1, ?_⟩
  rcases h.2 with h2 | ⟨g', cap, cur, a, b, d, k⟩
  · exact .inl h2
  · refine .inr ⟨g', cap, cur, a, b, (Below.heap_setCell w _ _ g' (fun e2 => ?_)).trans d, k⟩
    obtain ⟨c, hb, _⟩ := hr
    have e3 : g' = g := e2
    rw [e3, hb] at d
    injection d with d
    injection d with _ ht
    exact hne ht.symm
theorem row_keep {w w' : World} {b : Nat} {t : TypeId} {N : Nat} {f : Nat → Value} {base' : Nat} {e' : TypeId} {size' n' : Nat} {v' : Value} {xs' : List Value} (h : w.rowIs b t N f) (h' : w.ownsRow base' e' size' v' n' xs') (hne : t ≠ e') (hg : w.grownBy w' v'.ownBlock) : w'.rowIs b t N f := by
  refine h.of_block (hg.block b h.lt fun e => ?_)
  rcases h'.2 with ⟨rfl, _⟩ | ⟨g', cap', cur', rfl, _, hh', _⟩
  · cases e
  · have : b = g' := by simpa [Value.ownBlock] using e
    subst this
    obtain ⟨c, hb, _⟩ := h
    rw [hb] at hh'
    injection hh' with hh'
    injection hh' with _ ht
    exact hne ht
theorem own_below {w w' : World} {base : Nat} {e : TypeId} {size n : Nat} {v : Value} {xs : List Value} (h : w.ownsRow base e size v n xs) (hb : Below w.heap.size w w') : w'.ownsRow base e size v n xs := by
  refine ⟨h.1, ?_⟩
  rcases h.2 with h2 | ⟨g, cap, cur, a, b, c, d⟩
  · exact .inl h2
  · exact .inr ⟨g, cap, cur, a, b, (hb.block g (Array.getElem?_eq_some_iff.1 c).1).trans c, d⟩
theorem own_moved {w w' : World} {base : Nat} {e : TypeId} {size n : Nat} {v : Value} {xs : List Value} {row : Option Nat} (h : w.ownsRow base e size v n xs) (hg : w.grownBy w' row) (hr : ∀ g, row = some g → g < base) : w'.ownsRow base e size v n xs := by
  refine ⟨h.1, ?_⟩
  rcases h.2 with h2 | ⟨g, cap, cur, a, b, c, d⟩
  · exact .inl h2
  · exact .inr ⟨g, cap, cur, a, b, (hg.block g (Array.getElem?_eq_some_iff.1 c).1 (fun e => by have := hr g e.symm; omega)).trans c, d⟩
theorem own_base {w : World} {base base' : Nat} {e : TypeId} {size n : Nat} {v : Value} {xs : List Value} (h : w.ownsRow base e size v n xs) (hb : base' ≤ base) : w.ownsRow base' e size v n xs := by
  refine ⟨h.1, ?_⟩
  rcases h.2 with h2 | ⟨g, cap, cur, a, b, c⟩
  · exact .inl h2
  · exact .inr ⟨g, cap, cur, a, Nat.le_trans hb b, c⟩
theorem own_reads {w : World} {base : Nat} {e : TypeId} {size n : Nat} {v : Value} {xs : List Value} (h : w.ownsRow base e size v n xs) : ∃ A c, v = .slice A n c ∧ Reads w w.heap.size size A n xs := by
  have hf : ∃ A c, v = .slice A n c := by
    rcases h.2 with ⟨rfl, rfl⟩ | ⟨g, cap, cur, rfl, _⟩
    · exact ⟨_, _, rfl⟩
    · exact ⟨_, _, rfl⟩
  obtain ⟨A, c, rfl⟩ := hf
  exact ⟨A, c, rfl, Reads.of_own h⟩
theorem own_ge {w : World} {base : Nat} {e : TypeId} {size n : Nat} {v : Value} {xs : List Value} (h : w.ownsRow base e size v n xs) : ∀ g, v.ownBlock = some g → base ≤ g := by
  intro g hg
  rcases h.2 with ⟨rfl, _⟩ | ⟨g', cap, cur, rfl, hb, _⟩
  · cases hg
  · have : g' = g := by simpa [Value.ownBlock] using hg
    omega

theorem below_own {w W w' : World} {e : TypeId} {size n : Nat} {v : Value} {xs : List Value} (h : Below w.heap.size w W) (hown : W.ownsRow w.heap.size e size v n xs) (hg : W.grownBy w' v.ownBlock) : Below w.heap.size w w' :=
  below_grown h hg (own_ge hown)
section
variable {P : Program} {w : World}
/-- append(out, x) of one element that has just been laid in a block of its own. -/
theorem append1_new {t e : TypeId} {z : Value} {bytes : Nat} (E : Elem1 P t e z bytes) {ops : Array Oper} {rest : List Oper} {o : Oper} {a : Act} {Q : Exit → Act → World → Prop} (hgd : o.guard = none) (s x : Operand)
    (ho : o.op = .call { callee := .builtin .append, args := #[s, x], argTypes := #[t, t] })
    (base : Nat) (v : Value) (n : Nat) (xs : List Value) (hs : a.eval s = v) (hown : w.ownsRow base e 1 v n xs) (u : Value) (hx : a.eval x = .slice (some ⟨w.heap.size, 0, none⟩) 1 1)
    (h1 : u.oneCell' = true) (hn : n ≤ 4611686018427387904) (hbytes : (n + 1) * bytes ≤ 140737488355328) (hbase : base ≤ w.heap.size)
    (h : ∀ v' w', w'.ownsRow base e 1 v' (n + 1) (xs ++ [u]) → w.grownBy w' v.ownBlock → wpList P ops Q rest (a.put o.dst v') w') : wpList P ops Q (o :: rest) a (w.alloc (.cells #[u] e)) := by
  refine append1_wp E hgd s x ho base v n xs hs (hown.alloc _) w.heap.size u hx ?_ h1 hn hbytes (by simp; omega) (fun v' w' h2 h3 => h v' w' h2 ?_)
  · have := (World.rowIs_alloc w #[u] e (fun _ => u) (fun i hi => by
      have : i = 0 := by simpa using hi
      subst this; rfl)).cell (i := 0) (by simp)
    exact this
  · exact ⟨h3.os, h3.tape, h3.output, Nat.le_trans (by simp) h3.size, fun k hk hne => (h3.block k (by simp; omega) hne).trans (Below.heap_alloc w _ k hk)⟩

/-- The same, the new block's number spelt otherwise. -/
theorem append1_at {t e : TypeId} {z : Value} {bytes : Nat} (E : Elem1 P t e z bytes) {ops : Array Oper} {rest : List Oper} {o : Oper} {a : Act} {Q : Exit → Act → World → Prop} (hgd : o.guard = none) (s x : Operand)
    (ho : o.op = .call { callee := .builtin .append, args := #[s, x], argTypes := #[t, t] })
    (base : Nat) (v : Value) (n : Nat) (xs : List Value) (hs : a.eval s = v) (hown : w.ownsRow base e 1 v n xs) (u : Value) (N : Nat) (hx : a.eval x = .slice (some ⟨N, 0, none⟩) 1 1) (hN : N = w.heap.size)
    (h1 : u.oneCell' = true) (hn : n ≤ 4611686018427387904) (hbytes : (n + 1) * bytes ≤ 140737488355328) (hbase : base ≤ w.heap.size)
    (h : ∀ v' w', w'.ownsRow base e 1 v' (n + 1) (xs ++ [u]) → w.grownBy w' v.ownBlock → wpList P ops Q rest (a.put o.dst v') w') : wpList P ops Q (o :: rest) a (w.alloc (.cells #[u] e)) := by
  subst hN
  exact append1_new E hgd s x ho base v n xs hs hown u hx h1 hn hbytes hbase h
theorem size1 (w : World) (o : Obj) : w.heap.size + 1 = (w.alloc o).heap.size := by simp

/-- The same, and where the row lies behind it. -/
theorem append1_blk {t e : TypeId} {z : Value} {bytes : Nat} (E : Elem1 P t e z bytes) {ops : Array Oper} {rest : List Oper} {o : Oper} {a : Act} {Q : Exit → Act → World → Prop} (hgd : o.guard = none) (s x : Operand)
    (ho : o.op = .call { callee := .builtin .append, args := #[s, x], argTypes := #[t, t] })
    (base : Nat) (v : Value) (n : Nat) (xs : List Value) (hs : a.eval s = v) (hown : w.ownsRow base e 1 v n xs) (u : Value) (hx : a.eval x = .slice (some ⟨w.heap.size, 0, none⟩) 1 1)
    (h1 : u.oneCell' = true) (hn : n ≤ 4611686018427387904) (hbytes : (n + 1) * bytes ≤ 140737488355328) (hbase : base ≤ w.heap.size)
    (h : ∀ v' w', w'.ownsRow base e 1 v' (n + 1) (xs ++ [u]) → w.grownBy w' v.ownBlock → (v'.ownBlock = v.ownBlock ∨ v'.ownBlock = some (w.heap.size + 1)) → wpList P ops Q rest (a.put o.dst v') w') : wpList P ops Q (o :: rest) a (w.alloc (.cells #[u] e)) := by
  obtain ⟨i, hi, hz0, hz1, hz2⟩ := E.info
  refine wpList_append_any (w.alloc (.cells #[u] e)) hgd s x t ho base e i z 1 bytes E.ht hi hz0 hz1 hz2 E.hz (by decide) v n xs hs (hown.alloc _) (w.heap.size + 1) (some ⟨w.heap.size, 0, none⟩) 1 1 [u] hx
    ⟨rfl, fun _ => ⟨_, rfl, by simp, fun j u' hj => ?_⟩⟩ (by intro u' hu'; rw [List.mem_singleton] at hu'; subst hu'; exact h1) (by unfold maxLen; omega) hbytes (by simp; omega) (fun v' w' h2 h3 h4 => h v' w' h2 ?_ (by simp at h4; exact h4))
  · match j, hj with
    | 0, hj => simp at hj; subst hj; simp [Addr.add]
  · exact ⟨h3.os, h3.tape, h3.output, Nat.le_trans (by simp) h3.size, fun k hk hne => (h3.block k (by simp; omega) hne).trans (Below.heap_alloc w _ k hk)⟩
end
end Go.Proofs.Ythlnnclpfgokjaa
namespace Go.Proofs.Ythlnnclpfgokjaa
open Go.RowKit
section
variable {P : Program} {w : World}
theorem heap_setRow_self (w : World) (g : Nat) (cur cs : Array Value) (t : TypeId) (fr : Nat × Nat) (hg : w.heap[g]? = some (.cells cur t fr)) : (w.setRow g cs).heap[g]? = some (.cells cs t fr) := by
  simp [World.setRow, Array.getElem?_modify, hg]
/-- What stands at x behind a copy of vs to off. -/
def over (f : Nat → Value) (off : Nat) (vs : List Value) : Nat → Value := fun x => if off ≤ x ∧ x < off + vs.length then vs.getD (x - off) undef else f x
theorem storeCells_row {g N : Nat} {T : TypeId} {f : Nat → Value} (h : w.rowIs g T N f) (off : Nat) (vs : List Value) (hfit : off + vs.length ≤ N) (h1 : ∀ v ∈ vs, v.oneCell' = true) :
    ∃ w', (storeCells ⟨g, off, none⟩ vs).run P w = .ok () w' ∧ w'.rowIs g T N (over f off vs) ∧ w.grownBy w' (some g) := by
  obtain ⟨c, hb, hn, hc⟩ := h
  refine ⟨_, run_storeCells_at P g off T vs 0 c w hb (by rw [hn]; omega) h1, ⟨_, heap_setRow_self w g c _ T _ hb, ?_, fun i hi => ?_⟩, ?_⟩
  · simp; omega
  · simp only [Nat.add_zero, List.getElem?_toArray, over]
    have hct : ∀ j, j < N → c.toList[j]? = some (f j) := fun j hj => by rw [Array.getElem?_toList]; exact hc j hj
    have hl : c.toList.length = N := by simpa using hn
    by_cases h2 : off ≤ i ∧ i < off + vs.length
    · rw [if_pos h2, List.append_assoc, List.getElem?_append_right (by simp; omega), List.getElem?_append_left (by simp; omega)]
      have e : i - (List.take off c.toList).length = i - off := by rw [List.length_take, hl]; omega
      rw [e, List.getD_eq_getElem?_getD, List.getElem?_eq_getElem (by omega)]; rfl
    · rw [if_neg h2]
      by_cases h3 : i < off
      · rw [List.append_assoc, List.getElem?_append_left (by rw [List.length_take, hl]; omega), List.getElem?_take_of_lt h3]
        exact hct i hi
      · rw [List.getElem?_append_right (by rw [List.length_append, List.length_take, hl]; omega), List.getElem?_drop]
        have e : off + vs.length + (i - (List.take off c.toList ++ vs).length) = i := by rw [List.length_append, List.length_take, hl]; omega
        rw [e]; exact hct i hi
  · exact ⟨rfl, rfl, rfl, by simp [World.setRow], fun k hk hne => setRow_other w g k _ (fun e => hne (by rw [e]))⟩

def u8s (l : List UInt8) : List Value := l.map fun b => .int .u8 ((b.toNat : Nat) : Int)
theorem u8s_one (l : List UInt8) : ∀ v ∈ u8s l, v.oneCell' = true := by
  intro v hv; simp only [u8s, List.mem_map] at hv; obtain ⟨b, _, rfl⟩ := hv; rfl
theorem u8s_length (l : List UInt8) : (u8s l).length = l.length := by simp [u8s]
theorem u8s_get (l : List UInt8) (j : Nat) (h : j < l.length) : (u8s l).getD j undef = .int .u8 ((l.getD j 0).toNat : Int) := by
  simp [u8s, List.getD, h]

theorem run_copy_string (dT sT ty e : TypeId) (hu : P.underlying dT = some (.slice e)) (hs : (P.info? e).map (·.size) = some 1) {g N : Nat} {T : TypeId} {f : Nat → Value} (h : w.rowIs g T N f) (off dLen dCap : Nat) (s : ByteArray) (hfit : off + Nat.min s.size dLen ≤ N) :
    ∃ w', (Builtin.copy_ #[dT, sT] ty #[.slice (some ⟨g, off, none⟩) dLen dCap, .string s]).run P w = .ok (goInt (Nat.min s.size dLen)) w' ∧ w'.rowIs g T N (over f off (u8s (s.data.toList.take (Nat.min s.size dLen)))) ∧ w.grownBy w' (some g) := by
  have hl : (u8s (s.data.toList.take (Nat.min s.size dLen))).length = Nat.min s.size dLen := by
    rw [u8s_length, List.length_take]
    have : s.data.toList.length = s.size := by rw [Array.length_toList]; rfl
    rw [this]; exact Nat.min_eq_left (Nat.min_le_left _ _)
  obtain ⟨w', hrun, h2, h3⟩ := storeCells_row (P := P) h off (u8s (s.data.toList.take (Nat.min s.size dLen))) (by rw [hl]; exact hfit) (u8s_one _)
  refine ⟨w', ?_, h2, h3⟩
  have ec : List.take (Nat.min s.size dLen) (List.map (fun b : UInt8 => Value.int .u8 ((b.toNat : Nat) : Int)) s.data.toList) = u8s (s.data.toList.take (Nat.min s.size dLen)) := by
    rw [u8s, List.map_take]
  cases hq : P.info? e with
  | none => simp [hq] at hs
  | some i =>
    have hi : i.size = 1 := by simpa [hq] using hs
    simp only [Builtin.copy_, Builtin.lenOf, Builtin.firstCells]
    simp [run_underlying hu, sizeOf, typeInfo, hq, ec, hrun]

theorem copyStr_wp {ops : Array Oper} {rest : List Oper} {o : Oper} {a : Act} {Q : Exit → Act → World → Prop} (hgd : o.guard = none) (d s : Operand) (dT sT e : TypeId)
    (ho : o.op = .call { callee := .builtin .copy, args := #[d, s], argTypes := #[dT, sT] }) (hu : P.underlying dT = some (.slice e)) (hsz : (P.info? e).map (·.size) = some 1)
    {g N : Nat} {T : TypeId} {f : Nat → Value} (h : w.rowIs g T N f) (off dLen dCap : Nat) (st : ByteArray) (hd : a.eval d = .slice (some ⟨g, off, none⟩) dLen dCap) (hs : a.eval s = .string st) (hfit : off + Nat.min st.size dLen ≤ N)
    (hK : ∀ w', w'.rowIs g T N (over f off (u8s (st.data.toList.take (Nat.min st.size dLen)))) → w.grownBy w' (some g) → wpList P ops Q rest (a.put o.dst (goInt (Nat.min st.size dLen))) w') :
    wpList P ops Q (o :: rest) a w := by
  refine wpList_plain hgd fun K hK' => ?_
  obtain ⟨w', hrun, h2, h3⟩ := run_copy_string (P := P) dT sT o.type e hu hsz h off dLen dCap st hfit
  unfold Oper.wp
  simp [execOp, ho, resolve, invoke, builtin, hd, hs, hrun, Result.andThen]
  exact hK' _ _ (hK w' h2 h3)

/-- string(b) at a row that is known cell by cell. -/
theorem conv_str_wp {src e dst : TypeId} (hs : P.underlying src = some (.slice e)) (he : P.underlying e = some (.int .u8)) (hd : P.underlying dst = some .string)
    {ops : Array Oper} {rest : List Oper} {o : Oper} {a : Act} {Q : Exit → Act → World → Prop} (hgd : o.guard = none) (x : Operand) (ho : o.op = .convert src dst x) (ad : Addr) (len cap : Nat) (hx : a.eval x = .slice (some ad) len cap)
    (l : List UInt8) (hl : l.length = len) (hc : ∀ j, j < len → w.cell? (ad.add j) = some (.int .u8 ((l.getD j 0).toNat : Int)))
    (h : wpList P ops Q rest (a.put o.dst (.string (bs l))) w) : wpList P ops Q (o :: rest) a w := by
  refine wpList_plain hgd fun K hK => ?_
  have hrun := run_str (P := P) (w := w) src e dst hs he hd ad len cap l hl hc
  unfold Oper.wp
  simp [execOp, ho, hx, hrun, Result.andThen]
  exact hK _ _ h
end
end Go.Proofs.Ythlnnclpfgokjaa
namespace Go.Proofs.Ythlnnclpfgokjaa
open Go.RowKit Go.WideShapes Go.ChangeShapes
theorem ints_u8s : ∀ (zs : List Int), (∀ n ∈ zs, (Lit.int .u8 n).wf = true) → zs.map (Value.int .u8) = u8s (zs.map fun n => UInt8.ofNat n.toNat)
  | [], _ => rfl
  | z :: zs, h => by
    have hz := bounds_u8 (h z (by simp))
    have e : (((UInt8.ofNat z.toNat).toNat : Nat) : Int) = z := by rw [UInt8.toNat_ofNat']; omega
    have ih := ints_u8s zs (fun n hn => h n (by simp [hn]))
    simp only [u8s, List.map_cons] at ih ⊢
    rw [ih, e]
section
variable {H : Type} {enc : TypeId × Value → H} {P : Program} {W : World}
theorem open_bytes {t e : TypeId} {base0 base : Nat} {r : Reach} {v : Value} {d : DataW H} {ps : List MemPlace} {ts : List TypeId} {ds : List (DataW H)} {held : Bool}
    (ht : P.underlying t = some (.slice e)) (he : P.underlying e = some (.int .u8)) (hc : P.cellsOf e = 1) (hb : P.bytesOf e = 1)
    (hval : Value.okWide P W r base0 t v) (hd : DataW.Trod enc P W base (fun _ => true) held t v d ps)
    (hsz : (DataW.weightsEach P ts ds).all (· ≤ reachBytes) = true) (j : Nat) (hts : ts[j]? = some t) (hds : ds[j]? = some d) (mem : ∀ x ∈ ps, x.block < W.heap.size) :
    ∃ (A : Option Addr) (n c : Nat) (l : List UInt8), v = .slice A n c ∧ Reads W W.heap.size 1 A n (u8s l) ∧ n ≤ 140737488351232 ∧ n ≤ c := by
  obtain ⟨a0, len, cap, rfl⟩ := okWide_slice ht hval
  obtain ⟨fuel, hf⟩ := hd
  rcases open_ints ht he hc hf with ⟨hcs, hx⟩ | ⟨a, len', cap', zs, hcs, _, hl, hm, hz, hx, hcell, hws⟩
  · simp [Value.cells] at hcs
    obtain ⟨rfl, rfl, rfl⟩ := hcs
    exact ⟨none, 0, 0, [], rfl, Reads.none_, by omega, by omega⟩
  · simp [Value.cells] at hcs
    obtain ⟨rfl, rfl, rfl⟩ := hcs
    simp only [Prod.mk.injEq] at hx
    obtain ⟨rfl, rfl⟩ := hx
    simp only [if_true] at hz
    have hw := sized_slice hsz hts hds ht
    rw [hb] at hw
    simp only [lits, List.length_map, List.length_take, List.length_drop, reachBytes] at hw
    refine ⟨some a, len, cap, (zs.take len).map fun n => UInt8.ofNat n.toNat, rfl, ⟨by simp [u8s]; omega, fun hn => ⟨a, rfl, mem _ (MemPlace.mem_row.2 ⟨0, by omega, rfl⟩), fun k u hu => ?_⟩⟩, by omega, hl⟩
    rw [← ints_u8s _ (fun n hn => hws n (List.mem_of_mem_take hn))] at hu
    have hk : k < len := by
      rcases Nat.lt_or_ge k len with h | h
      · exact h
      · rw [List.getElem?_eq_none (by simp; omega)] at hu; cases hu
    rw [hcell k (by omega)]
    rw [List.getElem?_map, List.getElem?_take, if_pos hk, List.getElem?_eq_getElem (by omega)] at hu
    simp at hu
    rw [← hu, List.getD_eq_getElem?_getD, List.getElem?_eq_getElem (by omega)]; rfl
end
end Go.Proofs.Ythlnnclpfgokjaa
namespace Go.Proofs.Ythlnnclpfgokjaa.Gf

theorem all256 (p : UInt8 → Bool) (h : ((List.range 256).all fun n => p (UInt8.ofNat n)) = true) (a : UInt8) : p a = true := by
  rw [List.all_eq_true] at h
  have := h a.toNat (List.mem_range.2 a.toNat_lt)
  simpa using this

/-- Twice a number. -/
def xt (a : UInt8) : UInt8 := (a <<< 1) ^^^ ((a >>> 7) ^^^ (((a >>> 7) <<< 2) ^^^ (((a >>> 7) <<< 3) ^^^ ((a >>> 7) <<< 4))))
def gmn : Nat → UInt8 → Nat → UInt8
  | 0, _, _ => 0
  | n + 1, a, b => (if b % 2 = 1 then a else 0) ^^^ gmn n (xt a) (b / 2)
/-- The product. -/
def gm (a b : UInt8) : UInt8 := gmn 8 a b.toNat

theorem x4 (a b c d : UInt8) : (a ^^^ b) ^^^ (c ^^^ d) = (a ^^^ c) ^^^ (b ^^^ d) := by
  rw [UInt8.xor_assoc, UInt8.xor_assoc, ← UInt8.xor_assoc b c d, ← UInt8.xor_assoc c b d, UInt8.xor_comm b c]

theorem xt_xor (a b : UInt8) : xt (a ^^^ b) = xt a ^^^ xt b := by
  unfold xt
  simp only [UInt8.shiftLeft_xor, UInt8.shiftRight_xor, x4]

theorem gmn_xor_left (n : Nat) (a a' : UInt8) (b : Nat) : gmn n (a ^^^ a') b = gmn n a b ^^^ gmn n a' b := by
  induction n generalizing a a' b with
  | zero => simp [gmn]
  | succ n ih =>
    simp only [gmn, xt_xor, ih]
    by_cases h : b % 2 = 1
    · simp only [h, if_true, x4]
    · simp only [h, if_false, UInt8.zero_xor]

theorem gmn_xor_right (n : Nat) (a : UInt8) (b b' : Nat) : gmn n a (b ^^^ b') = gmn n a b ^^^ gmn n a b' := by
  induction n generalizing a b b' with
  | zero => simp [gmn]
  | succ n ih =>
    simp only [gmn, Nat.xor_div_two, ih]
    have e : ((b ^^^ b') % 2 = 1) ↔ ¬ (b % 2 = 1 ↔ b' % 2 = 1) := by
      rw [Nat.xor_mod_two_eq_one]
    by_cases h : b % 2 = 1 <;> by_cases h' : b' % 2 = 1
    · rw [if_neg (by rw [e]; simp [h, h']), if_pos h, if_pos h', x4, UInt8.xor_self]
    · rw [if_pos (by rw [e]; simp [h, h']), if_pos h, if_neg h', x4, UInt8.xor_zero]
    · rw [if_pos (by rw [e]; simp [h, h']), if_neg h, if_pos h', x4, UInt8.zero_xor]
    · rw [if_neg (by rw [e]; simp [h, h']), if_neg h, if_neg h', x4, UInt8.xor_self]

theorem gm_xor_left (a a' b : UInt8) : gm (a ^^^ a') b = gm a b ^^^ gm a' b := gmn_xor_left 8 a a' b.toNat
theorem gm_xor_right (a b b' : UInt8) : gm a (b ^^^ b') = gm a b ^^^ gm a b' := by
  unfold gm; rw [UInt8.toNat_xor]; exact gmn_xor_right 8 a _ _

/-- What is linear hangs on the eight powers of 2. -/
def basis : List UInt8 := [1, 2, 4, 8, 16, 32, 64, 128]
theorem split_bits (a : UInt8) : a = (if a.toNat % 2 = 1 then 1 else 0) ^^^ ((if a.toNat / 2 % 2 = 1 then 2 else 0) ^^^ ((if a.toNat / 4 % 2 = 1 then 4 else 0) ^^^ ((if a.toNat / 8 % 2 = 1 then 8 else 0) ^^^
    ((if a.toNat / 16 % 2 = 1 then 16 else 0) ^^^ ((if a.toNat / 32 % 2 = 1 then 32 else 0) ^^^ ((if a.toNat / 64 % 2 = 1 then 64 else 0) ^^^ (if a.toNat / 128 % 2 = 1 then 128 else 0))))))) := by
  have := all256 (fun a => a == ((if a.toNat % 2 = 1 then 1 else 0) ^^^ ((if a.toNat / 2 % 2 = 1 then 2 else 0) ^^^ ((if a.toNat / 4 % 2 = 1 then 4 else 0) ^^^ ((if a.toNat / 8 % 2 = 1 then 8 else 0) ^^^
    ((if a.toNat / 16 % 2 = 1 then 16 else 0) ^^^ ((if a.toNat / 32 % 2 = 1 then 32 else 0) ^^^ ((if a.toNat / 64 % 2 = 1 then 64 else 0) ^^^ (if a.toNat / 128 % 2 = 1 then 128 else 0))))))))) (by decide +kernel) a
  exact eq_of_beq this

theorem lin_ext (f g : UInt8 → UInt8) (hf : ∀ a b, f (a ^^^ b) = f a ^^^ f b) (hg : ∀ a b, g (a ^^^ b) = g a ^^^ g b) (h : ∀ x ∈ basis, f x = g x) (a : UInt8) : f a = g a := by
  have f0 : f 0 = 0 := by have := hf 0 0; simpa using this
  have g0 : g 0 = 0 := by have := hg 0 0; simpa using this
  have hi : ∀ (c : Prop) [Decidable c] (x : UInt8), x ∈ basis → f (if c then x else 0) = g (if c then x else 0) := by
    intro c _ x hx
    by_cases hc : c
    · simp only [hc, if_true, h x hx]
    · simp only [hc, if_false, f0, g0]
  rw [split_bits a]
  simp only [hf, hg]
  rw [hi _ 1 (by simp [basis]), hi _ 2 (by simp [basis]), hi _ 4 (by simp [basis]), hi _ 8 (by simp [basis]), hi _ 16 (by simp [basis]), hi _ 32 (by simp [basis]), hi _ 64 (by simp [basis]), hi _ 128 (by simp [basis])]

theorem comm_basis : (basis.all fun a => basis.all fun b => gm a b == gm b a) = true := by decide +kernel
theorem gm_comm (a b : UInt8) : gm a b = gm b a := by
  refine lin_ext (fun a => gm a b) (fun a => gm b a) (fun _ _ => gm_xor_left _ _ _) (fun _ _ => gm_xor_right _ _ _) (fun x hx => ?_) a
  refine lin_ext (fun b => gm x b) (fun b => gm b x) (fun _ _ => gm_xor_right _ _ _) (fun _ _ => gm_xor_left _ _ _) (fun y hy => ?_) b
  have := comm_basis
  rw [List.all_eq_true] at this
  have := this x hx
  rw [List.all_eq_true] at this
  exact eq_of_beq (this y hy)

theorem assoc_basis : (basis.all fun a => basis.all fun b => basis.all fun c => gm (gm a b) c == gm a (gm b c)) = true := by decide +kernel
theorem gm_assoc (a b c : UInt8) : gm (gm a b) c = gm a (gm b c) := by
  refine lin_ext (fun a => gm (gm a b) c) (fun a => gm a (gm b c)) (fun _ _ => by simp only [gm_xor_left]) (fun _ _ => by simp only [gm_xor_left]) (fun x hx => ?_) a
  refine lin_ext (fun b => gm (gm x b) c) (fun b => gm x (gm b c)) (fun _ _ => by simp only [gm_xor_left, gm_xor_right]) (fun _ _ => by simp only [gm_xor_left, gm_xor_right]) (fun y hy => ?_) b
  refine lin_ext (fun c => gm (gm x y) c) (fun c => gm x (gm y c)) (fun _ _ => by simp only [gm_xor_right]) (fun _ _ => by simp only [gm_xor_right]) (fun z hz => ?_) c
  have := assoc_basis
  rw [List.all_eq_true] at this
  have := this x hx
  rw [List.all_eq_true] at this
  have := this y hy
  rw [List.all_eq_true] at this
  exact eq_of_beq (this z hz)

theorem gm_one (a : UInt8) : gm a 1 = a := by
  have := all256 (fun a => gm a 1 == a) (by decide +kernel) a
  exact eq_of_beq this
theorem one_gm (a : UInt8) : gm 1 a = a := by rw [gm_comm, gm_one]
theorem gm_zero (a : UInt8) : gm a 0 = 0 := by have := gm_xor_right a 0 0; simpa using this
theorem zero_gm (a : UInt8) : gm 0 a = 0 := by rw [gm_comm, gm_zero]

/-- Powers. -/
def pw (a : UInt8) : Nat → UInt8
  | 0 => 1
  | n + 1 => gm (pw a n) a
theorem pw_add (a : UInt8) (n m : Nat) : pw a (n + m) = gm (pw a n) (pw a m) := by
  induction m with
  | zero => simp [pw, gm_one]
  | succ m ih => rw [← Nat.add_assoc]; simp only [pw, ih, gm_assoc]
theorem pw_two (a : UInt8) (n : Nat) : pw (gm a a) n = pw a (2 * n) := by
  induction n with
  | zero => rfl
  | succ n ih =>
    have : 2 * (n + 1) = 2 * n + 1 + 1 := by omega
    rw [this]
    simp only [pw, ih, gm_assoc]
theorem pw_mul (a : UInt8) (n m : Nat) : pw (pw a n) m = pw a (n * m) := by
  induction m with
  | zero => rfl
  | succ m ih => show gm (pw (pw a n) m) (pw a n) = _; rw [ih, ← pw_add, Nat.mul_succ]
theorem one_pw (n : Nat) : pw 1 n = 1 := by
  induction n with
  | zero => rfl
  | succ n ih => rw [pw, ih, gm_one]
theorem zero_pw (n : Nat) (h : 0 < n) : pw 0 n = 0 := by
  cases n with
  | zero => omega
  | succ n => rw [pw, gm_zero]

/-- Squaring and multiplying. -/
def sq : Nat → UInt8 → UInt8 → Nat → UInt8
  | 0, p, _, _ => p
  | f + 1, p, a, n => if n = 0 then p else sq f (if n % 2 = 1 then gm p a else p) (gm a a) (n / 2)
theorem sq_pw (f : Nat) (p a : UInt8) (n : Nat) (h : n < 2 ^ f) : sq f p a n = gm p (pw a n) := by
  induction f generalizing p a n with
  | zero =>
    have : n = 0 := by simpa using h
    subst this; simp [sq, pw, gm_one]
  | succ f ih =>
    unfold sq
    by_cases h0 : n = 0
    · simp [h0, pw, gm_one]
    · rw [if_neg h0, ih _ _ _ (by rw [Nat.pow_succ] at h; omega), pw_two]
      by_cases h1 : n % 2 = 1
      · rw [if_pos h1]
        have : n = 1 + 2 * (n / 2) := by omega
        conv => rhs; rw [this, pw_add]
        rw [gm_assoc]; congr 2; simp [pw, one_gm]
      · rw [if_neg h1]
        have : n = 2 * (n / 2) := by omega
        conv => rhs; rw [this]

theorem pw255 (a : UInt8) (h : a ≠ 0) : pw a 255 = 1 := by
  have := all256 (fun a => a == 0 || sq 8 1 a 255 == 1) (by decide +kernel) a
  rw [Bool.or_eq_true] at this
  rcases this with h' | h'
  · exact absurd (eq_of_beq h') h
  · have := eq_of_beq h'
    rw [sq_pw _ _ _ _ (by decide), one_gm] at this
    exact this
theorem pw_mod (a : UInt8) (h : a ≠ 0) (n : Nat) : pw a (n % 255) = pw a n := by
  have : n = 255 * (n / 255) + n % 255 := by omega
  conv => rhs; rw [this, pw_add, ← pw_mul, pw255 a h, one_pw, one_gm]
def inv (a : UInt8) : UInt8 := pw a 254
theorem gm_inv (a : UInt8) (h : a ≠ 0) : gm (inv a) a = 1 := pw255 a h
theorem inv_gm (a : UInt8) (h : a ≠ 0) : gm a (inv a) = 1 := by rw [gm_comm]; exact gm_inv a h
theorem gm_eq_zero (a b : UInt8) : gm a b = 0 ↔ a = 0 ∨ b = 0 := by
  constructor
  · intro h
    by_cases hb : b = 0
    · exact Or.inr hb
    · left
      have : gm (gm a b) (inv b) = 0 := by rw [h, zero_gm]
      rwa [gm_assoc, inv_gm b hb, gm_one] at this
  · rintro (h | h)
    · rw [h, zero_gm]
    · rw [h, gm_zero]
theorem gm_cancel (a b c : UInt8) (hc : c ≠ 0) (h : gm a c = gm b c) : a = b := by
  have : gm (gm a c) (inv c) = gm (gm b c) (inv c) := by rw [h]
  rwa [gm_assoc, gm_assoc, inv_gm c hc, gm_one, gm_one] at this
theorem over_back (a b : UInt8) (hb : b ≠ 0) : gm (gm a (inv b)) b = a := by rw [gm_assoc, gm_inv b hb, gm_one]
theorem inv_ne (a : UInt8) (h : a ≠ 0) : inv a ≠ 0 := by
  intro h0
  have := gm_inv a h
  rw [h0, zero_gm] at this
  exact absurd this (by decide)
theorem sq_xor (a b : UInt8) : gm (a ^^^ b) (a ^^^ b) = gm a a ^^^ gm b b := by
  rw [gm_xor_left, gm_xor_right, gm_xor_right, gm_comm b a, UInt8.xor_assoc, ← UInt8.xor_assoc (gm a b) (gm a b), UInt8.xor_self, UInt8.zero_xor]
theorem pw2k_xor (a b : UInt8) (k : Nat) : pw (a ^^^ b) (2 ^ k) = pw a (2 ^ k) ^^^ pw b (2 ^ k) := by
  induction k generalizing a b with
  | zero => simp [pw, one_gm]
  | succ k ih => rw [Nat.pow_succ, Nat.mul_comm, ← pw_two, ← pw_two, ← pw_two, sq_xor, ih]
end Go.Proofs.Ythlnnclpfgokjaa.Gf
namespace Go.Proofs.Ythlnnclpfgokjaa.Gf
abbrev Mat := Nat → Nat → UInt8
/-- The first row from p on whose number in column c is not 0; n if there is none (f: how many rows are looked at). -/
def findP (M : Mat) (c n : Nat) : Nat → Nat → Nat
  | 0, p => p
  | f + 1, p => if p < n ∧ M p c = 0 then findP M c n f (p + 1) else p
def pivot (M : Mat) (c n a : Nat) : Nat := findP M c n (n - a) a
def swapR (M : Mat) (p a : Nat) : Mat := fun i j => if i = p then M a j else if i = a then M p j else M i j
def scaleR (M : Mat) (a : Nat) (v : UInt8) : Mat := fun i j => if i = a then gm (M i j) v else M i j
/-- Rows below k have taken their part of row a off. -/
def takeR (M : Mat) (a c k : Nat) : Mat := fun i j => if i < k ∧ i ≠ a then M i j ^^^ gm (M i c) (M a j) else M i j
def red1 (M : Mat) (p a c : Nat) : Mat := scaleR (swapR M p a) a (inv (swapR M p a a c))
/-- One column. -/
def estep (n c : Nat) (s : Mat × Nat) : Mat × Nat :=
  if s.2 < n ∧ pivot s.1 c n s.2 < n then (takeR (red1 s.1 (pivot s.1 c n s.2) s.2 c) s.2 c n, s.2 + 1) else s
def esteps (n : Nat) (M : Mat) : Nat → Mat × Nat
  | 0 => (M, 0)
  | c + 1 => estep n c (esteps n M c)

theorem findP_spec (M : Mat) (c n : Nat) : ∀ f p, p + f = n → p ≤ n → (findP M c n f p ≤ n ∧ p ≤ findP M c n f p ∧ (∀ q, p ≤ q → q < findP M c n f p → M q c = 0) ∧ (findP M c n f p < n → M (findP M c n f p) c ≠ 0))
  | 0, p, h, hp => ⟨hp, Nat.le_refl _, fun q h1 h2 => by simp [findP] at h2; omega, fun h1 => by simp [findP] at h1; omega⟩
  | f + 1, p, h, hp => by
    unfold findP
    by_cases h0 : p < n ∧ M p c = 0
    · rw [if_pos h0]
      obtain ⟨a, b, d, e⟩ := findP_spec M c n f (p + 1) (by omega) (by omega)
      refine ⟨a, by omega, fun q h1 h2 => ?_, e⟩
      by_cases hq : q = p
      · rw [hq]; exact h0.2
      · exact d q (by omega) h2
    · rw [if_neg h0]
      exact ⟨hp, Nat.le_refl _, fun q h1 h2 => by omega, fun h1 h2 => h0 ⟨h1, h2⟩⟩
theorem findP_step (M : Mat) (c n f p : Nat) (h : p + (f + 1) = n) (h0 : M p c = 0) : findP M c n (f + 1) p = findP M c n f (p + 1) := by
  rw [findP, if_pos ⟨by omega, h0⟩]
theorem findP_stop (M : Mat) (c n f p : Nat) (h0 : M p c ≠ 0) : findP M c n f p = p := by
  cases f with
  | zero => rfl
  | succ f => rw [findP, if_neg (fun h => h0 h.2)]
theorem pivot_spec (M : Mat) (c n a : Nat) (ha : a ≤ n) : pivot M c n a ≤ n ∧ a ≤ pivot M c n a ∧ (∀ q, a ≤ q → q < pivot M c n a → M q c = 0) ∧ (pivot M c n a < n → M (pivot M c n a) c ≠ 0) :=
  findP_spec M c n (n - a) a (by omega) ha
theorem esteps_le (n : Nat) (M : Mat) (c : Nat) : (esteps n M c).2 ≤ n ∧ (esteps n M c).2 ≤ c := by
  induction c with
  | zero => exact ⟨Nat.zero_le _, Nat.le_refl _⟩
  | succ c ih =>
    unfold esteps estep
    split
    · rename_i h; exact ⟨h.1, Nat.succ_le_succ ih.2⟩
    · exact ⟨ih.1, Nat.le_succ_of_le ih.2⟩

theorem red1_pivot (M : Mat) (p a c : Nat) (h : M p c ≠ 0) : red1 M p a c a c = 1 := by
  unfold red1 scaleR
  rw [if_pos rfl]
  have e : swapR M p a a c = M p c := by
    unfold swapR
    by_cases hp : a = p
    · rw [if_pos hp, hp]
    · rw [if_neg hp, if_pos rfl]
  rw [e]
  exact inv_gm _ h

/-- WHAT ELIMINATION LEAVES: each of the first 'at' rows has a column of its own in which it is 1 and all others are 0; the other rows are 0 in all columns that were gone through. -/
structure Steps (n c : Nat) (M : Mat) (a : Nat) (piv : Nat → Nat) : Prop where
  lt : ∀ i, i < a → piv i < c
  one : ∀ i, i < a → M i (piv i) = 1
  zero : ∀ i k, i < a → k < n → k ≠ i → M k (piv i) = 0
  low : ∀ k j, a ≤ k → k < n → j < c → M k j = 0
  mono : ∀ i k, i < k → k < a → piv i < piv k

theorem steps_next (n c : Nat) (M : Mat) (a : Nat) (piv : Nat → Nat) (h : Steps n c M a piv) (ha : a ≤ n) : ∃ piv', Steps n (c + 1) (estep n c (M, a)).1 (estep n c (M, a)).2 piv' := by
  obtain ⟨p1, p2, p3, p4⟩ := pivot_spec M c n a ha
  unfold estep
  show ∃ piv', Steps n (c + 1) (if a < n ∧ pivot M c n a < n then _ else _ : Mat × Nat).1 (if a < n ∧ pivot M c n a < n then _ else _ : Mat × Nat).2 piv'
  by_cases hc : a < n ∧ pivot M c n a < n
  · rw [if_pos hc]
    obtain ⟨h1, h2⟩ := hc
    generalize hp : pivot M c n a = p at *
    have hpc := p4 h2
    have hr1 : ∀ i j, i ≠ a → i ≠ p → red1 M p a c i j = M i j := fun i j e1 e2 => by
      unfold red1 scaleR swapR; rw [if_neg e1, if_neg e2, if_neg e1]
    have hrp : ∀ j, p ≠ a → red1 M p a c p j = M a j := fun j e => by
      unfold red1 scaleR swapR; rw [if_neg e, if_pos rfl]
    have hra : ∀ j, red1 M p a c a j = gm (M p j) (inv (M p c)) := fun j => by
      have e : ∀ j, swapR M p a a j = M p j := fun j => by
        unfold swapR
        by_cases hp : a = p
        · rw [if_pos hp, hp]
        · rw [if_neg hp, if_pos rfl]
      unfold red1 scaleR; rw [if_pos rfl, e, e]
    have hlow : ∀ j, j < c → red1 M p a c a j = 0 := fun j hj => by
      rw [hra, h.low p j (by omega) h2 hj, zero_gm]
    refine ⟨fun i => if i = a then c else piv i, ?_, ?_, ?_, ?_, ?_⟩
    · intro i hi
      show (if i = a then c else piv i) < c + 1
      by_cases e : i = a
      · rw [if_pos e]; omega
      · rw [if_neg e]; have := h.lt i (by omega); omega
    · intro i hi
      show takeR _ a c n i (if i = a then c else piv i) = 1
      by_cases e : i = a
      · subst e; rw [if_pos rfl]
        unfold takeR; rw [if_neg (by omega)]
        rw [hra, inv_gm _ hpc]
      · rw [if_neg e]
        have hi' : i < a := by omega
        unfold takeR
        rw [if_pos ⟨by omega, e⟩, hlow _ (h.lt i hi'), gm_zero, UInt8.xor_zero, hr1 i _ e (by omega)]
        exact h.one i hi'
    · intro i k hi hk hne
      show takeR _ a c n k (if i = a then c else piv i) = 0
      by_cases e : i = a
      · subst e; rw [if_pos rfl]
        unfold takeR
        rw [if_pos ⟨hk, hne⟩, hra, inv_gm _ hpc, gm_one, UInt8.xor_self]
      · rw [if_neg e]
        have hi' : i < a := by omega
        have hl := h.lt i hi'
        unfold takeR
        by_cases ek : k = a
        · subst ek; rw [if_neg (by omega)]; exact hlow _ hl
        · rw [if_pos ⟨hk, ek⟩, hlow _ hl, gm_zero, UInt8.xor_zero]
          by_cases ep : k = p
          · subst ep; rw [hrp _ ek]; exact h.zero i a hi' h1 (by omega)
          · rw [hr1 k _ ek ep]; exact h.zero i k hi' hk hne
    · intro k j hak hkn hj
      show takeR _ a c n k j = 0
      have hak' : a + 1 ≤ k := hak
      have ek : k ≠ a := by omega
      unfold takeR
      rw [if_pos ⟨hkn, ek⟩]
      by_cases ej : j = c
      · subst ej; rw [hra, inv_gm _ hpc, gm_one, UInt8.xor_self]
      · have hjc : j < c := by omega
        rw [hlow j hjc, gm_zero, UInt8.xor_zero]
        by_cases ep : k = p
        · subst ep; rw [hrp _ ek]; exact h.low a j (Nat.le_refl _) h1 hjc
        · rw [hr1 k _ ek ep]; exact h.low k j (by omega) hkn hjc
    · intro i k hik hk
      show (if i = a then c else piv i) < (if k = a then c else piv k)
      have hk' : k < a + 1 := hk
      rw [if_neg (show i ≠ a by omega)]
      by_cases e : k = a
      · rw [if_pos e]; exact h.lt i (by omega)
      · rw [if_neg e]; exact h.mono i k hik (by omega)
  · rw [if_neg hc]
    refine ⟨piv, fun i hi => Nat.lt_succ_of_lt (h.lt i hi), h.one, h.zero, fun k j hak hkn hj => ?_, h.mono⟩
    by_cases e : j = c
    · subst e
      exact p3 k hak (by omega)
    · exact h.low k j hak hkn (by omega)
theorem steps_all (n : Nat) (M : Mat) (c : Nat) : ∃ piv, Steps n c (esteps n M c).1 (esteps n M c).2 piv := by
  induction c with
  | zero => exact ⟨fun _ => 0, fun i h => by simp [esteps] at h, fun i h => by simp [esteps] at h, fun i k h => by simp [esteps] at h, fun k j _ _ h => by omega, fun i k _ h => by simp [esteps] at h⟩
  | succ c ih =>
    obtain ⟨piv, h⟩ := ih
    exact steps_next n c _ _ piv h (esteps_le n M c).1
end Go.Proofs.Ythlnnclpfgokjaa.Gf
