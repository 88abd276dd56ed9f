/- Words of general use: texts as values, bytes as values, lists that a call reads, makes, hands on; the opening of a law's arguments. No conditions. -/
import Derived.Test.YtpfccicahfncbaaDoorMem3
import Derived.Test.YtpfccicahfncbaaDoorFrame
import Derived.Test.YtpfccicahfncbaaDoorBuf
import Derived.StillTailTactics
import Derived.Deep.RegionHeld3
import Derived.Deep.DrawnRows
import Derived.ChangeMaps5
namespace Go.Proofs.YtpfccicahfncbaaDoor
open Go.RowKit
set_option linter.unusedVariables false
/-- Strings as values. -/
def strV (ss : List ByteArray) : List Value := ss.map Value.string
theorem strV_length (ss : List ByteArray) : (strV ss).length = ss.length := by simp [strV]
theorem strV_get (ss : List ByteArray) (j : Nat) (hj : j < ss.length) : (strV ss)[j]? = some (.string ss[j]) := by simp [strV, hj]
/-- The string at a place. -/
def sAt (ss : List ByteArray) (k : Nat) : ByteArray := ss.getD k ByteArray.empty
theorem sAt_mem {ss : List ByteArray} {k : Nat} (h : k < ss.length) : sAt ss k ∈ ss := by
  unfold sAt; rw [List.getD_eq_getElem?_getD, List.getElem?_eq_getElem h]; exact List.getElem_mem h
theorem sAt_get {ss : List ByteArray} {k : Nat} (h : k < ss.length) : sAt ss k = ss[k] := by
  unfold sAt; rw [List.getD_eq_getElem?_getD, List.getElem?_eq_getElem h]; rfl
theorem Reads.len {w : World} {B n : Nat} {A : Option Addr} {ss : List ByteArray} (h : Reads w B 1 A n (strV ss)) : ss.length = n := by
  have := h.1; rw [strV_length] at this; omega
theorem Reads.str {w : World} {B n : Nat} {A : Option Addr} {ss : List ByteArray} (h : Reads w B 1 A n (strV ss)) {k : Nat} (hk : k < n) :
    ∃ ad, A = some ad ∧ ad.block < B ∧ ∀ j, j < n → w.cell? (ad.add j) = some (.string (sAt ss j)) := by
  obtain ⟨ad, e, hb, hc⟩ := h.2 (by omega)
  exact ⟨ad, e, hb, fun j hj => by
    have hj' : j < ss.length := by rw [h.len]; exact hj
    rw [sAt_get hj']; exact hc j _ (strV_get ss j hj')⟩

theorem swapW {P : Program} {f : FuncId} {args : Array Value} {w : World} {v : Value} (h : Calls P f args w fun e w' => e = .returned v ∧ w = w') : Calls P f args w fun e w' => e = .returned v ∧ w' = w :=
  h.mono fun _ _ ⟨he, hw⟩ => ⟨he, hw.symm⟩
/-- A row of bytes as values. -/
def u8V (G : Nat → UInt8) : Nat → Value := fun x => .int .u8 ((G x).toNat : Int)
theorem reads_far {w w' : World} {B n : Nat} {A : Option Addr} {xs : List Value} {row : Option Nat} (h : Reads w B 1 A n xs) (hB : B ≤ w.heap.size) (hg : w.grownBy w' row) (hne : ∀ ad, A = some ad → some ad.block ≠ row) : Reads w' B 1 A n xs :=
  ⟨h.1, fun hn => by
    obtain ⟨ad, e, hb, hc⟩ := h.2 hn
    exact ⟨ad, e, hb, fun j u hu => by
      have := World.cell?_of_block (w := w) (w' := w') (a := ad.add j) (by rw [block_of_add]; exact hg.block _ (by omega) (hne ad e))
      rw [this]; exact hc j u hu⟩⟩
theorem own_drewN {w : World} {base : Nat} {e : TypeId} {size n : Nat} {v : Value} {xs : List Value} (h : w.ownsRow base e size v n xs) (k : Nat) : (w.drewN k).ownsRow base e size v n xs := h
/-- A literal list, just laid. -/
theorem Reads.lit (w : World) (T : TypeId) (cs : Array Value) (xs : List Value) (n : Nat) (h : cs = xs.toArray) (hn : n = xs.length) : Reads (w.alloc (.cells cs T)) (w.heap.size + 1) 1 (some ⟨w.heap.size, 0, none⟩) n xs := by
  subst h hn
  refine ⟨by omega, fun _ => ⟨_, rfl, by simp, fun j u hj => ?_⟩⟩
  have hj' : j < xs.length := by
    rcases Nat.lt_or_ge j xs.length with h | h
    · exact h
    · simp [h] at hj
  have := (World.rowIs_alloc w xs.toArray T (fun j => xs.getD j undef) (fun i hi => by simp at hi; simp [hi])).cell (i := j) (by simpa using hj')
  have ea : ({ block := w.heap.size, off := 0, spot := none } : Addr).add j = ⟨w.heap.size, j, none⟩ := by unfold Addr.add; split <;> simp_all
  rw [ea, this]
  simp [List.getD, hj]
theorem own_drew {w : World} {base : Nat} {e : TypeId} {size n : Nat} {v : Value} {xs : List Value} (h : w.ownsRow base e size v n xs) : w.drew.ownsRow base e size v n xs := h
theorem far_own {w w' : World} {base : Nat} {e : TypeId} {size n : Nat} {v : Value} {xs : List Value} (hg : w.grownBy w' v.ownBlock) (h : w.ownsRow base e size v n xs) {p : Addr} (hp : p.block < base) (hb : p.block < w.heap.size) : w'.cell? p = w.cell? p :=
  World.cell?_of_block (hg.block p.block hb (fun e => by have := own_ge h _ e.symm; omega))
theorem step_append1 {P : Program} {w : World} {t e : TypeId} {z : Value} {bytes : Nat} (E : Elem1 P t e z bytes) {ops : Array Oper} {o : Oper} {a : Act} {K : Act → World → Prop} {Q : Exit → Act → World → Prop} {F : Prop} (hgd : o.guard = none) (s x : Operand)
    (ho : o.op = .call { callee := .builtin .append, args := #[s, x], argTypes := #[t, t] })
    (base : Nat) (v : Value) (n : Nat) (xs : List Value) (hs : a.eval s = v) (hown : w.ownsRow base e 1 v n xs) (u : Value) (hx : a.eval x = .slice (some ⟨w.heap.size, 0, none⟩) 1 1)
    (h1 : u.oneCell' = true) (hn : n ≤ 4611686018427387904) (hbytes : (n + 1) * bytes ≤ 140737488355328) (hbase : base ≤ w.heap.size)
    (h : ∀ v' w', w'.ownsRow base e 1 v' (n + 1) (xs ++ [u]) → w.grownBy w' v.ownBlock → K (a.put o.dst v') w') :
    if Region.wanted o (yielded ops a.tmps) = true then Oper.wp P o a (w.alloc (.cells #[u] e)).drew K Q else F := by
  obtain ⟨i, hi, hz0, hz1, hz2⟩ := E.info
  refine step_append_any (w.alloc (.cells #[u] e)).drew hgd s x t ho base e i z 1 bytes E.ht hi hz0 hz1 hz2 E.hz (by decide) v n xs hs (own_drew (hown.alloc _)) (w.heap.size + 1) (some ⟨w.heap.size, 0, none⟩) 1 1 [u] hx
    ⟨rfl, fun _ => ⟨_, rfl, by simp, fun j u' hj => ?_⟩⟩ (by intro u' hu'; rw [List.mem_singleton] at hu'; subst hu'; exact h1) (by unfold maxLen; omega) hbytes (by simp; omega) (fun v' w' h2 h3 h4 => h v' w' h2 ?_)
  · match j, hj with
    | 0, hj =>
      simp at hj; subst hj
      have := (World.rowIs_alloc w #[u] e (fun _ => u) (fun i hi => by
        have : i = 0 := by simpa using hi
        subst this; rfl)).cell (i := 0) (by simp)
      simp [Addr.add]
  · exact ⟨h3.os, h3.tape, h3.output, Nat.le_trans (by simp) h3.size, fun k hk hne => (h3.block k (by simp; omega) hne).trans (Below.heap_alloc w _ k hk)⟩
theorem made_set (w : World) (z v : Value) (n k : Nat) (T : TypeId) : (w.alloc (.cells ((madeCells #[z] n).setIfInBounds k v) T)).rowIs w.heap.size T n (fun x => if x = k then v else z) := by
  have := World.rowIs_alloc w ((madeCells #[z] n).setIfInBounds k v) T (fun x => if x = k then v else z) (fun i hi => by
    rw [Array.size_setIfInBounds, size_madeCells] at hi
    rw [Array.getElem?_setIfInBounds]
    by_cases e : i = k
    · subst e; simp [size_madeCells, hi]
    · rw [if_neg (fun h => e h.symm), if_neg e]
      simp [madeCells, hi, Nat.mod_one])
  rw [Array.size_setIfInBounds, size_madeCells] at this
  exact this
theorem add0 (g j : Nat) : ({ block := g, off := 0, spot := none } : Addr).add j = ⟨g, j, none⟩ := by unfold Addr.add; split <;> simp_all
theorem reads_u8 {w : World} {B n : Nat} {A : Option Addr} {l : List UInt8} (h : Reads w B 1 A n (u8s l)) (hn : 1 ≤ n) : ∃ ad, A = some ad ∧ ad.block < B ∧ ∀ j, j < n → w.cell? (ad.add j) = some (.int .u8 ((l.getD j 0).toNat : Int)) := by
  obtain ⟨ad, e, hb, hc⟩ := h.2 (by omega)
  refine ⟨ad, e, hb, fun j hj => hc j _ ?_⟩
  have hl : l.length = n := by have := h.1; rw [u8s_length] at this; omega
  simp [u8s, hl, hj, List.getD]

/-- append of a list to a new list of none. -/
theorem appendE_wp {P : Program} {w : World} {t e : TypeId} {z : Value} {bytes : Nat} (E : Elem1 P t e z bytes) {ops : Array Oper} {rest : List Oper} {o : Oper} {a : Act} {Q : Exit → Act → World → Prop} (hgd : o.guard = none) (s x : Operand)
    (ho : o.op = .call { callee := .builtin .append, args := #[s, x], argTypes := #[t, t] })
    (hs : a.eval s = .slice (some ⟨w.heap.size, 0, none⟩) 0 0) (B : Nat) (A : Option Addr) (m c : Nat) (xs : List Value) (hx : a.eval x = .slice A m c) (hr : Reads w B 1 A m xs) (hB : B ≤ w.heap.size)
    (h1 : ∀ u ∈ xs, u.oneCell' = true) (hm : m ≤ 4611686018427387904) (hb : m * bytes ≤ 140737488355328)
    (h : ∀ v' w', w'.ownsRow w.heap.size e 1 v' m xs → w.grownBy w' none → wpList P ops Q rest (a.put o.dst v') w') : wpList P ops Q (o :: rest) a (w.alloc (.cells #[] e)) := by
  obtain ⟨i, hi, hz0, hz1, hz2⟩ := E.info
  refine wpList_append_any (w.alloc (.cells #[] e)) hgd s x t ho w.heap.size e i z 1 bytes E.ht hi hz0 hz1 hz2 E.hz (by decide) _ 0 [] hs (by
      have := World.ownsRow_lit (base := w.heap.size) (e := e) (size := 1) w #[] 0 (Nat.le_refl _) (Nat.zero_le _) (by simp)
      simpa using this) B A m c xs hx (hr.alloc hB _) h1 (by unfold maxLen; omega) (by rw [Nat.zero_add]; exact hb) (by simp) (fun v' w' h2 h3 h4 => h v' w' ?_ ?_)
  · rw [Nat.zero_add, List.nil_append] at h2; exact h2
  · refine ⟨h3.os, h3.tape, h3.output, Nat.le_trans (by simp) h3.size, fun k hk _ => (h3.block k (by simp; omega) (fun e => ?_)).trans (Below.heap_alloc w _ k hk)⟩
    simp [Value.ownBlock] at e
    omega
theorem oneStr (ss : List ByteArray) : ∀ u ∈ strV ss, u.oneCell' = true := by
  intro u hu
  obtain ⟨s, _, rfl⟩ := List.mem_map.1 hu
  rfl
theorem reads_init {w : World} {B n : Nat} {A : Option Addr} {ys : List Value} {u : Value} (h : Reads w B 1 A (n + 1) (ys ++ [u])) : Reads w B 1 A n ys := by
  have hl := h.1
  simp at hl
  refine ⟨by omega, fun hn => ?_⟩
  obtain ⟨ad, e, hb, hc⟩ := h.2 (by omega)
  refine ⟨ad, e, hb, fun j v hj => hc j v ?_⟩
  have : j < ys.length := by
    rcases Nat.lt_or_ge j ys.length with h | h
    · exact h
    · rw [List.getElem?_eq_none h] at hj; cases hj
  rw [List.getElem?_append_left this]; exact hj
theorem Reads.u8 {w : World} {B n : Nat} {A : Option Addr} {l : List UInt8} (h : Reads w B 1 A n (u8s l)) : l.length = n := by
  have := h.1; rw [u8s_length] at this; omega

theorem tmod_bd (n : Int) (k : Int) (hk : 0 < k) : -k < n.tmod k ∧ n.tmod k < k := by
  have h2 : 0 ≤ n % k := Int.emod_nonneg _ (by omega)
  have h3 : n % k < k := Int.emod_lt_of_pos _ hk
  have h4 : (k.natAbs : Int) = k := by omega
  rw [Int.tmod_eq_emod]
  split
  · exact ⟨by omega, by omega⟩
  · rename_i h
    have : n % k ≠ 0 := fun e => h (Or.inr (Int.dvd_of_emod_eq_zero e))
    rw [h4]; exact ⟨by omega, by omega⟩

theorem elemStr : Elem1 Tryd.prog 81 9 (.string ByteArray.empty) 16 := Elem1.of (by kernel_rfl) (by kernel_rfl) rfl
theorem elemByte : Elem1 Tryd.prog 59 5 (.int .u8 0) 1 := Elem1.of (by kernel_rfl) (by kernel_rfl) rfl
theorem bytes_made (w : World) (n : Nat) (hn : n ≤ 70368744177664) :
    (Instr.makeSlice 59 (.int .i64 (n : Int)) (.int .i64 (n : Int))).run Tryd.prog w = .ok (.slice (some ⟨w.heap.size, 0, none⟩) n n) (w.alloc (.cells (madeCells #[.int .u8 0] n) 5)) := by
  obtain ⟨i, hi, h1, h2, h3⟩ := elemByte.info
  have := run_make_rowN (P := Tryd.prog) 59 5 i _ (by kernel_rfl) hi h1 .i64 .i64 n n (Nat.le_refl _) (by rw [h3]; omega) (by omega) w
  rw [h2, Nat.mul_one] at this
  exact this
theorem xor_bits (a b : UInt8) : bits .xor .u8 (a.toNat : Int) (b.toNat : Int) = ((a ^^^ b).toNat : Int) := by
  rw [u8_xor_nat _ _ a.toNat_lt b.toNat_lt, UInt8.toNat_xor]def byteAt (s : ByteArray) (k : Nat) : UInt8 := s.data.toList.getD k 0
theorem byteAt_get (s : ByteArray) (k : Nat) (h : k < s.size) : s[k] = byteAt s k := by
  unfold byteAt
  rw [List.getD_eq_getElem?_getD, List.getElem?_eq_getElem (by rw [Array.length_toList]; exact h)]
  rfl
end Go.Proofs.YtpfccicahfncbaaDoor
