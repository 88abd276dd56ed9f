/- Words for two rows of one type, for bools, for a row cut short; walk: the row chosen in shards.Rebuild. -/
import Derived.Test.YthlnnclpfgokjaaShG
namespace Go.Proofs.Ythlnnclpfgokjaa
open Go.RowKit Gf
set_option linter.unusedVariables false
theorem reads_takeS {w : World} {B n k : Nat} {A : Option Addr} {l : List ByteArray} (h : Reads w B 1 A n (strV l)) (hk : k ≤ n) : Reads w B 1 A k (strV (l.take k)) := by
  have hl := h.len
  refine ⟨by rw [strV_length, List.length_take]; omega, fun h0 => ?_⟩
  obtain ⟨ad, e, hb, hc⟩ := h.2 (by omega)
  refine ⟨ad, e, hb, fun j u hj => hc j u ?_⟩
  simp only [strV, List.map_take] at hj ⊢
  rw [List.getElem?_take] at hj
  split at hj
  · exact hj
  · cases hj
theorem own_readsC {w : World} {base : Nat} {e : TypeId} {size n : Nat} {v : Value} {xs : List Value} (h : w.ownsRow base e size v n xs) : ∃ A c, v = .slice A n c ∧ n ≤ c ∧ Reads w w.heap.size size A n xs := by
  obtain ⟨A, c, rfl, hr⟩ := own_reads h
  refine ⟨A, c, rfl, ?_, hr⟩
  rcases h.2 with ⟨h1, h2⟩ | ⟨g, cap, cur, h1, _, _, hc, _⟩
  · omega
  · simp only [Value.slice.injEq] at h1; omega
/-- Two rows of one type, of the call's own, in blocks of their own. -/
structure Two (w : World) (base : Nat) (t : TypeId) (v : Value) (n : Nat) (xs : List Value) (v' : Value) (n' : Nat) (xs' : List Value) : Prop where
  o1 : w.ownsRow base t 1 v n xs
  o2 : w.ownsRow base t 1 v' n' xs'
  ne : ∀ g, v.ownBlock = some g → v'.ownBlock ≠ some g
section
variable {w w1 : World} {base n n' : Nat} {t : TypeId} {v v' v1 : Value} {xs xs' xs1 : List Value}
theorem Two.symm (h : Two w base t v n xs v' n' xs') : Two w base t v' n' xs' v n xs := ⟨h.o2, h.o1, fun g e e' => h.ne g e' e⟩
theorem Two.nil (w : World) (base : Nat) (t : TypeId) : Two w base t (.slice none 0 0) 0 [] (.slice none 0 0) 0 [] := ⟨World.ownsRow_nil _ _ _ _, World.ownsRow_nil _ _ _ _, fun g e => by cases e⟩
theorem Two.below (h : Two w base t v n xs v' n' xs') (hb : Below w.heap.size w w1) : Two w1 base t v n xs v' n' xs' := ⟨own_below h.o1 hb, own_below h.o2 hb, h.ne⟩
theorem Two.push {N : Nat} (h : Two w base t v n xs v' n' xs') (ho : w1.ownsRow base t 1 v1 N xs1) (hg : w.grownBy w1 v.ownBlock) (hd : v1.ownBlock = v.ownBlock ∨ v1.ownBlock = some (w.heap.size + 1)) :
    Two w1 base t v1 N xs1 v' n' xs' := by
  refine ⟨ho, h.o2.kept hg ?_, fun g e e' => ?_⟩
  · cases hv : v'.ownBlock with
    | none => exact .inl rfl
    | some g => exact .inr (fun e => h.ne g e.symm hv)
  · rcases hd with hd | hd
    · exact h.ne g (hd ▸ e) e'
    · rw [hd] at e
      injection e with e
      have := (h.o2.lt g e').2
      omega
end
def boolV (l : List Bool) : List Value := l.map Value.bool
theorem boolV_length (l : List Bool) : (boolV l).length = l.length := by simp [boolV]
theorem Reads.boolLen {w : World} {B n : Nat} {A : Option Addr} {l : List Bool} (h : Reads w B 1 A n (boolV l)) : l.length = n := by
  have := h.1; rw [boolV_length] at this; omega
theorem Reads.bool {w : World} {B n : Nat} {A : Option Addr} {l : List Bool} (h : Reads w B 1 A n (boolV l)) {k : Nat} (hk : k < n) :
    ∃ ad, A = some ad ∧ ad.block < B ∧ ∀ j, j < n → w.cell? (ad.add j) = some (.bool (l.getD j false)) := by
  obtain ⟨ad, e, hb, hc⟩ := h.2 (by omega)
  have hl := h.boolLen
  exact ⟨ad, e, hb, fun j hj => hc j _ (by simp [boolV, List.getD, show j < l.length by omega])⟩
theorem genRow_low (k i : Nat) (h : i < k) : genRow k i = sAt (mat k k fun i j => if i = j then 1 else 0) i := by
  rw [sAt_mat _ _ _ _ h]
  unfold genRow
  congr 1
  refine List.map_congr_left fun j _ => ?_
  unfold genF; rw [if_pos h]
theorem genRow_high (k m i : Nat) (h : k ≤ i) (hi : i - k < m) : genRow k i = sAt (mat m k cauF) (i - k) := by
  rw [sAt_mat _ _ _ _ hi]
  unfold genRow
  congr 1
  refine List.map_congr_left fun j _ => genF_cau _ _ _ h
set_option maxRecDepth 100000 in
theorem row_any (i k m : Nat) (P5 P8 P10 : Addr) (A1 A2 : Option Addr) (c1 c2 : Nat) (B1 B2 : Nat) (w : World) (h5 : w.cell? P5 = some (.int .i64 (k : Int))) (h8 : w.cell? P8 = some (.slice A1 k c1)) (h10 : w.cell? P10 = some (.slice A2 m c2))
    (hu : Reads w B1 1 A1 k (strV (mat k k fun i j => if i = j then 1 else 0))) (hp : Reads w B2 1 A2 m (strV (mat m k cauF))) (hi : i < k + m) (hk : k ≤ 64) (hm : m ≤ 64) :
    Calls Try.prog 68 #[.int .i64 (i : Int), .pointer (some P5), .pointer (some P8), .pointer (some P10)] w fun e w' => e = .returned (.string (genRow k i)) ∧ w = w' := by
  by_cases h : i < k
  · obtain ⟨ad, rfl, _, hc⟩ := hu.str h
    have hci := hc i h
    have HE := Lib.hid (genRow_low k i h)
    clear hc hu hp
    go_enter Try.func68, Try.ntmps68
    go_wp2
    go_ret
    exact ⟨by rw [HE.out]; rfl, rfl⟩
  · obtain ⟨j, rfl⟩ : ∃ j, i = k + j := ⟨i - k, by omega⟩
    have hj : j < m := by omega
    obtain ⟨ad, rfl, _, hc⟩ := hp.str hj
    have hci := hc j hj
    have HE : Hid (genRow k (k + j) = sAt (mat m k cauF) j) := Lib.hid (by rw [genRow_high k m (k + j) (by omega) (by omega)]; congr 1; omega)
    clear hc hu hp
    have he : ((k + j : Nat) : Int) - (k : Int) = (j : Int) := by omega
    go_enter Try.func68, Try.ntmps68
    go_wp2
    go_ret
    exact ⟨by rw [HE.out]; rfl, rfl⟩
end Go.Proofs.Ythlnnclpfgokjaa
