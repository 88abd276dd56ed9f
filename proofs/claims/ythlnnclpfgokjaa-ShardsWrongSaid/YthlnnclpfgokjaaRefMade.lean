/- Walks: the reference's Unit and Cauchy. -/
import Derived.Test.YthlnnclpfgokjaaMade
import Derived.Test.YthlnnclpfgokjaaFieldB
namespace Go.Proofs.Ythlnnclpfgokjaa
open Go.RowKit Gf
set_option linter.unusedVariables false
theorem bytes_made (w : World) (n : Nat) (hn : n ≤ 70368744177664) :
    (Instr.makeSlice 44 (.int .i64 (n : Int)) (.int .i64 (n : Int))).run Try.prog w = .ok (.slice (some ⟨w.heap.size, 0, none⟩) n n) (w.alloc (.cells (madeCells #[.int .u8 0] n) 5)) := by
  obtain ⟨i, hi, h1, h2, h3⟩ := elemByte.info
  have := run_make_rowN (P := Try.prog) 44 5 i _ (by kernel_rfl) hi h1 .i64 .i64 n n (Nat.le_refl _) (by rw [h3]; omega) (by omega) w
  rw [h2, Nat.mul_one] at this
  exact this
theorem made_set (w : World) (z v : Value) (n k : Nat) (T : TypeId) : (w.alloc (.cells ((madeCells #[z] n).setIfInBounds k v) T)).rowIs w.heap.size T n (fun x => if x = k then v else z) := by
  have := World.rowIs_alloc w ((madeCells #[z] n).setIfInBounds k v) T (fun x => if x = k then v else z) (fun i hi => by
    rw [Array.size_setIfInBounds, size_madeCells] at hi
    rw [Array.getElem?_setIfInBounds]
    by_cases e : i = k
    · subst e; simp [size_madeCells, hi]
    · rw [if_neg (fun h => e h.symm), if_neg e]
      simp [madeCells, hi, Nat.mod_one])
  rw [Array.size_setIfInBounds, size_madeCells] at this
  exact this
theorem add0 (g j : Nat) : ({ block := g, off := 0, spot := none } : Addr).add j = ⟨g, j, none⟩ := by unfold Addr.add; split <;> simp_all
theorem unit_cell (w : World) (m k : Nat) (T : TypeId) : ∀ j, j < m → (w.alloc (.cells ((madeCells #[.int .u8 0] m).setIfInBounds k (.int .u8 1)) T)).cell? (({ block := w.heap.size, off := 0 } : Addr).add j) = some (.int .u8 ((((List.range m).map fun j => if k = j then (1 : UInt8) else 0).getD j 0).toNat : Int)) := by
  intro j hj
  rw [add0, (made_set w (.int .u8 0) (.int .u8 1) m k T).cell hj]
  by_cases e : j = k
  · subst e; simp [hj]
  · have : ¬ k = j := fun h => e h.symm
    simp [hj, e, this]
theorem ref_step {w wr w' : World} {T : TypeId} {o : Obj} {v v' : Value} {k : Nat} {l : List ByteArray} {u : ByteArray} (h : wr.ownsRow w.heap.size T 1 v k (strV l) ∧ Below w.heap.size w wr)
    (ho : w'.ownsRow w.heap.size T 1 v' (k + 1) (strV l ++ [.string u])) (hg : (wr.alloc o).grownBy w' v.ownBlock) : w'.ownsRow w.heap.size T 1 v' (k + 1) (strV (l ++ [u])) ∧ Below w.heap.size w w' :=
  ⟨by simpa [strV] using ho, below_own (h.2.alloc h.2.size o) (h.1.alloc o) hg⟩
def matP (c : Nat) (F : Nat → Nat → UInt8) (k : Nat) : List ByteArray := mat k c F
theorem mat_succ (k c : Nat) (F : Nat → Nat → UInt8) : mat (k + 1) c F = mat k c F ++ [bs ((List.range c).map fun j => F k j)] := by
  simp [mat, List.range_succ]
set_option maxRecDepth 100000 in
theorem runit_any (n : Int) (w : World) :
    Calls Try.prog 24 #[.int .i64 n] w fun e w' => RetStrs w w' e (unitR n) := by
  by_cases h : n < 1 ∨ 64 < n
  · have X : Hid (unitR n = ([], 1)) := Lib.hid (by unfold unitR; rw [if_neg]; omega)
    rcases h with h | h
    · go_enter Try.func24, Try.ntmps24
      go_wp2
      go_ret2
      exact retNil w 1 _ X.out (Below.refl _ _)
    · go_enter Try.func24, Try.ntmps24
      go_wp2
      go_ret2
      exact retNil w 1 _ X.out (Below.refl _ _)
  · obtain ⟨m, rfl⟩ : ∃ m : Nat, n = m := ⟨n.toNat, by omega⟩
    have h1 : 1 ≤ m := by omega
    have h2 : m ≤ 64 := by omega
    have X : Hid (unitR (m : Int) = (mat m m (fun i j => if i = j then 1 else 0), 0)) := Lib.hid (by unfold unitR; rw [if_pos (by omega)]; rfl)
    clear h
    go_enter Try.func24, Try.ntmps24
    go_wp2
    go_loopw [4, 5, 6] (fun v i _ wr => ∃ k : Nat, k ≤ m ∧ i = .int .i64 k ∧ Hid (wr.ownsRow w.heap.size 9 1 v k (strV (mat k m (fun i j => if i = j then 1 else 0))) ∧ Below w.heap.size w wr)) (fun _ i _ _ => m - (intOf i).toNat)
    case atStart => exact ⟨0, by omega, rfl, Lib.hid ⟨World.ownsRow_nil _ _ _ _, Below.refl _ _⟩⟩
    case round =>
      obtain ⟨k, hk, rfl, HR⟩ := hrel
      by_cases hlt : k < m
      · have hmk := fun W => bytes_made W m (by omega)
        have hle := HR.out.2.size
        have hc0 : (wr.alloc (.cells (madeCells #[.int .u8 0] m) 5)).cell? ⟨wr.heap.size, k, none⟩ = some (.int .u8 0) := (World.rowIs_made wr (.int .u8 0) m 5).cell hlt
        have hk1 : k ≤ 4611686018427387904 := by omega
        have hk2 : (k + 1) * 16 ≤ 140737488355328 := by omega
        go_wp2_with (first
          | (with_reducible refine conv_str_wp (e := 5) (by kernel_rfl) (by kernel_rfl) (by kernel_rfl) rfl _ rfl ⟨wr.heap.size, 0, none⟩ m m rfl ((List.range m).map fun j => if k = j then 1 else 0) (by simp) (unit_cell wr m k _) ?_)
          | (at_builtin; refine append1_at elemStr rfl _ _ rfl w.heap.size _ k _ rfl (HR.out.1.alloc _) _ _ rfl (size1 _ _) rfl hk1 hk2 (alloc_le hle _) ?_; intro v' w' ho hg))
        have H' := Lib.hid (ref_step HR.out ho hg)
        go_roundw
        case rel => exact ⟨k + 1, by omega, by go_num, by rw [mat_succ]; exact H'⟩
        case measure => simp [intOf]; omega
      · obtain rfl : k = m := by omega
        go_wp2
        go_ret2
        refine ⟨_, by rw [X.out]; rfl, ?_, HR.out.2⟩
        rw [X.out]
        show wr.ownsRow w.heap.size _ 1 _ (mat k k _).length _
        rw [mat_length]
        exact HR.out.1

theorem rover_x (x y : Int) (a b : UInt8) (hx : x = (a.toNat : Int)) (hy : y = (b.toNat : Int)) (hb : b ≠ 0) (r : UInt8) (hr : r = gm a (inv b)) (w : World) :
    Calls Try.prog 17 #[.int .u8 x, .int .u8 y] w fun e w' => e = .returned (.tuple #[.int .u8 (r.toNat : Int), .int .i64 0]) ∧ w = w' := by
  subst hx hy hr
  have h := rover_any a b w
  unfold overB at h
  rw [if_neg hb] at h
  exact h
/-- 1 over each number below x, but 0. -/
def overV (x : Nat) : Nat → Value := fun i => .int .u8 (((if 1 ≤ i ∧ i < x then inv (UInt8.ofNat i) else 0).toNat : Int))
theorem over_step (x i : Nat) (h : 1 ≤ x) : (if i = x then (.int .u8 ((inv (UInt8.ofNat x)).toNat : Int)) else overV x i) = overV (x + 1) i := by
  unfold overV
  by_cases e : i = x
  · rw [if_pos e, if_pos ⟨by omega, by omega⟩, e]
  · rw [if_neg e]
    by_cases h2 : 1 ≤ i ∧ i < x
    · rw [if_pos h2, if_pos ⟨by omega, by omega⟩]
    · rw [if_neg h2, if_neg (by omega)]
theorem zeros_u8 : Try.zeroCells74 = Array.replicate 256 (.int .u8 0) := by kernel_rfl
theorem cauA_ne (i j : Nat) (hi : i < 64) (hj : j < 64) : cauA i j ≠ 0 := by
  intro h
  have h2 := congrArg (fun x => (x ^^^ UInt8.ofNat j).toNat) h
  simp only [cauA] at h2
  rw [UInt8.xor_assoc, UInt8.xor_self, UInt8.xor_zero, UInt8.zero_xor, UInt8.toNat_ofNat', UInt8.toNat_ofNat'] at h2
  omega
theorem cau_over (i j : Nat) (hi : i < 64) (hj : j < 64) : overV 256 (cauA i j).toNat = .int .u8 ((cauF i j).toNat : Int) := by
  unfold overV
  have h1 : (cauA i j).toNat ≠ 0 := fun h => cauA_ne i j hi hj (UInt8.toNat_inj.1 (by simpa using h))
  have h2 : (cauA i j).toNat < 256 := (cauA i j).toNat_lt
  rw [if_pos ⟨by omega, h2⟩, UInt8.ofNat_toNat]
  rfl
def cauRow (i n : Nat) : List UInt8 := (List.range n).map fun j => cauF i j
theorem cauRow_succ (i n : Nat) : cauRow i (n + 1) = cauRow i n ++ [cauF i n] := by simp [cauRow, List.range_succ]
theorem cau_bits2 (i j : Nat) (hi : i < 64) (hj : j < 64) : bits .xor .u8 (128 + (i : Int)) (j : Int) = ((cauA i j).toNat : Int) := cau_bits i j hi hj

theorem reads_u8 {w : World} {B n : Nat} {A : Option Addr} {l : List UInt8} (h : Reads w B 1 A n (u8s l)) (hn : 1 ≤ n) : ∃ ad, A = some ad ∧ ad.block < B ∧ ∀ j, j < n → w.cell? (ad.add j) = some (.int .u8 ((l.getD j 0).toNat : Int)) := by
  obtain ⟨ad, e, hb, hc⟩ := h.2 (by omega)
  refine ⟨ad, e, hb, fun j hj => hc j _ ?_⟩
  have hl : l.length = n := by have := h.1; rw [u8s_length] at this; omega
  simp [u8s, hl, hj, List.getD]

theorem rcauchy_bad (r c : Int) (w : World) (h : r < 1 ∨ 64 < r ∨ c < 1 ∨ 64 < c) :
    Calls Try.prog 26 #[.int .i64 r, .int .i64 c] w fun e w' => RetStrs w w' e (cauR r c) := by
  have X : Hid (cauR r c = ([], 1)) := Lib.hid (by unfold cauR; rw [if_neg]; omega)
  by_cases h1 : r < 1
  · go_enter Try.func26, Try.ntmps26
    go_wp2
    go_ret2
    exact retNil w 1 _ X.out (Below.refl _ _)
  by_cases h2 : 64 < r
  · go_enter Try.func26, Try.ntmps26
    go_wp2
    go_ret2
    exact retNil w 1 _ X.out (Below.refl _ _)
  by_cases h3 : c < 1
  · go_enter Try.func26, Try.ntmps26
    go_wp2
    go_ret2
    exact retNil w 1 _ X.out (Below.refl _ _)
  have h4 : 64 < c := by omega
  clear h
  go_enter Try.func26, Try.ntmps26
  go_wp2
  go_ret2
  exact retNil w 1 _ X.out (Below.refl _ _)

set_option maxRecDepth 100000 in
set_option maxHeartbeats 1000000 in
theorem rcauchy_any (r c : Int) (w : World) :
    Calls Try.prog 26 #[.int .i64 r, .int .i64 c] w fun e w' => RetStrs w w' e (cauR r c) := by
  by_cases h : r < 1 ∨ 64 < r ∨ c < 1 ∨ 64 < c
  · exact rcauchy_bad r c w h
  obtain ⟨m, rfl⟩ : ∃ m : Nat, r = m := ⟨r.toNat, by omega⟩
  obtain ⟨n, rfl⟩ : ∃ m : Nat, c = m := ⟨c.toNat, by omega⟩
  have h1 : 1 ≤ m := by omega
  have h2 : m ≤ 64 := by omega
  have h3 : 1 ≤ n := by omega
  have h4 : n ≤ 64 := by omega
  have X : Hid (cauR (m : Int) (n : Int) = (mat m n cauF, 0)) := Lib.hid (by unfold cauR; rw [if_pos (by omega)]; rfl)
  clear h
  have Z := Lib.hid (zeros_row w (T := 74) zeros_u8)
  have ZB : Hid (Below w.heap.size w (w.alloc (.cells Try.zeroCells74 74))) := Lib.hid ((Below.refl _ _).alloc (Nat.le_refl _) _)
  go_enter Try.func26, Try.ntmps26
  go_wp2
  go_loopw [7] (fun i wr => ∃ x : Nat, 1 ≤ x ∧ x ≤ 256 ∧ i = .int .i64 x ∧ Hid (wr.rowIs w.heap.size 74 256 (overV x) ∧ Below w.heap.size w wr)) (fun i _ => 256 - (intOf i).toNat)
  case atStart => exact ⟨1, by omega, by omega, rfl, Lib.hid ⟨Z.out.congr fun i _ => by unfold overV; rw [if_neg (by omega)]; rfl, ZB.out⟩⟩
  case round =>
    obtain ⟨x, hx1, hx2, rfl, HR⟩ := hrel
    by_cases hlt : x < 256
    · have hc1 : ∃ v, wr.cell? ⟨w.heap.size, x, none⟩ = some v := ⟨_, HR.out.1.cell hlt⟩
      obtain ⟨v1, hc1⟩ := hc1
      have hf1 : wr.frozen? ⟨w.heap.size, x, none⟩ = false := HR.out.1.frozen _
      have hxn : (x : Int) < 256 := by omega
      go_wp2_with fail
      refine (rover_x 1 x 1 (UInt8.ofNat x) rfl (u8_nat x hlt) (fun h => by have := congrArg UInt8.toNat h; rw [UInt8.toNat_ofNat'] at this; simp at this; omega) (inv (UInt8.ofNat x)) (one_gm _).symm _).mono ?_
      rintro e w' ⟨rfl, rfl⟩
      go_wp2
      go_roundw
      case rel => exact ⟨x + 1, by omega, by omega, by go_num, Lib.hid ⟨(HR.out.1.set x _).congr fun i _ => over_step x i hx1, HR.out.2.setCell (Nat.le_refl _) _⟩⟩
      case measure => simp [intOf]; omega
    · have HO : Hid (wr.rowIs w.heap.size 74 256 (overV 256) ∧ Below w.heap.size w wr) := Lib.hid (by
        have h := HR.out
        rw [show x = 256 from by omega] at h
        exact h)
      clear HR
      go_wp2
      go_loopw [8, 9, 10, 11] (fun v i _ _ wr => ∃ k : Nat, k ≤ m ∧ i = .int .i64 k ∧ Hid (wr.rowIs w.heap.size 74 256 (overV 256) ∧ wr.ownsRow w.heap.size 9 1 v k (strV (mat k n cauF)) ∧ Below w.heap.size w wr)) (fun _ i _ _ _ => m - (intOf i).toNat)
      case atStart => exact ⟨0, by omega, rfl, Lib.hid ⟨HO.out.1, World.ownsRow_nil _ _ _ _, HO.out.2⟩⟩
      case round =>
        obtain ⟨k, hk, rfl, HR⟩ := hrel
        by_cases hlt2 : k < m
        · go_wp2
          obtain ⟨wo, rfl⟩ : ∃ wo : World, wo = wr := ⟨_, rfl⟩
          have HK := Lib.hid HR.out
          clear HR
          go_loopw [10, 11] (fun v i wr => ∃ j : Nat, j ≤ n ∧ i = .int .i64 j ∧ Hid (wr.rowIs w.heap.size 74 256 (overV 256) ∧ wr.ownsRow w.heap.size 9 1 u8 k (strV (mat k n cauF)) ∧ wr.ownsRow w.heap.size 5 1 v j (u8s (cauRow k j)) ∧ Below w.heap.size w wr)) (fun _ i _ => n - (intOf i).toNat)
          case atStart => exact ⟨0, by omega, rfl, Lib.hid ⟨HK.out.1, HK.out.2.1, World.ownsRow_nil _ _ _ _, HK.out.2.2⟩⟩
          case round =>
            obtain ⟨j, hj, rfl, HJ⟩ := hrel
            by_cases hjl : j < n
            · have eb := cau_bits2 k j (by omega) (by omega)
              have hlt3 : (cauA k j).toNat < 256 := (cauA k j).toNat_lt
              have hb1 : 0 ≤ bits .xor .u8 (128 + (k : Int)) (j : Int) := by rw [eb]; omega
              have hb2 : bits .xor .u8 (128 + (k : Int)) (j : Int) < 256 := by rw [eb]; omega
              have hc1 : wr.cell? ⟨w.heap.size, (bits .xor .u8 (128 + (k : Int)) (j : Int)).toNat, none⟩ = some (.int .u8 ((cauF k j).toNat : Int)) := by
                rw [eb, Int.toNat_natCast, HJ.out.1.cell hlt3, cau_over k j (by omega) (by omega)]
              have hj1 : j ≤ 4611686018427387904 := by omega
              have hj2 : (j + 1) * 1 ≤ 140737488355328 := by omega
              clear eb
              go_wp2_with (at_builtin; refine append1_new elemByte rfl _ _ rfl w.heap.size _ j _ rfl HJ.out.2.2.1 _ rfl rfl hj1 hj2 HJ.out.2.2.2.size ?_; intro v' w' ho hg)
              have HJ' : Hid (w'.rowIs w.heap.size 74 256 (overV 256) ∧ w'.ownsRow w.heap.size 9 1 u8 k (strV (mat k n cauF)) ∧ w'.ownsRow w.heap.size 5 1 v' (j + 1) (u8s (cauRow k (j + 1))) ∧ Below w.heap.size w w') :=
                Lib.hid ⟨row_keep HJ.out.1 HJ.out.2.2.1 (by decide) hg, own_keep HJ.out.2.1 HJ.out.2.2.1 (by decide) hg, by rw [cauRow_succ]; simpa [u8s] using ho, below_own HJ.out.2.2.2 HJ.out.2.2.1 hg⟩
              clear ho hg
              go_roundw
              case rel => exact ⟨j + 1, by omega, by go_num, HJ'⟩
              case measure => simp [intOf]; omega
            · obtain rfl : j = n := by omega
              obtain ⟨A, cc, rfl, hrb⟩ := own_reads HJ.out.2.2.1
              obtain ⟨ad, rfl, _, hcell⟩ := reads_u8 hrb h3
              have HC := Lib.hid hcell
              have hle := HJ.out.2.2.2.size
              have hk1 : k ≤ 4611686018427387904 := by omega
              have hk2 : (k + 1) * 16 ≤ 140737488355328 := by omega
              have hlen : (cauRow k j).length = j := by simp [cauRow]
              have HL := Lib.hid hlen
              clear hrb hcell hlen
              go_wp2_with (first
                | (with_reducible refine conv_str_wp (e := 5) (by kernel_rfl) (by kernel_rfl) (by kernel_rfl) rfl _ rfl ad j cc rfl (cauRow k j) HL.out HC.out ?_)
                | (at_builtin; refine append1_new elemStr rfl _ _ rfl w.heap.size _ k _ rfl HJ.out.2.1 _ rfl rfl hk1 hk2 hle ?_; intro v' w' ho hg))
              have HK' : Hid (w'.rowIs w.heap.size 74 256 (overV 256) ∧ w'.ownsRow w.heap.size 9 1 v' (k + 1) (strV (mat (k + 1) j cauF)) ∧ Below w.heap.size w w') :=
                Lib.hid ⟨row_keep HJ.out.1 HJ.out.2.1 (by decide) hg, by rw [mat_succ]; simpa [strV, cauRow] using ho, below_own HJ.out.2.2.2 HJ.out.2.1 hg⟩
              clear ho hg
              go_roundw
              case rel => exact ⟨k + 1, by omega, by go_num, HK'⟩
              case measure => simp [intOf]; omega
        · obtain rfl : k = m := by omega
          go_wp2
          go_ret2
          refine ⟨_, by rw [X.out]; rfl, ?_, HR.out.2.2⟩
          rw [X.out]
          show wr.ownsRow w.heap.size _ 1 _ (mat k n _).length _
          rw [mat_length]
          exact HR.out.2.1
end Go.Proofs.Ythlnnclpfgokjaa
