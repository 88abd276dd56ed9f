/- Several texts of the claim joined into one (part 2): plain facts and walks. No conditions but those that each theorem tells. -/
import Derived.Test.YthlnnclpfgokjaaRows
import Derived.Test.YthlnnclpfgokjaaMgShardsLinear1
import Derived.WalkKit
import Derived.ProofKit
import Derived.OpenShut
import Derived.WalkLawsBesides
import Derived.WalkSpells
import Derived.Handy
import Derived.Outline
import Derived.Lib.Hide
import Derived.Laws.BitsAllLaws
import Derived.StillTailTactics
import Derived.BigRegion
namespace Go.Proofs.Ythlnnclpfgokjaa
open Go.RowKit Gf

theorem xt_bits (a : UInt8) : bits .xor .u8 ((a.toNat : Int) * 2 % 256) ((a.toNat : Int) / 128 * 29) = ((xt a).toNat : Int) :=
  eq_of_beq (all256 (fun a => bits .xor .u8 ((a.toNat : Int) * 2 % 256) ((a.toNat : Int) / 128 * 29) == ((xt a).toNat : Int)) (by decide +kernel) a)
theorem xor_bits (a b : UInt8) : bits .xor .u8 (a.toNat : Int) (b.toNat : Int) = ((a ^^^ b).toNat : Int) := by
  rw [u8_xor_nat _ _ a.toNat_lt b.toNat_lt, UInt8.toNat_xor]
theorem and1_u8 (b : Nat) (h : b < 256) : (bits .and .u8 (b : Int) 1 == 1) = decide (b % 2 = 1) := by
  have := u8_and_nat b 1 h (by omega)
  rw [nat_mask1] at this
  rw [show (1 : Int) = ((1 : Nat) : Int) from rfl, this]
  by_cases h1 : b % 2 = 1
  · simp [h1]
  · rw [decide_eq_false h1, beq_eq_false_iff_ne]; omega

theorem times_any (a b : UInt8) (w : World) :
    Calls Try.prog 22 #[.int .u8 (a.toNat : Int), .int .u8 (b.toNat : Int)] w fun e w' => e = .returned (.int .u8 ((gm a b).toNat : Int)) ∧ w = w' := by
  have ha : a.toNat < 256 := a.toNat_lt
  have hb : b.toNat < 256 := b.toNat_lt
  obtain ⟨r, hr⟩ : ∃ r, r = gm a b := ⟨_, rfl⟩
  rw [← hr]
  have Hr := Lib.hid hr
  clear hr
  go_enter Try.func22, Try.ntmps22
  go_wp2
  go_loop [0, 1, 5] (fun x y p => ∃ (n : Nat) (c d : UInt8) (b : Nat), b < 256 ∧ b < 2 ^ n ∧ x = .int .u8 (c.toNat : Int) ∧ y = .int .u8 b ∧ p = .int .u8 (d.toNat : Int) ∧ Hid (r = d ^^^ gmn n c b)) (fun _ y _ => (intOf y).toNat)
  case atStart => exact ⟨8, a, 0, b.toNat, hb, hb, rfl, rfl, rfl, Lib.hid (by rw [UInt8.zero_xor]; exact Hr.out)⟩
  case round =>
    obtain ⟨n, c, d, b, h1, h2, rfl, rfl, rfl, H⟩ := hrel
    have hc : c.toNat < 256 := c.toNat_lt
    have hd : d.toNat < 256 := d.toNat_lt
    by_cases hb0 : 0 < b
    · obtain ⟨m, rfl⟩ : ∃ m, n = m + 1 := by
        cases n with
        | zero => omega
        | succ m => exact ⟨m, rfl⟩
      by_cases h1' : b % 2 = 1
      · have ht : (bits .and .u8 (b : Int) 1 == 1) = true := by rw [and1_u8 b h1]; simpa using h1'
        have X := Lib.hid (xt_bits c)
        have Y := Lib.hid (xor_bits d c)
        clear h1'
        go_wp2
        go_round
        case rel =>
          refine ⟨m, xt c, d ^^^ c, b / 2, by omega, by rw [Nat.pow_succ] at h2; omega, by rw [X.out], by go_num, by rw [Y.out], Lib.hid ?_⟩
          rw [and1_u8 b h1] at ht
          rw [H.out, UInt8.xor_assoc, gmn, if_pos (of_decide_eq_true ht)]
        case measure => simp [intOf]; omega
      · have ht : (bits .and .u8 (b : Int) 1 == 1) = false := by rw [and1_u8 b h1]; simpa using h1'
        have X := Lib.hid (xt_bits c)
        clear h1'
        go_wp2
        go_round
        case rel =>
          refine ⟨m, xt c, d, b / 2, by omega, by rw [Nat.pow_succ] at h2; omega, by rw [X.out], by go_num, rfl, Lib.hid ?_⟩
          rw [and1_u8 b h1] at ht
          rw [H.out, gmn, if_neg (of_decide_eq_false ht), UInt8.zero_xor]
        case measure => simp [intOf]; omega
    · go_wp2
      go_ret
      refine ⟨?_, rfl⟩
      have : b = 0 := by omega
      subst this
      show Ending.returned (.int .u8 (d.toNat : Int)) = _
      rw [H.out]
      have g0 : ∀ n c, gmn n c 0 = 0 := by
        intro n; induction n with
        | zero => intro c; rfl
        | succ n ih => intro c; simp [gmn, ih]
      rw [g0, UInt8.xor_zero]

theorem i64_ofInt (a : Nat) (ha : a < 9223372036854775808) : (BitVec.ofInt 64 (a : Int)).toNat = a := by
  rw [BitVec.ofInt_natCast, BitVec.toNat_ofNat]; exact Nat.mod_eq_of_lt (by omega)
theorem i64_and_nat (a b : Nat) (ha : a < 9223372036854775808) (hb : b < 9223372036854775808) : bits .and .i64 (a : Int) (b : Int) = ((a &&& b : Nat) : Int) := by
  have hx : a &&& b < 2 ^ 63 := Nat.and_lt_two_pow _ (by omega)
  show IntKind.i64.wrap ((BitVec.ofInt 64 (a : Int) &&& BitVec.ofInt 64 (b : Int)).toNat : Int) = _
  rw [BitVec.toNat_and, i64_ofInt a ha, i64_ofInt b hb, IntKind.wrap_i64]
  omega
theorem and1_i64 (b : Nat) (h : b < 9223372036854775808) : (bits .and .i64 (b : Int) 1 == 1) = decide (b % 2 = 1) := by
  have := i64_and_nat b 1 h (by omega)
  rw [nat_mask1] at this
  rw [show (1 : Int) = ((1 : Nat) : Int) from rfl, this]
  by_cases h1 : b % 2 = 1
  · simp [h1]
  · rw [decide_eq_false h1, beq_eq_false_iff_ne]; omega

theorem power_any (a : UInt8) (n : Nat) (hn : n < 256) (w : World) :
    Calls Try.prog 56 #[.int .u8 (a.toNat : Int), .int .i64 (n : Int)] w fun e w' => e = .returned (.int .u8 ((pw a n).toNat : Int)) ∧ w = w' := by
  obtain ⟨r, hr⟩ : ∃ r, r = pw a n := ⟨_, rfl⟩
  rw [← hr]
  have Hr := Lib.hid hr
  clear hr
  go_enter Try.func56, Try.ntmps56
  go_wp2
  go_loop [0, 1, 5] (fun x y p => ∃ (f : Nat) (c d : UInt8) (b : Nat), b < 256 ∧ b < 2 ^ f ∧ x = .int .u8 (c.toNat : Int) ∧ y = .int .i64 b ∧ p = .int .u8 (d.toNat : Int) ∧ Hid (r = sq f d c b)) (fun _ y _ => (intOf y).toNat)
  case atStart => exact ⟨8, a, 1, n, hn, hn, rfl, rfl, rfl, Lib.hid (by rw [sq_pw 8 1 a n hn, one_gm]; exact Hr.out)⟩
  case round =>
    obtain ⟨f, c, d, b, h1, h2, rfl, rfl, rfl, H⟩ := hrel
    by_cases hb0 : 0 < b
    · obtain ⟨m, rfl⟩ : ∃ m, f = m + 1 := by
        cases f with
        | zero => omega
        | succ m => exact ⟨m, rfl⟩
      by_cases h1' : b % 2 = 1
      · have ht : (bits .and .i64 (b : Int) 1 == 1) = true := by rw [and1_i64 b (by omega)]; simpa using h1'
        clear h1'
        go_wp2_with (go_at_call 22; refine (times_any _ _ _).mono ?_; rintro e w' ⟨rfl, rfl⟩)
        go_round
        case rel =>
          refine ⟨m, gm c c, gm d c, b / 2, by omega, by rw [Nat.pow_succ] at h2; omega, rfl, by go_num, rfl, Lib.hid ?_⟩
          rw [and1_i64 b (by omega)] at ht
          rw [H.out, sq, if_neg (by omega), if_pos (of_decide_eq_true ht)]
        case measure => simp [intOf]; omega
      · have ht : (bits .and .i64 (b : Int) 1 == 1) = false := by rw [and1_i64 b (by omega)]; simpa using h1'
        clear h1'
        go_wp2_with (go_at_call 22; refine (times_any _ _ _).mono ?_; rintro e w' ⟨rfl, rfl⟩)
        go_round
        case rel =>
          refine ⟨m, gm c c, d, b / 2, by omega, by rw [Nat.pow_succ] at h2; omega, rfl, by go_num, rfl, Lib.hid ?_⟩
          rw [and1_i64 b (by omega)] at ht
          rw [H.out, sq, if_neg (by omega), if_neg (of_decide_eq_false ht)]
        case measure => simp [intOf]; omega
    · go_wp2
      go_ret
      refine ⟨?_, rfl⟩
      have : b = 0 := by omega
      subst this
      show Ending.returned (.int .u8 (d.toNat : Int)) = _
      rw [H.out]
      cases f <;> simp [sq]

theorem inverse_any (a : UInt8) (w : World) :
    Calls Try.prog 55 #[.int .u8 (a.toNat : Int)] w fun e w' => e = .returned (.int .u8 ((inv a).toNat : Int)) ∧ w = w' := by
  go_enter Try.func55, Try.ntmps55
  go_wp2_with (go_at_call 56; refine (power_any a 254 (by omega) _).mono ?_; rintro e w' ⟨rfl, rfl⟩)
  go_ret
  exact ⟨rfl, rfl⟩

theorem plus_any (a b : UInt8) (w : World) :
    Calls Try.prog 21 #[.int .u8 (a.toNat : Int), .int .u8 (b.toNat : Int)] w fun e w' => e = .returned (.int .u8 ((a ^^^ b).toNat : Int)) ∧ w = w' := by
  have X := Lib.hid (xor_bits a b)
  go_enter Try.func21, Try.ntmps21
  go_wp2
  go_ret
  exact ⟨by rw [← X.out]; rfl, rfl⟩

def overB (a b : UInt8) : UInt8 × Int := if b = 0 then (0, 1) else (gm a (inv b), 0)
def num (p : UInt8 × Int) : Value := .tuple #[.int .u8 (p.1.toNat : Int), .int .i64 p.2]

theorem u8_ne {b : UInt8} (h : ¬ b = 0) : ((b.toNat : Int) == 0) = false := by
  rw [beq_eq_false_iff_ne]; intro h'; exact h (UInt8.toNat_inj.1 (by simpa using h'))

theorem over_any (a b : UInt8) (w : World) :
    Calls Try.prog 18 #[.int .u8 (a.toNat : Int), .int .u8 (b.toNat : Int)] w fun e w' => e = .returned (num (overB a b)) ∧ w = w' := by
  by_cases h : b = 0
  · subst h
    go_enter Try.func18, Try.ntmps18
    go_wp2
    go_ret2
    exact ⟨rfl, rfl⟩
  · have ht := u8_ne h
    have X : Hid (overB a b = (gm a (inv b), 0)) := Lib.hid (by unfold overB; rw [if_neg h])
    clear h
    go_enter Try.func18, Try.ntmps18
    go_wp2_with (first | (go_at_call 55; refine (inverse_any _ _).mono ?_; rintro e w' ⟨rfl, rfl⟩) | (go_at_call 22; refine (times_any _ _ _).mono ?_; rintro e w' ⟨rfl, rfl⟩))
    go_ret2
    exact ⟨by rw [X.out]; rfl, rfl⟩

def powE (n : Int) : Nat := (n % 255).toNat
def powB (a : UInt8) (n : Int) : UInt8 × Int := if n = 0 then (1, 0) else if a = 0 then (if n < 0 then (0, 1) else (0, 0)) else (pw a (powE n), 0)

theorem powG_any (a : UInt8) (n : Int) (h1 : -9223372036854775808 ≤ n) (h2 : n ≤ 9223372036854775807) (w : World) :
    Calls Try.prog 20 #[.int .u8 (a.toNat : Int), .int .i64 n] w fun e w' => e = .returned (num (powB a n)) ∧ w = w' := by
  by_cases h0 : n = 0
  · subst h0
    go_enter Try.func20, Try.ntmps20
    go_wp2
    go_ret2
    exact ⟨rfl, rfl⟩
  · have hn : (n == 0) = false := by rw [beq_eq_false_iff_ne]; exact h0
    by_cases ha : a = 0
    · subst ha
      by_cases hneg : n < 0
      · have X : Hid (powB 0 n = (0, 1)) := Lib.hid (by unfold powB; rw [if_neg h0, if_pos rfl, if_pos hneg])
        clear h0
        go_enter Try.func20, Try.ntmps20
        go_wp2
        go_ret2
        exact ⟨by rw [X.out]; rfl, rfl⟩
      · have X : Hid (powB 0 n = (0, 0)) := Lib.hid (by unfold powB; rw [if_neg h0, if_pos rfl, if_neg hneg])
        clear h0
        go_enter Try.func20, Try.ntmps20
        go_wp2
        go_ret2
        exact ⟨by rw [X.out]; rfl, rfl⟩
    · have ht := u8_ne ha
      have X : Hid (powB a n = (pw a (powE n), 0)) := Lib.hid (by unfold powB; rw [if_neg h0, if_neg ha])
      clear h0 ha
      have e : n.tmod 255 % 255 = ((powE n : Nat) : Int) := by
        unfold powE
        rw [Int.tmod_eq_emod]; split <;> omega
      have b1 : -255 < n.tmod 255 := by rw [Int.tmod_eq_emod]; split <;> omega
      have b2 : n.tmod 255 < 255 := by rw [Int.tmod_eq_emod]; split <;> omega
      have hp : powE n < 256 := by unfold powE; omega
      have E := Lib.hid e
      clear e
      go_enter Try.func20, Try.ntmps20
      go_wp2_with fail
      rw [E.out]
      refine (power_any _ _ hp _).mono ?_; rintro e w' ⟨rfl, rfl⟩
      go_wp2
      go_ret2
      exact ⟨by rw [X.out]; rfl, rfl⟩
end Go.Proofs.Ythlnnclpfgokjaa
namespace Go.Proofs.Ythlnnclpfgokjaa
open Go.RowKit Gf
theorem swapW {P : Program} {f : FuncId} {args : Array Value} {w : World} {v : Value} (h : Calls P f args w fun e w' => e = .returned v ∧ w = w') : Calls P f args w fun e w' => e = .returned v ∧ w' = w :=
  h.mono fun _ _ ⟨he, hw⟩ => ⟨he, hw.symm⟩
/-- A row of bytes as values. -/
def u8V (G : Nat → UInt8) : Nat → Value := fun x => .int .u8 ((G x).toNat : Int)
/-- f times the numbers o, taken off the 128 from r on. -/
def takeG (G : Nat → UInt8) (r : Nat) (f : UInt8) (o : Nat → UInt8) (k : Nat) : Nat → UInt8 := fun x => if r ≤ x ∧ x < r + k then G x ^^^ gm f (o (x - r)) else G x

theorem take_step {w wr : World} {g N : Nat} {T : TypeId} {G : Nat → UInt8} {r : Nat} {f : UInt8} {o : Nat → UInt8} {k : Nat} {v : Int}
    (h : wr.rowIs g T N (u8V (takeG G r f o k)) ∧ w.grownBy wr (some g)) (hv : v = (((G (r + k)) ^^^ gm f (o k)).toNat : Int)) :
    (wr.drew.setCell ⟨g, r + k, none⟩ (.int .u8 v)).rowIs g T N (u8V (takeG G r f o (k + 1))) ∧ w.grownBy (wr.drew.setCell ⟨g, r + k, none⟩ (.int .u8 v)) (some g) := by
  refine ⟨(h.1.drew.set (r + k) (.int .u8 v)).congr fun i hi => ?_, only_setCell (only_drew h.2) (.inl rfl) _⟩
  by_cases e : i = r + k
  · subst e
    rw [if_pos rfl, hv]
    simp only [u8V, takeG]
    rw [if_pos ⟨by omega, by omega⟩, Nat.add_sub_cancel_left]
  · rw [if_neg e]
    simp only [u8V, takeG]
    by_cases h1 : r ≤ i ∧ i < r + k
    · rw [if_pos h1, if_pos ⟨by omega, by omega⟩]
    · rw [if_neg h1, if_neg (by omega)]

theorem take_src {w wr : World} {g N : Nat} {T : TypeId} {G : Nat → UInt8} {r : Nat} {f : UInt8} {g' N' p : Nat} {S : Nat → UInt8} {o : Nat → UInt8} {k : Nat}
    (h : wr.rowIs g T N (u8V (takeG G r f o k)) ∧ w.grownBy wr (some g)) (hS : w.rowIs g' T N' (u8V S)) (hp : p + 128 ≤ N')
    (hne : g' ≠ g ∨ (g' = g ∧ N' = N ∧ S = G ∧ (p + 128 ≤ r ∨ r + 128 ≤ p))) (hk : k < 128) : wr.cell? ⟨g', p + k, none⟩ = some (.int .u8 ((S (p + k)).toNat : Int)) := by
  rcases hne with hne | ⟨rfl, rfl, rfl, hd⟩
  · exact (hS.of_block (h.2.block g' hS.lt (fun e => hne (by injection e)))).cell (by omega)
  · rw [h.1.cell (i := p + k) (by omega)]
    simp only [u8V, takeG]
    rw [if_neg (by omega)]

set_option maxRecDepth 100000 in
/-- A row of another grid, or another row of this one, times f is taken off a row. -/
theorem take_any (w : World) (g N : Nat) (G : Nat → UInt8) (r : Nat) (f : UInt8) (g' N' p : Nat) (S : Nat → UInt8)
    (hG : w.rowIs g 72 N (u8V G)) (hr : r + 128 ≤ N)
    (hS : w.rowIs g' 72 N' (u8V S)) (hp : p + 128 ≤ N')
    (hne : g' ≠ g ∨ (g' = g ∧ N' = N ∧ S = G ∧ (p + 128 ≤ r ∨ r + 128 ≤ p))) :
    Calls Try.prog 60 #[.pointer (some ⟨g, r, none⟩), .int .u8 (f.toNat : Int), .pointer (some ⟨g', p, none⟩)] w
      fun e w' => e = .returned (.tuple #[]) ∧ w'.rowIs g 72 N (u8V (takeG G r f (fun j => S (p + j)) 128)) ∧ w.grownBy w' (some g) := by
  have HS := Lib.hid hS
  have HN := Lib.hid hne
  have HG := Lib.hid hG
  clear hS hne hG
  go_enter Try.func60, Try.ntmps60
  go_wp2
  go_loopw [7] (fun i wr => ∃ k : Nat, k ≤ 128 ∧ i = .int .i64 k ∧ Hid (wr.rowIs g 72 N (u8V (takeG G r f (fun j => S (p + j)) k)) ∧ w.grownBy wr (some g))) (fun i _ => 128 - (intOf i).toNat)
  case atStart => exact ⟨0, by omega, rfl, Lib.hid ⟨HG.out.congr fun i hi => by simp only [u8V, takeG]; rw [if_neg (by omega)], World.grownBy.refl _ _⟩⟩
  case round =>
    obtain ⟨k, hk, rfl, H⟩ := hrel
    by_cases hlt : k < 128
    · have hc1 : wr.cell? ⟨g, r + k, none⟩ = some (.int .u8 ((G (r + k)).toNat : Int)) := by
        have := H.out.1.cell (i := r + k) (by omega)
        rw [this]; simp [u8V, takeG]
      have hc2 := take_src H.out HS.out hp HN.out hlt
      have X := Lib.hid (xor_bits (G (r + k)) (gm f (S (p + k))))
      have hf1 : wr.frozen? ⟨g, r + k, none⟩ = false := H.out.1.frozen _
      go_wp2
      refine wp_region_still_tail 15 (by kernel_rfl) (by kernel_rfl) ?_
      simp only [List.take_succ_cons, List.take_zero, List.drop_succ_cons, List.drop_zero]
      repeat still_step
      still_call (swapW (times_any _ _ _))
      repeat still_step
      try refine wpStill_nil ?_
      go_wp2
      go_roundw
      case rel => exact ⟨k + 1, by omega, by go_num, Lib.hid (take_step H.out X.out)⟩
      case measure => simp [intOf]; omega
    · obtain rfl : k = 128 := by omega
      go_wp2
      go_end0
      exact ⟨rfl, H.out.1, H.out.2⟩

def timesG (G : Nat → UInt8) (r : Nat) (f : UInt8) (k : Nat) : Nat → UInt8 := fun x => if r ≤ x ∧ x < r + k then gm (G x) f else G x
theorem times_step {w wr : World} {g N : Nat} {T : TypeId} {G : Nat → UInt8} {r : Nat} {f : UInt8} {k : Nat}
    (h : wr.rowIs g T N (u8V (timesG G r f k)) ∧ w.grownBy wr (some g)) :
    (wr.drew.setCell ⟨g, r + k, none⟩ (.int .u8 ((gm (G (r + k)) f).toNat : Int))).rowIs g T N (u8V (timesG G r f (k + 1))) ∧ w.grownBy (wr.drew.setCell ⟨g, r + k, none⟩ (.int .u8 ((gm (G (r + k)) f).toNat : Int))) (some g) := by
  refine ⟨(h.1.drew.set (r + k) _).congr fun i hi => ?_, only_setCell (only_drew h.2) (.inl rfl) _⟩
  by_cases e : i = r + k
  · subst e
    rw [if_pos rfl]
    simp only [u8V, timesG]
    rw [if_pos ⟨by omega, by omega⟩]
  · rw [if_neg e]
    simp only [u8V, timesG]
    by_cases h1 : r ≤ i ∧ i < r + k
    · rw [if_pos h1, if_pos ⟨by omega, by omega⟩]
    · rw [if_neg h1, if_neg (by omega)]
set_option maxRecDepth 100000 in
theorem timesRow_any (w : World) (g N : Nat) (G : Nat → UInt8) (r : Nat) (f : UInt8)
    (hG : w.rowIs g 72 N (u8V G)) (hr : r + 128 ≤ N) :
    Calls Try.prog 69 #[.pointer (some ⟨g, r, none⟩), .int .u8 (f.toNat : Int)] w
      fun e w' => e = .returned (.tuple #[]) ∧ w'.rowIs g 72 N (u8V (timesG G r f 128)) ∧ w.grownBy w' (some g) := by
  have HG := Lib.hid hG
  clear hG
  go_enter Try.func69, Try.ntmps69
  go_wp2
  go_loopw [5] (fun i wr => ∃ k : Nat, k ≤ 128 ∧ i = .int .i64 k ∧ Hid (wr.rowIs g 72 N (u8V (timesG G r f k)) ∧ w.grownBy wr (some g))) (fun i _ => 128 - (intOf i).toNat)
  case atStart => exact ⟨0, by omega, rfl, Lib.hid ⟨HG.out.congr fun i hi => by simp only [u8V, timesG]; rw [if_neg (by omega)], World.grownBy.refl _ _⟩⟩
  case round =>
    obtain ⟨k, hk, rfl, H⟩ := hrel
    by_cases hlt : k < 128
    · have hc1 : wr.cell? ⟨g, r + k, none⟩ = some (.int .u8 ((G (r + k)).toNat : Int)) := by
        have := H.out.1.cell (i := r + k) (by omega)
        rw [this]; simp [u8V, timesG]
      have hf1 : wr.frozen? ⟨g, r + k, none⟩ = false := H.out.1.frozen _
      go_wp2
      refine wp_region_still_tail 11 (by kernel_rfl) (by kernel_rfl) ?_
      simp only [List.take_succ_cons, List.take_zero, List.drop_succ_cons, List.drop_zero]
      repeat still_step
      still_call (swapW (times_any _ _ _))
      repeat still_step
      try refine wpStill_nil ?_
      go_wp2
      go_roundw
      case rel => exact ⟨k + 1, by omega, by go_num, Lib.hid (times_step H.out)⟩
      case measure => simp [intOf]; omega
    · obtain rfl : k = 128 := by omega
      go_wp2
      go_end0
      exact ⟨rfl, H.out.1, H.out.2⟩
end Go.Proofs.Ythlnnclpfgokjaa
namespace Go.Proofs.Ythlnnclpfgokjaa
open Go.RowKit Gf
theorem elemStr : Elem1 Try.prog 28 9 (.string ByteArray.empty) 16 := Elem1.of (by kernel_rfl) (by kernel_rfl) rfl
theorem elemByte : Elem1 Try.prog 44 5 (.int .u8 0) 1 := Elem1.of (by kernel_rfl) (by kernel_rfl) rfl
theorem runStr {w : World} (ad : Addr) (len cap : Nat) (l : List UInt8) (hl : l.length = len) (hc : ∀ j, j < len → w.cell? (ad.add j) = some (.int .u8 ((l.getD j 0).toNat : Int))) :
    (convert 44 9 (.slice (some ad) len cap)).run Try.prog w = .ok (.string (bs l)) w := run_str _ 5 _ (by kernel_rfl) (by kernel_rfl) (by kernel_rfl) ad len cap l hl hc

/-- The bytes of row i, from a column on. -/
def cut (G : Nat → UInt8) (i f m : Nat) : List UInt8 := (List.range m).map fun j => G (i * 128 + f + j)
def textsL (G : Nat → UInt8) (f m n : Nat) : List ByteArray := (List.range n).map fun i => bs (cut G i f m)
theorem textsL_succ (G : Nat → UInt8) (f m k : Nat) : textsL G f m (k + 1) = textsL G f m k ++ [bs (cut G k f m)] := by
  simp [textsL, List.range_succ]

set_option maxRecDepth 100000 in
theorem texts_any (w : World) (g N n : Nat) (c : Nat) (G : Nat → UInt8) (f m : Nat) (hG : w.rowIs g 72 N (u8V G)) (hN : n * 128 ≤ N) (hn : n ≤ 64) (hc : n ≤ c) (hf : f + m ≤ 128) (hf1 : f < 128) :
    Calls Try.prog 57 #[.slice (some ⟨g, 0, none⟩) n c, .int .i64 (f : Int), .int .i64 (m : Int)] w
      fun e w' => ∃ v, e = .returned v ∧ w'.ownsRow w.heap.size 9 1 v n (strV (textsL G f m n)) ∧ Below w.heap.size w w' := by
  have HG := Lib.hid hG
  clear hG
  go_enter Try.func57, Try.ntmps57
  go_wp2_with (at_make; refine make0_wp elemStr rfl _ _ rfl w.heap.size _ _ _ n rfl rfl rfl (by omega) (by omega) (Nat.le_refl _) ?_; intro v0 w0 hown0 hg0)
  have hb0 := below_grown (Below.refl _ _) hg0 (by intro _ h; cases h)
  have H0 := Lib.hid (And.intro hown0 hb0)
  clear hown0 hb0 hg0
  go_loopw [7, 8, 14] (fun v x i wr => ∃ k : Nat, k ≤ n ∧ i = .int .i64 k ∧ Hid (wr.ownsRow w.heap.size 9 1 v k (strV (textsL G f m k)) ∧ Below w.heap.size w wr)) (fun _ _ i _ => n - (intOf i).toNat)
  case atStart => exact ⟨0, by omega, rfl, H0⟩
  case round =>
    obtain ⟨k, hk, rfl, H⟩ := hrel
    by_cases hlt : k < n
    · have hcut : ∀ W, (Instr.sliceAt 72 (.pointer (some ⟨g, k * 128, none⟩)) (some (.int .i64 (f : Int))) (some (.int .i64 ((f : Int) + (m : Int)))) none).run Try.prog W = .ok (.slice (some ⟨g, k * 128 + f, none⟩) m (128 - f)) W := fun W => by
        obtain ⟨i, hi, _, hz1, _⟩ := elemByte.info
        have := run_cut_array (P := Try.prog) W (t := 72) (n := 128) (by kernel_rfl) hi hz1 ⟨g, k * 128, none⟩ .i64 .i64 (f : Int) ((f : Int) + (m : Int)) f (f + m) rfl (by omega) (by omega) hf hf1
        rw [Nat.add_sub_cancel_left] at this
        rw [this]
        congr 3
        unfold Addr.add; split <;> simp_all
      have hstr : (convert 44 9 (.slice (some ⟨g, k * 128 + f, none⟩) m (128 - f))).run Try.prog wr = .ok (.string (bs (cut G k f m))) wr := by
        refine runStr _ _ _ _ (by simp [cut]) fun j hj => ?_
        have := ((HG.out.of_block (H.out.2.block g HG.out.lt)).cell (i := k * 128 + f + j) (by omega))
        have ea : ({ block := g, off := k * 128 + f, spot := none } : Addr).add j = ⟨g, k * 128 + f + j, none⟩ := by unfold Addr.add; split <;> simp_all
        rw [ea, this]
        simp [u8V, cut, List.getD, hj]
      go_wp2_with (at_builtin; refine append1_new elemStr rfl _ _ rfl w.heap.size _ k _ rfl H.out.1 (.string (bs (cut G k f m))) rfl rfl (by omega) (by omega) H.out.2.size ?_; intro v' w' ho hg)
      have H' : Hid (w'.ownsRow w.heap.size 9 1 v' (k + 1) (strV (textsL G f m (k + 1))) ∧ Below w.heap.size w w') := Lib.hid ⟨by rw [textsL_succ]; simpa [strV] using ho, below_own H.out.2 H.out.1 hg⟩
      go_roundw
      case rel => exact ⟨k + 1, by omega, by go_num, H'⟩
      case measure => simp [intOf]; omega
    · obtain rfl : k = n := by omega
      go_wp2
      go_ret
      exact ⟨_, rfl, H.out.1, H.out.2⟩

theorem rowInfo : (Try.prog.info? 72).map (fun i => (i.zero, i.size, i.bytes)) = some (some (.agg (Array.replicate 128 (.int .u8 0))), 128, 128) := by kernel_rfl
/-- The grid that a matrix's rows make: columns from the row's length on are 0. -/
def gridG (ss : List ByteArray) (k : Nat) : Nat → UInt8 := fun x => if x / 128 < k ∧ x % 128 < (sAt ss (x / 128)).size then (sAt ss (x / 128)).data.toList.getD (x % 128) 0 else 0

theorem rows_made (w : World) (n : Nat) (hn : n ≤ 64) :
    (Instr.makeSlice 70 (.int .i64 (n : Int)) (.int .i64 (n : Int))).run Try.prog w = .ok (.slice (some ⟨w.heap.size, 0, none⟩) n n) (w.alloc (.cells (madeCells (Value.agg (Array.replicate 128 (.int .u8 0))).cells (n * 128)) 72)) := by
  obtain ⟨i, hi, h1, h2, h3⟩ := info_parts rowInfo
  have := run_make_rowN (P := Try.prog) 70 72 i _ (by kernel_rfl) hi h1 .i64 .i64 n n (Nat.le_refl _) (by rw [h3]; omega) (by omega) w
  rw [h2] at this
  exact this
theorem rows_new (w : World) (n : Nat) : (w.alloc (.cells (madeCells (Value.agg (Array.replicate 128 (.int .u8 0))).cells (n * 128)) 72)).rowIs w.heap.size 72 (n * 128) (u8V fun _ => 0) :=
  rowIs_madeN w _ (.int .u8 0) _ _ (by show 0 < (Array.replicate 128 (Value.int .u8 0)).size; rw [Array.size_replicate]; omega) (by
    intro j hj
    have : (Value.agg (Array.replicate 128 (.int .u8 0))).cells = Array.replicate 128 (.int .u8 0) := rfl
    rw [this] at hj ⊢
    rw [Array.size_replicate] at hj
    rw [Array.getElem?_replicate, if_pos hj])

theorem data_length (s : ByteArray) : s.data.toList.length = s.size := by rw [Array.length_toList]; rfl
theorem grid_step (ss : List ByteArray) (k : Nat) (hz : (sAt ss k).size ≤ 128) (l : List UInt8) (hl : l = (sAt ss k).data.toList) (i : Nat) :
    over (u8V (gridG ss k)) (k * 128) (u8s l) i = u8V (gridG ss (k + 1)) i := by
  have hll : l.length = (sAt ss k).size := by rw [hl]; exact data_length _
  simp only [over, u8s_length, hll]
  by_cases h : k * 128 ≤ i ∧ i < k * 128 + (sAt ss k).size
  · have e1 : i / 128 = k := by omega
    have e2 : i - k * 128 = i % 128 := by omega
    rw [if_pos h, u8s_get _ _ (by omega), e2, hl]
    simp only [u8V, gridG, e1]
    rw [if_pos ⟨by omega, by omega⟩]
  · rw [if_neg h]
    simp only [u8V, gridG]
    by_cases h1 : i / 128 < k ∧ i % 128 < (sAt ss (i / 128)).size
    · rw [if_pos h1, if_pos ⟨by omega, h1.2⟩]
    · rw [if_neg h1, if_neg]
      intro h2
      by_cases e : i / 128 = k
      · rw [e] at h2; omega
      · exact h1 ⟨by omega, h2.2⟩

set_option maxRecDepth 100000 in
theorem grid_any (w : World) (B : Nat) (A : Option Addr) (n c : Nat) (ss : List ByteArray) (h : Reads w B 1 A n (strV ss)) (hB : B ≤ w.heap.size) (hn : n ≤ 64) (hz : ∀ s ∈ ss, s.size ≤ 128) :
    Calls Try.prog 58 #[.slice A n c] w
      fun e w' => e = .returned (.slice (some ⟨w.heap.size, 0, none⟩) n n) ∧ w'.rowIs w.heap.size 72 (n * 128) (u8V (gridG ss n)) ∧ Below w.heap.size w w' := by
  have H := Lib.hid h
  have HZ := Lib.hid hz
  have hmk := fun W => rows_made W n hn
  clear h hz
  go_enter Try.func58, Try.ntmps58
  go_wp2
  clear hmk
  go_loopw [4, 5, 11] (fun _ _ i wr => ∃ k : Nat, k ≤ n ∧ i = .int .i64 k ∧ Hid (wr.rowIs w.heap.size 72 (n * 128) (u8V (gridG ss k)) ∧ Below w.heap.size w wr)) (fun _ _ i _ => n - (intOf i).toNat)
  case atStart =>
    refine ⟨0, by omega, rfl, Lib.hid ⟨(rows_new w n).congr fun i hi => ?_, (Below.refl _ _).alloc (Nat.le_refl _) _⟩⟩
    simp only [u8V, gridG]; rw [if_neg (by omega)]
  case round =>
    obtain ⟨k, hk, rfl, HR⟩ := hrel
    by_cases hlt : k < n
    · obtain ⟨ad, rfl, hb, hc⟩ := ((H.out.below (HR.out.2.mono hB)).str hlt)
      have hck := hc k hlt
      have hzk : (sAt ss k).size ≤ 128 := HZ.out _ (sAt_mem (by rw [H.out.len]; omega))
      clear hc
      have hall : ∀ W, (Instr.sliceAt 72 (.pointer (some ⟨w.heap.size, k * 128, none⟩)) none none none).run Try.prog W = .ok (.slice (some ⟨w.heap.size, k * 128, none⟩) 128 128) W := fun W => by
        obtain ⟨i, hi, _⟩ := elemByte.info
        exact run_all_array W (by kernel_rfl) hi _
      have hm : Nat.min (sAt ss k).size 128 = (sAt ss k).size := Nat.min_eq_left hzk
      have HF : Hid (k * 128 + Nat.min (sAt ss k).size 128 ≤ n * 128) := Lib.hid (by rw [hm]; omega)
      have HM := Lib.hid hm
      clear hm
      go_wp2_with (with_reducible refine copyStr_wp rfl _ _ 44 9 5 rfl (by kernel_rfl) (by kernel_rfl) HR.out.1 (k * 128) 128 128 (sAt ss k) rfl rfl HF.out ?_; intro w' hr hg)
      have H' : Hid (w'.rowIs w.heap.size 72 (n * 128) (u8V (gridG ss (k + 1))) ∧ Below w.heap.size w w') := Lib.hid ⟨hr.congr fun i _ => grid_step ss k hzk _ (by
        rw [List.take_of_length_le (by rw [data_length]; first | exact Nat.le_refl _ | (rw [HM.out]; exact Nat.le_refl _))]) i, below_grown HR.out.2 hg (by intro g h; injection h with h; omega)⟩
      go_roundw
      case rel => exact ⟨k + 1, by omega, by go_num, H'⟩
      case measure => simp [intOf]; omega
    · obtain rfl : k = n := by omega
      go_wp2
      go_ret
      exact ⟨rfl, HR.out.1, HR.out.2⟩
end Go.Proofs.Ythlnnclpfgokjaa
namespace Go.Proofs.Ythlnnclpfgokjaa
open Go.RowKit Gf
/-- A matrix as rows of bytes. -/
def mat (r c : Nat) (F : Nat → Nat → UInt8) : List ByteArray := (List.range r).map fun i => bs ((List.range c).map fun j => F i j)
theorem mat_length (r c : Nat) (F : Nat → Nat → UInt8) : (mat r c F).length = r := by simp [mat]
theorem mat_congr {r c : Nat} {F F' : Nat → Nat → UInt8} (h : ∀ i j, i < r → j < c → F i j = F' i j) : mat r c F = mat r c F' := by
  unfold mat
  refine List.map_congr_left fun i hi => ?_
  congr 1
  exact List.map_congr_left fun j hj => h i j (by simpa using hi) (by simpa using hj)
theorem textsL_mat (G : Nat → UInt8) (f m n : Nat) : textsL G f m n = mat n m fun i j => G (i * 128 + f + j) := rfl
/-- What a function answers that tells a list of texts and an error's number. -/
def RetStrs (w w' : World) (e : Ending) (r : List ByteArray × Int) : Prop :=
  ∃ v, e = .returned (.tuple #[v, .int .i64 r.2]) ∧ w'.ownsRow w.heap.size 9 1 v r.1.length (strV r.1) ∧ Below w.heap.size w w'
theorem retNil (w : World) (k : Int) (r : List ByteArray × Int) (hr : r = ([], k)) {w' : World} (h : Below w.heap.size w w') : RetStrs w w' (.returned (.tuple #[.slice none 0 0, .int .i64 k])) r := by
  subst hr
  exact ⟨_, rfl, World.ownsRow_nil _ _ _ _, h⟩

def unitR (n : Int) : List ByteArray × Int := if 1 ≤ n ∧ n ≤ 64 then (mat n.toNat n.toNat (fun i j => if i = j then 1 else 0), 0) else ([], 1)
theorem unit_any (n : Int) (w : World) :
    Calls Try.prog 25 #[.int .i64 n] w fun e w' => RetStrs w w' e (unitR n) := by
  by_cases h : n < 1 ∨ 64 < n
  · have X : Hid (unitR n = ([], 1)) := Lib.hid (by unfold unitR; rw [if_neg]; omega)
    rcases h with h | h
    · go_enter Try.func25, Try.ntmps25
      go_wp2
      go_ret2
      exact retNil w 1 _ X.out (Below.refl _ _)
    · go_enter Try.func25, Try.ntmps25
      go_wp2
      go_ret2
      exact retNil w 1 _ X.out (Below.refl _ _)
  · obtain ⟨m, rfl⟩ : ∃ m : Nat, n = m := ⟨n.toNat, by omega⟩
    have h1 : 1 ≤ m := by omega
    have h2 : m ≤ 64 := by omega
    have X : Hid (unitR (m : Int) = (mat m m (fun i j => if i = j then 1 else 0), 0)) := Lib.hid (by unfold unitR; rw [if_pos (by omega)]; rfl)
    clear h
    have hmk := fun W => rows_made W m h2
    go_enter Try.func25, Try.ntmps25
    go_wp2
    clear hmk
    go_loopw [5, 16] (fun _ i wr => ∃ k : Nat, k ≤ m ∧ i = .int .i64 k ∧ Hid (wr.rowIs w.heap.size 72 (m * 128) (u8V fun x => if x / 128 < k ∧ x % 128 = x / 128 then 1 else 0) ∧ Below w.heap.size w wr)) (fun _ i _ => m - (intOf i).toNat)
    case atStart =>
      refine ⟨0, by omega, rfl, Lib.hid ⟨(rows_new w m).congr fun i hi => ?_, (Below.refl _ _).alloc (Nat.le_refl _) _⟩⟩
      simp only [u8V]; rw [if_neg (by omega)]
    case round =>
      obtain ⟨k, hk, rfl, HR⟩ := hrel
      by_cases hlt : k < m
      · have hc1 : ∃ v, wr.cell? ⟨w.heap.size, k * 128 + k, none⟩ = some v := ⟨_, HR.out.1.cell (by omega)⟩
        obtain ⟨v1, hc1⟩ := hc1
        have hf1 : wr.frozen? ⟨w.heap.size, k * 128 + k, none⟩ = false := HR.out.1.frozen _
        go_wp2
        go_roundw
        case rel =>
          refine ⟨k + 1, by omega, by go_num, Lib.hid ⟨(HR.out.1.set (k * 128 + k) _).congr fun i hi => ?_, HR.out.2.setCell (Nat.le_refl _) _⟩⟩
          simp only [u8V]
          by_cases e : i = k * 128 + k
          · rw [if_pos e, if_pos (by omega)]; rfl
          · rw [if_neg e]
            by_cases h3 : i / 128 < k ∧ i % 128 = i / 128
            · rw [if_pos h3, if_pos (by omega)]
            · rw [if_neg h3, if_neg (by omega)]
        case measure => simp [intOf]; omega
      · obtain rfl : k = m := by omega
        go_wp2_with (go_at_call 57; refine (texts_any _ w.heap.size (k * 128) k k _ 0 k HR.out.1 (by omega) (by omega) (by omega) (by omega) (by omega)).mono ?_; rintro e w2 ⟨v2, rfl, ho2, hb2⟩)
        go_ret2
        refine ⟨v2, by rw [X.out]; rfl, ?_, HR.out.2.trans (hb2.mono HR.out.2.size)⟩
        rw [X.out]
        have e1 : textsL (fun x => if x / 128 < k ∧ x % 128 = x / 128 then 1 else 0) 0 k k = mat k k (fun i j => if i = j then 1 else 0) := by
          rw [textsL_mat]
          refine mat_congr fun i j hi hj => ?_
          have e1 : (i * 128 + 0 + j) / 128 = i := by omega
          have e2 : (i * 128 + 0 + j) % 128 = j := by omega
          rw [e1, e2]
          by_cases e : i = j
          · rw [if_pos e, if_pos ⟨hi, e.symm⟩]
          · rw [if_neg e, if_neg (fun h => e h.2.symm)]
        rw [e1] at ho2
        rw [mat_length]
        exact own_base ho2 HR.out.2.size

/-- The number at row i, column j of a Cauchy matrix. -/
def cauA (i j : Nat) : UInt8 := UInt8.ofNat (128 + i) ^^^ UInt8.ofNat j
def cauF (i j : Nat) : UInt8 := inv (cauA i j)
def cauR (r c : Int) : List ByteArray × Int := if 1 ≤ r ∧ r ≤ 64 ∧ 1 ≤ c ∧ c ≤ 64 then (mat r.toNat c.toNat cauF, 0) else ([], 1)
theorem inverse_x (x : Int) (u : UInt8) (hx : x = (u.toNat : Int)) (w : World) :
    Calls Try.prog 55 #[.int .u8 x] w fun e w' => e = .returned (.int .u8 ((inv u).toNat : Int)) ∧ w' = w := by
  subst hx; exact swapW (inverse_any u w)
theorem u8_nat (n : Nat) (h : n < 256) : (n : Int) = ((UInt8.ofNat n).toNat : Int) := by rw [UInt8.toNat_ofNat']; omega
theorem cau_bits (i j : Nat) (hi : i < 64) (hj : j < 64) : bits .xor .u8 (128 + (i : Int)) (j : Int) = ((UInt8.ofNat (128 + i) ^^^ UInt8.ofNat j).toNat : Int) := by
  rw [← xor_bits, ← u8_nat _ (by omega), ← u8_nat _ (by omega)]; simp

theorem cau_bitsW (i j : Nat) (hi : i < 64) (hj : j < 64) : bits .xor .u8 (IntKind.u8.wrap (IntKind.i64.wrap (128 + (i : Int)))) (IntKind.u8.wrap (j : Int)) = ((cauA i j).toNat : Int) := by
  rw [IntWalk.i64_in _ (by omega), IntWalk.u8_in _ (by omega), IntWalk.u8_in _ (by omega)]
  exact cau_bits i j hi hj

theorem cauchy_bad (r c : Int) (w : World) (h : r < 1 ∨ 64 < r ∨ c < 1 ∨ 64 < c) :
    Calls Try.prog 27 #[.int .i64 r, .int .i64 c] w fun e w' => RetStrs w w' e (cauR r c) := by
  have X : Hid (cauR r c = ([], 1)) := Lib.hid (by unfold cauR; rw [if_neg]; omega)
  by_cases h1 : r < 1
  · go_enter Try.func27, Try.ntmps27
    go_wp2
    go_ret2
    exact retNil w 1 _ X.out (Below.refl _ _)
  by_cases h2 : 64 < r
  · go_enter Try.func27, Try.ntmps27
    go_wp2
    go_ret2
    exact retNil w 1 _ X.out (Below.refl _ _)
  by_cases h3 : c < 1
  · go_enter Try.func27, Try.ntmps27
    go_wp2
    go_ret2
    exact retNil w 1 _ X.out (Below.refl _ _)
  have h4 : 64 < c := by omega
  clear h
  go_enter Try.func27, Try.ntmps27
  go_wp2
  go_ret2
  exact retNil w 1 _ X.out (Below.refl _ _)

def cauG (n k j : Nat) : Nat → UInt8 := fun x => if (x / 128 < k ∧ x % 128 < n) ∨ (x / 128 = k ∧ x % 128 < j) then cauF (x / 128) (x % 128) else 0
theorem cau_set {n k j x : Nat} (hj : j < 128) : (if x = k * 128 + j then (.int .u8 ((cauF k j).toNat : Int)) else u8V (cauG n k j) x) = u8V (cauG n k (j + 1)) x := by
  simp only [u8V, cauG]
  by_cases e : x = k * 128 + j
  · have e1 : x / 128 = k := by omega
    have e2 : x % 128 = j := by omega
    rw [if_pos e, e1, e2, if_pos (.inr ⟨rfl, by omega⟩)]
  · rw [if_neg e]
    by_cases h : (x / 128 < k ∧ x % 128 < n) ∨ (x / 128 = k ∧ x % 128 < j)
    · rw [if_pos h, if_pos (by omega)]
    · rw [if_neg h, if_neg (by omega)]

set_option maxRecDepth 100000 in
set_option maxHeartbeats 400000 in
theorem cauchy_any (r c : Int) (w : World) :
    Calls Try.prog 27 #[.int .i64 r, .int .i64 c] w fun e w' => RetStrs w w' e (cauR r c) := by
  by_cases h : r < 1 ∨ 64 < r ∨ c < 1 ∨ 64 < c
  · exact cauchy_bad r c w h
  obtain ⟨m, rfl⟩ : ∃ m : Nat, r = m := ⟨r.toNat, by omega⟩
  obtain ⟨n, rfl⟩ : ∃ m : Nat, c = m := ⟨c.toNat, by omega⟩
  have h1 : 1 ≤ m := by omega
  have h2 : m ≤ 64 := by omega
  have h3 : 1 ≤ n := by omega
  have h4 : n ≤ 64 := by omega
  have X : Hid (cauR (m : Int) (n : Int) = (mat m n cauF, 0)) := Lib.hid (by unfold cauR; rw [if_pos (by omega)]; rfl)
  clear h
  have hmk := fun W => rows_made W m h2
  go_enter Try.func27, Try.ntmps27
  go_wp2
  clear hmk
  go_loopw [7, 8, 27, 31] (fun _ _ i _ wr => ∃ k : Nat, k ≤ m ∧ i = .int .i64 k ∧ Hid (wr.rowIs w.heap.size 72 (m * 128) (u8V (cauG n k 0)) ∧ Below w.heap.size w wr)) (fun _ _ i _ _ => m - (intOf i).toNat)
  case atStart =>
    refine ⟨0, by omega, rfl, Lib.hid ⟨(rows_new w m).congr fun i hi => ?_, (Below.refl _ _).alloc (Nat.le_refl _) _⟩⟩
    simp only [u8V, cauG]; rw [if_neg (by omega)]
  case round =>
    obtain ⟨k, hk, rfl, HR⟩ := hrel
    by_cases hlt : k < m
    · go_wp2
      obtain ⟨wo, rfl⟩ : ∃ wo : World, wo = wr := ⟨_, rfl⟩
      go_loopw [8, 31] (fun _ i wr => ∃ j : Nat, j ≤ n ∧ i = .int .i64 j ∧ Hid (wr.rowIs w.heap.size 72 (m * 128) (u8V (cauG n k j)) ∧ Below w.heap.size w wr)) (fun _ i _ => n - (intOf i).toNat)
      case atStart => exact ⟨0, by omega, rfl, HR⟩
      case round =>
        obtain ⟨j, hj, rfl, HI⟩ := hrel
        by_cases hjl : j < n
        · have hc1 : ∃ v, wr.cell? ⟨w.heap.size, k * 128 + j, none⟩ = some v := ⟨_, HI.out.1.cell (by omega)⟩
          obtain ⟨v1, hc1⟩ := hc1
          have hf1 : wr.frozen? ⟨w.heap.size, k * 128 + j, none⟩ = false := HI.out.1.frozen _
          have hj128 : (j : Int) < 128 := by omega
          have Y := Lib.hid (cau_bitsW k j (by omega) (by omega))
          go_wp2
          refine wp_region_still_tail 12 (by kernel_rfl) (by kernel_rfl) ?_
          simp only [List.take_succ_cons, List.take_zero, List.drop_succ_cons, List.drop_zero]
          repeat still_step
          still_call (inverse_x _ _ Y.out _)
          repeat still_step
          try refine wpStill_nil ?_
          go_wp2
          go_roundw
          case rel => exact ⟨j + 1, by omega, by go_num, Lib.hid ⟨(HI.out.1.drew.set (k * 128 + j) _).congr fun i hi => cau_set (by omega), (HI.out.2.drew).setCell (Nat.le_refl _) _⟩⟩
          case measure => simp [intOf]; omega
        · obtain rfl : j = n := by omega
          go_wp2
          go_roundw
          case rel =>
            refine ⟨k + 1, by omega, by go_num, Lib.hid ⟨HI.out.1.congr fun i hi => ?_, HI.out.2⟩⟩
            simp only [u8V, cauG]
            by_cases h : (i / 128 < k ∧ i % 128 < j) ∨ (i / 128 = k ∧ i % 128 < j)
            · rw [if_pos h, if_pos (by omega)]
            · rw [if_neg h, if_neg (by omega)]
          case measure => simp [intOf]; omega
    · obtain rfl : k = m := by omega
      go_wp2_with (go_at_call 57; refine (texts_any _ w.heap.size (k * 128) k k _ 0 n HR.out.1 (by omega) (by omega) (by omega) (by omega) (by omega)).mono ?_; rintro e w2 ⟨v2, rfl, ho2, hb2⟩)
      go_ret2
      refine ⟨v2, by rw [X.out]; rfl, ?_, HR.out.2.trans (hb2.mono HR.out.2.size)⟩
      rw [X.out]
      have e1 : textsL (cauG n k 0) 0 n k = mat k n cauF := by
        rw [textsL_mat]
        refine mat_congr fun i j hi hj => ?_
        have e1 : (i * 128 + 0 + j) / 128 = i := by omega
        have e2 : (i * 128 + 0 + j) % 128 = j := by omega
        simp only [cauG]
        rw [e1, e2, if_pos (.inl ⟨hi, hj⟩)]
      rw [e1] at ho2
      rw [mat_length]
      exact own_base ho2 HR.out.2.size
end Go.Proofs.Ythlnnclpfgokjaa
namespace Go.Proofs.Ythlnnclpfgokjaa
open Go.RowKit
def row128 (w : World) (g off : Nat) : Array Value := ((List.range 128).map fun j => (w.cell? ⟨g, off + j, none⟩).getD undef).toArray
/-- The block is there, plain, and long enough. -/
def ok128 (w : World) (g off : Nat) : Bool := match w.heap[g]? with
  | some (.cells cur _ (0, 0)) => decide (off + 128 ≤ cur.size)
  | _ => false
def put128 (w : World) (g off : Nat) (vs : Array Value) : World := match w.heap[g]? with
  | some (.cells cur _ _) => w.setRow g (cur.toList.take off ++ vs.toList ++ cur.toList.drop (off + vs.toList.length)).toArray
  | _ => w
def full128 (vs : Array Value) : Bool := decide (vs.size = 128) && vs.all (·.oneCell')
theorem ok128_of {w : World} {g N off : Nat} {T : TypeId} {f : Nat → Value} (h : w.rowIs g T N f) (hfit : off + 128 ≤ N) : ok128 w g off = true := by
  obtain ⟨c, hb, hn, _⟩ := h
  unfold ok128; rw [hb]
  simp only [decide_eq_true_eq]; omega
theorem ok128_block {w : World} {g off : Nat} (h : ok128 w g off = true) : ∃ cur T, w.heap[g]? = some (.cells cur T (0, 0)) ∧ off + 128 ≤ cur.size := by
  unfold ok128 at h
  split at h
  · rename_i cur T hh; exact ⟨cur, T, hh, of_decide_eq_true h⟩
  · cases h
theorem row128_size (w : World) (g off : Nat) : (row128 w g off).size = 128 := by simp [row128]
theorem info128 : (Try.prog.info? 72).map (·.size) = some 128 := by kernel_rfl
theorem run_isAgg128 (w : World) : (isAgg 72).run Try.prog w = .ok true w := by kernel_rfl
theorem run_size128 (w : World) : (sizeOf 72).run Try.prog w = .ok 128 w := by kernel_rfl
theorem loadAt_row128 (w : World) (g off : Nat) (h : ok128 w g off = true) :
    (Instr.loadAt 72 (.pointer (some ⟨g, off, none⟩))).run Try.prog w = .ok (.agg (row128 w g off)) w := by
  obtain ⟨cur, T, hh, hs⟩ := ok128_block h
  have := run_loadCells_list (P := Try.prog) w ⟨g, off, none⟩ (row128 w g off).toList (fun j v hv => by
    have hj : j < 128 := by
      rcases Nat.lt_or_ge j 128 with h | h
      · exact h
      · rw [List.getElem?_eq_none (by rw [Array.length_toList, row128_size]; exact h)] at hv; cases hv
    have ea : ({ block := g, off := off, spot := none } : Addr).add j = ⟨g, off + j, none⟩ := by unfold Addr.add; split <;> simp_all
    rw [ea]
    simp [row128, hj] at hv
    rw [cell_of_row w g (off + j) cur T (0, 0) hh] at hv ⊢
    rw [Array.getElem?_eq_getElem (by omega)] at hv ⊢
    simpa using hv)
  rw [Array.length_toList, row128_size] at this
  simp only [Instr.loadAt, Instr.sureAddr, loadVar, Sem.run_bind, Sem.run_pure, Result.andThen, run_isAgg128, run_size128, if_true, this]
theorem storeAt_row128 (w : World) (g off : Nat) (vs : Array Value) (h : ok128 w g off = true) (hv : full128 vs = true) :
    (Instr.storeAt 72 (.pointer (some ⟨g, off, none⟩)) (.agg vs)).run Try.prog w = .ok () (put128 w g off vs) := by
  obtain ⟨cur, T, hh, hs⟩ := ok128_block h
  unfold full128 at hv
  rw [Bool.and_eq_true, decide_eq_true_eq] at hv
  have := run_storeCells_at Try.prog g off T vs.toList 0 cur w hh (by rw [Array.length_toList]; omega) (fun v hm => (Array.all_eq_true_iff_forall_mem.1 hv.2) v (by simpa using hm))
  have hc : (Value.agg vs).cells = vs := rfl
  simp only [Instr.storeAt, Instr.sureAddr, storeVar, Sem.run_bind, Sem.run_pure, Result.andThen, run_size128, hc, hv.1, ne_eq, not_true_eq_false, if_false, this]
  unfold put128
  rw [hh]
  simp
def ld128 (x : Value) : Sem Next := do pure (.value (← Instr.loadAt 72 x))
def st128 (x v : Value) : Sem Next := do Instr.storeAt 72 x v; pure .skip
theorem execOp_ld128 (ρ : Operand → Value) (dst : Option Tmp) (x : Operand) (ty : TypeId) (pos : String) (after : Array Edge) (guard : Option (Nat × Bool)) :
    execOp ρ { dst, op := .load 72 x, type := ty, pos, after, guard } = ld128 (ρ x) := rfl
theorem execOp_st128 (ρ : Operand → Value) (dst : Option Tmp) (x v : Operand) (ty : TypeId) (pos : String) (after : Array Edge) (guard : Option (Nat × Bool)) :
    execOp ρ { dst, op := .store 72 x v, type := ty, pos, after, guard } = st128 (ρ x) (ρ v) := rfl
theorem run_ld128 (w : World) (g off : Nat) (h : ok128 w g off = true) : (ld128 (.pointer (some ⟨g, off, none⟩))).run Try.prog w = .ok (.value (.agg (row128 w g off))) w := by
  unfold ld128
  simp only [Sem.run_bind, loadAt_row128 w g off h, Result.andThen, Sem.run_pure]
theorem run_st128 (w : World) (g off : Nat) (vs : Array Value) (h : ok128 w g off = true) (hv : full128 vs = true) : (st128 (.pointer (some ⟨g, off, none⟩)) (.agg vs)).run Try.prog w = .ok .skip (put128 w g off vs) := by
  unfold st128
  simp only [Sem.run_bind, storeAt_row128 w g off vs h hv, Result.andThen, Sem.run_pure]
theorem put128_row {w : World} {g N : Nat} {T : TypeId} {f : Nat → Value} (h : w.rowIs g T N f) (off : Nat) (vs : Array Value) (hfit : off + 128 ≤ N) (hv : full128 vs = true) :
    (put128 w g off vs).rowIs g T N (fun x => if off ≤ x ∧ x < off + 128 then vs.toList.getD (x - off) undef else f x) ∧ w.grownBy (put128 w g off vs) (some g) := by
  unfold full128 at hv
  rw [Bool.and_eq_true, decide_eq_true_eq] at hv
  obtain ⟨w', h1, h2, h3⟩ := storeCells_row (P := Try.prog) h off vs.toList (by rw [Array.length_toList, hv.1]; exact hfit) (fun v hm => (Array.all_eq_true_iff_forall_mem.1 hv.2) v (by simpa using hm))
  have hs := storeAt_row128 w g off vs (ok128_of h hfit) (by unfold full128; rw [Bool.and_eq_true, decide_eq_true_eq]; exact hv)
  have hc : (Value.agg vs).cells = vs := rfl
  simp only [Instr.storeAt, Instr.sureAddr, storeVar, Sem.run_bind, Sem.run_pure, Result.andThen, run_size128, hc, hv.1, ne_eq, not_true_eq_false, if_false] at hs
  rw [h1] at hs
  injection hs with _ hs
  subst hs
  refine ⟨h2.congr fun x _ => ?_, h3⟩
  unfold over
  rw [Array.length_toList, hv.1]
theorem row128_get {w : World} {g N off : Nat} {T : TypeId} {f : Nat → Value} (h : w.rowIs g T N f) (hfit : off + 128 ≤ N) (j : Nat) (hj : j < 128) : (row128 w g off).toList.getD j undef = f (off + j) := by
  have := h.cell (i := off + j) (by omega)
  simp [row128, List.getD, hj, this]
theorem row128_full {w : World} {g N off : Nat} {T : TypeId} {f : Nat → Value} (h : w.rowIs g T N f) (hfit : off + 128 ≤ N) (h1 : ∀ x, (f x).oneCell' = true) : full128 (row128 w g off) = true := by
  unfold full128
  rw [Bool.and_eq_true, decide_eq_true_eq]
  refine ⟨row128_size _ _ _, ?_⟩
  rw [Array.all_eq_true_iff_forall_mem]
  intro v hv
  simp only [row128, List.mem_toArray, List.mem_map, List.mem_range] at hv
  obtain ⟨j, hj, rfl⟩ := hv
  rw [h.cell (i := off + j) (by omega)]
  exact h1 _
end Go.Proofs.Ythlnnclpfgokjaa
namespace Go.Proofs.Ythlnnclpfgokjaa
open Go.RowKit Gf
set_option linter.unusedVariables false
def flat (M : Mat) : Nat → UInt8 := fun x => M (x / 128) (x % 128)
theorem flat_at (M : Mat) (i j : Nat) (hj : j < 128) : flat M (i * 128 + j) = M i j := by
  unfold flat
  rw [show (i * 128 + j) / 128 = i from by omega, show (i * 128 + j) % 128 = j from by omega]
theorem esteps_stop (n : Nat) (M : Mat) (c : Nat) (h : n ≤ (esteps n M c).2) (d : Nat) : esteps n M (c + d) = esteps n M c := by
  induction d with
  | zero => rfl
  | succ d ih =>
    rw [← Nat.add_assoc]
    show estep n (c + d) (esteps n M (c + d)) = _
    rw [ih, estep, if_neg (by omega)]
theorem flat_times (M : Mat) (a : Nat) (v : UInt8) : timesG (flat M) (a * 128) v 128 = flat (scaleR M a v) := by
  funext x
  unfold timesG flat scaleR
  by_cases h : a * 128 ≤ x ∧ x < a * 128 + 128
  · rw [if_pos h, if_pos (by omega)]
  · rw [if_neg h, if_neg (by omega)]
theorem flat_take (M : Mat) (a c k : Nat) (hk : k ≠ a) : takeG (flat (takeR M a c k)) (k * 128) (takeR M a c k k c) (fun j => flat (takeR M a c k) (a * 128 + j)) 128 = flat (takeR M a c (k + 1)) := by
  funext x
  unfold takeG
  by_cases h : k * 128 ≤ x ∧ x < k * 128 + 128
  · have e1 : x / 128 = k := by omega
    have e2 : x - k * 128 = x % 128 := by omega
    rw [if_pos h, e2]
    show _ ^^^ gm _ (flat (takeR M a c k) (a * 128 + x % 128)) = _
    rw [flat_at _ _ _ (Nat.mod_lt _ (by omega))]
    unfold flat takeR
    rw [e1, if_neg (by omega), if_neg (by omega), if_neg (by omega), if_pos ⟨by omega, hk⟩]
  · have e1 : x / 128 ≠ k := by omega
    rw [if_neg h]
    unfold flat takeR
    by_cases h2 : x / 128 < k ∧ x / 128 ≠ a
    · rw [if_pos h2, if_pos ⟨by omega, h2.2⟩]
    · rw [if_neg h2, if_neg (by omega)]
theorem takeR_self (M : Mat) (a c : Nat) : takeR M a c (a + 1) = takeR M a c a := by
  funext i j
  unfold takeR
  by_cases h : i < a ∧ i ≠ a
  · rw [if_pos h, if_pos ⟨by omega, h.2⟩]
  · rw [if_neg h, if_neg (by omega)]
theorem takeR_zero (M : Mat) (a c : Nat) : takeR M a c 0 = M := by
  funext i j; unfold takeR; rw [if_neg (by omega)]

attribute [local go_sem ↓] execOp_ld128 execOp_st128
attribute [local go_sem] run_ld128 run_st128
theorem u8V_one (G : Nat → UInt8) (x : Nat) : (u8V G x).oneCell' = true := rfl
/-- The exchange of two rows: first p's place gets row a, then a's place row p. -/
theorem swap_rows {w : World} {g N : Nat} {T : TypeId} {D : Mat} {p a : Nat} (h : w.rowIs g T N (u8V (flat D))) (hp : p * 128 + 128 ≤ N) (ha : a * 128 + 128 ≤ N) :
    full128 (row128 w g (a * 128)) = true ∧ full128 (row128 w g (p * 128)) = true ∧ ok128 w g (a * 128) = true ∧ ok128 w g (p * 128) = true ∧ ok128 (put128 w g (p * 128) (row128 w g (a * 128))) g (a * 128) = true ∧
    (put128 (put128 w g (p * 128) (row128 w g (a * 128))) g (a * 128) (row128 w g (p * 128))).rowIs g T N (u8V (flat (swapR D a p))) ∧
    w.grownBy (put128 (put128 w g (p * 128) (row128 w g (a * 128))) g (a * 128) (row128 w g (p * 128))) (some g) := by
  have f1 := row128_full h ha (u8V_one _)
  have f2 := row128_full h hp (u8V_one _)
  obtain ⟨r1, g1⟩ := put128_row h (p * 128) _ hp f1
  obtain ⟨r2, g2⟩ := put128_row r1 (a * 128) _ ha f2
  refine ⟨f1, f2, ok128_of h ha, ok128_of h hp, ok128_of r1 ha, r2.congr fun x _ => ?_, grown_both g1 g2⟩
  by_cases e1 : a * 128 ≤ x ∧ x < a * 128 + 128
  · have e2 : x / 128 = a := by omega
    have e3 : x - a * 128 = x % 128 := by omega
    rw [if_pos e1, e3, row128_get h hp _ (Nat.mod_lt _ (by omega))]
    unfold u8V
    rw [flat_at _ _ _ (Nat.mod_lt _ (by omega))]
    unfold flat swapR
    rw [e2, if_pos rfl]
  · have e2 : x / 128 ≠ a := by omega
    rw [if_neg e1]
    by_cases e4 : p * 128 ≤ x ∧ x < p * 128 + 128
    · have e5 : x / 128 = p := by omega
      have e3 : x - p * 128 = x % 128 := by omega
      rw [if_pos e4, e3, row128_get h ha _ (Nat.mod_lt _ (by omega))]
      unfold u8V
      rw [flat_at _ _ _ (Nat.mod_lt _ (by omega))]
      unfold flat swapR
      rw [if_neg e2, if_pos e5]
    · have e5 : x / 128 ≠ p := by omega
      rw [if_neg e4]
      unfold u8V flat swapR
      rw [if_neg e2, if_neg e5]
theorem swapR_comm (D : Mat) (a p : Nat) : swapR D a p = swapR D p a := by
  funext i j
  unfold swapR
  by_cases h1 : i = a
  · by_cases h2 : i = p
    · rw [if_pos h1, if_pos h2, ← h1, ← h2]
    · rw [if_pos h1, if_neg h2, if_pos h1]
  · rw [if_neg h1]
    by_cases h2 : i = p
    · rw [if_pos h2, if_pos h2]
    · rw [if_neg h2, if_neg h2, if_neg h1]

set_option maxRecDepth 100000 in
set_option maxHeartbeats 2000000 in
theorem eliminate_any (w : World) (g n cap cols : Nat) (M : Mat) (hG : w.rowIs g 72 (n * 128) (u8V (flat M))) (hn : n ≤ 64) (hc : cols ≤ 64) :
    Calls Try.prog 59 #[.slice (some ⟨g, 0, none⟩) n cap, .int .i64 (cols : Int)] w
      fun e w' => e = .returned (.int .i64 ((esteps n M cols).2 : Int)) ∧ w'.rowIs g 72 (n * 128) (u8V (flat (esteps n M cols).1)) ∧ w.grownBy w' (some g) := by
  have HG := Lib.hid hG
  clear hG
  go_enter Try.func59, Try.ntmps59
  go_wp2
  go_loopw [5, 6, 7, 8] (fun x y _ _ wr => ∃ c a : Nat, c ≤ cols ∧ a ≤ n ∧ x = .int .i64 (a : Int) ∧ y = .int .i64 (c : Int) ∧ Hid (a = (esteps n M c).2) ∧ Hid (wr.rowIs g 72 (n * 128) (u8V (flat (esteps n M c).1)) ∧ w.grownBy wr (some g))) (fun _ y _ _ _ => cols - (intOf y).toNat)
  case atStart => exact ⟨0, 0, by omega, by omega, rfl, rfl, Lib.hid rfl, Lib.hid ⟨HG.out, World.grownBy.refl _ _⟩⟩
  case round =>
    obtain ⟨c, a, hcc, han, rfl, rfl, EA, HR⟩ := hrel
    obtain ⟨D, hD⟩ : ∃ D, D = (esteps n M c).1 := ⟨_, rfl⟩
    have hES : esteps n M c = (D, a) := by rw [hD, EA.out]
    have HR1 : Hid (wr.rowIs g 72 (n * 128) (u8V (flat D)) ∧ w.grownBy wr (some g)) := Lib.hid (by rw [hD]; exact HR.out)
    have ES := Lib.hid hES
    clear hD hES HR
    by_cases hlt : c < cols ∧ a < n
    · obtain ⟨h1, h2⟩ := hlt
      go_wp2
      obtain ⟨wo, rfl⟩ : ∃ wo : World, wo = wr := ⟨_, rfl⟩
      go_loop [7] (fun t => ∃ p : Nat, a ≤ p ∧ p ≤ n ∧ t = .int .i64 (p : Int) ∧ Hid (pivot D c n a = findP D c n (n - p) p)) (fun t => n - (intOf t).toNat)
      case atStart => exact ⟨a, Nat.le_refl _, by omega, rfl, Lib.hid rfl⟩
      case round =>
        obtain ⟨p, hp1, hp2, rfl, HP⟩ := hrel
        by_cases hpn : p < n
        · have hcell : wo.cell? ⟨g, p * 128 + c, none⟩ = some (.int .u8 ((D p c).toNat : Int)) := by
            rw [HR1.out.1.cell (by omega)]; unfold u8V; rw [flat_at _ _ _ (by omega)]
          have hci : (c : Int) < 128 := by omega
          by_cases hz : D p c = 0
          · have ht : (((D p c).toNat : Int) == 0) = true := by rw [hz]; rfl
            have HP' : Hid (pivot D c n a = findP D c n (n - (p + 1)) (p + 1)) := Lib.hid (by
              rw [HP.out, show n - p = (n - (p + 1)) + 1 from by omega, findP_step _ _ _ _ _ (by omega) hz])
            clear hz
            go_wp2
            go_round
            case rel => exact ⟨p + 1, by omega, by omega, by go_num, HP'⟩
            case measure => simp [intOf]; omega
          · have ht := u8_ne hz
            have HP' : Hid (pivot D c n a = p) := Lib.hid (by rw [HP.out, findP_stop _ _ _ _ _ hz])
            have hne : ((p : Int) == (n : Int)) = false := by rw [beq_eq_false_iff_ne]; omega
            clear hz HP
            go_wp2
            obtain ⟨w2, rfl⟩ : ∃ w2 : World, w2 = wo := ⟨_, rfl⟩
            obtain ⟨q1, q2, q3, q4, q5, q6, q7⟩ := swap_rows (p := p) (a := a) HR1.out.1.drew (by omega) (by omega)
            have Q6 := Lib.hid q6
            have Q7 := Lib.hid (grown_both (only_drew HR1.out.2) q7)
            clear q6 q7 hcell
            go_region
            generalize put128 (put128 w2.drew g (p * 128) (row128 w2.drew g (a * 128))) g (a * 128) (row128 w2.drew g (p * 128)) = w5 at Q6 Q7 ⊢
            rw [swapR_comm] at Q6
            obtain ⟨E, hE⟩ : ∃ E, E = swapR D p a := ⟨_, rfl⟩
            rw [← hE] at Q6
            have HE := Lib.hid hE
            clear hE q1 q2 q3 q4 q5
            have hcell : w5.cell? ⟨g, a * 128 + c, none⟩ = some (.int .u8 ((E a c).toNat : Int)) := by
              rw [Q6.out.cell (by omega)]; unfold u8V; rw [flat_at _ _ _ (by omega)]
            go_wp2
            refine wp_region_still_tail 10 (by kernel_rfl) (by kernel_rfl) ?_
            simp only [List.take_succ_cons, List.take_zero, List.drop_succ_cons, List.drop_zero]
            repeat still_step
            still_call (swapW (inverse_any _ _))
            repeat still_step
            try refine wpStill_nil ?_
            go_wp2_with fail
            refine (timesRow_any w5.drew g (n * 128) _ (a * 128) _ Q6.out.drew (by omega)).mono ?_
            rintro e w6 ⟨rfl, hr6, hg6⟩
            rw [flat_times] at hr6
            obtain ⟨F, hF⟩ : ∃ F, F = scaleR E a (inv (E a c)) := ⟨_, rfl⟩
            rw [← hF] at hr6
            have HF := Lib.hid hF
            have R6 := Lib.hid hr6
            have G6 := Lib.hid (grown_both (only_drew Q7.out) hg6)
            have RED : Hid (F = red1 D p a c) := Lib.hid (by rw [HF.out, HE.out]; rfl)
            clear hF hr6 hg6 hcell
            go_wp2
            go_loopw [8, 67] (fun _ i wr => ∃ k : Nat, k ≤ n ∧ i = .int .i64 k ∧ Hid (wr.rowIs g 72 (n * 128) (u8V (flat (takeR F a c k))) ∧ w.grownBy wr (some g))) (fun _ i _ => n - (intOf i).toNat)
            case atStart => exact ⟨0, by omega, rfl, Lib.hid ⟨by rw [takeR_zero]; exact R6.out, G6.out⟩⟩
            case round =>
              obtain ⟨k, hk, rfl, HK⟩ := hrel
              by_cases hkn : k < n
              · by_cases hka : k = a
                · have hne : ((k : Int) != (a : Int)) = false := by rw [bne_eq_false_iff_eq]; omega
                  have HK' : Hid (wr.rowIs g 72 (n * 128) (u8V (flat (takeR F a c (k + 1)))) ∧ w.grownBy wr (some g)) := Lib.hid (by
                    have := HK.out; rw [hka] at this ⊢; rw [takeR_self]; exact this)
                  have e1 : (k : Int) ≤ a := by omega
                  have e2 : (a : Int) ≤ k := by omega
                  clear hka hne
                  go_wp2
                  go_roundw
                  case rel => exact ⟨k + 1, by omega, by go_num, HK'⟩
                  case measure => simp [intOf]; omega
                · have hcell : wr.cell? ⟨g, k * 128 + c, none⟩ = some (.int .u8 ((takeR F a c k k c).toNat : Int)) := by
                    rw [HK.out.1.cell (by omega)]; unfold u8V; rw [flat_at _ _ _ (by omega)]
                  have hci : (c : Int) < 128 := by omega
                  go_wp2
                  refine wp_region_still_tail 12 (by kernel_rfl) (by kernel_rfl) ?_
                  simp only [List.take_succ_cons, List.take_zero, List.drop_succ_cons, List.drop_zero]
                  repeat still_step
                  try refine wpStill_nil ?_
                  go_wp2_with fail
                  refine (take_any wr.drew g (n * 128) _ (k * 128) _ g (n * 128) (a * 128) _ HK.out.1.drew (by omega) HK.out.1.drew (by omega) (.inr ⟨rfl, rfl, rfl, by omega⟩)).mono ?_
                  rintro e w7 ⟨rfl, hr7, hg7⟩
                  rw [flat_take _ _ _ _ hka] at hr7
                  have HK' := Lib.hid (And.intro hr7 (grown_both (only_drew HK.out.2) hg7))
                  clear hr7 hg7 hcell
                  go_wp2
                  go_roundw
                  case rel => exact ⟨k + 1, by omega, by go_num, HK'⟩
                  case measure => simp [intOf]; omega
              · obtain rfl : k = n := by omega
                have hES : Hid (esteps k M (c + 1) = (takeR F a c k, a + 1)) := Lib.hid (by
                  show estep k c (esteps k M c) = _
                  rw [ES.out, estep, if_pos ⟨h2, by rw [HP'.out]; exact hpn⟩, HP'.out, RED.out])
                go_wp2
                go_roundw
                case rel => exact ⟨c + 1, a + 1, by omega, by omega, by go_num, by go_num, Lib.hid (by rw [hES.out]), Lib.hid (by rw [hES.out]; exact HK.out)⟩
                case measure => simp [intOf]; omega
        · obtain rfl : p = n := by omega
          have HP' : Hid (pivot D c p a = p) := Lib.hid (by rw [HP.out, Nat.sub_self]; rfl)
          have hES : Hid (esteps p M (c + 1) = (D, a)) := Lib.hid (by
            show estep p c (esteps p M c) = _
            rw [ES.out, estep, if_neg]
            intro h; have := h.2; simp only at this; rw [HP'.out] at this; omega)
          go_wp2
          go_roundw
          case rel => exact ⟨c + 1, a, by omega, by omega, rfl, by go_num, Lib.hid (by rw [hES.out]), Lib.hid (by rw [hES.out]; exact HR1.out)⟩
          case measure => simp [intOf]; omega
    · have hfin : Hid (esteps n M cols = (D, a)) := Lib.hid (by
        by_cases hc2 : c < cols
        · have := esteps_stop n M c (by rw [ES.out]; show n ≤ a; omega) (cols - c)
          rw [show c + (cols - c) = cols from by omega] at this
          rw [this, ES.out]
        · rw [show cols = c from by omega, ES.out])
      have hd : (decide ((c : Int) < (cols : Int)) && decide ((a : Int) < (n : Int))) = false := by
        rw [Bool.and_eq_false_iff, decide_eq_false_iff_not, decide_eq_false_iff_not]; omega
      by_cases hc2 : c < cols
      · have ha2 : n ≤ a := by omega
        clear hlt hd
        go_wp2
        go_ret
        exact ⟨by rw [hfin.out]; rfl, by rw [hfin.out]; exact HR1.out.1, HR1.out.2⟩
      · clear hlt hd
        go_wp2
        go_ret
        exact ⟨by rw [hfin.out]; rfl, by rw [hfin.out]; exact HR1.out.1, HR1.out.2⟩
end Go.Proofs.Ythlnnclpfgokjaa
namespace Go.Proofs.Ythlnnclpfgokjaa
open Go.RowKit Gf
def byteAt (s : ByteArray) (k : Nat) : UInt8 := s.data.toList.getD k 0
theorem byteAt_get (s : ByteArray) (k : Nat) (h : k < s.size) : s[k] = byteAt s k := by
  unfold byteAt
  rw [List.getD_eq_getElem?_getD, List.getElem?_eq_getElem (by rw [data_length]; exact h)]
  rfl
/-- The number at row i, column j. -/
def ent (ss : List ByteArray) (i j : Nat) : UInt8 := byteAt (sAt ss i) j
/-- The sum of the first k. -/
def dotX (f : Nat → UInt8) : Nat → UInt8
  | 0 => 0
  | k + 1 => dotX f k ^^^ f k
def prodF (A B : Nat → Nat → UInt8) (c i j : Nat) : UInt8 := dotX (fun k => gm (A i k) (B k j)) c
def prodR (a b : List ByteArray) : List ByteArray × Int :=
  if okM a = true ∧ okM b = true ∧ col a = b.length then (mat a.length (col b) (prodF (ent a) (ent b) (col a)), 0) else ([], 1)
theorem chk_yes {ss : List ByteArray} (h : okM ss = true) : chkV ss = .tuple #[.int .i64 (ss.length : Int), .int .i64 (col ss : Int), .int .i64 0] := by unfold chkV; rw [if_pos h]
theorem chk_no {ss : List ByteArray} (h : ¬ okM ss = true) : chkV ss = .tuple #[.int .i64 0, .int .i64 0, .int .i64 1] := by unfold chkV; rw [if_neg h]

/-- What stands in the product's grid: rows before i are whole, row i has k parts. -/
def prodG (a b : List ByteArray) (c i k : Nat) : Nat → UInt8 := fun x =>
  if x / 128 < i then prodF (ent a) (fun k j => gridG b b.length (k * 128 + j)) c (x / 128) (x % 128)
  else if x / 128 = i then dotX (fun k => gm (ent a i k) (gridG b b.length (k * 128 + x % 128))) k else 0
theorem prod_step (a b : List ByteArray) (c i k : Nat) (x : Nat) (f : UInt8) (hf : f = ent a i k) :
    takeG (prodG a b c i k) (i * 128) f (fun j => gridG b b.length (k * 128 + j)) 128 x = prodG a b c i (k + 1) x := by
  subst hf
  simp only [takeG, prodG]
  by_cases h : i * 128 ≤ x ∧ x < i * 128 + 128
  · have e1 : x / 128 = i := by omega
    have e2 : x - i * 128 = x % 128 := by omega
    rw [if_pos h, e1, if_neg (Nat.lt_irrefl i), if_neg (Nat.lt_irrefl i), if_pos rfl, if_pos rfl, e2]; rfl
  · have : ¬ x / 128 = i := by omega
    rw [if_neg h, if_neg this, if_neg this]
theorem grid_ent (b : List ByteArray) (k j : Nat) (hj : j < 128) (hk : k < b.length) (hc : j < (sAt b k).size) : gridG b b.length (k * 128 + j) = ent b k j := by
  have e1 : (k * 128 + j) / 128 = k := by omega
  have e2 : (k * 128 + j) % 128 = j := by omega
  unfold gridG; rw [e1, e2, if_pos ⟨hk, hc⟩]; rfl
theorem dotX_congr {f g : Nat → UInt8} {n : Nat} (h : ∀ k, k < n → f k = g k) : dotX f n = dotX g n := by
  induction n with
  | zero => rfl
  | succ n ih => rw [dotX, dotX, ih (fun k hk => h k (by omega)), h n (by omega)]
theorem prod_end (a b : List ByteArray) (hb : okM b = true) (n : Nat) (hn : n = b.length) : textsL (prodG a b n a.length 0) 0 (col b) a.length = mat a.length (col b) (prodF (ent a) (ent b) n) := by
  rw [textsL_mat]
  have ho := (okM_iff b).1 hb
  refine mat_congr fun i j hi hj => ?_
  unfold col at hj
  have e1 : (i * 128 + 0 + j) / 128 = i := by omega
  have e2 : (i * 128 + 0 + j) % 128 = j := by omega
  simp only [prodG]
  rw [e1, e2, if_pos hi]
  unfold prodF
  refine dotX_congr fun k hk => ?_
  show gm _ (gridG b b.length (k * 128 + j)) = _
  rw [grid_ent b k j (by omega) (by omega) (by rw [ho.2.2.2.2 k (by omega)]; exact hj)]

set_option maxRecDepth 100000 in
theorem product_bad (A A' : Option Addr) (n c n' c' : Nat) (a b : List ByteArray) (w : World) (B B' : Nat) (h : Reads w B 1 A n (strV a)) (h' : Reads w B' 1 A' n' (strV b))
    (hn : n ≤ 9223372036854775807) (hn' : n' ≤ 9223372036854775807) (hz : ∀ s ∈ a, s.size ≤ 9223372036854775807) (hz' : ∀ s ∈ b, s.size ≤ 9223372036854775807)
    (hbad : ¬ (okM a = true ∧ okM b = true ∧ col a = b.length)) :
    Calls Try.prog 34 #[.slice A n c, .slice A' n' c'] w fun e w' => RetStrs w w' e (prodR a b) := by
  have X : Hid (prodR a b = ([], 1)) := Lib.hid (by unfold prodR; rw [if_neg hbad])
  have H := Lib.hid h
  have H' := Lib.hid h'
  have HZ := Lib.hid hz
  have HZ' := Lib.hid hz'
  clear h h' hz hz'
  by_cases ha : okM a = true
  · have Ca := Lib.hid (chk_yes ha)
    by_cases hb : okM b = true
    · have Cb := Lib.hid (chk_yes hb)
      have hne : ((col a : Int) != (b.length : Int)) = true := by rw [bne_iff_ne]; intro e; exact hbad ⟨ha, hb, by omega⟩
      clear hbad ha hb
      go_enter Try.func34, Try.ntmps34
      go_wp2_with fail
      refine (check_any A n c a _ B (H.out.drewN 0) hn HZ.out).mono ?_
      rintro e w' ⟨rfl, m, rfl⟩
      rw [Ca.out]
      go_wp2_with fail
      refine (check_any A' n' c' b _ B' (H'.out.drewN _) hn' HZ'.out).mono ?_
      rintro e w' ⟨rfl, m', rfl⟩
      rw [Cb.out]
      go_wp2
      go_ret2
      exact retNil w 1 _ X.out (below_drewN (Below.refl _ _) _)
    · have Cb := Lib.hid (chk_no hb)
      clear hbad ha hb
      go_enter Try.func34, Try.ntmps34
      go_wp2_with fail
      refine (check_any A n c a _ B (H.out.drewN 0) hn HZ.out).mono ?_
      rintro e w' ⟨rfl, m, rfl⟩
      rw [Ca.out]
      go_wp2_with fail
      refine (check_any A' n' c' b _ B' (H'.out.drewN _) hn' HZ'.out).mono ?_
      rintro e w' ⟨rfl, m', rfl⟩
      rw [Cb.out]
      go_wp2
      go_ret2
      exact retNil w 1 _ X.out (below_drewN (Below.refl _ _) _)
  · have Ca := Lib.hid (chk_no ha)
    obtain ⟨x, y, z, hc⟩ : ∃ x y z : Int, chkV b = .tuple #[.int .i64 x, .int .i64 y, .int .i64 z] := by
      by_cases hb : okM b = true
      · exact ⟨_, _, _, chk_yes hb⟩
      · exact ⟨_, _, _, chk_no hb⟩
    have Cb := Lib.hid hc
    clear hbad ha hc
    go_enter Try.func34, Try.ntmps34
    go_wp2_with fail
    refine (check_any A n c a _ B (H.out.drewN 0) hn HZ.out).mono ?_
    rintro e w' ⟨rfl, m, rfl⟩
    rw [Ca.out]
    go_wp2_with fail
    refine (check_any A' n' c' b _ B' (H'.out.drewN _) hn' HZ'.out).mono ?_
    rintro e w' ⟨rfl, m', rfl⟩
    rw [Cb.out]
    go_wp2
    go_ret2
    exact retNil w 1 _ X.out (below_drewN (Below.refl _ _) _)

set_option maxRecDepth 100000 in
set_option maxHeartbeats 400000 in
theorem product_any (A A' : Option Addr) (n c n' c' : Nat) (a b : List ByteArray) (w : World) (B B' : Nat) (h : Reads w B 1 A n (strV a)) (h' : Reads w B' 1 A' n' (strV b)) (hB : B ≤ w.heap.size) (hB' : B' ≤ w.heap.size)
    (hn : n ≤ 9223372036854775807) (hn' : n' ≤ 9223372036854775807) (hz : ∀ s ∈ a, s.size ≤ 9223372036854775807) (hz' : ∀ s ∈ b, s.size ≤ 9223372036854775807) :
    Calls Try.prog 34 #[.slice A n c, .slice A' n' c'] w fun e w' => RetStrs w w' e (prodR a b) := by
  by_cases hbad : ¬ (okM a = true ∧ okM b = true ∧ col a = b.length)
  · exact product_bad A A' n c n' c' a b w B B' h h' hn hn' hz hz' hbad
  obtain ⟨ha, hb, hab⟩ := Classical.not_not.1 hbad
  clear hbad
  have X : Hid (prodR a b = (mat a.length (col b) (prodF (ent a) (ent b) (col a)), 0)) := Lib.hid (by unfold prodR; rw [if_pos ⟨ha, hb, hab⟩])
  have hoa := (okM_iff a).1 ha
  have hob := (okM_iff b).1 hb
  have hl := h.len
  have hl' := h'.len
  have hn1 : n ≤ 64 := by omega
  have hn1' : n' ≤ 64 := by omega
  have hcb : col b ≤ 64 := hob.2.2.2.1
  have Ca : Hid (chkV a = .tuple #[.int .i64 (n : Int), .int .i64 (n' : Int), .int .i64 0]) := Lib.hid (by rw [chk_yes ha, hl, hab, hl'])
  have Cb : Hid (chkV b = .tuple #[.int .i64 (n' : Int), .int .i64 (col b : Int), .int .i64 0]) := Lib.hid (by rw [chk_yes hb, hl'])
  have HA := Lib.hid ha
  have HOA := Lib.hid hoa
  have HOB := Lib.hid hob
  have HB := Lib.hid hb
  have HL := Lib.hid hl
  have HL' := Lib.hid hl'
  have HAB := Lib.hid hab
  have H := Lib.hid h
  have H' := Lib.hid h'
  have HZ := Lib.hid hz
  have HZ' := Lib.hid hz'
  clear h h' hz hz' ha hb hoa hob hl hl' hab
  have hmk := fun W => rows_made W n hn1
  go_enter Try.func34, Try.ntmps34
  go_wp2_with fail
  refine (check_any A n c a _ B (H.out.drewN 0) hn HZ.out).mono ?_
  rintro e w' ⟨rfl, m, rfl⟩
  rw [Ca.out]
  go_wp2_with fail
  refine (check_any A' n' c' b _ B' (H'.out.drewN _) hn' HZ'.out).mono ?_
  rintro e w' ⟨rfl, m', rfl⟩
  rw [Cb.out]
  go_wp2_with fail
  refine (grid_any _ B' A' n' c' b (H'.out.drewN _) hB' hn1' (fun s hs => by
    obtain ⟨j, hj, rfl⟩ := List.getElem_of_mem hs
    rw [← sAt_get hj, HOB.out.2.2.2.2 j hj]; have := HOB.out.2.2.2.1; omega)).mono ?_
  rintro e w2 ⟨rfl, hr2, hb2⟩
  have HR2 := Lib.hid hr2
  have HB2 := Lib.hid (Below.trans (below_drewN (Below.refl w.heap.size w) (m + m')) hb2)
  have hlt2 : w.heap.size < w2.heap.size := hr2.lt
  clear hr2 hb2
  go_wp2
  clear hmk
  go_loopw [14, 15, 16, 47, 53] (fun _ _ _ i _ wr => ∃ k : Nat, k ≤ n ∧ i = .int .i64 k ∧ Hid (wr.rowIs w2.heap.size 72 (n * 128) (u8V (prodG a b n' k 0)) ∧ wr.rowIs w.heap.size 72 (n' * 128) (u8V (gridG b b.length)) ∧ Below w.heap.size w wr)) (fun _ _ _ i _ _ => n - (intOf i).toNat)
  case atStart =>
    refine ⟨0, by omega, rfl, Lib.hid ⟨(rows_new w2 n).congr fun i hi => ?_, ?_, HB2.out.alloc (by omega) _⟩⟩
    · simp only [u8V, prodG]; rw [if_neg (by omega)]
      by_cases e : i / 128 = 0
      · rw [if_pos e]; rfl
      · rw [if_neg e]
    · have := HR2.out.alloc (.cells (madeCells (Value.agg (Array.replicate 128 (.int .u8 0))).cells (n * 128)) 72)
      rw [← HL'.out] at this ⊢
      exact this
  case round =>
    obtain ⟨i, hi, rfl, HR⟩ := hrel
    by_cases hlt : i < n
    · obtain ⟨ad, rfl, hb, hc⟩ := ((H.out.below (HR.out.2.2.mono hB)).str hlt)
      have hci := hc i hlt
      clear hc
      have hsz : Hid ((sAt a i).size = n') := Lib.hid (by rw [HOA.out.2.2.2.2 i (by rw [HL.out]; exact hlt)]; exact HAB.out.trans HL'.out)
      go_wp2
      obtain ⟨wo, rfl⟩ : ∃ wo : World, wo = wr := ⟨_, rfl⟩
      clear hci
      go_loopw [16, 53] (fun _ i' wr => ∃ k : Nat, k ≤ n' ∧ i' = .int .i64 k ∧ Hid (wr.rowIs w2.heap.size 72 (n * 128) (u8V (prodG a b n' i k)) ∧ wr.rowIs w.heap.size 72 (n' * 128) (u8V (gridG b b.length)) ∧ Below w.heap.size w wr)) (fun _ i _ => n' - (intOf i).toNat)
      case atStart => exact ⟨0, by omega, rfl, HR⟩
      case round =>
        obtain ⟨k, hk, rfl, HI⟩ := hrel
        by_cases hkl : k < n'
        · have hks : k < (sAt a i).size := by rw [hsz.out]; exact hkl
          have hks' : (k : Int) < ((sAt a i).size : Int) := by omega
          have E := Lib.hid (byteAt_get _ _ hks)
          go_wp2
          refine wp_region_still_tail 9 (by kernel_rfl) (by kernel_rfl) ?_
          simp only [List.take_succ_cons, List.take_zero, List.drop_succ_cons, List.drop_zero]
          repeat still_step
          try refine wpStill_nil ?_
          go_wp2_with fail
          refine (take_any wr.drew w2.heap.size (n * 128) _ (i * 128) _ w.heap.size (n' * 128) (k * 128) _ HI.out.1.drew (by omega) HI.out.2.1.drew (by omega) (.inl (by omega))).mono ?_
          rintro e w5 ⟨rfl, hr5, hg5⟩
          have HI' : Hid (w5.rowIs w2.heap.size 72 (n * 128) (u8V (prodG a b n' i (k + 1))) ∧ w5.rowIs w.heap.size 72 (n' * 128) (u8V (gridG b b.length)) ∧ Below w.heap.size w w5) :=
            Lib.hid ⟨hr5.congr fun x _ => by
                have := prod_step a b n' i k x _ (E.out.trans (rfl : byteAt (sAt a i) k = ent a i k))
                simp only [u8V, this],
              HI.out.2.1.drew.of_block (hg5.block _ HI.out.2.1.lt (fun e => by injection e with e; omega)),
              below_grown (HI.out.2.2.drew) hg5 (by intro g h; injection h with h; omega)⟩
          clear hr5 hg5
          go_wp2
          go_roundw
          case rel => exact ⟨k + 1, by omega, by go_num, HI'⟩
          case measure => simp [intOf]; omega
        · obtain rfl : k = n' := by omega
          go_wp2
          go_roundw
          case rel =>
            refine ⟨i + 1, by omega, by go_num, Lib.hid ⟨HI.out.1.congr fun x hx => ?_, HI.out.2.1, HI.out.2.2⟩⟩
            simp only [u8V, prodG]
            by_cases h1 : x / 128 < i
            · rw [if_pos h1, if_pos (by omega)]
            · by_cases h2 : x / 128 = i
              · rw [if_neg h1, if_pos h2, if_pos (by omega), h2]; rfl
              · rw [if_neg h1, if_neg h2, if_neg (by omega)]
                by_cases h3 : x / 128 = i + 1
                · rw [if_pos h3]; rfl
                · rw [if_neg h3]
          case measure => simp [intOf]; omega
    · obtain rfl : i = n := by omega
      go_wp2_with (go_at_call 57; refine (texts_any _ w2.heap.size (i * 128) i i _ 0 (col b) HR.out.1 (by omega) (by omega) (by omega) (by omega) (by omega)).mono ?_; rintro e w3 ⟨v2, rfl, ho2, hb3⟩)
      go_ret2
      refine ⟨v2, by rw [X.out]; rfl, ?_, HR.out.2.2.trans (hb3.mono HR.out.2.2.size)⟩
      rw [X.out]
      have e1 : textsL (prodG a b n' i 0) 0 (col b) i = mat a.length (col b) (prodF (ent a) (ent b) (col a)) := by
        have := prod_end a b HB.out n' HL'.out.symm
        rw [HL.out] at this
        rw [HAB.out, HL'.out, HL.out]; exact this
      rw [e1] at ho2
      have e2 : (mat a.length (col b) (prodF (ent a) (ent b) (col a))).length = i := by rw [mat_length, HL.out]
      show w3.ownsRow w.heap.size _ 1 v2 (mat a.length (col b) (prodF (ent a) (ent b) (col a))).length _
      rw [e2]
      exact own_base ho2 HR.out.2.2.size
end Go.Proofs.Ythlnnclpfgokjaa
namespace Go.Proofs.Ythlnnclpfgokjaa
open Go.RowKit Gf
set_option linter.unusedVariables false
/-- A square matrix, the unit beside it. -/
def augM (ss : List ByteArray) (n : Nat) : Mat := fun i j => if j < n then ent ss i j else if j = n + i then 1 else 0
def invE (ss : List ByteArray) : Mat × Nat := esteps ss.length (augM ss ss.length) ss.length
def invR (ss : List ByteArray) : List ByteArray × Int :=
  if okM ss = true ∧ ss.length = col ss then
    (if (invE ss).2 < ss.length then ([], 60) else (mat ss.length ss.length (fun i j => (invE ss).1 i (ss.length + j)), 0))
  else ([], 1)
theorem aug_flat (ss : List ByteArray) (n : Nat) (hl : ss.length = n) (ho : okM ss = true) (hs : ss.length = col ss) (x : Nat) (hx : x < n * 128) :
    (if x / 128 < n ∧ x % 128 = n + x / 128 then 1 else gridG ss n x) = flat (augM ss n) x := by
  have h := (okM_iff ss).1 ho
  unfold col at hs
  have hi : x / 128 < n := by omega
  have hsz : (sAt ss (x / 128)).size = n := by rw [h.2.2.2.2 _ (by omega)]; omega
  unfold flat augM gridG
  by_cases h1 : x % 128 < n
  · rw [if_neg (by omega), if_pos ⟨hi, by omega⟩, if_pos h1]; rfl
  · rw [if_neg h1]
    by_cases h2 : x % 128 = n + x / 128
    · rw [if_pos ⟨hi, h2⟩, if_pos h2]
    · rw [if_neg (fun h => h2 h.2), if_neg h2, if_neg (by omega)]
def augG (ss : List ByteArray) (n k : Nat) : Nat → UInt8 := fun x => if x / 128 < k ∧ x % 128 = n + x / 128 then 1 else gridG ss n x

set_option maxRecDepth 100000 in
set_option maxHeartbeats 400000 in
theorem inverseM_bad (A : Option Addr) (n c : Nat) (a : List ByteArray) (w : World) (B : Nat) (h : Reads w B 1 A n (strV a)) (hn : n ≤ 9223372036854775807) (hz : ∀ s ∈ a, s.size ≤ 9223372036854775807)
    (hbad : ¬ (okM a = true ∧ a.length = col a)) :
    Calls Try.prog 31 #[.slice A n c] w fun e w' => RetStrs w w' e (invR a) := by
  have X : Hid (invR a = ([], 1)) := Lib.hid (by unfold invR; rw [if_neg hbad])
  have H := Lib.hid h
  have HZ := Lib.hid hz
  clear h hz
  by_cases ha : okM a = true
  · have Ca := Lib.hid (chk_yes ha)
    have hne : ((a.length : Int) != (col a : Int)) = true := by rw [bne_iff_ne]; intro e; exact hbad ⟨ha, by omega⟩
    clear hbad ha
    go_enter Try.func31, Try.ntmps31
    go_wp2_with fail
    refine (check_any A n c a _ B (H.out.drewN 0) hn HZ.out).mono ?_
    rintro e w' ⟨rfl, m, rfl⟩
    rw [Ca.out]
    go_wp2
    go_ret2
    exact retNil w 1 _ X.out (below_drewN (Below.refl _ _) _)
  · have Ca := Lib.hid (chk_no ha)
    clear hbad ha
    go_enter Try.func31, Try.ntmps31
    go_wp2_with fail
    refine (check_any A n c a _ B (H.out.drewN 0) hn HZ.out).mono ?_
    rintro e w' ⟨rfl, m, rfl⟩
    rw [Ca.out]
    go_wp2
    go_ret2
    exact retNil w 1 _ X.out (below_drewN (Below.refl _ _) _)

set_option maxRecDepth 100000 in
set_option maxHeartbeats 1000000 in
theorem inverseM_any (A : Option Addr) (n c : Nat) (a : List ByteArray) (w : World) (B : Nat) (h : Reads w B 1 A n (strV a)) (hB : B ≤ w.heap.size) (hn : n ≤ 9223372036854775807) (hz : ∀ s ∈ a, s.size ≤ 9223372036854775807) :
    Calls Try.prog 31 #[.slice A n c] w fun e w' => RetStrs w w' e (invR a) := by
  by_cases hbad : ¬ (okM a = true ∧ a.length = col a)
  · exact inverseM_bad A n c a w B h hn hz hbad
  obtain ⟨ha, hsq⟩ := Classical.not_not.1 hbad
  clear hbad
  have hoa := (okM_iff a).1 ha
  have hl := h.len
  have hn1 : n ≤ 64 := by omega
  have hn0 : 1 ≤ n := by omega
  have Ca : Hid (chkV a = .tuple #[.int .i64 (n : Int), .int .i64 (n : Int), .int .i64 0]) := Lib.hid (by rw [chk_yes ha, ← hsq, hl])
  obtain ⟨E, hE⟩ : ∃ E, E = invE a := ⟨_, rfl⟩
  have X : Hid (invR a = if E.2 < n then ([], 60) else (mat n n (fun i j => E.1 i (n + j)), 0)) := Lib.hid (by
    unfold invR; rw [if_pos ⟨ha, hsq⟩, ← hE, hl])
  have HE : Hid (esteps n (augM a n) n = E) := Lib.hid (by rw [hE, invE, hl])
  have AF : Hid (∀ x, x < n * 128 → augG a n n x = flat (augM a n) x) := Lib.hid (fun x hx => aug_flat a n hl ha hsq x hx)
  have HOA := Lib.hid hoa
  have HL := Lib.hid hl
  have H := Lib.hid h
  have HZ := Lib.hid hz
  clear h hz ha hoa hl hsq hE
  obtain ⟨EM, ea⟩ := E
  go_enter Try.func31, Try.ntmps31
  go_wp2_with fail
  refine (check_any A n c a _ B (H.out.drewN 0) hn HZ.out).mono ?_
  rintro e w' ⟨rfl, m, rfl⟩
  rw [Ca.out]
  go_wp2_with fail
  refine (grid_any _ B A n c a (H.out.drewN _) hB hn1 (fun s hs => by
    obtain ⟨j, hj, rfl⟩ := List.getElem_of_mem hs
    rw [← sAt_get hj, HOA.out.2.2.2.2 j hj]; have := HOA.out.2.2.2.1; omega)).mono ?_
  rintro e w2 ⟨rfl, hr2, hb2⟩
  have HR2 : Hid (w2.rowIs w.heap.size 72 (n * 128) (u8V (gridG a n))) := Lib.hid hr2
  have HB2 : Hid (Below w.heap.size w w2) := Lib.hid (Below.trans (below_drewN (Below.refl w.heap.size w) m) hb2)
  clear hr2 hb2
  go_wp2
  go_loopw [8, 26] (fun _ i wr => ∃ k : Nat, k ≤ n ∧ i = .int .i64 k ∧ Hid (wr.rowIs w.heap.size 72 (n * 128) (u8V (augG a n k)) ∧ Below w.heap.size w wr)) (fun _ i _ => n - (intOf i).toNat)
  case atStart =>
    refine ⟨0, by omega, rfl, Lib.hid ⟨HR2.out.congr fun x hx => ?_, HB2.out⟩⟩
    simp only [u8V, augG]; rw [if_neg (by omega)]
  case round =>
    obtain ⟨k, hk, rfl, HK⟩ := hrel
    by_cases hlt : k < n
    · obtain ⟨v1, hc1⟩ : ∃ v, wr.cell? ⟨w.heap.size, k * 128 + (n + k), none⟩ = some v := ⟨_, HK.out.1.cell (by omega)⟩
      have hf1 : wr.frozen? ⟨w.heap.size, k * 128 + (n + k), none⟩ = false := HK.out.1.frozen _
      go_wp2
      go_roundw
      case rel =>
        refine ⟨k + 1, by omega, by go_num, Lib.hid ⟨(HK.out.1.set (k * 128 + (n + k)) _).congr fun i hi => ?_, HK.out.2.setCell (Nat.le_refl _) _⟩⟩
        simp only [u8V, augG]
        by_cases e : i = k * 128 + (n + k)
        · rw [if_pos e, if_pos (by omega)]; rfl
        · rw [if_neg e]
          by_cases h3 : i / 128 < k ∧ i % 128 = n + i / 128
          · rw [if_pos h3, if_pos (by omega)]
          · rw [if_neg h3, if_neg (by omega)]
      case measure => simp [intOf]; omega
    · obtain rfl : k = n := by omega
      have HF : Hid (wr.rowIs w.heap.size 72 (k * 128) (u8V (flat (augM a k))) ∧ Below w.heap.size w wr) := Lib.hid ⟨HK.out.1.congr fun x hx => by simp only [u8V, AF.out x hx], HK.out.2⟩
      clear HK
      go_wp2_with fail
      refine (eliminate_any wr w.heap.size k k k _ HF.out.1 hn1 hn1).mono ?_
      rw [HE.out]
      rintro e w3 ⟨rfl, hr3, hg3⟩
      have HR3 := Lib.hid hr3
      have HB3 := Lib.hid (below_grown HF.out.2 hg3 (by intro g h; injection h with h; omega))
      clear hr3 hg3
      by_cases hlow : ea < k
      · have X' : Hid (invR a = ([], 60)) := Lib.hid (by rw [X.out, if_pos hlow])
        go_wp2
        go_ret2
        exact retNil w 60 _ X'.out HB3.out
      · have X' : Hid (invR a = (mat k k (fun i j => EM i (k + j)), 0)) := Lib.hid (by rw [X.out, if_neg hlow])
        go_wp2_with (go_at_call 57; refine (texts_any _ w.heap.size (k * 128) k k _ k k HR3.out (by omega) (by omega) (by omega) (by omega) (by omega)).mono ?_; rintro e w4 ⟨v2, rfl, ho2, hb4⟩)
        go_ret2
        refine ⟨v2, by rw [X'.out]; rfl, ?_, HB3.out.trans (hb4.mono HB3.out.size)⟩
        rw [X'.out]
        have e1 : textsL (flat EM) k k k = mat k k (fun i j => EM i (k + j)) := by
          rw [textsL_mat]
          refine mat_congr fun i j hi hj => ?_
          rw [Nat.add_assoc, flat_at _ _ _ (by omega)]
        rw [e1] at ho2
        show w4.ownsRow w.heap.size _ 1 v2 (mat k k _).length _
        rw [mat_length]
        exact own_base ho2 HB3.out.size
end Go.Proofs.Ythlnnclpfgokjaa
namespace Go.Proofs.Ythlnnclpfgokjaa
open Go.RowKit Gf
theorem byteAt_bs (l : List UInt8) (j : Nat) : byteAt (bs l) j = l.getD j 0 := by unfold byteAt; rw [bs_data]
theorem sAt_mat (r c : Nat) (F : Nat → Nat → UInt8) (i : Nat) (hi : i < r) : sAt (mat r c F) i = bs ((List.range c).map fun j => F i j) := by
  rw [sAt_get (by rw [mat_length]; exact hi)]
  simp [mat]
theorem ent_mat (r c : Nat) (F : Nat → Nat → UInt8) (i j : Nat) (hi : i < r) (hj : j < c) : ent (mat r c F) i j = F i j := by
  unfold ent
  rw [sAt_mat r c F i hi, byteAt_bs, List.getD_eq_getElem?_getD, List.getElem?_map, List.getElem?_range hj]; rfl
theorem col_mat (r c : Nat) (F : Nat → Nat → UInt8) (i : Nat) (hi : i < r) : (sAt (mat r c F) i).size = c := by
  rw [sAt_mat r c F i hi, bs_size]; simp
theorem ok_mat (r c : Nat) (F : Nat → Nat → UInt8) (h1 : 1 ≤ r) (h2 : r ≤ 64) (h3 : 1 ≤ c) (h4 : c ≤ 64) : okM (mat r c F) = true := by
  rw [okM_iff, mat_length, col_mat r c F 0 (by omega)]
  exact ⟨h1, h2, h3, h4, fun k hk => col_mat r c F k hk⟩
end Go.Proofs.Ythlnnclpfgokjaa
