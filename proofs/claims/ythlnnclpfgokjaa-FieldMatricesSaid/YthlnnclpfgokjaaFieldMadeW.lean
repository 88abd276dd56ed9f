/- Walk: the law FieldMade returns true. -/
import Derived.Test.YthlnnclpfgokjaaRefMade
import Derived.Test.YthlnnclpfgokjaaFresh
namespace Go.Proofs.Ythlnnclpfgokjaa
open Go.RowKit Gf
set_option linter.unusedVariables false
theorem unitR_len (n : Int) : (unitR n).1.length ≤ 64 := by
  unfold unitR; split
  · show (mat _ _ _).length ≤ 64; rw [mat_length]; omega
  · exact Nat.zero_le _
theorem cauR_len (r c : Int) : (cauR r c).1.length ≤ 64 := by
  unfold cauR; split
  · show (mat _ _ _).length ≤ 64; rw [mat_length]; omega
  · exact Nat.zero_le _
theorem i64_same (a : Int) : (a == a) = true := by simp
theorem own_block_lt {w : World} {base : Nat} {e : TypeId} {size n : Nat} {v : Value} {xs : List Value} (h : w.ownsRow base e size v n xs) : ∀ g, v.ownBlock = some g → g < w.heap.size := by
  intro g hg
  rcases h.2 with ⟨rfl, _⟩ | ⟨g', cap, cur, rfl, _, hh, _⟩
  · cases hg
  · have : g' = g := by simpa [Value.ownBlock] using hg
    subst this
    exact (Array.getElem?_eq_some_iff.1 hh).1
/-- Rows that were told one behind the other lie apart. -/
theorem own_apart {w1 w2 : World} {base : Nat} {e e' : TypeId} {size size' n n' : Nat} {A : Option Addr} {c m : Nat} {v : Value} {xs xs' : List Value} (h : w1.ownsRow base e size v n xs) (h' : w2.ownsRow w1.heap.size e' size' (.slice A m c) n' xs') :
    ∀ ad, A = some ad → some ad.block ≠ v.ownBlock := by
  rintro ad rfl he
  have h1 := own_block_lt h _ he.symm
  have h2 := own_ge h' ad.block rfl
  omega
theorem own_apart' {w1 w2 : World} {base : Nat} {e e' : TypeId} {size size' n n' : Nat} {A : Option Addr} {c m : Nat} {v : Value} {xs xs' : List Value} (h : w1.ownsRow base e size (.slice A m c) n xs) (h' : w2.ownsRow w1.heap.size e' size' v n' xs') :
    ∀ ad, A = some ad → some ad.block ≠ v.ownBlock := by
  rintro ad rfl he
  have h1 := own_block_lt h ad.block rfl
  have h2 := own_ge h' _ he.symm
  omega
set_option maxRecDepth 100000 in
set_option maxHeartbeats 1000000 in
theorem fieldMade_walk (n r c : Int) (h1 : -9223372036854775808 ≤ n) (h2 : n ≤ 9223372036854775807) (h3 : -9223372036854775808 ≤ r) (h4 : r ≤ 9223372036854775807) (h5 : -9223372036854775808 ≤ c) (h6 : c ≤ 9223372036854775807) (w : World) :
    Calls Try.prog 4 #[.int .i64 n, .int .i64 r, .int .i64 c] w fun e w' => e = .returned (.bool true) ∧ Below w.heap.size w w' := by
  have lu := Lib.hid (unitR_len n)
  have lc := Lib.hid (cauR_len r c)
  obtain ⟨u, hu⟩ : ∃ u, u = unitR n := ⟨_, rfl⟩
  obtain ⟨q, hq⟩ : ∃ u, u = cauR r c := ⟨_, rfl⟩
  rw [← hu] at lu
  rw [← hq] at lc
  have U := Lib.hid hu
  have Q := Lib.hid hq
  clear hu hq h1 h2 h3 h4 h5 h6
  obtain ⟨ul, ue⟩ := u
  obtain ⟨ql, qe⟩ := q
  go_enter Try.func4, Try.ntmps4
  go_wp2_with fail
  refine (runit_any n _).mono ?_; rintro e w1 ⟨v1, rfl, ho1, hb1⟩; rw [← U.out] at ho1 ⊢
  have O1 := Lib.hid ho1; have B1 := Lib.hid hb1; clear ho1 hb1
  go_wp2_with fail
  refine (unit_any n _).mono ?_; rintro e w2 ⟨v2, rfl, ho2, hb2⟩; rw [← U.out] at ho2 ⊢
  have O2 := Lib.hid ho2; have B2 := Lib.hid hb2; clear ho2 hb2
  go_wp2_with fail
  refine (unit_any n _).mono ?_; rintro e w3 ⟨v3, rfl, ho3, hb3⟩; rw [← U.out] at ho3 ⊢
  have O3 := Lib.hid ho3; have B3 := Lib.hid hb3; clear ho3 hb3
  go_wp2_with fail
  refine (rcauchy_any r c _).mono ?_; rintro e w4 ⟨v4, rfl, ho4, hb4⟩; rw [← Q.out] at ho4 ⊢
  have O4 := Lib.hid ho4; have B4 := Lib.hid hb4; clear ho4 hb4
  go_wp2_with fail
  refine (cauchy_any r c _).mono ?_; rintro e w5 ⟨v5, rfl, ho5, hb5⟩; rw [← Q.out] at ho5 ⊢
  have O5 := Lib.hid ho5; have B5 := Lib.hid hb5; clear ho5 hb5
  go_wp2_with fail
  refine (cauchy_any r c _).mono ?_; rintro e w6 ⟨v6, rfl, ho6, hb6⟩; rw [← Q.out] at ho6 ⊢
  have O6 := Lib.hid ho6; have B6 := Lib.hid hb6; clear ho6 hb6
  have b46 := B5.out.trans (B6.out.mono B5.out.size)
  have b36 := B4.out.trans (b46.mono B4.out.size)
  have b26 := B3.out.trans (b36.mono B3.out.size)
  have b16 := B2.out.trans (b26.mono B2.out.size)
  have b06 := B1.out.trans (b16.mono B1.out.size)
  obtain ⟨A1, c1, rfl, r1⟩ := own_reads O1.out
  obtain ⟨A3, c3, rfl, r3⟩ := own_reads O3.out
  obtain ⟨A4, c4, rfl, r4⟩ := own_reads O4.out
  obtain ⟨A6, c6, rfl, r6⟩ := own_reads O6.out
  have o2 := own_below O2.out b26
  have o5 := own_below O5.out B6.out
  have q1 := r1.below b16
  have q3 := r3.below b36
  have q4 := r4.below b46
  have s1 := B1.out.size
  have s2 := B2.out.size
  have s3 := B3.out.size
  have s4 := B4.out.size
  have s5 := B5.out.size
  have s6 := B6.out.size
  have P1 := Lib.hid (own_apart O2.out O3.out)
  have P2 := Lib.hid (own_apart' O1.out O2.out)
  have P3 := Lib.hid (own_apart O5.out O6.out)
  have P4 := Lib.hid (own_apart' O4.out O5.out)
  have L2 := Lib.hid (own_block_lt O2.out)
  have G2 := Lib.hid (own_ge O2.out)
  have G5 := Lib.hid (own_ge O5.out)
  have G6 := Lib.hid (own_ge O6.out)
  have G4 := Lib.hid (own_ge O4.out)
  have F1 := Lib.hid o2
  have F2 := Lib.hid o5
  have F3 := Lib.hid q1
  have F4 := Lib.hid q3
  have F5 := Lib.hid q4
  have F6 := Lib.hid r6
  have F7 := Lib.hid b06
  clear b46 b36 b26 b16 b06 r1 r3 r4 r6 o2 o5 q1 q3 q4
  go_wp2_with fail
  refine (fresh_any w6 w1.heap.size v2 A3 A1 c3 c1 ul.length ul w3.heap.size w1.heap.size F1.out F4.out F3.out (by omega) (by omega) (by omega) P1.out P2.out (by have : ul.length ≤ 64 := lu.out; omega)).mono ?_
  rintro e w7 ⟨rfl, hg7⟩
  have H7 := Lib.hid hg7
  have F2' := Lib.hid (own_moved F2.out hg7 (fun g hg => by have := L2.out g hg; omega))
  have F5' := Lib.hid (reads_far F5.out (by omega) hg7 (fun ad h e => by have h1 := L2.out _ e.symm; have h2 := G4.out ad.block (by rw [h]; rfl); omega))
  have F6' := Lib.hid (reads_far F6.out (Nat.le_refl _) hg7 (fun ad h e => by have h1 := L2.out _ e.symm; have h2 := G6.out ad.block (by rw [h]; rfl); omega))
  have s7 := hg7.size
  clear hg7
  go_wp2_with fail
  refine (fresh_any w7 w4.heap.size v5 A6 A4 c6 c4 ql.length ql w6.heap.size w4.heap.size F2'.out F6'.out F5'.out (by omega) (by omega) (by omega) P3.out P4.out (by have : ql.length ≤ 64 := lc.out; omega)).mono ?_
  rintro e w8 ⟨rfl, hg8⟩
  have H8 := Lib.hid hg8
  clear hg8
  go_wp2
  go_ret
  exact ⟨rfl, below_grown (below_grown F7.out H7.out (fun g h => by have := G2.out g h; omega)) H8.out (fun g h => by have := G5.out g h; omega)⟩
end Go.Proofs.Ythlnnclpfgokjaa
