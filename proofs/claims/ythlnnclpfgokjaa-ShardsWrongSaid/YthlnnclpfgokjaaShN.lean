/- Walk: fresh, of the laws on shards: a list that is written over and grown leaves the other one alone. -/
import Derived.Test.YthlnnclpfgokjaaShJ
namespace Go.Proofs.Ythlnnclpfgokjaa
open Go.RowKit Gf
set_option linter.unusedVariables false
theorem far_reads {w w' : World} {B n : Nat} {A : Option Addr} {xs : List Value} {row : Option Nat} (h : Reads w B 1 A n xs) (hB : B ≤ w.heap.size) (hg : w.grownBy w' row) (hne : ∀ ad, A = some ad → some ad.block ≠ row) : Reads w' B 1 A n xs :=
  ⟨h.1, fun hn => by
    obtain ⟨ad, e, hb, hc⟩ := h.2 hn
    exact ⟨ad, e, hb, fun j u hu => (World.cell?_of_block (hg.block _ (by rw [block_of_add]; omega) (by rw [block_of_add]; exact hne ad e))).trans (hc j u hu)⟩⟩
theorem same_self (A A' : Option Addr) (n c n' c' : Nat) (ss : List ByteArray) (w : World) (B B' : Nat) (h : Reads w B 1 A n (strV ss)) (h' : Reads w B' 1 A' n' (strV ss))
    (hn : n ≤ 9223372036854775807) (hn' : n' ≤ 9223372036854775807) :
    Calls Try.prog 38 #[.slice A n c, .slice A' n' c'] w fun e w' => e = .returned (.bool true) ∧ ∃ m, w' = w.drewN m := by
  have := same_any A A' n c n' c' ss ss w B B' h h' hn hn'
  rw [show decide (ss = ss) = true from decide_eq_true rfl] at this
  exact this
def spoilt : ByteArray := ⟨#[115, 112, 111, 105, 108, 116]⟩
def behind : ByteArray := ⟨#[98, 101, 104, 105, 110, 100]⟩
theorem own_set {w : World} {base n c : Nat} {e : TypeId} {g : Nat} {xs : List Value} (h : w.ownsRow base e 1 (.slice (some ⟨g, 0, none⟩) n c) n xs) (k : Nat) (u : Value) (hk : k < n) :
    ∃ ys, (w.setCell ⟨g, k, none⟩ u).ownsRow base e 1 (.slice (some ⟨g, 0, none⟩) n c) n ys := by
  rcases h.2 with ⟨h1, h2⟩ | ⟨g', cap, cur, h1, h3, h4, h5, h6, h7, h8⟩
  · cases h1
  · simp only [Value.slice.injEq, Option.some.injEq, Addr.mk.injEq, and_true, true_and] at h1
    obtain ⟨rfl, rfl⟩ := h1
    refine ⟨((cur.setIfInBounds k u).toList.take (n * 1)), ?_, .inr ⟨g, c, cur.setIfInBounds k u, rfl, h3, ?_, h5, h6, by simpa using h7, rfl⟩⟩
    · rw [List.length_take, Array.length_toList, Array.size_setIfInBounds, h7]; omega
    · simp [World.setCell, Array.getElem?_modify, h4]
set_option maxRecDepth 100000 in
set_option maxHeartbeats 1000000 in
theorem fresh_any (v1 : Value) (n : Nat) (l : List ByteArray) (A2 A3 : Option Addr) (c2 c3 : Nat) (w : World) (base B2 B3 : Nat) (h1 : w.ownsRow base 9 1 v1 n (strV l)) (hbase : base ≤ w.heap.size)
    (h2 : Reads w B2 1 A2 n (strV l)) (hB2 : B2 ≤ w.heap.size) (h3 : Reads w B3 1 A3 n (strV l)) (hB3 : B3 ≤ w.heap.size) (hn : (n + 20) * 16 ≤ 140737488355328)
    (d2 : ∀ ad, A2 = some ad → some ad.block ≠ v1.ownBlock) (d3 : ∀ ad, A3 = some ad → some ad.block ≠ v1.ownBlock) :
    Calls Try.prog 43 #[v1, .slice A2 n c2, .slice A3 n c3] w fun e w' => e = .returned (.bool true) ∧ w.grownBy w' v1.ownBlock := by
  obtain ⟨A1, c1, rfl, hc1, hr1⟩ := own_readsC h1
  have H1 := Lib.hid h1
  have HR1 := Lib.hid hr1
  have H2 := Lib.hid h2
  have H3 := Lib.hid h3
  have D2 := Lib.hid d2
  have D3 := Lib.hid d3
  clear h1 hr1 h2 h3 d2 d3
  go_enter Try.func43, Try.ntmps43
  go_wp2_with fail
  refine (same_self A1 A3 n c1 n c3 l _ _ _ HR1.out H3.out (by omega) (by omega)).mono ?_; rintro e w' ⟨rfl, q1, rfl⟩
  go_wp2_with fail
  refine (same_self A2 A3 n c2 n c3 l _ _ _ (H2.out.drewN q1) (H3.out.drewN q1) (by omega) (by omega)).mono ?_; rintro e w' ⟨rfl, q2, rfl⟩
  have HG0 : Hid (w.grownBy ((w.drewN q1).drewN q2) (Value.slice A1 n c1).ownBlock) := Lib.hid (only_drewN (only_drewN (World.grownBy.refl _ _) _) _)
  go_wp2
  go_loopw [7] (fun i wr => ∃ k : Nat, k ≤ n ∧ i = .int .i64 k ∧ Hid ((∃ xs, wr.ownsRow base 9 1 (.slice A1 n c1) n xs) ∧ w.grownBy wr (Value.slice A1 n c1).ownBlock)) (fun i _ => n - (intOf i).toNat)
  case atStart => exact ⟨0, by omega, rfl, Lib.hid ⟨⟨_, H1.out⟩, only_drewN (World.grownBy.refl _ _) _⟩⟩
  case round =>
    obtain ⟨k, hk, rfl, HK⟩ := hrel
    by_cases hlt : k < n
    · obtain ⟨⟨xs, hx⟩, hg⟩ := HK.out
      obtain ⟨g, cap, hv, hgb, hgl⟩ := hx.form (by omega)
      simp only [Value.slice.injEq, true_and] at hv
      obtain ⟨rfl, rfl⟩ := hv
      obtain ⟨v0, hc0⟩ : ∃ v, wr.cell? ⟨g, k, none⟩ = some v := by
        obtain ⟨_, c', e, hr⟩ := own_reads hx
        obtain ⟨ad, u, e2, _, _, hcell⟩ := hr.at_ hlt
        simp only [Value.slice.injEq] at e
        obtain ⟨rfl, _⟩ := e
        injection e2 with e2; subst e2
        rw [add0] at hcell
        exact ⟨u, hcell⟩
      have hf0 : wr.frozen? ⟨g, k, none⟩ = false := hx.frozenAt k
      have HX := Lib.hid (own_set hx k (.string spoilt) hlt)
      have HG := Lib.hid (only_setCell (g := g) hg (p := ⟨g, k, none⟩) (.inl rfl) (.string spoilt))
      clear hx hg HK
      go_wp2
      go_roundw
      case rel => exact ⟨k + 1, by omega, by go_num, Lib.hid ⟨HX.out, HG.out⟩⟩
      case measure => simp [intOf]; omega
    · obtain rfl : k = n := by omega
      go_wp2
      go_loopw [0, 8] (fun v i wr => ∃ j : Nat, j ≤ 20 ∧ i = .int .i64 j ∧ Hid ((∃ xs, wr.ownsRow base 9 1 v (k + j) xs) ∧ w.grownBy wr (Value.slice A1 k c1).ownBlock ∧ (v.ownBlock = (Value.slice A1 k c1).ownBlock ∨ ∃ g, v.ownBlock = some g ∧ w.heap.size ≤ g))) (fun _ i _ => 20 - (intOf i).toNat)
      case atStart => exact ⟨0, by omega, rfl, Lib.hid ⟨HK.out.1, HK.out.2, .inl rfl⟩⟩
      case round =>
        obtain ⟨j, hj, rfl, HJ⟩ := hrel
        clear HK
        by_cases hjl : j < 20
        · obtain ⟨⟨xs, hx⟩, hg, hd⟩ := HJ.out
          have HX := Lib.hid hx
          have HG := Lib.hid hg
          have HD := Lib.hid hd
          have hk1 : k + j ≤ 4611686018427387904 := by omega
          have hk2 : (k + j + 1) * 16 ≤ 140737488355328 := by omega
          have hle : base ≤ wr.heap.size := Nat.le_trans hbase hg.size
          have hle2 : w.heap.size ≤ wr.heap.size := hg.size
          clear hx hg hd HJ
          go_wp2_with (at_builtin; refine append1_blk elemStr rfl _ _ rfl base u0 (k + j) _ rfl HX.out (.string behind) rfl rfl hk1 hk2 hle ?_; intro v' w' ho hg' hd')
          have HJ' : Hid ((∃ xs, w'.ownsRow base 9 1 v' (k + (j + 1)) xs) ∧ w.grownBy w' (Value.slice A1 k c1).ownBlock ∧ (v'.ownBlock = (Value.slice A1 k c1).ownBlock ∨ ∃ g, v'.ownBlock = some g ∧ w.heap.size ≤ g)) := Lib.hid (by
            refine ⟨⟨_, ho⟩, ?_, ?_⟩
            · rcases HD.out with h | ⟨g, h, hgs⟩
              · rw [h] at hg'; exact grown_both HG.out hg'
              · exact ⟨hg'.os.trans HG.out.os, hg'.tape.trans HG.out.tape, hg'.output.trans HG.out.output, Nat.le_trans HG.out.size hg'.size, fun i hi hne => (hg'.block i (Nat.lt_of_lt_of_le hi hle2) (fun e => by rw [h] at e; injection e with e; omega)).trans (HG.out.block i hi hne)⟩
            · rcases hd' with h | h
              · rw [h]; exact HD.out
              · exact .inr ⟨_, h, by omega⟩)
          clear ho hg' hd'
          go_roundw
          case rel => exact ⟨j + 1, by omega, by go_num, HJ'⟩
          case measure => simp [intOf]; omega
        · obtain rfl : j = 20 := by omega
          obtain ⟨⟨xs, hx⟩, hg, hd⟩ := HJ.out
          obtain ⟨A0, c0, rfl, _, _⟩ := own_readsC hx
          have HG := Lib.hid hg
          have H2' := Lib.hid (far_reads H2.out hB2 hg D2.out)
          have H3' := Lib.hid (far_reads H3.out hB3 hg D3.out)
          clear hx hg hd HJ
          go_wp2_with fail
          refine (same_self A2 A3 k c2 k c3 l _ _ _ H2'.out H3'.out (by omega) (by omega)).mono ?_; rintro e w' ⟨rfl, q3, rfl⟩
          go_wp2
          go_ret
          exact ⟨rfl, only_drewN HG.out _⟩
end Go.Proofs.Ythlnnclpfgokjaa
