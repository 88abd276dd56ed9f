/- Walk: fresh, of the field's laws: two lists told alike, the one written over and grown, the other stays. -/
import Derived.Test.YthlnnclpfgokjaaTexts
namespace Go.Proofs.Ythlnnclpfgokjaa
open Go.RowKit
set_option linter.unusedVariables false
theorem reads_far {w w' : World} {B n : Nat} {A : Option Addr} {xs : List Value} {row : Option Nat} (h : Reads w B 1 A n xs) (hB : B ≤ w.heap.size) (hg : w.grownBy w' row) (hne : ∀ ad, A = some ad → some ad.block ≠ row) : Reads w' B 1 A n xs :=
  ⟨h.1, fun hn => by
    obtain ⟨ad, e, hb, hc⟩ := h.2 hn
    exact ⟨ad, e, hb, fun j u hu => by
      have := World.cell?_of_block (w := w) (w' := w') (a := ad.add j) (by rw [block_of_add]; exact hg.block _ (by omega) (hne ad e))
      rw [this]; exact hc j u hu⟩⟩
theorem fresh_room {k j : Nat} (h : (k + 20) * 16 ≤ 140737488355328) (hj : j < 20) : k + j ≤ 4611686018427387904 ∧ (k + j + 1) * 16 ≤ 140737488355328 := by omega
theorem own_drewN {w : World} {base : Nat} {e : TypeId} {size n : Nat} {v : Value} {xs : List Value} (h : w.ownsRow base e size v n xs) (k : Nat) : (w.drewN k).ownsRow base e size v n xs := h
theorem fresh_step {w wr w' : World} {T : TypeId} {base n j : Nat} {v v' v0 : Value} {xs' : List Value} (ho : w'.ownsRow base T 1 v' (n + j + 1) xs') (hg : w.grownBy wr v0.ownBlock) (hd : v.ownBlock = v0.ownBlock ∨ ∀ g, v.ownBlock = some g → w.heap.size ≤ g)
    (hg' : wr.grownBy w' v.ownBlock) (hb' : v'.ownBlock = v.ownBlock ∨ v'.ownBlock = some (wr.heap.size + 1)) :
    (∃ xs, w'.ownsRow base T 1 v' (n + (j + 1)) xs) ∧ w.grownBy w' v0.ownBlock ∧ (v'.ownBlock = v0.ownBlock ∨ ∀ g, v'.ownBlock = some g → w.heap.size ≤ g) := by
  refine ⟨⟨_, ho⟩, grown_new hg hg' hd, ?_⟩
  rcases hb' with hb' | hb'
  · rw [hb']; exact hd
  · right; intro g hgg; rw [hb'] at hgg; injection hgg with hgg; have := hg.size; omega

set_option maxRecDepth 100000 in
set_option maxHeartbeats 400000 in
theorem fresh_any (w : World) (base : Nat) (v1 : Value) (A A' : Option Addr) (c c' n : Nat) (ss : List ByteArray) (B B' : Nat) (ho : w.ownsRow base 9 1 v1 n (strV ss)) (h : Reads w B 1 A n (strV ss)) (h' : Reads w B' 1 A' n (strV ss))
    (hbase : base ≤ w.heap.size) (hB : B ≤ w.heap.size) (hB' : B' ≤ w.heap.size) (hne : ∀ ad, A = some ad → some ad.block ≠ v1.ownBlock) (hne' : ∀ ad, A' = some ad → some ad.block ≠ v1.ownBlock) (hn : (n + 20) * 16 ≤ 140737488355328) :
    Calls Try.prog 28 #[v1, .slice A n c, .slice A' n c'] w fun e w' => e = .returned (.bool true) ∧ w.grownBy w' v1.ownBlock := by
  obtain ⟨A1, c1, rfl, hr1⟩ := own_reads ho
  have HR1 := Lib.hid hr1
  have HO := Lib.hid ho
  have H := Lib.hid h
  have H' := Lib.hid h'
  have HN := Lib.hid hne
  have HN' := Lib.hid hne'
  clear hr1 ho h h' hne hne'
  go_enter Try.func28, Try.ntmps28
  go_wp2_with fail
  refine (same_any A1 A' n c1 n c' ss ss _ _ B' HR1.out H'.out (by omega) (by omega)).mono ?_
  rintro e w1 ⟨rfl, m1, rfl⟩
  rw [decide_eq_true rfl]
  go_wp2_with fail
  refine (same_any A A' n c n c' ss ss _ B B' (H.out.drewN _) (H'.out.drewN _) (by omega) (by omega)).mono ?_
  rintro e w1 ⟨rfl, m2, rfl⟩
  rw [decide_eq_true rfl]
  go_wp2
  go_loopw [7] (fun i wr => ∃ k : Nat, k ≤ n ∧ i = .int .i64 k ∧ Hid ((∃ xs, wr.ownsRow base 9 1 (.slice A1 n c1) n xs) ∧ w.grownBy wr (Value.ownBlock (.slice A1 n c1)))) (fun i _ => n - (intOf i).toNat)
  case atStart => exact ⟨0, by omega, rfl, Lib.hid ⟨⟨_, own_drewN HO.out _⟩, only_drewN (World.grownBy.refl _ _) _⟩⟩
  case round =>
    obtain ⟨k, hk, rfl, HR⟩ := hrel
    by_cases hlt : k < n
    · obtain ⟨⟨xs, hx⟩, hg⟩ := HR.out
      obtain ⟨g, cap, hv, _, _⟩ := hx.form (by omega)
      injection hv with hA _ hc
      subst hA hc
      obtain ⟨v, hc1⟩ : ∃ v, wr.cell? ⟨g, k, none⟩ = some v := by
        have := hx.cellAt k (by omega)
        have hl := hx.1
        exact ⟨xs[k]'(by omega), by rw [this, List.getElem?_eq_getElem]⟩
      have hf1 : wr.frozen? ⟨g, k, none⟩ = false := hx.frozenAt k
      have ST := Lib.hid (hx.stored k (.string ⟨#[115, 112, 111, 105, 108, 116]⟩))
      have HG := Lib.hid hg
      clear hx hg
      go_wp2
      go_roundw
      case rel => exact ⟨k + 1, by omega, by go_num, Lib.hid ⟨⟨_, ST.out.1⟩, grown_both HG.out ST.out.2⟩⟩
      case measure => simp [intOf]; omega
    · obtain rfl : k = n := by omega
      go_wp2
      have HE := Lib.hid HR.out
      clear HR
      go_loopw [0, 8] (fun v i wr => ∃ j : Nat, j ≤ 20 ∧ i = .int .i64 j ∧ Hid ((∃ xs, wr.ownsRow base 9 1 v (k + j) xs) ∧ w.grownBy wr (Value.ownBlock (.slice A1 k c1)) ∧ (v.ownBlock = Value.ownBlock (.slice A1 k c1) ∨ ∀ g, v.ownBlock = some g → w.heap.size ≤ g))) (fun _ i _ => 20 - (intOf i).toNat)
      case atStart => exact ⟨0, by omega, rfl, Lib.hid ⟨HE.out.1, HE.out.2, .inl rfl⟩⟩
      case round =>
        obtain ⟨j, hj, rfl, HJ⟩ := hrel
        by_cases hjl : j < 20
        · obtain ⟨⟨xs, hx⟩, hg, hd⟩ := HJ.out
          have HX := Lib.hid hx
          have HG := Lib.hid hg
          have HD := Lib.hid hd
          have hsz : base ≤ wr.heap.size := Nat.le_trans hbase hg.size
          clear hx hg hd
          have HB := Lib.hid (fresh_room hn hjl)
          go_wp2_with (at_builtin; refine append1_blk elemStr rfl _ _ rfl base _ (k + j) xs rfl HX.out _ rfl rfl HB.out.1 HB.out.2 hsz ?_; intro v' w' ho' hg' hb')
          have HJ' := Lib.hid (fresh_step ho' HG.out HD.out hg' hb')
          clear ho' hg' hb'
          go_roundw
          case rel => exact ⟨j + 1, by omega, by go_num, HJ'⟩
          case measure => simp [intOf]; omega
        · obtain rfl : j = 20 := by omega
          obtain ⟨⟨xs, hx⟩, hg, hd⟩ := HJ.out
          obtain ⟨A2, c2, rfl, hr2⟩ := own_reads hx
          have h1 := reads_far H.out hB hg HN.out
          have h2 := reads_far H'.out hB' hg HN'.out
          have HG := Lib.hid hg
          have R1 := Lib.hid h1
          have R2 := Lib.hid h2
          clear hx hg hd hr2 h1 h2
          go_wp2_with fail
          refine (same_any A A' k c k c' ss ss _ B B' R1.out R2.out (by omega) (by omega)).mono ?_
          rintro e w1 ⟨rfl, m3, rfl⟩
          rw [decide_eq_true rfl]
          go_wp2
          go_ret
          exact ⟨rfl, only_drewN HG.out _⟩
end Go.Proofs.Ythlnnclpfgokjaa
