/- Several texts of the claim joined into one (part 7): plain facts and walks. No conditions but those that each theorem tells. -/
import Derived.Test.YthlnnclpfgokjaaMgShardsLinear6
import Derived.Test.YthlnnclpfgokjaaMgShardsLinear3
import Derived.Test.YthlnnclpfgokjaaMgShardsLinear5
import Derived.Deep.RegionHeld3
import Derived.Test.YthlnnclpfgokjaaMgShardsLinear2
namespace Go.Proofs.Ythlnnclpfgokjaa
open Go.RowKit Gf
set_option linter.unusedVariables false
theorem far_reads {w w' : World} {B n : Nat} {A : Option Addr} {xs : List Value} {row : Option Nat} (h : Reads w B 1 A n xs) (hB : B ≤ w.heap.size) (hg : w.grownBy w' row) (hne : ∀ ad, A = some ad → some ad.block ≠ row) : Reads w' B 1 A n xs :=
  ⟨h.1, fun hn => by
    obtain ⟨ad, e, hb, hc⟩ := h.2 hn
    exact ⟨ad, e, hb, fun j u hu => (World.cell?_of_block (hg.block _ (by rw [block_of_add]; omega) (by rw [block_of_add]; exact hne ad e))).trans (hc j u hu)⟩⟩
theorem same_self (A A' : Option Addr) (n c n' c' : Nat) (ss : List ByteArray) (w : World) (B B' : Nat) (h : Reads w B 1 A n (strV ss)) (h' : Reads w B' 1 A' n' (strV ss))
    (hn : n ≤ 9223372036854775807) (hn' : n' ≤ 9223372036854775807) :
    Calls Try.prog 38 #[.slice A n c, .slice A' n' c'] w fun e w' => e = .returned (.bool true) ∧ ∃ m, w' = w.drewN m := by
  have := same_any A A' n c n' c' ss ss w B B' h h' hn hn'
  rw [show decide (ss = ss) = true from decide_eq_true rfl] at this
  exact this
def spoilt : ByteArray := ⟨#[115, 112, 111, 105, 108, 116]⟩
def behind : ByteArray := ⟨#[98, 101, 104, 105, 110, 100]⟩
theorem own_set {w : World} {base n c : Nat} {e : TypeId} {g : Nat} {xs : List Value} (h : w.ownsRow base e 1 (.slice (some ⟨g, 0, none⟩) n c) n xs) (k : Nat) (u : Value) (hk : k < n) :
    ∃ ys, (w.setCell ⟨g, k, none⟩ u).ownsRow base e 1 (.slice (some ⟨g, 0, none⟩) n c) n ys := by
  rcases h.2 with ⟨h1, h2⟩ | ⟨g', cap, cur, h1, h3, h4, h5, h6, h7, h8⟩
  · cases h1
  · simp only [Value.slice.injEq, Option.some.injEq, Addr.mk.injEq, and_true, true_and] at h1
    obtain ⟨rfl, rfl⟩ := h1
    refine ⟨((cur.setIfInBounds k u).toList.take (n * 1)), ?_, .inr ⟨g, c, cur.setIfInBounds k u, rfl, h3, ?_, h5, h6, by simpa using h7, rfl⟩⟩
    · rw [List.length_take, Array.length_toList, Array.size_setIfInBounds, h7]; omega
    · simp [World.setCell, Array.getElem?_modify, h4]
set_option maxRecDepth 100000 in
set_option maxHeartbeats 1000000 in
theorem fresh_any (v1 : Value) (n : Nat) (l : List ByteArray) (A2 A3 : Option Addr) (c2 c3 : Nat) (w : World) (base B2 B3 : Nat) (h1 : w.ownsRow base 9 1 v1 n (strV l)) (hbase : base ≤ w.heap.size)
    (h2 : Reads w B2 1 A2 n (strV l)) (hB2 : B2 ≤ w.heap.size) (h3 : Reads w B3 1 A3 n (strV l)) (hB3 : B3 ≤ w.heap.size) (hn : (n + 20) * 16 ≤ 140737488355328)
    (d2 : ∀ ad, A2 = some ad → some ad.block ≠ v1.ownBlock) (d3 : ∀ ad, A3 = some ad → some ad.block ≠ v1.ownBlock) :
    Calls Try.prog 43 #[v1, .slice A2 n c2, .slice A3 n c3] w fun e w' => e = .returned (.bool true) ∧ w.grownBy w' v1.ownBlock := by
  obtain ⟨A1, c1, rfl, hc1, hr1⟩ := own_readsC h1
  have H1 := Lib.hid h1
  have HR1 := Lib.hid hr1
  have H2 := Lib.hid h2
  have H3 := Lib.hid h3
  have D2 := Lib.hid d2
  have D3 := Lib.hid d3
  clear h1 hr1 h2 h3 d2 d3
  go_enter Try.func43, Try.ntmps43
  go_wp2_with fail
  refine (same_self A1 A3 n c1 n c3 l _ _ _ HR1.out H3.out (by omega) (by omega)).mono ?_; rintro e w' ⟨rfl, q1, rfl⟩
  go_wp2_with fail
  refine (same_self A2 A3 n c2 n c3 l _ _ _ (H2.out.drewN q1) (H3.out.drewN q1) (by omega) (by omega)).mono ?_; rintro e w' ⟨rfl, q2, rfl⟩
  have HG0 : Hid (w.grownBy ((w.drewN q1).drewN q2) (Value.slice A1 n c1).ownBlock) := Lib.hid (only_drewN (only_drewN (World.grownBy.refl _ _) _) _)
  go_wp2
  go_loopw [7] (fun i wr => ∃ k : Nat, k ≤ n ∧ i = .int .i64 k ∧ Hid ((∃ xs, wr.ownsRow base 9 1 (.slice A1 n c1) n xs) ∧ w.grownBy wr (Value.slice A1 n c1).ownBlock)) (fun i _ => n - (intOf i).toNat)
  case atStart => exact ⟨0, by omega, rfl, Lib.hid ⟨⟨_, H1.out⟩, only_drewN (World.grownBy.refl _ _) _⟩⟩
  case round =>
    obtain ⟨k, hk, rfl, HK⟩ := hrel
    by_cases hlt : k < n
    · obtain ⟨⟨xs, hx⟩, hg⟩ := HK.out
      obtain ⟨g, cap, hv, hgb, hgl⟩ := hx.form (by omega)
      simp only [Value.slice.injEq, true_and] at hv
      obtain ⟨rfl, rfl⟩ := hv
      obtain ⟨v0, hc0⟩ : ∃ v, wr.cell? ⟨g, k, none⟩ = some v := by
        obtain ⟨_, c', e, hr⟩ := own_reads hx
        obtain ⟨ad, u, e2, _, _, hcell⟩ := hr.at_ hlt
        simp only [Value.slice.injEq] at e
        obtain ⟨rfl, _⟩ := e
        injection e2 with e2; subst e2
        rw [add0] at hcell
        exact ⟨u, hcell⟩
      have hf0 : wr.frozen? ⟨g, k, none⟩ = false := hx.frozenAt k
      have HX := Lib.hid (own_set hx k (.string spoilt) hlt)
      have HG := Lib.hid (only_setCell (g := g) hg (p := ⟨g, k, none⟩) (.inl rfl) (.string spoilt))
      clear hx hg HK
      go_wp2
      go_roundw
      case rel => exact ⟨k + 1, by omega, by go_num, Lib.hid ⟨HX.out, HG.out⟩⟩
      case measure => simp [intOf]; omega
    · obtain rfl : k = n := by omega
      go_wp2
      go_loopw [0, 8] (fun v i wr => ∃ j : Nat, j ≤ 20 ∧ i = .int .i64 j ∧ Hid ((∃ xs, wr.ownsRow base 9 1 v (k + j) xs) ∧ w.grownBy wr (Value.slice A1 k c1).ownBlock ∧ (v.ownBlock = (Value.slice A1 k c1).ownBlock ∨ ∃ g, v.ownBlock = some g ∧ w.heap.size ≤ g))) (fun _ i _ => 20 - (intOf i).toNat)
      case atStart => exact ⟨0, by omega, rfl, Lib.hid ⟨HK.out.1, HK.out.2, .inl rfl⟩⟩
      case round =>
        obtain ⟨j, hj, rfl, HJ⟩ := hrel
        clear HK
        by_cases hjl : j < 20
        · obtain ⟨⟨xs, hx⟩, hg, hd⟩ := HJ.out
          have HX := Lib.hid hx
          have HG := Lib.hid hg
          have HD := Lib.hid hd
          have hk1 : k + j ≤ 4611686018427387904 := by omega
          have hk2 : (k + j + 1) * 16 ≤ 140737488355328 := by omega
          have hle : base ≤ wr.heap.size := Nat.le_trans hbase hg.size
          have hle2 : w.heap.size ≤ wr.heap.size := hg.size
          clear hx hg hd HJ
          go_wp2_with (at_builtin; refine append1_blk elemStr rfl _ _ rfl base u0 (k + j) _ rfl HX.out (.string behind) rfl rfl hk1 hk2 hle ?_; intro v' w' ho hg' hd')
          have HJ' : Hid ((∃ xs, w'.ownsRow base 9 1 v' (k + (j + 1)) xs) ∧ w.grownBy w' (Value.slice A1 k c1).ownBlock ∧ (v'.ownBlock = (Value.slice A1 k c1).ownBlock ∨ ∃ g, v'.ownBlock = some g ∧ w.heap.size ≤ g)) := Lib.hid (by
            refine ⟨⟨_, ho⟩, ?_, ?_⟩
            · rcases HD.out with h | ⟨g, h, hgs⟩
              · rw [h] at hg'; exact grown_both HG.out hg'
              · exact ⟨hg'.os.trans HG.out.os, hg'.tape.trans HG.out.tape, hg'.output.trans HG.out.output, Nat.le_trans HG.out.size hg'.size, fun i hi hne => (hg'.block i (Nat.lt_of_lt_of_le hi hle2) (fun e => by rw [h] at e; injection e with e; omega)).trans (HG.out.block i hi hne)⟩
            · rcases hd' with h | h
              · rw [h]; exact HD.out
              · exact .inr ⟨_, h, by omega⟩)
          clear ho hg' hd'
          go_roundw
          case rel => exact ⟨j + 1, by omega, by go_num, HJ'⟩
          case measure => simp [intOf]; omega
        · obtain rfl : j = 20 := by omega
          obtain ⟨⟨xs, hx⟩, hg, hd⟩ := HJ.out
          obtain ⟨A0, c0, rfl, _, _⟩ := own_readsC hx
          have HG := Lib.hid hg
          have H2' := Lib.hid (far_reads H2.out hB2 hg D2.out)
          have H3' := Lib.hid (far_reads H3.out hB3 hg D3.out)
          clear hx hg hd HJ
          go_wp2_with fail
          refine (same_self A2 A3 k c2 k c3 l _ _ _ H2'.out H3'.out (by omega) (by omega)).mono ?_; rintro e w' ⟨rfl, q3, rfl⟩
          go_wp2
          go_ret
          exact ⟨rfl, only_drewN HG.out _⟩
end Go.Proofs.Ythlnnclpfgokjaa
namespace Go.Proofs.Ythlnnclpfgokjaa
open Go.RowKit Gf
set_option linter.unusedVariables false
theorem elemBool : Elem1 Try.prog 55 4 (.bool false) 1 := Elem1.of (by kernel_rfl) (by kernel_rfl) rfl
theorem elemInt : Elem1 Try.prog 45 3 (.int .i64 0) 8 := Elem1.of (by kernel_rfl) (by kernel_rfl) rfl
theorem bools_made (w : World) (n : Nat) (hn : n ≤ 70368744177664) :
    (Instr.makeSlice 55 (.int .i64 (n : Int)) (.int .i64 (n : Int))).run Try.prog w = .ok (.slice (some ⟨w.heap.size, 0, none⟩) n n) (w.alloc (.cells (madeCells #[.bool false] n) 4)) := by
  obtain ⟨i, hi, h1, h2, h3⟩ := elemBool.info
  have := run_make_rowN (P := Try.prog) 55 4 i _ (by kernel_rfl) hi h1 .i64 .i64 n n (Nat.le_refl _) (by rw [h3]; omega) (by omega) w
  rw [h2, Nat.mul_one] at this
  exact this
def natV (l : List Nat) : List Value := l.map fun i : Nat => .int .i64 (i : Int)
/-- Is i met among the first k? -/
def pkB (l : List UInt8) (n k i : Nat) : Bool := (l.take k).any fun b => b.toNat % n == i
def pkL (l : List UInt8) (n k : Nat) : List Nat := (List.range k).filter fun i => pkB l n l.length i
theorem pkB_succ (l : List UInt8) (n k i : Nat) (hk : k < l.length) : pkB l n (k + 1) i = (pkB l n k i || ((l.getD k 0).toNat % n == i)) := by
  unfold pkB
  rw [List.take_succ_eq_append_getElem hk, List.any_append]
  simp [List.getD, hk]
theorem pkL_succ (l : List UInt8) (n k : Nat) : pkL l n (k + 1) = pkL l n k ++ if pkB l n l.length k then [k] else [] := by
  unfold pkL
  rw [List.range_succ, List.filter_append]
  congr 1
  rw [List.filter_cons]; rfl
theorem pkL_lt (l : List UInt8) (n k x : Nat) (h : x ∈ pkL l n k) : x < k := by
  unfold pkL at h
  have := (List.mem_filter.1 h).1
  simpa using this
theorem pkL_length (l : List UInt8) (n k : Nat) : (pkL l n k).length ≤ k := by
  unfold pkL
  have := List.length_filter_le (fun i => pkB l n l.length i) (List.range k)
  simpa using this
theorem pkL_mono (l : List UInt8) (n k : Nat) (i j : Nat) (hij : i < j) (hj : j < (pkL l n k).length) : (pkL l n k).getD i 0 < (pkL l n k).getD j 0 := by
  have h : (pkL l n k).Pairwise (· < ·) := List.Pairwise.filter _ List.pairwise_lt_range
  have := List.pairwise_iff_getElem.1 h i j (by omega) hj hij
  rw [List.getD_eq_getElem?_getD, List.getD_eq_getElem?_getD, List.getElem?_eq_getElem (by omega), List.getElem?_eq_getElem hj]
  exact this
theorem pkL_at (l : List UInt8) (n k i : Nat) (hi : i < (pkL l n k).length) : (pkL l n k).getD i 0 < k := by
  refine pkL_lt l n k _ ?_
  rw [List.getD_eq_getElem?_getD, List.getElem?_eq_getElem hi]
  exact List.getElem_mem hi
theorem Reads.u8 {w : World} {B n : Nat} {A : Option Addr} {l : List UInt8} (h : Reads w B 1 A n (u8s l)) : l.length = n := by
  have := h.1; rw [u8s_length] at this; omega

set_option maxRecDepth 100000 in
theorem picked_any (w : World) (B : Nat) (A : Option Addr) (m c n : Nat) (l : List UInt8) (h : Reads w B 1 A m (u8s l)) (hB : B ≤ w.heap.size) (hm : m ≤ 9223372036854775807) (hn1 : 1 ≤ n) (hn : n ≤ 64) :
    Calls Try.prog 39 #[.slice A m c, .int .i64 (n : Int)] w
      fun e w' => ∃ v, e = .returned v ∧ w'.ownsRow w.heap.size 3 1 v (pkL l n n).length (natV (pkL l n n)) ∧ Below w.heap.size w w' := by
  have hl := h.u8
  have H := Lib.hid h
  have HL := Lib.hid hl
  clear h hl
  have hmk := fun W => bools_made W n (by omega)
  go_enter Try.func39, Try.ntmps39
  go_wp2
  clear hmk
  go_loopw [6] (fun i wr => ∃ k : Nat, k ≤ m ∧ i = .int .i64 k ∧ Hid (wr.rowIs w.heap.size 4 n (fun i => .bool (pkB l n k i)) ∧ Below w.heap.size w wr)) (fun i _ => m - (intOf i).toNat)
  case atStart => exact ⟨0, by omega, rfl, Lib.hid ⟨(World.rowIs_made w (.bool false) n 4).congr fun i hi => by simp [pkB], (Below.refl _ _).alloc (Nat.le_refl _) _⟩⟩
  case round =>
    obtain ⟨k, hk, rfl, HR⟩ := hrel
    by_cases hlt : k < m
    · obtain ⟨ad, rfl, hb, hc⟩ := reads_u8 (H.out.below (HR.out.2.mono hB)) (by omega)
      have hck := hc k hlt
      clear hc
      obtain ⟨b, hbe⟩ : ∃ b, b = l.getD k 0 := ⟨_, rfl⟩
      rw [← hbe] at hck
      have HBE := Lib.hid hbe
      clear hbe
      have hb256 : b.toNat < 256 := b.toNat_lt
      have hmod : b.toNat % n < n := Nat.mod_lt _ (by omega)
      obtain ⟨v1, hc1⟩ : ∃ v, wr.cell? ⟨w.heap.size, b.toNat % n, none⟩ = some v := ⟨_, HR.out.1.cell hmod⟩
      have hf1 : wr.frozen? ⟨w.heap.size, b.toNat % n, none⟩ = false := HR.out.1.frozen _
      go_wp2
      go_roundw
      case rel =>
        refine ⟨k + 1, by omega, by go_num, Lib.hid ⟨(HR.out.1.set (b.toNat % n) _).congr fun i hi => ?_, HR.out.2.setCell (Nat.le_refl _) _⟩⟩
        rw [pkB_succ _ _ _ _ (by rw [HL.out]; exact hlt), ← HBE.out]
        by_cases e : i = b.toNat % n
        · rw [if_pos e, e]; simp
        · rw [if_neg e, beq_eq_false_iff_ne.2 (fun h => e h.symm), Bool.or_false]
      case measure => simp [intOf]; omega
    · obtain rfl : k = m := by omega
      have HO : Hid (wr.rowIs w.heap.size 4 n (fun i => .bool (pkB l n l.length i)) ∧ Below w.heap.size w wr) := Lib.hid (by rw [HL.out]; exact HR.out)
      clear HR
      go_wp2
      obtain ⟨w1, rfl⟩ : ∃ w1 : World, w1 = wr := ⟨_, rfl⟩
      go_loopw [7, 8] (fun v i wr => ∃ j : Nat, j ≤ n ∧ i = .int .i64 j ∧ Hid (wr.rowIs w.heap.size 4 n (fun i => .bool (pkB l n l.length i)) ∧ wr.ownsRow w.heap.size 3 1 v (pkL l n j).length (natV (pkL l n j)) ∧ Below w.heap.size w wr)) (fun _ i _ => n - (intOf i).toNat)
      case atStart => exact ⟨0, by omega, rfl, Lib.hid ⟨HO.out.1, World.ownsRow_nil _ _ _ _, HO.out.2⟩⟩
      case round =>
        obtain ⟨j, hj, rfl, HJ⟩ := hrel
        by_cases hjl : j < n
        · have hlen := pkL_length l n j
          by_cases hb : pkB l n l.length j = true
          · have hc1 : wr.cell? ⟨w.heap.size, j, none⟩ = some (.bool true) := by rw [HJ.out.1.cell hjl, hb]
            have HB := Lib.hid hb
            clear hb
            have hj1 : (pkL l n j).length ≤ 4611686018427387904 := by omega
            have hj2 : ((pkL l n j).length + 1) * 8 ≤ 140737488355328 := by omega
            go_wp2_with (at_builtin; refine append1_new elemInt rfl _ _ rfl w.heap.size _ _ _ rfl HJ.out.2.1 _ rfl rfl hj1 hj2 HJ.out.2.2.size ?_; intro v' w' ho hg)
            have HJ' : Hid (w'.rowIs w.heap.size 4 n (fun i => .bool (pkB l n l.length i)) ∧ w'.ownsRow w.heap.size 3 1 v' (pkL l n (j + 1)).length (natV (pkL l n (j + 1))) ∧ Below w.heap.size w w') :=
              Lib.hid ⟨row_keep HJ.out.1 HJ.out.2.1 (by decide) hg, by rw [pkL_succ, HB.out, if_pos rfl]; simpa [natV] using ho, below_own HJ.out.2.2 HJ.out.2.1 hg⟩
            clear ho hg
            go_roundw
            case rel => exact ⟨j + 1, by omega, by go_num, HJ'⟩
            case measure => simp [intOf]; omega
          · rw [Bool.not_eq_true] at hb
            have hc1 : wr.cell? ⟨w.heap.size, j, none⟩ = some (.bool false) := by rw [HJ.out.1.cell hjl, hb]
            have e : pkL l n (j + 1) = pkL l n j := by rw [pkL_succ, hb, if_neg (by decide), List.append_nil]
            have HJ' := HJ
            rw [← e] at HJ'
            clear hb e
            go_wp2
            go_roundw
            case rel => exact ⟨j + 1, by omega, by go_num, HJ'⟩
            case measure => simp [intOf]; omega
        · obtain rfl : j = n := by omega
          go_wp2
          go_ret
          exact ⟨_, rfl, HJ.out.2.1, HJ.out.2.2⟩
end Go.Proofs.Ythlnnclpfgokjaa
namespace Go.Proofs.Ythlnnclpfgokjaa
open Go.RowKit Gf
set_option linter.unusedVariables false
set_option linter.unusedSimpArgs false
theorem litReads (w : World) (T : TypeId) (cs : Array Value) (xs : List Value) (n : Nat) (h : cs = xs.toArray) (hn : n = xs.length) : Reads (w.alloc (.cells cs T)) (w.heap.size + 1) 1 (some ⟨w.heap.size, 0, none⟩) n xs := by
  subst h hn
  refine ⟨by omega, fun _ => ⟨_, rfl, by simp, fun j u hj => ?_⟩⟩
  have hj' : j < xs.length := by
    rcases Nat.lt_or_ge j xs.length with h | h
    · exact h
    · simp [h] at hj
  have := (World.rowIs_alloc w xs.toArray T (fun j => xs.getD j undef) (fun i hi => by simp at hi; simp [hi])).cell (i := j) (by simpa using hj')
  have ea : ({ block := w.heap.size, off := 0, spot := none } : Addr).add j = ⟨w.heap.size, j, none⟩ := by unfold Addr.add; split <;> simp_all
  rw [ea, this]
  simp [List.getD, hj]
def sA5 : ByteArray := ⟨#[97, 98, 99, 100, 101]⟩
def sAb : ByteArray := ⟨#[97, 98, 99]⟩
def sDe : ByteArray := ⟨#[100, 101, 0]⟩
def cutA : List ByteArray := [sAb, sDe]
theorem cut_a5 : cutR sA5 2 = (cutA, 0) := by
  unfold cutR; rw [if_pos (by omega)]
  show (cutL sA5 2, (0 : Int)) = _
  have : cutL sA5 2 = cutA := by decide +kernel
  rw [this]
def parA : ByteArray := sAt (parL cutA 1) 0
theorem enc_a : encR cutA 1 = ([parA], 0) := by
  rw [encR_yes ⟨by decide, by decide, by decide +kernel, by omega, by decide⟩]; rfl
theorem all_a : allL cutA 1 = [sAb, sDe, parA] := rfl
set_option maxRecDepth 100000 in
theorem reb_a : rebR [ByteArray.empty, sDe, parA] [false, true, true] 2 = ([sAb, sDe, parA], 0) := by
  rw [← all_a]
  refine reb_back cutA 1 _ _ (by decide) (by decide) (by decide) (by decide +kernel) rfl rfl (fun i hi ht => ?_) (by decide)
  have hi : i < 3 := hi
  have : i = 0 ∨ i = 1 ∨ i = 2 := by omega
  rcases this with h | h | h <;> subst h
  · cases ht
  · rfl
  · rfl
theorem awake_reb (W : World) (g1 g2 : Nat) (h1 : Reads W W.heap.size 1 (some ⟨g1, 0, none⟩) 3 (strV [ByteArray.empty, sDe, parA])) (h2 : Reads W W.heap.size 1 (some ⟨g2, 0, none⟩) 3 (boolV [false, true, true])) :
    Calls Try.prog 49 #[.slice (some ⟨g1, 0, none⟩) 3 3, .slice (some ⟨g2, 0, none⟩) 3 3, .int .i64 2] W fun e W' => RetStrs W W' e ([sAb, sDe, parA], 0) := by
  have := rebuild_any (some ⟨g1, 0, none⟩) 3 3 _ (some ⟨g2, 0, none⟩) 3 3 _ 2 W _ _ h1 (Nat.le_refl _) h2 (Nat.le_refl _) (by omega) (by omega) (by
    intro s hs
    have : s.size ≤ 3 := by
      simp only [List.mem_cons, List.not_mem_nil, or_false] at hs
      rcases hs with rfl | rfl | rfl
      · decide
      · decide
      · unfold parA; rw [parL_at _ _ _ (by decide), sumL_size]; decide
    omega)
  rw [reb_a] at this
  exact this
set_option maxRecDepth 100000 in
set_option maxHeartbeats 2000000 in
theorem shAwake_any (w : World) : Calls Try.prog 52 #[] w fun e w' => e = .returned (.bool true) ∧ Below w.heap.size w w' := by
  go_enter Try.func52, Try.ntmps52
  go_wp2_with fail
  refine (cut_any sA5 2 _ (by decide)).mono ?_
  rintro e w1 ⟨va, rfl, hoa, hba⟩
  rw [cut_a5] at hoa ⊢
  have HOA : Hid (w1.ownsRow w.heap.size 9 1 va 2 (strV cutA)) := Lib.hid hoa
  have HB1 := Lib.hid hba
  have s1 := hba.size
  clear hoa hba
  obtain ⟨ga, ca, hva, hca, hga, hga2⟩ : ∃ g c, va = .slice (some ⟨g, 0, none⟩) 2 c ∧ 2 ≤ c ∧ w.heap.size ≤ g ∧ g < w1.heap.size := by
    rcases HOA.out.2 with ⟨_, h2⟩ | ⟨g, cap, cur, rfl, h3, h4, h5, _⟩
    · omega
    · exact ⟨g, cap, rfl, h5, h3, (Array.getElem?_eq_some_iff.1 h4).1⟩
  subst hva
  have RA : Hid (Reads w1 w1.heap.size 1 (some ⟨ga, 0, none⟩) 2 (strV cutA)) := Lib.hid (by
    obtain ⟨A0, c0, e0, h0⟩ := own_reads HOA.out
    simp only [Value.slice.injEq, true_and] at e0
    obtain ⟨rfl, rfl⟩ := e0
    exact h0)
  go_wp2_with fail
  refine (encode_any _ 2 ca cutA 1 _ _ RA.out (Nat.le_refl _) (by omega) (by omega) (by omega) (by decide)).mono ?_
  rintro e w2 ⟨vp, rfl, hop, hbp⟩
  rw [enc_a] at hop ⊢
  have HOP : Hid (w2.ownsRow w1.heap.size 9 1 vp 1 (strV [parA])) := Lib.hid hop
  have HB2 := Lib.hid (HB1.out.trans (hbp.mono s1))
  have RA2 := Lib.hid (RA.out.below hbp)
  have s2 := hbp.size
  clear hop hbp
  obtain ⟨gp, cp, hvp, hcp, hgp, hgp2⟩ : ∃ g c, vp = .slice (some ⟨g, 0, none⟩) 1 c ∧ 1 ≤ c ∧ w1.heap.size ≤ g ∧ g < w2.heap.size := by
    rcases HOP.out.2 with ⟨_, h2⟩ | ⟨g, cap, cur, rfl, h3, h4, h5, _⟩
    · omega
    · exact ⟨g, cap, rfl, h5, h3, (Array.getElem?_eq_some_iff.1 h4).1⟩
  subst hvp
  have RP : Hid (Reads w2 w2.heap.size 1 (some ⟨gp, 0, none⟩) 1 (strV [parA])) := Lib.hid (by
    obtain ⟨A0, c0, e0, h0⟩ := own_reads HOP.out
    simp only [Value.slice.injEq, true_and] at e0
    obtain ⟨rfl, rfl⟩ := e0
    exact h0)
  have RL : Hid (Reads (w2.alloc (.cells #[.string sAb, .string sDe] 9)) (w2.heap.size + 1) 1 (some ⟨w2.heap.size, 0, none⟩) 2 (strV cutA)) := Lib.hid (litReads w2 9 _ (strV cutA) 2 rfl rfl)
  have RA3 : Hid (Reads (w2.alloc (.cells #[.string sAb, .string sDe] 9)) w1.heap.size 1 (some ⟨ga, 0, none⟩) 2 (strV cutA)) := Lib.hid (RA2.out.alloc s2 _)
  unfold sAb sDe at RL RA3
  go_wp2_with fail
  refine (same_self _ _ 2 ca 2 2 cutA _ _ _ RA3.out RL.out (by omega) (by omega)).mono ?_
  rintro e w3 ⟨rfl, q, rfl⟩
  have HB3 : Hid (Below w.heap.size w ((w2.alloc (.cells #[.string ⟨#[97, 98, 99]⟩, .string ⟨#[100, 101, 0]⟩] 9)).drewN q)) := Lib.hid (below_drewN (HB2.out.alloc HB2.out.size _) _)
  go_wp2
  generalize hW : (w2.alloc (.cells #[.string ⟨#[97, 98, 99]⟩, .string ⟨#[100, 101, 0]⟩] 9)).drewN q = W at HB3
  have hWb : Below w2.heap.size w2 W := by rw [← hW]; exact below_drewN ((Below.refl w2.heap.size w2).alloc (Nat.le_refl _) _) _
  have RAW := Lib.hid (RA2.out.below (hWb.mono s2))
  have RPW := Lib.hid (RP.out.below hWb)
  have sW := hWb.size
  have KX : Hid (∀ W', Below W.heap.size W W' → W'.cell? ⟨ga, 1, none⟩ = some (.string sDe) ∧ W'.cell? ⟨gp, 0, none⟩ = some (.string parA)) := Lib.hid (fun W' hb => by
    obtain ⟨ad, e, _, hc⟩ := RAW.out.2 (by omega)
    injection e with e; subst e
    obtain ⟨ad', e', _, hc'⟩ := RPW.out.2 (by omega)
    injection e' with e'; subst e'
    have h1 := hc 1 (.string sDe) rfl
    have h2 := hc' 0 (.string parA) rfl
    rw [add0] at h1 h2
    exact ⟨(hb.cell (p := ⟨ga, 1, none⟩) (by show ga < _; omega)).trans h1, (hb.cell (p := ⟨gp, 0, none⟩) (by show gp < _; omega)).trans h2⟩)
  clear hW hWb RL RA3
  have R1 : Hid (∀ V : World, Calls Try.prog 49 #[.slice (some ⟨V.heap.size, 0, none⟩) 3 3, .slice (some ⟨V.heap.size + 1, 0, none⟩) 3 3, .int .i64 2]
      ((V.alloc (.cells #[.string ⟨#[]⟩, .string sDe, .string parA] 9)).alloc (.cells #[.bool false, .bool true, .bool true] 4)) fun e W' => ∃ v, e = .returned (.tuple #[v, .int .i64 0]) ∧ W'.ownsRow V.heap.size 9 1 v 3 (strV [sAb, sDe, parA]) ∧ Below V.heap.size V W') := Lib.hid (fun V => by
    have h1 := ((litReads V 9 #[.string ⟨#[]⟩, .string sDe, .string parA] (strV [ByteArray.empty, sDe, parA]) 3 rfl rfl).alloc (by simp) (.cells #[.bool false, .bool true, .bool true] 4)).more (show V.heap.size + 1 ≤ ((V.alloc (.cells #[.string ⟨#[]⟩, .string sDe, .string parA] 9)).alloc (.cells #[.bool false, .bool true, .bool true] 4)).heap.size by simp)
    have h2 := (litReads (V.alloc (.cells #[.string ⟨#[]⟩, .string sDe, .string parA] 9)) 4 #[.bool false, .bool true, .bool true] (boolV [false, true, true]) 3 rfl rfl).more (show _ ≤ ((V.alloc (.cells #[.string ⟨#[]⟩, .string sDe, .string parA] 9)).alloc (.cells #[.bool false, .bool true, .bool true] 4)).heap.size by simp)
    refine (awake_reb _ V.heap.size (V.heap.size + 1) h1 (by simpa using h2)).mono fun e W' ⟨v, he, ho, hb⟩ => ⟨v, he, own_base ho (by simp; omega), ?_⟩
    exact (((Below.refl V.heap.size V).alloc (Nat.le_refl _) _).alloc (by simp) _).trans (hb.mono (by simp; omega)))
  have R2 : Hid (∀ V : World, Calls Try.prog 49 #[.slice (some ⟨V.heap.size + 1, 0, none⟩) 3 3, .slice (some ⟨V.heap.size, 0, none⟩) 3 3, .int .i64 2]
      ((V.alloc (.cells #[.bool false, .bool true, .bool true] 4)).alloc (.cells #[.string ⟨#[]⟩, .string sDe, .string parA] 9)) fun e W' => ∃ v, e = .returned (.tuple #[v, .int .i64 0]) ∧ W'.ownsRow V.heap.size 9 1 v 3 (strV [sAb, sDe, parA]) ∧ Below V.heap.size V W') := Lib.hid (fun V => by
    have h2 := ((litReads V 4 #[.bool false, .bool true, .bool true] (boolV [false, true, true]) 3 rfl rfl).alloc (by simp) (.cells #[.string ⟨#[]⟩, .string sDe, .string parA] 9)).more (show V.heap.size + 1 ≤ ((V.alloc (.cells #[.bool false, .bool true, .bool true] 4)).alloc (.cells #[.string ⟨#[]⟩, .string sDe, .string parA] 9)).heap.size by simp)
    have h1 := (litReads (V.alloc (.cells #[.bool false, .bool true, .bool true] 4)) 9 #[.string ⟨#[]⟩, .string sDe, .string parA] (strV [ByteArray.empty, sDe, parA]) 3 rfl rfl).more (show _ ≤ ((V.alloc (.cells #[.bool false, .bool true, .bool true] 4)).alloc (.cells #[.string ⟨#[]⟩, .string sDe, .string parA] 9)).heap.size by simp)
    refine (awake_reb _ (V.heap.size + 1) V.heap.size (by simpa using h1) h2).mono fun e W' ⟨v, he, ho, hb⟩ => ⟨v, he, own_base ho (by simp; omega), ?_⟩
    exact (((Below.refl V.heap.size V).alloc (Nat.le_refl _) _).alloc (by simp) _).trans (hb.mono (by simp; omega)))
  refine wp_region_held_drew (S := fun w' => w'.cell? ⟨ga, 1, none⟩ = some (.string sDe) ∧ w'.cell? ⟨gp, 0, none⟩ = some (.string parA)) (by kernel_rfl) (by first | exact KX.out _ ((Below.refl _ _).drew) | exact KX.out _ (((Below.refl _ _).drew).alloc (Nat.le_refl _) _) | exact KX.out _ ((((Below.refl _ _).drew).alloc (Nat.le_refl _) _).alloc (by simp) _) | exact KX.out _ (((Below.refl _ _).drew).trans hb7)) (fun hHeld => ?_)
  refine wpAnyH_take (i := 0) (oi := _) (v := _) rfl (by as_aux_lemma => kernel_rfl) (by as_aux_lemma => kernel_rfl) (by as_aux_lemma => kernel_rfl) (fun _ _ _ h => h) (Or.inl ⟨by kernel_rfl, by (intro w hSw; (try dsimp only at hSw); go_simp; first | done | with_reducible rfl)⟩) (by assumption) ?_
  (try simp only [List.getElem_toArray, List.getElem_cons_succ, List.getElem_cons_zero, Act.put, List.setIfInBounds_toArray, List.set_cons_zero, List.set_cons_succ])
  refine wpAnyH_take (i := 1) (oi := _) (v := _) rfl (by as_aux_lemma => kernel_rfl) (by as_aux_lemma => kernel_rfl) (by as_aux_lemma => kernel_rfl) (fun _ _ _ h => h) (Or.inl ⟨by kernel_rfl, by (intro w hSw; (try dsimp only at hSw); go_simp; first | done | with_reducible rfl)⟩) (by assumption) ?_
  (try simp only [List.getElem_toArray, List.getElem_cons_succ, List.getElem_cons_zero, Act.put, List.setIfInBounds_toArray, List.set_cons_zero, List.set_cons_succ])
  refine wpAnyH_take (i := 2) (oi := _) (v := _) rfl (by as_aux_lemma => kernel_rfl) (by as_aux_lemma => kernel_rfl) (by as_aux_lemma => kernel_rfl) (fun _ _ _ h => h) (Or.inl ⟨by kernel_rfl, by (intro w hSw; (try dsimp only at hSw); go_simp; first | done | with_reducible rfl)⟩) (by assumption) ?_
  (try simp only [List.getElem_toArray, List.getElem_cons_succ, List.getElem_cons_zero, Act.put, List.setIfInBounds_toArray, List.set_cons_zero, List.set_cons_succ])
  refine wpAnyH_take (i := 3) (oi := _) (v := _) rfl (by as_aux_lemma => kernel_rfl) (by as_aux_lemma => kernel_rfl) (by as_aux_lemma => kernel_rfl) (fun _ _ _ h => h) (Or.inl ⟨by kernel_rfl, by (intro w hSw; (try dsimp only at hSw); go_simp; first | done | with_reducible rfl)⟩) (by assumption) ?_
  (try simp only [List.getElem_toArray, List.getElem_cons_succ, List.getElem_cons_zero, Act.put, List.setIfInBounds_toArray, List.set_cons_zero, List.set_cons_succ])
  refine wpAnyH_take (i := 4) (oi := _) (v := _) rfl (by as_aux_lemma => kernel_rfl) (by as_aux_lemma => kernel_rfl) (by as_aux_lemma => kernel_rfl) (fun _ _ _ h => h) (Or.inl ⟨by kernel_rfl, by (intro w hSw; (try dsimp only at hSw); go_simp; first | done | with_reducible rfl)⟩) (by assumption) ?_
  (try simp only [List.getElem_toArray, List.getElem_cons_succ, List.getElem_cons_zero, Act.put, List.setIfInBounds_toArray, List.set_cons_zero, List.set_cons_succ])
  refine wpAnyH_take (i := 5) (oi := _) (v := _) rfl (by as_aux_lemma => kernel_rfl) (by as_aux_lemma => kernel_rfl) (by as_aux_lemma => kernel_rfl) (fun _ _ _ h => h) (Or.inl ⟨by kernel_rfl, by (intro w hSw; (try dsimp only at hSw); go_simp; first | done | with_reducible rfl)⟩) (by assumption) ?_
  (try simp only [List.getElem_toArray, List.getElem_cons_succ, List.getElem_cons_zero, Act.put, List.setIfInBounds_toArray, List.set_cons_zero, List.set_cons_succ])
  refine wpAnyH_ready (rs := [6, 7]) (by as_aux_lemma => kernel_rfl) (by simp) (AllReadyH.cons rfl (fun KK hK => ?_) (AllReadyH.cons rfl (fun KK hK => ?_) AllReadyH.nil))
  · try simp only [List.getElem_toArray, List.getElem_cons_succ, List.getElem_cons_zero]
    go_simp
    refine hK.out _ _ (by first | exact KX.out _ ((Below.refl _ _).drew) | exact KX.out _ (((Below.refl _ _).drew).alloc (Nat.le_refl _) _) | exact KX.out _ ((((Below.refl _ _).drew).alloc (Nat.le_refl _) _).alloc (by simp) _) | exact KX.out _ (((Below.refl _ _).drew).trans hb7)) (fun hHeld => ?_)
    clear hK KK
    (try simp only [List.getElem_toArray, List.getElem_cons_succ, List.getElem_cons_zero, Act.put, List.setIfInBounds_toArray, List.set_cons_zero, List.set_cons_succ])
    refine wpAnyH_ready (rs := [7]) (by as_aux_lemma => kernel_rfl) (by simp) (AllReadyH.cons rfl (fun KK hK => ?_) AllReadyH.nil)
    try simp only [List.getElem_toArray, List.getElem_cons_succ, List.getElem_cons_zero]
    go_simp
    refine hK.out _ _ (by first | exact KX.out _ ((Below.refl _ _).drew) | exact KX.out _ (((Below.refl _ _).drew).alloc (Nat.le_refl _) _) | exact KX.out _ ((((Below.refl _ _).drew).alloc (Nat.le_refl _) _).alloc (by simp) _) | exact KX.out _ (((Below.refl _ _).drew).trans hb7)) (fun hHeld => ?_)
    clear hK KK
    (try simp only [List.getElem_toArray, List.getElem_cons_succ, List.getElem_cons_zero, Act.put, List.setIfInBounds_toArray, List.set_cons_zero, List.set_cons_succ])
    refine wpAnyH_ready (rs := [8]) (by as_aux_lemma => kernel_rfl) (by simp) (AllReadyH.cons rfl (fun KK hK => ?_) AllReadyH.nil)
    try simp only [List.getElem_toArray, List.getElem_cons_succ, List.getElem_cons_zero]
    go_simp
    go_at_call 49
    refine (R1.out W.drew).mono ?_
    rintro e w7 ⟨v7, rfl, ho7, hb7⟩
    go_simp
    refine hK.out _ _ (by first | exact KX.out _ ((Below.refl _ _).drew) | exact KX.out _ (((Below.refl _ _).drew).alloc (Nat.le_refl _) _) | exact KX.out _ ((((Below.refl _ _).drew).alloc (Nat.le_refl _) _).alloc (by simp) _) | exact KX.out _ (((Below.refl _ _).drew).trans hb7)) (fun hHeld => ?_)
    clear hK KK
    (try simp only [List.getElem_toArray, List.getElem_cons_succ, List.getElem_cons_zero, Act.put, List.setIfInBounds_toArray, List.set_cons_zero, List.set_cons_succ])
    refine wpAnyH_take (i := 9) (oi := _) (v := _) rfl (by as_aux_lemma => kernel_rfl) (by as_aux_lemma => kernel_rfl) (by as_aux_lemma => kernel_rfl) (fun _ _ _ h => h) (Or.inl ⟨by kernel_rfl, by (intro w hSw; (try dsimp only at hSw); go_simp; first | done | with_reducible rfl)⟩) (by assumption) ?_
    (try simp only [List.getElem_toArray, List.getElem_cons_succ, List.getElem_cons_zero, Act.put, List.setIfInBounds_toArray, List.set_cons_zero, List.set_cons_succ])
    refine wpAnyH_take (i := 10) (oi := _) (v := _) rfl (by as_aux_lemma => kernel_rfl) (by as_aux_lemma => kernel_rfl) (by as_aux_lemma => kernel_rfl) (fun _ _ _ h => h) (Or.inl ⟨by kernel_rfl, by (intro w hSw; (try dsimp only at hSw); go_simp; first | done | with_reducible rfl)⟩) (by assumption) ?_
    (try simp only [List.getElem_toArray, List.getElem_cons_succ, List.getElem_cons_zero, Act.put, List.setIfInBounds_toArray, List.set_cons_zero, List.set_cons_succ])
    refine wpAnyH_take (i := 11) (oi := _) (v := _) rfl (by as_aux_lemma => kernel_rfl) (by as_aux_lemma => kernel_rfl) (by as_aux_lemma => kernel_rfl) (fun _ _ _ h => h) (Or.inl ⟨by kernel_rfl, by (intro w hSw; (try dsimp only at hSw); go_simp; first | done | with_reducible rfl)⟩) (by assumption) ?_
    (try simp only [List.getElem_toArray, List.getElem_cons_succ, List.getElem_cons_zero, Act.put, List.setIfInBounds_toArray, List.set_cons_zero, List.set_cons_succ])
    refine wpAnyH_take (i := 12) (oi := _) (v := _) rfl (by as_aux_lemma => kernel_rfl) (by as_aux_lemma => kernel_rfl) (by as_aux_lemma => kernel_rfl) (fun _ _ _ h => h) (Or.inl ⟨by kernel_rfl, by (intro w hSw; (try dsimp only at hSw); go_simp; first | done | with_reducible rfl)⟩) (by assumption) ?_
    (try simp only [List.getElem_toArray, List.getElem_cons_succ, List.getElem_cons_zero, Act.put, List.setIfInBounds_toArray, List.set_cons_zero, List.set_cons_succ])
    refine wpAnyH_take (i := 13) (oi := _) (v := _) rfl (by as_aux_lemma => kernel_rfl) (by as_aux_lemma => kernel_rfl) (by as_aux_lemma => kernel_rfl) (fun _ _ _ h => h) (Or.inl ⟨by kernel_rfl, by (intro w hSw; (try dsimp only at hSw); go_simp; first | done | with_reducible rfl)⟩) (by assumption) ?_
    (try simp only [List.getElem_toArray, List.getElem_cons_succ, List.getElem_cons_zero, Act.put, List.setIfInBounds_toArray, List.set_cons_zero, List.set_cons_succ])
    refine wpAnyH_done (by as_aux_lemma => kernel_rfl) ?_ _
    have HB7 : Hid (Below w.heap.size w w7) := Lib.hid (HB3.out.trans ((((Below.refl W.heap.size W).drew).trans hb7).mono HB3.out.size))
    obtain ⟨g7, c7, hv7, hc7, hg7, hg72⟩ : ∃ g c, v7 = .slice (some ⟨g, 0, none⟩) 3 c ∧ 3 ≤ c ∧ W.heap.size ≤ g ∧ g < w7.heap.size := by
      rcases ho7.2 with ⟨_, h2⟩ | ⟨g, cap, cur, rfl, h3, h4, h5, _⟩
      · omega
      · exact ⟨g, cap, rfl, h5, h3, (Array.getElem?_eq_some_iff.1 h4).1⟩
    subst hv7
    have hcs := ho7.cells (g := g7) rfl
    have k0 := hcs 0 (.string sAb) rfl
    have k1 := hcs 1 (.string sDe) rfl
    have k2 := hcs 2 (.string parA) rfl
    obtain ⟨ka, kp⟩ := KX.out _ (((Below.refl _ _).drew).trans hb7)
    rw [add0] at k0 k1 k2
    have t0 : (sAb.toList == [97, 98, 99]) = true := by decide +kernel
    clear hb7 ho7 hcs hHeld
    go_wp2
    go_quiet (fail)
    go_wp2
    go_ret
    exact ⟨rfl, below_drewN HB7.out _⟩
  · try simp only [List.getElem_toArray, List.getElem_cons_succ, List.getElem_cons_zero]
    go_simp
    refine hK.out _ _ (by first | exact KX.out _ ((Below.refl _ _).drew) | exact KX.out _ (((Below.refl _ _).drew).alloc (Nat.le_refl _) _) | exact KX.out _ ((((Below.refl _ _).drew).alloc (Nat.le_refl _) _).alloc (by simp) _) | exact KX.out _ (((Below.refl _ _).drew).trans hb7)) (fun hHeld => ?_)
    clear hK KK
    (try simp only [List.getElem_toArray, List.getElem_cons_succ, List.getElem_cons_zero, Act.put, List.setIfInBounds_toArray, List.set_cons_zero, List.set_cons_succ])
    refine wpAnyH_ready (rs := [6]) (by as_aux_lemma => kernel_rfl) (by simp) (AllReadyH.cons rfl (fun KK hK => ?_) AllReadyH.nil)
    try simp only [List.getElem_toArray, List.getElem_cons_succ, List.getElem_cons_zero]
    go_simp
    refine hK.out _ _ (by first | exact KX.out _ ((Below.refl _ _).drew) | exact KX.out _ (((Below.refl _ _).drew).alloc (Nat.le_refl _) _) | exact KX.out _ ((((Below.refl _ _).drew).alloc (Nat.le_refl _) _).alloc (by simp) _) | exact KX.out _ (((Below.refl _ _).drew).trans hb7)) (fun hHeld => ?_)
    clear hK KK
    (try simp only [List.getElem_toArray, List.getElem_cons_succ, List.getElem_cons_zero, Act.put, List.setIfInBounds_toArray, List.set_cons_zero, List.set_cons_succ])
    refine wpAnyH_ready (rs := [8]) (by as_aux_lemma => kernel_rfl) (by simp) (AllReadyH.cons rfl (fun KK hK => ?_) AllReadyH.nil)
    try simp only [List.getElem_toArray, List.getElem_cons_succ, List.getElem_cons_zero]
    go_simp
    go_at_call 49
    refine (R2.out W.drew).mono ?_
    rintro e w7 ⟨v7, rfl, ho7, hb7⟩
    go_simp
    refine hK.out _ _ (by first | exact KX.out _ ((Below.refl _ _).drew) | exact KX.out _ (((Below.refl _ _).drew).alloc (Nat.le_refl _) _) | exact KX.out _ ((((Below.refl _ _).drew).alloc (Nat.le_refl _) _).alloc (by simp) _) | exact KX.out _ (((Below.refl _ _).drew).trans hb7)) (fun hHeld => ?_)
    clear hK KK
    (try simp only [List.getElem_toArray, List.getElem_cons_succ, List.getElem_cons_zero, Act.put, List.setIfInBounds_toArray, List.set_cons_zero, List.set_cons_succ])
    refine wpAnyH_take (i := 9) (oi := _) (v := _) rfl (by as_aux_lemma => kernel_rfl) (by as_aux_lemma => kernel_rfl) (by as_aux_lemma => kernel_rfl) (fun _ _ _ h => h) (Or.inl ⟨by kernel_rfl, by (intro w hSw; (try dsimp only at hSw); go_simp; first | done | with_reducible rfl)⟩) (by assumption) ?_
    (try simp only [List.getElem_toArray, List.getElem_cons_succ, List.getElem_cons_zero, Act.put, List.setIfInBounds_toArray, List.set_cons_zero, List.set_cons_succ])
    refine wpAnyH_take (i := 10) (oi := _) (v := _) rfl (by as_aux_lemma => kernel_rfl) (by as_aux_lemma => kernel_rfl) (by as_aux_lemma => kernel_rfl) (fun _ _ _ h => h) (Or.inl ⟨by kernel_rfl, by (intro w hSw; (try dsimp only at hSw); go_simp; first | done | with_reducible rfl)⟩) (by assumption) ?_
    (try simp only [List.getElem_toArray, List.getElem_cons_succ, List.getElem_cons_zero, Act.put, List.setIfInBounds_toArray, List.set_cons_zero, List.set_cons_succ])
    refine wpAnyH_take (i := 11) (oi := _) (v := _) rfl (by as_aux_lemma => kernel_rfl) (by as_aux_lemma => kernel_rfl) (by as_aux_lemma => kernel_rfl) (fun _ _ _ h => h) (Or.inl ⟨by kernel_rfl, by (intro w hSw; (try dsimp only at hSw); go_simp; first | done | with_reducible rfl)⟩) (by assumption) ?_
    (try simp only [List.getElem_toArray, List.getElem_cons_succ, List.getElem_cons_zero, Act.put, List.setIfInBounds_toArray, List.set_cons_zero, List.set_cons_succ])
    refine wpAnyH_take (i := 12) (oi := _) (v := _) rfl (by as_aux_lemma => kernel_rfl) (by as_aux_lemma => kernel_rfl) (by as_aux_lemma => kernel_rfl) (fun _ _ _ h => h) (Or.inl ⟨by kernel_rfl, by (intro w hSw; (try dsimp only at hSw); go_simp; first | done | with_reducible rfl)⟩) (by assumption) ?_
    (try simp only [List.getElem_toArray, List.getElem_cons_succ, List.getElem_cons_zero, Act.put, List.setIfInBounds_toArray, List.set_cons_zero, List.set_cons_succ])
    refine wpAnyH_take (i := 13) (oi := _) (v := _) rfl (by as_aux_lemma => kernel_rfl) (by as_aux_lemma => kernel_rfl) (by as_aux_lemma => kernel_rfl) (fun _ _ _ h => h) (Or.inl ⟨by kernel_rfl, by (intro w hSw; (try dsimp only at hSw); go_simp; first | done | with_reducible rfl)⟩) (by assumption) ?_
    (try simp only [List.getElem_toArray, List.getElem_cons_succ, List.getElem_cons_zero, Act.put, List.setIfInBounds_toArray, List.set_cons_zero, List.set_cons_succ])
    refine wpAnyH_done (by as_aux_lemma => kernel_rfl) ?_ _
    have HB7 : Hid (Below w.heap.size w w7) := Lib.hid (HB3.out.trans ((((Below.refl W.heap.size W).drew).trans hb7).mono HB3.out.size))
    obtain ⟨g7, c7, hv7, hc7, hg7, hg72⟩ : ∃ g c, v7 = .slice (some ⟨g, 0, none⟩) 3 c ∧ 3 ≤ c ∧ W.heap.size ≤ g ∧ g < w7.heap.size := by
      rcases ho7.2 with ⟨_, h2⟩ | ⟨g, cap, cur, rfl, h3, h4, h5, _⟩
      · omega
      · exact ⟨g, cap, rfl, h5, h3, (Array.getElem?_eq_some_iff.1 h4).1⟩
    subst hv7
    have hcs := ho7.cells (g := g7) rfl
    have k0 := hcs 0 (.string sAb) rfl
    have k1 := hcs 1 (.string sDe) rfl
    have k2 := hcs 2 (.string parA) rfl
    obtain ⟨ka, kp⟩ := KX.out _ (((Below.refl _ _).drew).trans hb7)
    rw [add0] at k0 k1 k2
    have t0 : (sAb.toList == [97, 98, 99]) = true := by decide +kernel
    clear hb7 ho7 hcs hHeld
    go_wp2
    go_quiet (fail)
    go_wp2
    go_ret
    exact ⟨rfl, below_drewN HB7.out _⟩
end Go.Proofs.Ythlnnclpfgokjaa
namespace Go.Proofs.Ythlnnclpfgokjaa
open Go.RowKit Gf
theorem times_xA (x y : Int) (a b : UInt8) (hx : x = (a.toNat : Int)) (hy : y = (b.toNat : Int)) (w : World) :
    Calls Try.prog 22 #[.int .u8 x, .int .u8 y] w fun e w' => e = .returned (.int .u8 ((gm a b).toNat : Int)) ∧ w = w' := by
  subst hx hy; exact times_any a b w
theorem over_x (x y : Int) (a b : UInt8) (hx : x = (a.toNat : Int)) (hy : y = (b.toNat : Int)) (w : World) :
    Calls Try.prog 18 #[.int .u8 x, .int .u8 y] w fun e w' => e = .returned (num (overB a b)) ∧ w = w' := by
  subst hx hy; exact over_any a b w
/-- A literal list, just laid. -/
theorem Reads.lit (w : World) (T : TypeId) (cs : Array Value) (xs : List Value) (n : Nat) (h : cs = xs.toArray) (hn : n = xs.length) : Reads (w.alloc (.cells cs T)) (w.heap.size + 1) 1 (some ⟨w.heap.size, 0, none⟩) n xs := by
  subst h hn
  refine ⟨by omega, fun _ => ⟨_, rfl, by simp, fun j u hj => ?_⟩⟩
  have hj' : j < xs.length := by
    rcases Nat.lt_or_ge j xs.length with h | h
    · exact h
    · simp [h] at hj
  have := (World.rowIs_alloc w xs.toArray T (fun j => xs.getD j undef) (fun i hi => by simp at hi; simp [hi])).cell (i := j) (by simpa using hj')
  have ea : ({ block := w.heap.size, off := 0, spot := none } : Addr).add j = ⟨w.heap.size, j, none⟩ := by unfold Addr.add; split <;> simp_all
  rw [ea, this]
  simp [List.getD, hj]
def litA : List ByteArray := [⟨#[1, 2]⟩, ⟨#[0, 1]⟩]
def litB : List ByteArray := [⟨#[3]⟩, ⟨#[4]⟩]
def litC : List ByteArray := [⟨#[11]⟩, ⟨#[4]⟩]
theorem lit_prod : prodR litA litB = (litC, 0) := by decide +kernel

set_option maxRecDepth 100000 in
theorem awake_any (w : World) : Calls Try.prog 29 #[] w fun e w' => e = .returned (.bool true) ∧ Below w.heap.size w w' := by
  have LP := Lib.hid lit_prod
  go_enter Try.func29, Try.ntmps29
  go_wp2_with fail
  refine (over_x 1 2 1 2 rfl rfl _).mono ?_
  rintro e w' ⟨rfl, rfl⟩
  rw [show num (overB 1 2) = .tuple #[.int .u8 142, .int .i64 0] from rfl]
  go_wp2_with fail
  have R1 := Reads.lit w 9 _ (strV litA) 2 rfl rfl
  have R2 := Reads.lit (w.alloc (.cells (strV litA).toArray 9)) 9 _ (strV litB) 2 rfl rfl
  have R1' := R1.alloc (by simp) (.cells (strV litB).toArray 9)
  have e1 : (w.alloc (.cells (strV litA).toArray 9)).heap.size = w.heap.size + 1 := by simp
  rw [e1] at R2
  refine (product_any _ _ 2 2 2 2 litA litB _ (w.heap.size + 1) (w.heap.size + 1 + 1) R1' R2 (by simp) (by simp) (by omega) (by omega) ?_ ?_).mono ?_
  · decide
  · decide
  rintro e w2 ⟨v, rfl, ho, hb⟩
  rw [LP.out] at ho ⊢
  obtain ⟨A, c, rfl, hr⟩ := own_reads ho
  have HR := Lib.hid hr
  have HB : Hid (Below w.heap.size w w2) := Lib.hid ((((Below.refl _ _).alloc (Nat.le_refl _) _).alloc (by simp) _).trans (hb.mono (by simp; omega)))
  clear hr ho hb R1 R2 R1' e1
  go_wp2_with fail
  refine (times_xA 2 128 2 128 rfl rfl _).mono ?_
  rintro e w3 ⟨rfl, rfl⟩
  rw [show ((gm 2 128).toNat : Int) = 29 from rfl]
  go_wp2_with fail
  have R3 := Reads.lit w2 9 _ (strV litC) 2 rfl rfl
  refine (same_any A _ 2 c 2 2 litC litC _ w2.heap.size (w2.heap.size + 1) (HR.out.alloc (Nat.le_refl _) _) R3 (by omega) (by omega)).mono ?_
  rintro e w4 ⟨rfl, m, rfl⟩
  rw [decide_eq_true rfl]
  clear R3
  go_wp2
  go_ret
  exact ⟨rfl, below_drewN (HB.out.alloc HB.out.size _) _⟩
end Go.Proofs.Ythlnnclpfgokjaa
namespace Go.Proofs.Ythlnnclpfgokjaa
open Go.RowKit Gf
set_option linter.unusedVariables false
theorem powB_ne (a : UInt8) (h : a ≠ 0) (n : Int) : powB a n = (pw a (powE n), 0) := by
  unfold powB
  by_cases h0 : n = 0
  · rw [if_pos h0, h0]; rfl
  · rw [if_neg h0, if_neg h]
theorem pw_sum (a : UInt8) (h : a ≠ 0) (n m : Int) : pw a (powE (n + m)) = gm (pw a (powE n)) (pw a (powE m)) := by
  rw [← pw_add, ← pw_mod a h (powE n + powE m)]
  congr 1
  unfold powE
  omega
theorem u8_ne' {b : UInt8} (h : ¬ b = 0) : ((b.toNat : Int) != 0) = true := by
  rw [bne, u8_ne h]; rfl
theorem tmod_bd (n : Int) (k : Int) (hk : 0 < k) : -k < n.tmod k ∧ n.tmod k < k := by
  have h2 : 0 ≤ n % k := Int.emod_nonneg _ (by omega)
  have h3 : n % k < k := Int.emod_lt_of_pos _ hk
  have h4 : (k.natAbs : Int) = k := by omega
  rw [Int.tmod_eq_emod]
  split
  · exact ⟨by omega, by omega⟩
  · rename_i h
    have : n % k ≠ 0 := fun e => h (Or.inr (Int.dvd_of_emod_eq_zero e))
    rw [h4]; exact ⟨by omega, by omega⟩

theorem plus_x (x y : Int) (a b : UInt8) (hx : x = (a.toNat : Int)) (hy : y = (b.toNat : Int)) (w : World) :
    Calls Try.prog 21 #[.int .u8 x, .int .u8 y] w fun e w' => e = .returned (.int .u8 ((a ^^^ b).toNat : Int)) ∧ w = w' := by
  subst hx hy; exact plus_any a b w

set_option maxRecDepth 100000 in
set_option maxHeartbeats 1000000 in
theorem fieldLaws_walk (a b c : UInt8) (n m : Int) (h1 : -9223372036854775808 ≤ n) (h2 : n ≤ 9223372036854775807) (h3 : -9223372036854775808 ≤ m) (h4 : m ≤ 9223372036854775807) (w : World) :
    Calls Try.prog 5 #[.int .u8 (a.toNat : Int), .int .u8 (b.toNat : Int), .int .u8 (c.toNat : Int), .int .i64 n, .int .i64 m] w fun e w' => e = .returned (.bool true) ∧ Below w.heap.size w w' := by
  have tn := tmod_bd n 100000 (by omega)
  have tm := tmod_bd m 100000 (by omega)
  obtain ⟨b1, b2⟩ := tn
  obtain ⟨b3, b4⟩ := tm
  have O : Hid (overB (gm a b) b = if b = 0 then (0, 1) else (a, 0)) := Lib.hid (by
    unfold overB
    by_cases h : b = 0
    · rw [if_pos h, if_pos h]
    · rw [if_neg h, if_neg h, gm_assoc, inv_gm b h, gm_one])
  have Z : Hid (∀ x : UInt8, x ^^^ x = 0) := Lib.hid (fun _ => UInt8.xor_self)
  have hab : ((((gm a b).toNat : Int) == 0) == (((a.toNat : Int) == 0) || ((b.toNat : Int) == 0))) = true := by
    rw [beq_iff_eq, Bool.eq_iff_iff]
    have e0 : ∀ x : UInt8, ((x.toNat : Int) == 0) = true ↔ x = 0 := fun x => by
      rw [beq_iff_eq]; exact ⟨fun h => UInt8.toNat_inj.1 (by simpa using h), fun h => by rw [h]; rfl⟩
    rw [Bool.or_eq_true, e0, e0, e0]; exact gm_eq_zero a b
  have HAB := Lib.hid hab
  clear hab
  by_cases ha : a = 0
  · by_cases hb : b = 0
    · subst ha
      subst hb
      have O' : Hid (overB (gm 0 0) 0 = (0, 1)) := Lib.hid (by rw [O.out, if_pos rfl])
      have G : Hid (gm 0 0 = 0) := Lib.hid (by first | exact zero_gm _ | exact gm_zero _)
      clear O
      go_enter Try.func5, Try.ntmps5
      go_wp2_with fail
      refine (awake_any _).mono ?_; rintro e w1 ⟨rfl, hb1⟩
      have HB := Lib.hid hb1
      clear hb1
      go_wp2_with fail
      refine (times_xA _ _ 0 0 (by first | rfl | simp) (by first | rfl | simp) _).mono ?_; rintro e w' ⟨rfl, rfl⟩
      go_wp2_with fail
      refine (over_x _ _ (gm 0 0) 0 (by first | rfl | simp) (by first | rfl | simp) _).mono ?_; rintro e w' ⟨rfl, rfl⟩; rw [O'.out, num]
      go_wp2_with fail
      refine (times_xA _ _ 0 0 (by first | rfl | simp) (by first | rfl | simp) _).mono ?_; rintro e w' ⟨rfl, rfl⟩
      go_wp2_with fail
      refine (times_xA _ _ 0 c (by first | rfl | simp) (by first | rfl | simp) _).mono ?_; rintro e w' ⟨rfl, rfl⟩
      go_wp2_with fail
      refine (times_xA _ _ 0 0 (by first | rfl | simp) (by first | rfl | simp) _).mono ?_; rintro e w' ⟨rfl, rfl⟩; rw [gm_comm 0 0]
      go_wp2_with fail
      refine (times_xA _ _ (gm 0 0) c (by first | rfl | simp) (by first | rfl | simp) _).mono ?_; rintro e w' ⟨rfl, rfl⟩; rw [gm_assoc]
      go_wp2_with fail
      refine (times_xA _ _ 0 c (by first | rfl | simp) (by first | rfl | simp) _).mono ?_; rintro e w' ⟨rfl, rfl⟩
      go_wp2_with fail
      refine (times_xA _ _ 0 (gm 0 c) (by first | rfl | simp) (by first | rfl | simp) _).mono ?_; rintro e w' ⟨rfl, rfl⟩
      go_wp2_with fail
      refine (plus_x _ _ 0 c (by first | rfl | simp) (by first | rfl | simp) _).mono ?_; rintro e w' ⟨rfl, rfl⟩
      go_wp2_with fail
      refine (times_xA _ _ 0 (0 ^^^ c) (by first | rfl | simp) (by first | rfl | simp) _).mono ?_; rintro e w' ⟨rfl, rfl⟩; rw [gm_xor_right]
      go_wp2_with fail
      refine (plus_x _ _ (gm 0 0) (gm 0 c) (by first | rfl | simp) (by first | rfl | simp) _).mono ?_; rintro e w' ⟨rfl, rfl⟩
      go_wp2_with fail
      refine (times_xA _ _ 0 1 (by first | rfl | simp) rfl _).mono ?_; rintro e w' ⟨rfl, rfl⟩; rw [gm_one]
      go_wp2_with fail
      refine (plus_x _ _ 0 0 (by first | rfl | simp) (by first | rfl | simp) _).mono ?_; rintro e w' ⟨rfl, rfl⟩; rw [Z.out]
      rw [G.out]
      go_wp2
      go_ret
      exact ⟨rfl, HB.out⟩
    · subst ha
      have tb := u8_ne hb
      have tb' := u8_ne' hb
      have O' : Hid (overB (gm 0 b) b = (0, 0)) := Lib.hid (by rw [O.out, if_neg hb])
      have G : Hid (gm 0 b = 0) := Lib.hid (by first | exact zero_gm _ | exact gm_zero _)
      clear hb O
      go_enter Try.func5, Try.ntmps5
      go_wp2_with fail
      refine (awake_any _).mono ?_; rintro e w1 ⟨rfl, hb1⟩
      have HB := Lib.hid hb1
      clear hb1
      go_wp2_with fail
      refine (times_xA _ _ 0 b (by first | rfl | simp) (by first | rfl | simp) _).mono ?_; rintro e w' ⟨rfl, rfl⟩
      go_wp2_with fail
      refine (over_x _ _ (gm 0 b) b (by first | rfl | simp) (by first | rfl | simp) _).mono ?_; rintro e w' ⟨rfl, rfl⟩; rw [O'.out, num]
      go_wp2_with fail
      refine (times_xA _ _ 0 b (by first | rfl | simp) (by first | rfl | simp) _).mono ?_; rintro e w' ⟨rfl, rfl⟩
      go_wp2_with fail
      refine (times_xA _ _ 0 c (by first | rfl | simp) (by first | rfl | simp) _).mono ?_; rintro e w' ⟨rfl, rfl⟩
      go_wp2_with fail
      refine (times_xA _ _ b 0 (by first | rfl | simp) (by first | rfl | simp) _).mono ?_; rintro e w' ⟨rfl, rfl⟩; rw [gm_comm b 0]
      go_wp2_with fail
      refine (times_xA _ _ (gm 0 b) c (by first | rfl | simp) (by first | rfl | simp) _).mono ?_; rintro e w' ⟨rfl, rfl⟩; rw [gm_assoc]
      go_wp2_with fail
      refine (times_xA _ _ b c (by first | rfl | simp) (by first | rfl | simp) _).mono ?_; rintro e w' ⟨rfl, rfl⟩
      go_wp2_with fail
      refine (times_xA _ _ 0 (gm b c) (by first | rfl | simp) (by first | rfl | simp) _).mono ?_; rintro e w' ⟨rfl, rfl⟩
      go_wp2_with fail
      refine (plus_x _ _ b c (by first | rfl | simp) (by first | rfl | simp) _).mono ?_; rintro e w' ⟨rfl, rfl⟩
      go_wp2_with fail
      refine (times_xA _ _ 0 (b ^^^ c) (by first | rfl | simp) (by first | rfl | simp) _).mono ?_; rintro e w' ⟨rfl, rfl⟩; rw [gm_xor_right]
      go_wp2_with fail
      refine (plus_x _ _ (gm 0 b) (gm 0 c) (by first | rfl | simp) (by first | rfl | simp) _).mono ?_; rintro e w' ⟨rfl, rfl⟩
      go_wp2_with fail
      refine (times_xA _ _ 0 1 (by first | rfl | simp) rfl _).mono ?_; rintro e w' ⟨rfl, rfl⟩; rw [gm_one]
      go_wp2_with fail
      refine (plus_x _ _ 0 0 (by first | rfl | simp) (by first | rfl | simp) _).mono ?_; rintro e w' ⟨rfl, rfl⟩; rw [Z.out]
      rw [G.out]
      go_wp2
      go_ret
      exact ⟨rfl, HB.out⟩
  · by_cases hb : b = 0
    · have ta := u8_ne ha
      have ta' := u8_ne' ha
      subst hb
      have O' : Hid (overB (gm a 0) 0 = (0, 1)) := Lib.hid (by rw [O.out, if_pos rfl])
      have G : Hid (gm a 0 = 0) := Lib.hid (by first | exact zero_gm _ | exact gm_zero _)
      have P := Lib.hid (powB_ne a ha)
      have S := Lib.hid (pw_sum a ha)
      clear ha O
      go_enter Try.func5, Try.ntmps5
      go_wp2_with fail
      refine (awake_any _).mono ?_; rintro e w1 ⟨rfl, hb1⟩
      have HB := Lib.hid hb1
      clear hb1
      go_wp2_with fail
      refine (times_xA _ _ a 0 (by first | rfl | simp) (by first | rfl | simp) _).mono ?_; rintro e w' ⟨rfl, rfl⟩
      go_wp2_with fail
      refine (over_x _ _ (gm a 0) 0 (by first | rfl | simp) (by first | rfl | simp) _).mono ?_; rintro e w' ⟨rfl, rfl⟩; rw [O'.out, num]
      go_wp2_with fail
      refine (powG_any a (n.tmod 100000) (by omega) (by omega) _).mono ?_; rintro e w' ⟨rfl, rfl⟩; rw [P.out, num]
      go_wp2_with fail
      refine (powG_any a (m.tmod 100000) (by omega) (by omega) _).mono ?_; rintro e w' ⟨rfl, rfl⟩; rw [P.out, num]
      go_wp2_with fail
      refine (powG_any a (n.tmod 100000 + m.tmod 100000) (by omega) (by omega) _).mono ?_; rintro e w' ⟨rfl, rfl⟩; rw [P.out, num, S.out]
      go_wp2_with fail
      refine (times_xA _ _ _ _ (by first | rfl | simp) (by first | rfl | simp) _).mono ?_; rintro e w' ⟨rfl, rfl⟩
      go_wp2_with fail
      refine (times_xA _ _ a 0 (by first | rfl | simp) (by first | rfl | simp) _).mono ?_; rintro e w' ⟨rfl, rfl⟩
      go_wp2_with fail
      refine (times_xA _ _ a c (by first | rfl | simp) (by first | rfl | simp) _).mono ?_; rintro e w' ⟨rfl, rfl⟩
      go_wp2_with fail
      refine (times_xA _ _ 0 a (by first | rfl | simp) (by first | rfl | simp) _).mono ?_; rintro e w' ⟨rfl, rfl⟩; rw [gm_comm 0 a]
      go_wp2_with fail
      refine (times_xA _ _ (gm a 0) c (by first | rfl | simp) (by first | rfl | simp) _).mono ?_; rintro e w' ⟨rfl, rfl⟩; rw [gm_assoc]
      go_wp2_with fail
      refine (times_xA _ _ 0 c (by first | rfl | simp) (by first | rfl | simp) _).mono ?_; rintro e w' ⟨rfl, rfl⟩
      go_wp2_with fail
      refine (times_xA _ _ a (gm 0 c) (by first | rfl | simp) (by first | rfl | simp) _).mono ?_; rintro e w' ⟨rfl, rfl⟩
      go_wp2_with fail
      refine (plus_x _ _ 0 c (by first | rfl | simp) (by first | rfl | simp) _).mono ?_; rintro e w' ⟨rfl, rfl⟩
      go_wp2_with fail
      refine (times_xA _ _ a (0 ^^^ c) (by first | rfl | simp) (by first | rfl | simp) _).mono ?_; rintro e w' ⟨rfl, rfl⟩; rw [gm_xor_right]
      go_wp2_with fail
      refine (plus_x _ _ (gm a 0) (gm a c) (by first | rfl | simp) (by first | rfl | simp) _).mono ?_; rintro e w' ⟨rfl, rfl⟩
      go_wp2_with fail
      refine (times_xA _ _ a 1 (by first | rfl | simp) rfl _).mono ?_; rintro e w' ⟨rfl, rfl⟩; rw [gm_one]
      go_wp2_with fail
      refine (plus_x _ _ a a (by first | rfl | simp) (by first | rfl | simp) _).mono ?_; rintro e w' ⟨rfl, rfl⟩; rw [Z.out]
      rw [G.out]
      go_wp2
      go_ret
      exact ⟨rfl, HB.out⟩
    · have ta := u8_ne ha
      have ta' := u8_ne' ha
      have tb := u8_ne hb
      have tb' := u8_ne' hb
      have O' : Hid (overB (gm a b) b = (a, 0)) := Lib.hid (by rw [O.out, if_neg hb])
      have G : Hid ((((gm a b).toNat : Int) == 0) = false) := Lib.hid (by
        have := HAB.out
        rw [ta, tb] at this
        simpa using this)
      have P := Lib.hid (powB_ne a ha)
      have S := Lib.hid (pw_sum a ha)
      clear ha hb O
      go_enter Try.func5, Try.ntmps5
      go_wp2_with fail
      refine (awake_any _).mono ?_; rintro e w1 ⟨rfl, hb1⟩
      have HB := Lib.hid hb1
      clear hb1
      go_wp2_with fail
      refine (times_any a b _).mono ?_; rintro e w' ⟨rfl, rfl⟩
      go_wp2_with fail
      refine (over_any (gm a b) b _).mono ?_; rintro e w' ⟨rfl, rfl⟩; rw [O'.out, num]
      go_wp2_with fail
      refine (powG_any a (n.tmod 100000) (by omega) (by omega) _).mono ?_; rintro e w' ⟨rfl, rfl⟩; rw [P.out, num]
      go_wp2_with fail
      refine (powG_any a (m.tmod 100000) (by omega) (by omega) _).mono ?_; rintro e w' ⟨rfl, rfl⟩; rw [P.out, num]
      go_wp2_with fail
      refine (powG_any a (n.tmod 100000 + m.tmod 100000) (by omega) (by omega) _).mono ?_; rintro e w' ⟨rfl, rfl⟩; rw [P.out, num, S.out]
      go_wp2_with fail
      refine (times_any _ _ _).mono ?_; rintro e w' ⟨rfl, rfl⟩
      go_wp2_with fail
      refine (times_any a b _).mono ?_; rintro e w' ⟨rfl, rfl⟩
      go_wp2_with fail
      refine (times_any a c _).mono ?_; rintro e w' ⟨rfl, rfl⟩
      go_wp2_with fail
      refine (times_any b a _).mono ?_; rintro e w' ⟨rfl, rfl⟩; rw [gm_comm b a]
      go_wp2_with fail
      refine (times_any (gm a b) c _).mono ?_; rintro e w' ⟨rfl, rfl⟩; rw [gm_assoc]
      go_wp2_with fail
      refine (times_any b c _).mono ?_; rintro e w' ⟨rfl, rfl⟩
      go_wp2_with fail
      refine (times_any a (gm b c) _).mono ?_; rintro e w' ⟨rfl, rfl⟩
      go_wp2_with fail
      refine (plus_any b c _).mono ?_; rintro e w' ⟨rfl, rfl⟩
      go_wp2_with fail
      refine (times_any a (b ^^^ c) _).mono ?_; rintro e w' ⟨rfl, rfl⟩; rw [gm_xor_right]
      go_wp2_with fail
      refine (plus_any (gm a b) (gm a c) _).mono ?_; rintro e w' ⟨rfl, rfl⟩
      go_wp2_with fail
      refine (times_xA _ 1 a 1 rfl rfl _).mono ?_; rintro e w' ⟨rfl, rfl⟩; rw [gm_one]
      go_wp2_with fail
      refine (plus_any a a _).mono ?_; rintro e w' ⟨rfl, rfl⟩; rw [Z.out]
      have g := G.out
      go_wp2
      go_ret
      exact ⟨rfl, HB.out⟩
end Go.Proofs.Ythlnnclpfgokjaa
namespace Go.Proofs.Ythlnnclpfgokjaa
open Go.RowKit Gf
set_option linter.unusedVariables false
set_option maxHeartbeats 1000000 in
theorem size_any (k m : Int) (w : World) (h1 : -9223372036854775808 ≤ k) (h2 : k ≤ 9223372036854775807) (h3 : -9223372036854775808 ≤ m) (h4 : m ≤ 9223372036854775807) :
    Calls Try.prog 53 #[.int .i64 k, .int .i64 m] w fun e w' => ∃ K M q : Nat, e = .returned (.tuple #[.int .i64 (K : Int), .int .i64 (M : Int)]) ∧ 1 ≤ K ∧ K ≤ 32 ∧ K + M ≤ 64 ∧ w' = w.drewN q := by
  obtain ⟨b1, b2⟩ := tmod_bd k 32 (by omega)
  obtain ⟨K, hK⟩ : ∃ K : Nat, 1 + k.tmod 32 % 32 = (K : Int) := ⟨(1 + k.tmod 32 % 32).toNat, by omega⟩
  have K1 : 1 ≤ K := by omega
  have K2 : K ≤ 32 := by omega
  obtain ⟨D, hD⟩ : ∃ D : Nat, 65 - (K : Int) = (D : Int) := ⟨65 - K, by omega⟩
  have D1 : 33 ≤ D := by omega
  have D2 : D ≤ 64 := by omega
  obtain ⟨c1, c2⟩ := tmod_bd m (D : Int) (by omega)
  obtain ⟨t, ht⟩ : ∃ t, m.tmod (D : Int) = t := ⟨_, rfl⟩
  rw [ht] at c1 c2
  obtain ⟨u, hu⟩ : ∃ u : Nat, t + 65 - (K : Int) = (u : Int) := ⟨(t + 65 - (K : Int)).toNat, by omega⟩
  obtain ⟨M, hM⟩ : ∃ M : Nat, u % D = M := ⟨_, rfl⟩
  have M1 : M < D := by rw [← hM]; exact Nat.mod_lt _ (by omega)
  have hm1 : (u : Int).tmod (D : Int) = (M : Int) := by rw [← hM, Int.tmod_eq_emod_of_nonneg (by omega)]; rfl
  have hm2 : (u : Int) % (D : Int) = (M : Int) := by rw [← hM]; rfl
  have w1 : IntKind.i64.wrap (65 - (K : Int)) = (D : Int) := by rw [hD]; exact IntWalk.i64_in _ (by omega)
  have w2 : IntKind.i64.wrap (t + 65) = t + 65 := IntWalk.i64_in _ (by omega)
  have w3 : IntKind.i64.wrap (t + 65 - (K : Int)) = (u : Int) := by rw [hu]; exact IntWalk.i64_in _ (by omega)
  have w4 : IntKind.i64.wrap (M : Int) = (M : Int) := IntWalk.i64_in _ (by omega)
  have w5 : IntKind.i64.wrap t = t := IntWalk.i64_in _ (by omega)
  have hD0 : ((D : Int) == 0) = false := by rw [beq_eq_false_iff_ne]; omega
  have RES : Hid (1 ≤ K ∧ K ≤ 32 ∧ K + M ≤ 64) := Lib.hid ⟨K1, K2, by omega⟩
  clear hM
  go_enter Try.func53, Try.ntmps53
  go_wp2
  go_quiet (fail)
  go_wp2
  go_ret2
  exact ⟨K, M, _, rfl, RES.out.1, RES.out.2.1, RES.out.2.2, rfl⟩
end Go.Proofs.Ythlnnclpfgokjaa
namespace Go.Proofs.Ythlnnclpfgokjaa
open Go.RowKit Gf
set_option linter.unusedVariables false
theorem cut_alike (s : ByteArray) (k : Nat) (h1 : 1 ≤ k) : alikeB (cutL s k) = true ∧ (sAt (cutL s k) 0).size = cutN s k := by
  have hz : ∀ j, j < k → (sAt (cutL s k) j).size = cutN s k := fun j hj => by
    unfold cutL; rw [sAt_map _ _ _ hj, bs_size]; simp
  refine ⟨(alikeB_iff _).2 fun j hj => ?_, hz 0 (by omega)⟩
  rw [cutL_length] at hj
  rw [hz j hj, hz 0 (by omega)]
theorem whole_cut (s : ByteArray) (k : Nat) (h1 : 1 ≤ k) (h2 : k ≤ 32) : wholeR (cutL s k) (s.size : Int) = (s, 0) ∧ (joinL (cutL s k)).length ≤ s.size + k := by
  have hj : joinL (cutL s k) = (List.range (k * cutN s k)).map fun i => byteAt s i := joinL_cut s (cutN s k) k
  have hg := cutN_ge s k h1
  rw [Nat.mul_comm] at hg
  have hl : (joinL (cutL s k)).length = k * cutN s k := by rw [hj]; simp
  refine ⟨?_, by omega⟩
  rw [wholeR_yes ⟨by rw [cutL_length]; exact h1, by rw [cutL_length]; exact h2, (cut_alike s k h1).1, by omega, by omega⟩, Int.toNat_natCast, hj, joinL_take s _ hg.1]
theorem own_emptyB (w : World) (e : TypeId) : (w.alloc (.cells #[] e)).ownsRow w.heap.size e 1 (.slice (some ⟨w.heap.size, 0, none⟩) 0 0) 0 [] :=
  ⟨rfl, .inr ⟨w.heap.size, 0, #[], rfl, Nat.le_refl _, heap_alloc_new w _, Nat.le_refl _, by unfold maxLen; omega, rfl, rfl⟩⟩
theorem own_headD {w : World} {base n : Nat} {e : TypeId} {v : Value} {xs : List Value} (h : w.ownsRow base e 1 v n xs) (hn : 1 ≤ n) : ∃ g c, v = .slice (some ⟨g, 0, none⟩) n c ∧ n ≤ c ∧ base ≤ g ∧ g < w.heap.size ∧ Reads w w.heap.size 1 (some ⟨g, 0, none⟩) n xs := by
  obtain ⟨A0, c0, e0, h0⟩ := own_reads h
  rcases h.2 with ⟨_, h2⟩ | ⟨g, cap, cur, rfl, h3, h4, h5, _⟩
  · omega
  · simp only [Value.slice.injEq, true_and] at e0
    obtain ⟨rfl, rfl⟩ := e0
    exact ⟨g, cap, rfl, h5, h3, (Array.getElem?_eq_some_iff.1 h4).1, h0⟩
theorem buf_readsS {w : World} {e : TypeId} {g n cap : Nat} {T : Nat → ByteArray} (h : bufIs w e g n cap (fun j => .string (T j))) : Reads w w.heap.size 1 (some ⟨g, 0, none⟩) n (strV ((List.range n).map T)) := by
  refine ⟨by simp [strV], fun _ => ⟨_, rfl, h.lt, fun j u hu => ?_⟩⟩
  have hj : j < n := by
    rcases Nat.lt_or_ge j n with h | h
    · exact h
    · rw [List.getElem?_eq_none (by simp [strV]; exact h)] at hu; cases hu
  simp [strV, hj] at hu
  rw [add0, h.cell hj, ← hu]
theorem row_readsB {w : World} {e : TypeId} {g n : Nat} {B : Nat → Bool} (h : w.rowIs g e n (fun j => .bool (B j))) : Reads w w.heap.size 1 (some ⟨g, 0, none⟩) n (boolV ((List.range n).map B)) := by
  refine ⟨by simp [boolV], fun _ => ⟨_, rfl, h.lt, fun j u hu => ?_⟩⟩
  have hj : j < n := by
    rcases Nat.lt_or_ge j n with h | h
    · exact h
    · rw [List.getElem?_eq_none (by simp [boolV]; exact h)] at hu; cases hu
  simp [boolV, hj] at hu
  rw [add0, h.cell hj, ← hu]
/-- Flags and shards, some of them taken out. -/
structure Torn (w : World) (gb gt n ct : Nat) (all : List ByteArray) (B : Nat → Bool) (T : Nat → ByteArray) (gone : Nat) : Prop where
  flags : w.rowIs gb 4 n (fun j => .bool (B j))
  texts : bufIs w 9 gt n ct (fun j => .string (T j))
  cnt : cntB B n + gone = n
  same : ∀ i, i < n → B i = true → T i = sAt all i
  size : ∀ i, i < n → (T i).size ≤ 140737488355328
  ne : gb ≠ gt
def putT (T : Nat → ByteArray) (a : Nat) (s : ByteArray) : Nat → ByteArray := fun i => if i = a then s else T i
theorem Torn.flag {w : World} {gb gt n ct : Nat} {all : List ByteArray} {B : Nat → Bool} {T : Nat → ByteArray} {gone : Nat} (h : Torn w gb gt n ct all B T gone) (a : Nat) (ha : a < n) (hb : B a = true) :
    Torn (w.setCell ⟨gb, a, none⟩ (.bool false)) gb gt n ct all (clr B a) T (gone + 1) := by
  refine ⟨(h.flags.set a (.bool false)).congr fun i _ => ?_, h.texts.of_block (Below.heap_setCell w _ _ gt (fun e => h.ne e.symm)), ?_, fun i hi hB => ?_, h.size, h.ne⟩
  · unfold clr
    by_cases e : i = a
    · rw [if_pos e, if_pos e]
    · rw [if_neg e, if_neg e]
  · have := cntB_clr B a hb n ha
    have := h.cnt
    omega
  · unfold clr at hB
    by_cases e : i = a
    · rw [if_pos e] at hB; cases hB
    · rw [if_neg e] at hB; exact h.same i hi hB
theorem Torn.text {w : World} {gb gt n ct : Nat} {all : List ByteArray} {B : Nat → Bool} {T : Nat → ByteArray} {gone : Nat} (h : Torn w gb gt n ct all B T gone) (a : Nat) (ha : a < n) (hb : B a = false) (s : ByteArray) (hs : s.size ≤ 140737488355328) :
    Torn (w.setCell ⟨gt, a, none⟩ (.string s)) gb gt n ct all B (putT T a s) gone := by
  refine ⟨h.flags.setOther h.ne _, ?_, h.cnt, fun i hi hB => ?_, fun i hi => ?_, h.ne⟩
  · have := h.texts.set a (.string s)
    refine this.congr fun i hi => ?_
    unfold putT
    by_cases e : i = a
    · rw [if_pos e, if_pos e]
    · rw [if_neg e, if_neg e]
  · unfold putT
    by_cases e : i = a
    · subst e; rw [hb] at hB; cases hB
    · rw [if_neg e]; exact h.same i hi hB
  · unfold putT
    by_cases e : i = a
    · rw [if_pos e]; exact hs
    · rw [if_neg e]; exact h.size i hi
theorem Torn.back {w : World} {gb gt ct : Nat} {D : List ByteArray} {M : Nat} {B : Nat → Bool} {T : Nat → ByteArray} {gone : Nat} (h : Torn w gb gt (D.length + M) ct (allL D M) B T gone) (h1 : 1 ≤ D.length) (h2 : D.length ≤ 32) (hm : D.length + M ≤ 64) (ha : alikeB D = true) :
    (gone ≤ M → rebR ((List.range (D.length + M)).map T) ((List.range (D.length + M)).map B) (D.length : Int) = (allL D M, 0)) ∧ (M < gone → rebR ((List.range (D.length + M)).map T) ((List.range (D.length + M)).map B) (D.length : Int) = ([], 70)) := by
  have hs : ∀ i, i < D.length + M → ((List.range (D.length + M)).map B).getD i false = true → sAt ((List.range (D.length + M)).map T) i = sAt (allL D M) i := fun i hi hB => by
    rw [getD_range _ _ _ hi] at hB
    rw [sAt_map _ _ _ hi]; exact h.same i hi hB
  have hp : (pickL ((List.range (D.length + M)).map B) (D.length + M)).length = cntB B (D.length + M) := by rw [pickL_range]; rfl
  have := h.cnt
  exact ⟨fun hg => reb_back D M _ _ h1 h2 hm ha (by simp) (by simp) hs (by omega), fun hg => reb_few D M _ _ h1 h2 hm ha (by simp) (by simp) hs (by omega)⟩
theorem Torn.below {w w' : World} {gb gt n ct : Nat} {all : List ByteArray} {B : Nat → Bool} {T : Nat → ByteArray} {gone : Nat} (h : Torn w gb gt n ct all B T gone) (hb : Below w.heap.size w w') : Torn w' gb gt n ct all B T gone :=
  ⟨h.flags.of_block (hb.block _ h.flags.lt), h.texts.below hb h.texts.lt, h.cnt, h.same, h.size, h.ne⟩
set_option maxRecDepth 100000 in
set_option maxHeartbeats 8000000 in
theorem shardsBack_walk (s : ByteArray) (k m : Int) (A : Option Addr) (n c : Nat) (l : List UInt8) (junk : ByteArray) (w : World)
    (hs : s.size ≤ 140737488351232) (h1 : -9223372036854775808 ≤ k) (h2 : k ≤ 9223372036854775807) (h3 : -9223372036854775808 ≤ m) (h4 : m ≤ 9223372036854775807)
    (hr : Reads w w.heap.size 1 A n (u8s l)) (hn : n ≤ 140737488351232) (hc : n ≤ c) (hj : junk.size ≤ 140737488351232) :
    Calls Try.prog 16 #[.string s, .int .i64 k, .int .i64 m, .slice A n c, .string junk] w fun e w' => e = .returned (.bool true) ∧ Below w.heap.size w w' := by
  have HR := Lib.hid hr
  clear hr
  go_enter Try.func16, Try.ntmps16
  go_wp2_with fail
  refine (shAwake_any _).mono ?_
  rintro e w1 ⟨rfl, hb1⟩
  have HB1 := Lib.hid hb1
  have s1 := hb1.size
  clear hb1
  go_wp2_with fail
  refine (size_any k m _ h1 h2 h3 h4).mono ?_
  rintro e wz ⟨K, M, q0, rfl, K1, K2, KM, rfl⟩
  obtain ⟨T, hT⟩ : ∃ T, K + M = T := ⟨_, rfl⟩
  have hTi : (K : Int) + (M : Int) = (T : Int) := by omega
  have HT := Lib.hid hT
  have T1 : K ≤ T := by omega
  have T2 : T ≤ 64 := by omega
  have T3 : M ≤ T := by omega
  obtain ⟨D, hD⟩ : ∃ D, cutL s K = D := ⟨_, rfl⟩
  have XC : Hid (cutR s (K : Int) = (D, 0)) := Lib.hid (by unfold cutR; rw [if_pos (by omega), Int.toNat_natCast, hD])
  have DL : D.length = K := by rw [← hD, cutL_length]
  obtain ⟨DA, DZ⟩ := cut_alike s K K1
  obtain ⟨DW, DJ⟩ := whole_cut s K K1 K2
  have DG := cutN_ge s K K1
  rw [hD] at DA DZ DW DJ
  have hN : cutN s K ≤ 140737488355328 := by have := Nat.le_mul_of_pos_right (cutN s K) K1; omega
  have XE : Hid (encR D (M : Int) = (parL D M, 0)) := Lib.hid (by rw [encR_yes ⟨by omega, by omega, DA, by omega, by omega⟩, Int.toNat_natCast])
  have XF : Hid (fitR (allL D M) (K : Int) = (true, 0)) := Lib.hid (by have := fits_all D M (by omega) (by omega) (by omega) DA; rw [DL] at this; exact this)
  have AL : (allL D M).length = T := by rw [allL_length, DL, hT]
  have HDL := Lib.hid DL
  have HDA := Lib.hid DA
  have HDW := Lib.hid DW
  have HAL := Lib.hid AL
  have HSZ : Hid (∀ i, i < T → (sAt (allL D M) i).size ≤ 140737488355328) := Lib.hid (fun i hi => by rw [allL_size D M i DA (by omega), DZ]; exact hN)
  have HS0 : (sAt D 0).size ≤ 281474976710656 := by omega
  have HJL : (joinL D).length ≤ 140737488355328 := by omega
  clear hT hD DL DA DZ DW AL DG DJ
  go_wp2_with fail
  refine (cut_any s (K : Int) _ (by omega)).mono ?_
  rintro e w2 ⟨v2, rfl, ho2, hb2⟩
  rw [XC.out] at ho2 ⊢
  have HO2 : Hid (w2.ownsRow w1.heap.size 9 1 v2 K (strV D)) := Lib.hid (by have := ho2; rw [show (D, (0 : Int)).1.length = K from HDL.out] at this; exact this)
  have HB2 : Hid (Below w.heap.size w w2) := Lib.hid ((below_drewN HB1.out q0).trans (hb2.mono s1))
  have s2 : w1.heap.size ≤ w2.heap.size := hb2.size
  clear ho2 hb2
  obtain ⟨gd, cd, rfl, hcd, hgd1, hgd2, hrd⟩ := own_headD HO2.out K1
  have HRD := Lib.hid hrd
  clear hrd
  go_wp2_with fail
  refine (encode_any _ K cd D (M : Int) _ _ HRD.out (Nat.le_refl _) (by omega) (by omega) (by omega) HS0).mono ?_
  rintro e w3 ⟨v3, rfl, ho3, hb3⟩
  rw [XE.out] at ho3 ⊢
  have HO3 : Hid (w3.ownsRow w2.heap.size 9 1 v3 M (strV (parL D M))) := Lib.hid (by have := ho3; rw [show (parL D M, (0 : Int)).1.length = M from parL_length _ _] at this; exact this)
  have HB3 : Hid (Below w.heap.size w w3) := Lib.hid (HB2.out.trans (hb3.mono HB2.out.size))
  have HRD3 := Lib.hid (HRD.out.below hb3)
  have s3 := hb3.size
  clear ho3 hb3
  obtain ⟨A3, c3, rfl, hc3, hr3⟩ := own_readsC HO3.out
  have HRP := Lib.hid hr3
  clear hr3
  obtain ⟨ii, hii, hz0, hz1, hz2⟩ := elemStr.info
  have HI := Lib.hid hii
  have HZ0 := Lib.hid hz0
  have HZ1 := Lib.hid hz1
  have HZB := Lib.hid hz2
  clear hii hz0 hz1 hz2
  have OE := Lib.hid (own_emptyB w3 9)
  have HRD4 : Hid (Reads (w3.alloc (.cells #[] 9)) w2.heap.size 1 (some ⟨gd, 0, none⟩) K (strV D)) := Lib.hid (HRD3.out.alloc s3 _)
  go_wp2_with (first
    | (at_builtin; refine wpList_append_any _ rfl _ _ _ rfl w3.heap.size 9 ii _ 1 16 elemStr.ht HI.out HZ0.out HZ1.out HZB.out elemStr.hz (by decide) _ 0 [] rfl OE.out _ _ K cd (strV D) rfl HRD4.out (strV_one _) (by unfold maxLen; omega) (by omega) (by simp) ?_; intro v4 w4 ho4 hg4 hd4; clear hd4; have HO4 : Hid (w4.ownsRow w3.heap.size 9 1 v4 K (strV D)) := Lib.hid (by simpa using ho4); have HB4 : Hid (Below w3.heap.size w3 w4) := Lib.hid (below_grown ((Below.refl w3.heap.size w3).alloc (Nat.le_refl _) _) hg4 (by intro g h; injection h with h; exact Nat.le_of_eq h)); have s4 := HB4.out.size; clear ho4 hg4; have HRP4 := Lib.hid (HRP.out.below HB4.out))
    | (at_builtin; refine wpList_append_any _ rfl _ _ _ rfl w3.heap.size 9 ii _ 1 16 elemStr.ht HI.out HZ0.out HZ1.out HZB.out elemStr.hz (by decide) v4 K (strV D) rfl HO4.out _ _ M c3 (strV (parL D M)) rfl HRP4.out (strV_one _) (by unfold maxLen; omega) (by omega) s4 ?_; intro v5 w5 ho5 hg5 hd5; clear hd5; have HO5 : Hid (w5.ownsRow w3.heap.size 9 1 v5 T (strV (allL D M))) := Lib.hid (by rw [HT.out] at ho5; unfold allL; simpa [strV] using ho5); have HB5 := Lib.hid (below_own HB4.out HO4.out hg5); have s5 := HB5.out.size; clear ho5 hg5; obtain ⟨ga, ca, hva, hca, hga1, hga2, hra⟩ := own_headD HO5.out (by omega); subst hva; have HRA := Lib.hid hra; clear hra))
  refine (fits_any _ T ca (allL D M) (K : Int) _ _ HRA.out (Nat.le_refl _) hca (by omega) (fun x hx => by obtain ⟨i, hi, rfl⟩ := List.getElem_of_mem hx; rw [← sAt_get hi]; have := HSZ.out i (by rw [HAL.out] at hi; exact hi); omega)).mono ?_
  rintro e w6 ⟨rfl, hb6⟩
  rw [XF.out]
  have HB6 : Hid (Below w3.heap.size w3 w6) := Lib.hid (HB5.out.trans (hb6.mono s5))
  have HRA6 := Lib.hid (HRA.out.below hb6)
  have s6 := hb6.size
  clear hb6
  go_wp2_with fail
  refine (whole_any _ K cd D (s.size : Int) _ _ ((HRD3.out.below (HB6.out.mono s3)).more (Nat.le_trans s3 HB6.out.size)) (Nat.le_refl _) hcd (by omega) (by omega) (by omega) (fun _ => ⟨gd, 0, rfl⟩) (fun _ _ _ => HJL)).mono ?_
  rintro e w7 ⟨rfl, hb7⟩
  rw [HDW.out]
  have HB7 : Hid (Below w.heap.size w w7) := Lib.hid (HB3.out.trans ((HB6.out.trans (hb7.mono HB6.out.size)).mono HB3.out.size))
  have HRA7 : Hid (Reads w7 w7.heap.size 1 (some ⟨ga, 0, none⟩) T (strV (allL D M))) := Lib.hid ((HRA6.out.below (hb7.mono s6)).more (by have := hb7.size; omega))
  have s7 := hb7.size
  clear hb7
  have hmk := fun W => bools_made W T (by omega)
  go_wp2
  clear hmk
  go_loopw [21] (fun i wr => ∃ j : Nat, j ≤ T ∧ i = .int .i64 j ∧ Hid (wr.rowIs w7.heap.size 4 T (fun x => .bool (decide (x < j))) ∧ Below w7.heap.size w7 wr)) (fun i _ => T - (intOf i).toNat)
  case atStart => exact ⟨0, by omega, rfl, Lib.hid ⟨(World.rowIs_made w7 (.bool false) T 4).congr fun i _ => by simp, (Below.refl _ _).alloc (Nat.le_refl _) _⟩⟩
  case round =>
    obtain ⟨j, hj, rfl, HK⟩ := hrel
    by_cases hjl : j < T
    · obtain ⟨v1, hc1⟩ : ∃ v, wr.cell? ⟨w7.heap.size, j, none⟩ = some v := ⟨_, HK.out.1.cell hjl⟩
      have hf1 : wr.frozen? ⟨w7.heap.size, j, none⟩ = false := HK.out.1.frozen _
      go_wp2
      go_roundw
      case rel =>
        refine ⟨j + 1, by omega, by go_num, Lib.hid ⟨(HK.out.1.set j _).congr fun i hi => ?_, HK.out.2.setCell (Nat.le_refl _) _⟩⟩
        by_cases e : i = j
        · subst e; rw [if_pos rfl, decide_eq_true (show i < i + 1 by omega)]
        · rw [if_neg e]; congr 1
          by_cases h : i < j
          · rw [decide_eq_true h, decide_eq_true (show i < j + 1 by omega)]
          · rw [decide_eq_false h, decide_eq_false (show ¬ i < j + 1 by omega)]
      case measure => simp [intOf]; omega
    · obtain rfl : j = T := by omega
      have HF : Hid (wr.rowIs w7.heap.size 4 j (fun _ => .bool true)) := Lib.hid (HK.out.1.congr fun i hi => by rw [decide_eq_true hi])
      have HBR := Lib.hid HK.out.2
      have s8 := HBR.out.size
      clear HK
      have OE8 := Lib.hid (own_emptyB wr 9)
      have HRA8 : Hid (Reads (wr.alloc (.cells #[] 9)) w7.heap.size 1 (some ⟨ga, 0, none⟩) j (strV (allL D M))) := Lib.hid ((HRA7.out.below HBR.out).alloc s8 _)
      go_wp2_with (at_builtin; refine wpList_append_any _ rfl _ _ _ rfl wr.heap.size 9 ii _ 1 16 elemStr.ht HI.out HZ0.out HZ1.out HZB.out elemStr.hz (by decide) _ 0 [] rfl OE8.out _ _ j ca (strV (allL D M)) rfl HRA8.out (strV_one _) (by unfold maxLen; omega) (by omega) (by simp) ?_; intro v9 w9 ho9 hg9 hd9; clear hd9; have HO9 : Hid (w9.ownsRow wr.heap.size 9 1 v9 j (strV (allL D M))) := Lib.hid (by simpa using ho9); have HB9 : Hid (Below wr.heap.size wr w9) := Lib.hid (below_grown ((Below.refl wr.heap.size wr).alloc (Nat.le_refl _) _) hg9 (by intro g h; injection h with h; exact Nat.le_of_eq h)); have s9 := HB9.out.size; clear ho9 hg9; obtain ⟨gt, ct, hvt, hct, hgt1, hgt2, hrt⟩ := own_headD HO9.out (by omega); subst hvt; clear hrt)
      have HTN : Hid (Torn w9 w7.heap.size gt j ct (allL D M) (fun _ => true) (sAt (allL D M)) 0) := Lib.hid ⟨HF.out.of_block (HB9.out.block _ HF.out.lt), (bufIs.own (v := .bool true) HO9.out).congr fun i hi => (by
          rw [List.getD_eq_getElem?_getD, strV_get _ _ (by rw [HAL.out]; exact hi), sAt_get (by rw [HAL.out]; exact hi)]; rfl), by rw [cntB_all]; rfl, fun i _ _ => rfl, fun i hi => HSZ.out i hi, by have := HF.out.lt; omega⟩
      have HB10 := Lib.hid (HBR.out.trans (HB9.out.mono s8))
      clear HF HO9 OE8 HRA8 HB9 HBR
      go_loopw [23, 24, 25] (fun g i _ wr => ∃ x q : Nat, x ≤ n ∧ q ≤ M ∧ i = .int .i64 x ∧ g = .int .i64 q ∧ Hid ((∃ B U, Torn wr w7.heap.size gt j ct (allL D M) B U q) ∧ Below w7.heap.size w7 wr)) (fun _ i _ _ => n - (intOf i).toNat)
      case atStart => exact ⟨0, 0, by omega, by omega, rfl, rfl, Lib.hid ⟨⟨_, _, HTN.out⟩, HB10.out⟩⟩
      case round =>
        obtain ⟨x, q, hx, hq, rfl, rfl, HX⟩ := hrel
        clear HTN
        by_cases hgo : x < n ∧ q < M
        · obtain ⟨hxn, hqm⟩ := hgo
          obtain ⟨⟨B, U, ht⟩, hbx⟩ := HX.out
          have HTX := Lib.hid ht
          have HBX := Lib.hid hbx
          clear ht hbx HX
          obtain ⟨al, hal, hbl, hcl⟩ := reads_u8 (HR.out.below ((HB7.out.trans (HBX.out.mono HB7.out.size)))) (by omega)
          subst hal
          have hcx := hcl x hxn
          obtain ⟨b, hbe⟩ : ∃ b, b = l.getD x 0 := ⟨_, rfl⟩
          rw [← hbe] at hcx
          clear hcl hbe
          obtain ⟨a, ha⟩ : ∃ a, b.toNat % j = a := ⟨_, rfl⟩
          have hal : a < j := by rw [← ha]; exact Nat.mod_lt _ (by omega)
          have hai : (b.toNat : Int) % (j : Int) = (a : Int) := by rw [← ha]; rfl
          have hb256 : b.toNat < 256 := b.toNat_lt
          have hgbs := HBX.out.size
          clear ha
          have hcf : wr.cell? ⟨w7.heap.size, a, none⟩ = some (.bool (B a)) := HTX.out.flags.cell hal
          by_cases hBa : B a = true
          · rw [hBa] at hcf
            have hf1 : wr.frozen? ⟨w7.heap.size, a, none⟩ = false := HTX.out.flags.frozen _
            have HT2 := Lib.hid (HTX.out.flag a hal hBa)
            have hct : (wr.setCell ⟨w7.heap.size, a, none⟩ (.bool false)).cell? ⟨gt, a, none⟩ = some (.string (U a)) := HT2.out.texts.cell hal
            have hft : (wr.setCell ⟨w7.heap.size, a, none⟩ (.bool false)).frozen? ⟨gt, a, none⟩ = false := HT2.out.texts.frozen (by omega)
            have HT3 := Lib.hid (HT2.out.text a hal (by unfold clr; rw [if_pos rfl]) junk (by omega))
            have HB3' := Lib.hid ((HBX.out.setCell (p := ⟨w7.heap.size, a, none⟩) (Nat.le_refl _) (.bool false)).setCell (p := ⟨gt, a, none⟩) (by show w7.heap.size ≤ gt; omega) (.string junk))
            go_wp2
            go_roundw
            case rel => exact ⟨x + 1, q + 1, by omega, by omega, by go_num, by go_num, Lib.hid ⟨⟨_, _, HT3.out⟩, HB3'.out⟩⟩
            case measure => simp [intOf]; omega
          · have hBf : B a = false := by simpa using hBa
            rw [hBf] at hcf
            go_wp2
            go_roundw
            case rel => exact ⟨x + 1, q, by omega, by omega, by go_num, rfl, Lib.hid ⟨⟨_, _, HTX.out⟩, HBX.out⟩⟩
            case measure => simp [intOf]; omega
        · obtain ⟨⟨B, U, ht⟩, hbx⟩ := HX.out
          have HTX := Lib.hid ht
          have HBX := Lib.hid hbx
          have hgs := hbx.size
          clear ht hbx HX
          have RU : Hid (Reads wr wr.heap.size 1 (some ⟨gt, 0, none⟩) j (strV ((List.range j).map U))) := Lib.hid (buf_readsS HTX.out.texts)
          have RB : Hid (Reads wr wr.heap.size 1 (some ⟨w7.heap.size, 0, none⟩) j (boolV ((List.range j).map B))) := Lib.hid (row_readsB HTX.out.flags)
          have XR : Hid (rebR ((List.range j).map U) ((List.range j).map B) (K : Int) = (allL D M, 0)) := Lib.hid (by
            have h := HTX.out
            rw [← HT.out, ← HDL.out] at h
            have := (Torn.back h (by rw [HDL.out]; exact K1) (by rw [HDL.out]; exact K2) (by rw [HDL.out]; exact KM) HDA.out).1 hq
            rw [HDL.out, HT.out] at this; exact this)
          have SU : Hid (∀ t ∈ (List.range j).map U, t.size ≤ 140737488355328) := Lib.hid (fun t ht => by
            simp only [List.mem_map, List.mem_range] at ht
            obtain ⟨i, hi, rfl⟩ := ht
            exact HTX.out.size i hi)
          have hexit : n ≤ x ∨ (x < n ∧ M ≤ q) := by omega
          clear hgo
          rcases hexit with hex | ⟨hex, hex2⟩
          all_goals
            go_wp2_with fail
            refine (rebuild_any _ j ct _ _ j j _ (K : Int) _ _ _ RU.out (Nat.le_refl _) RB.out (Nat.le_refl _) (by omega) (by omega) SU.out).mono ?_
            rintro e w11 ⟨v11, rfl, ho11, hb11⟩
            rw [XR.out] at ho11 ⊢
            have HO11 : Hid (w11.ownsRow wr.heap.size 9 1 v11 j (strV (allL D M))) := Lib.hid (by have := ho11; rw [show (allL D M, (0 : Int)).1.length = j from HAL.out] at this; exact this)
            have HTY := Lib.hid (HTX.out.below hb11)
            have HBY : Hid (Below w7.heap.size w7 w11) := Lib.hid (HBX.out.trans (hb11.mono hgs))
            have HRA11 := Lib.hid (HRA7.out.below HBY.out)
            have s11 := HBY.out.size
            clear ho11 hb11
            obtain ⟨A11, c11, rfl, _, hr11⟩ := own_readsC HO11.out
            have HR11 := Lib.hid hr11
            clear hr11 HTX HBX
            go_wp2_with fail
            refine (same_self A11 _ j c11 j ca (allL D M) _ _ _ HR11.out HRA11.out (by omega) (by omega)).mono ?_
            rintro e w12 ⟨rfl, q1, rfl⟩
            go_wp2
            go_loopw [23, 28] (fun g i wr => ∃ y p : Nat, y ≤ j ∧ p ≤ M + 1 ∧ i = .int .i64 y ∧ g = .int .i64 p ∧ Hid ((∃ B U, Torn wr w7.heap.size gt j ct (allL D M) B U p ∧ (p ≤ M → ∀ i, i < y → B i = false)) ∧ Below w7.heap.size w7 wr)) (fun _ i _ => j - (intOf i).toNat)
            case atStart => exact ⟨0, q, by omega, by omega, rfl, rfl, Lib.hid ⟨⟨_, _, HTY.out.below (below_drewN (Below.refl _ _) q1), fun _ i hi => by omega⟩, below_drewN HBY.out _⟩⟩
            case round =>
              obtain ⟨y, p, hy, hp, rfl, rfl, HY⟩ := hrel
              obtain ⟨⟨B', U', ht', hf'⟩, hb'⟩ := HY.out
              have HT' := Lib.hid ht'
              have HF' := Lib.hid hf'
              have HB' := Lib.hid hb'
              clear ht' hf' hb' HY HTY
              by_cases hyl : y < j
              · have hcf : wr.cell? ⟨w7.heap.size, y, none⟩ = some (.bool (B' y)) := HT'.out.flags.cell hyl
                have hf1 : wr.frozen? ⟨w7.heap.size, y, none⟩ = false := HT'.out.flags.frozen _
                by_cases hBy : B' y = true
                · rw [hBy] at hcf
                  by_cases hpm : p ≤ M
                  · have HT3 := Lib.hid (HT'.out.flag y hyl hBy)
                    have HF3 : Hid (p + 1 ≤ M → ∀ i, i < y + 1 → clr B' y i = false) := Lib.hid (fun h i hi => by
                      unfold clr
                      by_cases e : i = y
                      · rw [if_pos e]
                      · rw [if_neg e]; exact HF'.out (by omega) i (by omega))
                    have HB3' := Lib.hid (HB'.out.setCell (p := ⟨w7.heap.size, y, none⟩) (Nat.le_refl _) (.bool false))
                    go_wp2
                    go_roundw
                    case rel => exact ⟨y + 1, p + 1, by omega, by omega, by go_num, by go_num, Lib.hid ⟨⟨_, _, HT3.out, HF3.out⟩, HB3'.out⟩⟩
                    case measure => simp [intOf]; omega
                  · have hpm' : M < p := by omega
                    go_wp2
                    go_roundw
                    case rel => exact ⟨y + 1, p, by omega, by omega, by go_num, rfl, Lib.hid ⟨⟨_, _, HT'.out, fun h => by omega⟩, HB'.out⟩⟩
                    case measure => simp [intOf]; omega
                · have hBf : B' y = false := by simpa using hBy
                  rw [hBf] at hcf
                  have HF3 : Hid (p ≤ M → ∀ i, i < y + 1 → B' i = false) := Lib.hid (fun h i hi => by
                    by_cases e : i = y
                    · rw [e]; exact hBf
                    · exact HF'.out h i (by omega))
                  clear hBf hBy
                  go_wp2
                  go_roundw
                  case rel => exact ⟨y + 1, p, by omega, by omega, by go_num, rfl, Lib.hid ⟨⟨_, _, HT'.out, HF3.out⟩, HB'.out⟩⟩
                  case measure => simp [intOf]; omega
              · obtain rfl : y = j := by omega
                have hgone : M < p := by
                  rcases Nat.lt_or_ge M p with h | h
                  · exact h
                  · have h1 := cntB_none (HF'.out h)
                    have h2 := HT'.out.cnt
                    omega
                have RU' : Hid (Reads wr wr.heap.size 1 (some ⟨gt, 0, none⟩) y (strV ((List.range y).map U'))) := Lib.hid (buf_readsS HT'.out.texts)
                have RB' : Hid (Reads wr wr.heap.size 1 (some ⟨w7.heap.size, 0, none⟩) y (boolV ((List.range y).map B'))) := Lib.hid (row_readsB HT'.out.flags)
                have XR' : Hid (rebR ((List.range y).map U') ((List.range y).map B') (K : Int) = ([], 70)) := Lib.hid (by
                  have h := HT'.out
                  rw [← HT.out, ← HDL.out] at h
                  have := (Torn.back h (by rw [HDL.out]; exact K1) (by rw [HDL.out]; exact K2) (by rw [HDL.out]; exact KM) HDA.out).2 hgone
                  rw [HDL.out, HT.out] at this; exact this)
                have SU' : Hid (∀ t ∈ (List.range y).map U', t.size ≤ 140737488355328) := Lib.hid (fun t ht => by
                  simp only [List.mem_map, List.mem_range] at ht
                  obtain ⟨i, hi, rfl⟩ := ht
                  exact HT'.out.size i hi)
                have sfin := HB'.out.size
                go_wp2_with fail
                refine (rebuild_any _ y ct _ _ y y _ (K : Int) _ _ _ RU'.out (Nat.le_refl _) RB'.out (Nat.le_refl _) (by omega) (by omega) SU'.out).mono ?_
                rintro e w13 ⟨v13, rfl, ho13, hb13⟩
                rw [XR'.out]
                have HE := Lib.hid (HB7.out.trans ((HB'.out.trans (hb13.mono sfin)).mono HB7.out.size))
                clear ho13 hb13
                go_wp2
                go_ret
                exact ⟨rfl, HE.out⟩
end Go.Proofs.Ythlnnclpfgokjaa
