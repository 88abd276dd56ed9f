/- Several texts of the claim joined into one (part 4): plain facts and walks. No conditions but those that each theorem tells. -/
import Derived.Test.YtpfccicahfncbaaGen
import Derived.Shelf.Strings.Builder1
import Derived.Lib.OthersKept
import Derived.Lib.FrozenHead
import Derived.Lib.OwnKind
import Derived.Test.YtpfccicahfncbaaMgPackBack3
import Derived.Test.YtpfccicahfncbaaMgPackBack2
import Derived.Deep.DeepCutAuto
import Derived.Deep.RegionHeld3
namespace Go.Proofs.Ytpfccicahfncbaa
open Go.RowKit
set_option linter.unusedVariables false
/-- A builder that holds a text. -/
def BldIs (w : World) (B b : Nat) (s : ByteArray) : Prop := Lib.IsBuilder 80 5 B b (Lib.strCells s) w
theorem info_bld : (Try.prog.info? 80).map (·.size) = some 2 := by kernel_rfl
theorem info_pb : Try.prog.underlying 77 = some (.pointer 80) := by kernel_rfl
theorem info_up : Try.prog.underlying 147 = some .unsafePointer := by kernel_rfl
set_option maxRecDepth 100000 in
theorem copyCheck_used (b : Nat) (w : World) (h0 : w.cell? ⟨b, 0, none⟩ = some (.pointer (some ⟨b, 0, none⟩))) :
    Calls Try.prog 68 #[.pointer (some ⟨b, 0, none⟩)] w fun e w' => e = .returned (.tuple #[]) ∧ w = w' := by
  obtain ⟨j, hj, hjs⟩ := Option.map_eq_some_iff.1 info_bld
  go_enter Try.func68, Try.ntmps68
  go_wp2
  rw [Lib.run_neq_ptr_same w _ info_pb hj]
  go_wp2
  go_end0
  exact ⟨rfl, rfl⟩
set_option maxRecDepth 100000 in
theorem copyCheck_fresh (b : Nat) (w : World) (h0 : w.cell? ⟨b, 0, none⟩ = some (.pointer none)) (hsh : w.shape? b = some (80, 2)) (hfz : w.frozen? ⟨b, 0, none⟩ = false) :
    Calls Try.prog 68 #[.pointer (some ⟨b, 0, none⟩)] w fun e w' => e = .returned (.tuple #[]) ∧ w' = w.setCell ⟨b, 0, none⟩ (.pointer (some ⟨b, 0, none⟩)) := by
  obtain ⟨j, hj, hjs⟩ := Option.map_eq_some_iff.1 info_bld
  go_enter Try.func68, Try.ntmps68
  go_wp2
  rw [Lib.run_to_unsafe w ⟨b, 0, none⟩ info_pb info_up hj (by rw [hjs]; decide) hsh (Nat.zero_lt_succ 1)]
  simp only [Result.andThen]
  rw [Oper.upon_value]
  go_wp2
  rw [run_callFunc_extern Try.func91 (by kernel_rfl) (by kernel_rfl) (by kernel_rfl) (e := Extern.AbiNoEscape.same) (by kernel_rfl)]
  rw [Lib.run_noEscape]
  simp only [Result.andThen]
  rw [Oper.upon_value]
  go_wp2
  rw [Lib.run_from_unsafe w ⟨b, 0, none⟩ info_up info_pb hj hsh (by kernel_rfl)]
  simp only [Result.andThen]
  rw [Oper.upon_value]
  go_wp2
  go_end0
  exact ⟨rfl, rfl⟩
theorem copyCheck_any (B b : Nat) (bs : List Value) (w : World) (h : Lib.IsBuilder 80 5 B b bs w) :
    Calls Try.prog 68 #[.pointer (some ⟨b, 0, none⟩)] w fun e w' => e = .returned (.tuple #[]) ∧ Lib.BuilderAt 80 5 B b (.pointer (some ⟨b, 0, none⟩)) bs w' ∧ Below B w w' ∧ Lib.OthersKept 5 (some b) w w' := by
  rcases h with h | h
  · refine (copyCheck_fresh b w h.cell0 h.shape h.frozen0).mono ?_
    rintro e w' ⟨rfl, rfl⟩
    exact ⟨rfl, h.used _, (Below.refl B w).setCell (p := ⟨b, 0, none⟩) h.1 _, (Lib.OthersKept.refl _ _ _).setCell ⟨b, 0, none⟩ rfl _⟩
  · refine (copyCheck_used b w h.cell0).mono ?_
    rintro e w' ⟨rfl, rfl⟩
    exact ⟨rfl, h, Below.refl B _, Lib.OthersKept.refl _ _ _⟩
theorem strCells_app (a b : ByteArray) : Lib.strCells (a ++ b) = Lib.strCells a ++ Lib.strCells b := by
  unfold Lib.strCells
  rw [ByteArray.data_append, Array.toList_append, List.map_append]
set_option maxRecDepth 100000 in
set_option maxHeartbeats 1000000 in
theorem writeString_any (B b : Nat) (u s : ByteArray) (w : World) (h : BldIs w B b u) (hlen : u.size + s.size ≤ 140737488355328) (hBw : B ≤ w.heap.size) :
    Calls Try.prog 31 #[.pointer (some ⟨b, 0, none⟩), .string s] w fun e w' => e = .returned (.tuple #[.int .i64 (s.size : Int), .nilIface]) ∧ BldIs w' B b (u ++ s) ∧ Below B w w' ∧ Lib.OthersKept 5 (some b) w w' := by
  obtain ⟨i0, hi, hz0, hz1, hz2⟩ := elemByte.info
  have hul := Lib.strCells_length u
  go_enter Try.func31, Try.ntmps31
  go_wp2_with fail
  refine (copyCheck_any B b _ _ h).mono ?_
  rintro e w1 ⟨rfl, h1, hb1, hk1⟩
  obtain ⟨hB, v, hbk, hown, hne⟩ := h1
  have HB1 := Lib.hid hb1
  have HK1 := Lib.hid hk1
  have s1 := hb1.size
  have HO := Lib.hid hown
  have HBK := Lib.hid hbk
  have HUL := Lib.hid hul
  have HE1 := Lib.hid hi
  have HE2 := Lib.hid hz0
  have HE3 := Lib.hid hz1
  have HE4 := Lib.hid hz2
  have HNE := Lib.hid hne
  have c1 : w1.cell? ⟨b, 1, none⟩ = some v := by rw [Lib.cell_of_heap hbk]; rfl
  clear hb1 hk1 hown hbk hi hz0 hz1 hz2 hul hne
  go_wp2_with (at_builtin; refine Lib.wpList_append_own_string _ rfl _ _ 78 9 rfl B 5 i0 elemByte.ht (by kernel_rfl) HE1.out HE2.out HE3.out HE4.out _ _ _ rfl HO.out s rfl ?c3 ?c4 ?c5 ?_)
  case c3 => unfold maxLen; have := HUL.out; omega
  case c4 => have := HUL.out; omega
  case c5 => omega
  intro v' w2 hown' hgrow _
  have hlt : b < w1.heap.size := (Array.getElem?_eq_some_iff.1 HBK.out).1
  have hb2 : w2.heap[b]? = some (.cells #[.pointer (some ⟨b, 0, none⟩), v] 80 (0, 0)) := by
    rw [hgrow.block b hlt (fun e => HNE.out e.symm)]
    exact HBK.out
  have HB2 := Lib.hid hb2
  have d1 : w2.cell? ⟨b, 1, none⟩ = some v := by rw [Lib.cell_of_heap hb2]; rfl
  have f1 : w2.frozen? ⟨b, 1, none⟩ = false := Lib.frozen_of_heap hb2 1
  obtain ⟨ao, n', cap, rfl⟩ : ∃ ao n' cap, v' = .slice ao n' cap := by
    rcases hown'.2 with ⟨hv, _⟩ | ⟨g, cap, cur, hv, _⟩
    · exact ⟨_, _, _, hv⟩
    · exact ⟨_, _, _, hv⟩
  have HO2 := Lib.hid hown'
  have HG := Lib.hid hgrow
  clear hb2 hown' hgrow
  go_wp2
  go_ret2
  refine ⟨rfl, ?_, ?_, (HK1.out.grown HG.out (Lib.ownsRow_kind HO.out)).setCell ⟨b, 1, none⟩ rfl _⟩
  · unfold BldIs
    rw [strCells_app]
    exact Or.inr (Lib.BuilderAt.put (T := 80) (e := 5) hB HB2.out (bs' := Lib.strCells u ++ Lib.strCells s) (by have := HO2.out; simpa [Lib.strCells_length] using this) (by decide))
  · exact (HB1.out.grown HG.out (by omega) (fun k hk => (HO.out.lt k hk).1)).setCell (p := ⟨b, 1, none⟩) hB _
theorem bldLen_any (B b : Nat) (s : ByteArray) (w : World) (h : BldIs w B b s) :
    Calls Try.prog 32 #[.pointer (some ⟨b, 0, none⟩)] w fun e w' => e = .returned (.int .i64 (s.size : Int)) ∧ w' = w := by
  have := Try.Builder_Len B b _ w h
  rw [Lib.strCells_length] at this
  exact this
theorem bldString_any (B b : Nat) (s : ByteArray) (w : World) (h : BldIs w B b s) (hB : B ≤ w.heap.size) :
    Calls Try.prog 35 #[.pointer (some ⟨b, 0, none⟩)] w fun e w' => e = .returned (.string s) ∧ Below B w w' := Try.Builder_String_any B b s.data.toList w h hB
theorem bld_new (w : World) (o : Obj) (ho : o = .cells #[.pointer none, .slice none 0 0] 80) : BldIs (w.alloc o) w.heap.size w.heap.size ByteArray.empty := by
  subst ho
  exact Or.inl ⟨Nat.le_refl _, .slice none 0 0, heap_alloc_new w _, World.ownsRow_nil _ _ _ _, by simp [Value.ownBlock]⟩
theorem BldIs.alloc {w : World} {B b : Nat} {s : ByteArray} (h : BldIs w B b s) (o : Obj) : BldIs (w.alloc o) B b s := by
  have f : ∀ p, Lib.BuilderAt 80 5 B b p (Lib.strCells s) w → Lib.BuilderAt 80 5 B b p (Lib.strCells s) (w.alloc o) := fun p h => by
    obtain ⟨h1, v, h2, h3, h4⟩ := h
    exact ⟨h1, v, (Below.heap_alloc w o b (Array.getElem?_eq_some_iff.1 h2).1).trans h2, h3.alloc o, h4⟩
  exact h.elim (fun h => Or.inl (f _ h)) (fun h => Or.inr (f _ h))
/-- A builder, where its block and its row stand. -/
theorem BldIs.below {w w' : World} {B b : Nat} {s : ByteArray} (h : BldIs w B b s) (hb : Below w.heap.size w w') : BldIs w' B b s := by
  have f : ∀ p, Lib.BuilderAt 80 5 B b p (Lib.strCells s) w → Lib.BuilderAt 80 5 B b p (Lib.strCells s) w' := fun p h => by
    obtain ⟨h1, v, h2, h3, h4⟩ := h
    exact ⟨h1, v, (hb.block b (Array.getElem?_eq_some_iff.1 h2).1).trans h2, own_below h3 hb, h4⟩
  exact h.elim (fun h => Or.inl (f _ h)) (fun h => Or.inr (f _ h))
theorem BldIs.drewN {w : World} {B b : Nat} {s : ByteArray} (h : BldIs w B b s) (n : Nat) : BldIs (w.drewN n) B b s := h
theorem BldIs.lt {w : World} {B b : Nat} {s : ByteArray} (h : BldIs w B b s) : b < w.heap.size := h.elim (fun h => h.lt) (fun h => h.lt)
end Go.Proofs.Ytpfccicahfncbaa
namespace Go.Proofs.Ytpfccicahfncbaa
open Go.RowKit
set_option linter.unusedVariables false
theorem SeenC.map_block {w : World} {b n : Nat} {S : List (Array Value)} (h : SeenC w b n S) : ∃ es clock, w.heap[b]? = some (.map es clock) := by obtain ⟨f, h, _⟩ := h; exact h.map_block
/-- Where all that is neither the builder nor a row of bytes stands still. -/
theorem SeenC.others {w w' : World} {b n p : Nat} {S : List (Array Value)} (h : SeenC w b n S) (hk : Lib.OthersKept 5 (some p) w w') (hne : b ≠ p) : SeenC w' b n S := by
  obtain ⟨es, clock, hb⟩ := h.map_block
  exact h.of_block ((hk b _ hb (fun e => hne (by injection e)) (fun c fz e => by cases e)).trans hb.symm)
/-- A builder, where a map alone is written. -/
theorem BldIs.map {w w' : World} {B p b : Nat} {s : ByteArray} {es : Array MapEntry} {clock : Nat} (h : BldIs w B p s) (hb : w.heap[b]? = some (.map es clock)) (hg : w.grownBy w' (some b)) : BldIs w' B p s := by
  have f : ∀ q, Lib.BuilderAt 80 5 B p q (Lib.strCells s) w → Lib.BuilderAt 80 5 B p q (Lib.strCells s) w' := fun q h => by
    obtain ⟨h1, v, h2, h3, h4⟩ := h
    have hlt := (Array.getElem?_eq_some_iff.1 h2).1
    refine ⟨h1, v, (hg.block p hlt (fun e => by injection e with e; subst e; rw [hb] at h2; injection h2 with h2; cases h2)).trans h2, ⟨h3.1, ?_⟩, h4⟩
    rcases h3.2 with h5 | ⟨g, cap, cur, a1, a2, a3, a4⟩
    · exact .inl h5
    · exact .inr ⟨g, cap, cur, a1, a2, (hg.block g (Array.getElem?_eq_some_iff.1 a3).1 (fun e => by injection e with e; subst e; rw [hb] at a3; injection a3 with a3; cases a3)).trans a3, a4⟩
  exact h.elim (fun h => Or.inl (f _ h)) (fun h => Or.inr (f _ h))
/-- What stands under a name. -/
noncomputable def cntS (S : List (Array Value)) (I : Nat → UInt8) : Int := @ite _ (idA I ∈ S) (Classical.propDecidable _) 1 0
theorem cnt_or (S : List (Array Value)) (I : Nat → UInt8) : cntS S I = 0 ∨ cntS S I = 1 := by
  unfold cntS; split <;> simp
theorem wrap_small (x : Int) (h : -9223372036854775808 ≤ x ∧ x < 9223372036854775808) : IntKind.i64.wrap x = x := by
  rw [IntKind.wrap_i64]; omega
theorem SeenC.look' {w : World} {b n : Nat} {S : List (Array Value)} (h : SeenC w b n S) (I : Nat → UInt8) :
    (Instr.lookup 85 (.map (some b)) (.agg (idA I)) false).run Try.prog w = .ok (.int .i64 (cntS S I)) w := h.look I
/-- m[key]++, by its halves. -/
theorem SeenC.entry {w : World} {b n : Nat} {S : List (Array Value)} (h : SeenC w b n S) (I : Nat → UInt8) (hn : n < maxLen) :
    ∃ (st : Int) (w1 w3 : World), (Instr.mapEntry 85 (.map (some b)) (.agg (idA I))).run Try.prog w = .ok (.tuple #[.int .i64 (cntS S I), .int .i64 st]) w1 ∧
      (Instr.lookup 85 (.map (some b)) (.agg (idA I)) false).run Try.prog w1 = .ok (.int .i64 (cntS S I)) w1 ∧ w.grownBy w1 (some b) ∧
      (Instr.entryStore 85 (.map (some b)) (.int .i64 st) (.int .i64 (cntS S I + 1))).run Try.prog w1 = .ok () w3 ∧ w1.grownBy w3 (some b) ∧
      (∃ es clock, w1.heap[b]? = some (.map es clock)) ∧
      (∀ w' : World, w'.heap[b]? = w3.heap[b]? → (Instr.lookup 85 (.map (some b)) (.agg (idA I)) false).run Try.prog w' = .ok (.int .i64 (cntS S I + 1)) w') ∧
      (¬ idA I ∈ S → SeenC w3 b (n + 1) (idA I :: S)) ∧ (∃ es clock, w3.heap[b]? = some (.map es clock)) := by
  have hlook := h.look' I
  obtain ⟨f, h1, h2⟩ := h
  obtain ⟨kl, hk⟩ := key_id I
  have hc : (f (.agg (idA I))).getD 0 = cntS S I := by
    have := h1.look (t := 85) keyed_id (by kernel_rfl) (by kernel_rfl) (zero_int w) hk
    rw [hlook] at this
    exact (congrArg (fun r : Result Value => match r with | .ok (.int _ v) _ => v | _ => 0) this).symm
  have hcr : cntS S I = 0 ∨ cntS S I = 1 := by unfold cntS; split <;> simp
  obtain ⟨st, w1, e1, e2, e3, e4⟩ := h1.entry (t := 85) keyed_id (by kernel_rfl) (by kernel_rfl) zero_int hn hk
  obtain ⟨w3, e5, e6, e7⟩ := e4 w1 (cntS S I + 1) rfl (by rcases hcr with h | h <;> rw [h] <;> decide)
  rw [hc] at e1 e2
  refine ⟨(st : Int), w1, w3, e1, ?_, e3, e5, e7, e2.map_block, fun w' hw' => ?_, fun hm => ⟨_, e6, fun J => ?_⟩, e6.map_block⟩
  · have := e2.look (t := 85) keyed_id (by kernel_rfl) (by kernel_rfl) (zero_int w1) hk
    rw [upF_same] at this
    exact this
  · have := (e6.of_block hw').look (t := 85) keyed_id (by kernel_rfl) (by kernel_rfl) (zero_int w') hk
    rw [upF_same] at this
    exact this
  · have h0 : cntS S I = 0 := by unfold cntS; rw [if_neg hm]
    by_cases e : idA J = idA I
    · rw [e, upF_same, h0]
      exact ⟨fun _ => rfl, fun hn => absurd (List.mem_cons_self ..) hn⟩
    · rw [upF_other _ _ (fun h => e (by injection h))]
      refine ⟨fun hm => (h2 J).1 ?_, fun hm => (h2 J).2 fun hs => hm (List.mem_cons_of_mem _ hs)⟩
      rcases List.mem_cons.1 hm with hm | hm
      · exact absurd hm e
      · exact hm
end Go.Proofs.Ytpfccicahfncbaa
namespace Go.Proofs.Ytpfccicahfncbaa
open Go.RowKit Wir Dig
set_option linter.unusedVariables false
set_option linter.unusedSimpArgs false
attribute [local go_sem ↓] execOp_ld32 execOp_st32
attribute [local go_sem] run_ld32 run_st32
theorem drop_cons (l : List PObj) (k : Nat) (h : k < l.length) : l.drop k = l[k] :: l.drop (k + 1) := List.drop_eq_getElem_cons h
theorem bldF_size (i : Nat) (s : ByteArray) (S : List (Array Value)) (o : PObj) (h : badO i s o = false) : (s ++ recB o).size ≤ 67108864 ∧ i < 65536 := by
  have := (badO_iff i s o).1 h
  rw [ByteArray.size_append, recB_size]; omega
theorem stored (o : PObj) {wr w4 : World} {g : Nat} (hb : Below wr.heap.size wr w4) (hg : wr.heap.size ≤ g) (z : w4.rowIs g 42 32 (fun _ => .int .u8 0)) :
    (put32 w4 g 0 (nmA o)).rowIs g 42 32 (u8V (nmF o)) ∧ wr.heap.size ≤ g ∧ Below wr.heap.size wr (put32 w4 g 0 (nmA o)) := by
  obtain ⟨q1, q2⟩ := put32_row z 0 (nmA o) (by omega) (idA_full _)
  refine ⟨q1.congr (fun i hi => ?_), hg, below_grown hb q2 (by intro g' e; injection e with e; omega)⟩
  rw [if_pos (by omega), Nat.sub_zero, List.getD_eq_getElem?_getD, Array.getElem?_toList]
  unfold nmA
  rw [idA_get _ i hi]; rfl
set_option maxRecDepth 100000 in
set_option maxHeartbeats 1000000 in
theorem rbuild_any (A : Option Addr) (n c : Nat) (l : List PObj) (w : World) (B : Nat) (hr : Reads w B 2 A n (objV l)) (hB : B ≤ w.heap.size) (hn : n ≤ 1152921504606846976) (hz : ∀ o ∈ l, o.2.size ≤ 140737488355328) :
    Calls Try.prog 9 #[.slice A n c] w fun e w' => e = .returned (.tuple #[.string (bldR l).1, .int .i64 (bldR l).2]) ∧ Below w.heap.size w w' := by
  have HR := Lib.hid hr
  have HL := Lib.hid hr.objLen
  have HZ := Lib.hid hz
  clear hr hz
  have hmm := run_mk Try.prog 85
  go_enter Try.func9, Try.ntmps9
  go_wp2
  clear hmm
  go_loopw [4, 6] (fun v i wr => ∃ (k : Nat) (s : ByteArray) (S : List (Array Value)), k ≤ n ∧ v = .string s ∧ i = .int .i64 k ∧ Hid (SeenI wr w.heap.size k S ∧ Below w.heap.size w wr ∧ bldR l = bldF k s S (l.drop k)) ∧ s.size ≤ 67108864 ∧ k ≤ 65536) (fun _ i _ => n - (intOf i).toNat)
  case atStart => exact ⟨0, markPk, [], by omega, rfl, rfl, Lib.hid ⟨SeenI.made w, (Below.refl _ _).alloc (Nat.le_refl _) _, rfl⟩, by decide, by omega⟩
  case round =>
    obtain ⟨k, s, S, hk, rfl, rfl, HK, hss, hk6⟩ := hrel
    have hle := HK.out.2.1.size
    by_cases hlt : k < n
    · obtain ⟨ad, hkl, rfl, hbl, hc0, hc1⟩ := obj_cells HR.out k hlt
      have ED := Lib.hid (drop_cons l k hkl)
      have hz1 := HZ.out _ (List.getElem_mem hkl)
      have hC0 : Hid (∀ W : World, Below w.heap.size w W → W.cell? (ad.add (k * 2)) = some (.int .u8 ((l[k]).1.toNat : Int)) ∧ W.cell? ⟨(ad.add (k * 2)).block, (ad.add (k * 2)).off + 1, none⟩ = some (.string (l[k]).2)) := Lib.hid (fun W hW => by
        show _ ∧ W.cell? ((ad.add (k * 2)).add 1) = _
        rw [hW.cell (by rw [block_of_add]; omega), hW.cell (by rw [block_of_add, block_of_add]; omega)]; exact ⟨hc0, hc1⟩)
      obtain ⟨o, ho⟩ : ∃ o, l[k] = o := ⟨_, rfl⟩
      rw [ho] at hz1 hC0 ED
      obtain ⟨x0, x1⟩ := hC0.out wr HK.out.2.1
      have hki : (k : Int) < (n : Int) := by omega
      clear hc0 hc1 ho hkl
      have C1 := Lib.hid (fun W => rcheck_any o W (by omega))
      unfold objA at C1
      cases hok : okO o with
      | false =>
        have HB : Hid (bldR l = (ByteArray.empty, 1)) := Lib.hid (by rw [HK.out.2.2, ED.out]; exact bldF_bad (by unfold badO; rw [hok]; rfl))
        rw [chk_no hok] at C1
        clear hok
        go_wp2_with fail
        (with_reducible refine (C1.out _).mono ?_)
        rintro e w1 ⟨rfl, hb1⟩
        have HB1 := Lib.hid (HK.out.2.1.trans (hb1.mono hle))
        clear hb1 C1
        go_wp2
        go_ret2
        exact ⟨by rw [HB.out]; rfl, HB1.out⟩
      | true =>
        rw [chk_yes hok] at C1
        by_cases h6 : k < 65536
        · have HOK := Lib.hid hok
          have hzo := (okO_iff o).1 hok
          clear hok
          have C2 := Lib.hid (fun W => rrecord_any o W (by omega))
          unfold objA at C2
          have C3 : Hid (∀ W, Calls Try.prog 37 #[.int .i64 ((k : Int) + 1)] W fun e w' => e = .returned (.string (trlB (k + 1))) ∧ Below W.heap.size W w') := Lib.hid (fun W => by
            have := rtrailer_any (k + 1) W (by omega)
            rw [show ((k + 1 : Nat) : Int) = (k : Int) + 1 from by omega] at this
            exact this)
          have hrs := recB_size o
          have hts := (trlB_size (k + 1)).2
          have BAD : Hid (s.size + (recB o).size + (trlB (k + 1)).size > 67108864 → bldR l = (ByteArray.empty, 1)) := Lib.hid (fun h => by
            rw [HK.out.2.2, ED.out]
            refine bldF_bad ?_
            cases hb : badO k s o with
            | true => rfl
            | false => have := (badO_iff k s o).1 hb; omega)
          have GOOD : Hid (s.size + (recB o).size + (trlB (k + 1)).size ≤ 67108864 → badO k s o = false) := Lib.hid (fun h => (badO_iff k s o).2 ⟨HOK.out, h6, by omega⟩)
          have HRC : Hid (recB o = recB o) := Lib.hid rfl
          obtain ⟨r, hr⟩ : ∃ r, recB o = r := ⟨_, rfl⟩
          obtain ⟨t, ht⟩ : ∃ t, trlB (k + 1) = t := ⟨_, rfl⟩
          rw [hr] at hrs C2 BAD GOOD
          rw [ht] at hts C3 BAD GOOD
          have HRR := Lib.hid hr
          clear ht HRC hr hk6
          go_wp2_with fail
          (with_reducible refine (C1.out _).mono ?_)
          rintro e w1 ⟨rfl, hb1⟩
          have HB1 := Lib.hid (HK.out.2.1.trans (hb1.mono hle))
          have HN1 : Hid (Below wr.heap.size wr w1) := Lib.hid hb1
          clear hb1 C1
          obtain ⟨x0, x1⟩ := hC0.out w1 HB1.out
          have hk8 : decide ((65536 : Int) ≤ (k : Int)) = false := by rw [decide_eq_false_iff_not]; omega
          go_upto_if 27 with fail
          clear hk8
          go_wp2_with fail
          (with_reducible refine (C2.out _).mono ?_)
          rintro e w2 ⟨rfl, hb2⟩
          have HN2 : Hid (Below wr.heap.size wr w2) := Lib.hid (HN1.out.trans (hb2.mono HN1.out.size))
          have HB2 := Lib.hid (HK.out.2.1.trans (HN2.out.mono hle))
          clear hb2 C2 x0 x1 HB1 HN1
          go_wp2_with fail
          (with_reducible refine (C3.out _).mono ?_)
          rintro e w3 ⟨rfl, hb3⟩
          have HN3 : Hid (Below wr.heap.size wr w3) := Lib.hid (HN2.out.trans (hb3.mono HN2.out.size))
          have HB3 := Lib.hid (HK.out.2.1.trans (HN3.out.mono hle))
          clear hb3 C3 HN2 HB2
          by_cases hsz : s.size + r.size + t.size ≤ 67108864
          · have hno := GOOD.out hsz
            have HGO := Lib.hid hno
            clear hno BAD GOOD
            go_upto_region 11 with fail
            have hno2 := ((badO_iff k s o).1 HGO.out).2.2
            have C4 := Lib.hid (fun W => rof_any o.1 o.2 W (by have := (okO_iff o).1 HOK.out; omega))
            have f1 : full32 (nmA o) = true := idA_full _
            have SA := hC0.out w3.drew HB3.out.drew
            go_cut [8] (fun v wx => ∃ g, v = .pointer (some ⟨g, 0, none⟩) ∧ Hid (wx.rowIs g 42 32 (u8V (nmF o)) ∧ wr.heap.size ≤ g ∧ Below wr.heap.size wr wx))
            case first =>
              refine wp_region_held_drew (S := fun w' => w'.cell? (ad.add (k * 2)) = some (.int .u8 (o.1.toNat : Int)) ∧ w'.cell? ⟨(ad.add (k * 2)).block, (ad.add (k * 2)).off + 1, none⟩ = some (.string o.2)) (by kernel_rfl) (by first | exact SD | exact SC | exact SB | exact SA) (fun hHeld => ?_)
              refine wpAnyH_take (i := 0) (oi := _) (v := _) rfl (by as_aux_lemma => kernel_rfl) (by as_aux_lemma => kernel_rfl) (by as_aux_lemma => kernel_rfl) (fun _ _ _ h => h) (Or.inl ⟨by kernel_rfl, by (intro w hSw; (try dsimp only at hSw); go_simp; first | done | with_reducible rfl)⟩) (by assumption) ?_
              (try simp only [Act.put, List.setIfInBounds_toArray, List.set_cons_zero, List.set_cons_succ])
              refine wpAnyH_take (i := 1) (oi := _) (v := _) rfl (by as_aux_lemma => kernel_rfl) (by as_aux_lemma => kernel_rfl) (by as_aux_lemma => kernel_rfl) (fun _ _ _ h => h) (Or.inl ⟨by kernel_rfl, by (intro w hSw; (try dsimp only at hSw); go_simp; first | done | with_reducible rfl)⟩) (by assumption) ?_
              (try simp only [Act.put, List.setIfInBounds_toArray, List.set_cons_zero, List.set_cons_succ])
              refine wpAnyH_take (i := 2) (oi := _) (v := _) rfl (by as_aux_lemma => kernel_rfl) (by as_aux_lemma => kernel_rfl) (by as_aux_lemma => kernel_rfl) (fun _ _ _ h => h) (Or.inl ⟨by kernel_rfl, by (intro w hSw; (try dsimp only at hSw); go_simp; first | done | with_reducible rfl)⟩) (by assumption) ?_
              (try simp only [Act.put, List.setIfInBounds_toArray, List.set_cons_zero, List.set_cons_succ])
              refine wpAnyH_take (i := 3) (oi := _) (v := _) rfl (by as_aux_lemma => kernel_rfl) (by as_aux_lemma => kernel_rfl) (by as_aux_lemma => kernel_rfl) (fun _ _ _ h => h) (Or.inl ⟨by kernel_rfl, by (intro w hSw; (try dsimp only at hSw); go_simp; first | done | with_reducible rfl)⟩) (by assumption) ?_
              (try simp only [Act.put, List.setIfInBounds_toArray, List.set_cons_zero, List.set_cons_succ])
              refine wpAnyH_take (i := 4) (oi := _) (v := _) rfl (by as_aux_lemma => kernel_rfl) (by as_aux_lemma => kernel_rfl) (by as_aux_lemma => kernel_rfl) (fun _ _ _ h => h) (Or.inl ⟨by kernel_rfl, by (intro w hSw; (try dsimp only at hSw); go_simp; first | done | with_reducible rfl)⟩) (by assumption) ?_
              (try simp only [Act.put, List.setIfInBounds_toArray, List.set_cons_zero, List.set_cons_succ])
              refine wpAnyH_take (i := 5) (oi := _) (v := _) rfl (by as_aux_lemma => kernel_rfl) (by as_aux_lemma => kernel_rfl) (by as_aux_lemma => kernel_rfl) (fun _ _ _ h => h) (Or.inl ⟨by kernel_rfl, by (intro w hSw; (try dsimp only at hSw); go_simp; first | done | with_reducible rfl)⟩) (by assumption) ?_
              (try simp only [Act.put, List.setIfInBounds_toArray, List.set_cons_zero, List.set_cons_succ])
              refine wpAnyH_take (i := 6) (oi := _) (v := _) rfl (by as_aux_lemma => kernel_rfl) (by as_aux_lemma => kernel_rfl) (by as_aux_lemma => kernel_rfl) (fun _ _ _ h => h) (Or.inl ⟨by kernel_rfl, by (intro w hSw; (try dsimp only at hSw); go_simp; first | done | with_reducible rfl)⟩) (by assumption) ?_
              (try simp only [Act.put, List.setIfInBounds_toArray, List.set_cons_zero, List.set_cons_succ])
              refine wpAnyH_take (i := 7) (oi := _) (v := _) rfl (by as_aux_lemma => kernel_rfl) (by as_aux_lemma => kernel_rfl) (by as_aux_lemma => kernel_rfl) (fun _ _ _ h => h) (Or.inl ⟨by kernel_rfl, by (intro w hSw; (try dsimp only at hSw); go_simp; first | done | with_reducible rfl)⟩) (by assumption) ?_
              (try simp only [Act.put, List.setIfInBounds_toArray, List.set_cons_zero, List.set_cons_succ])
              refine wpAnyH_take (i := 8) (oi := _) (v := _) rfl (by as_aux_lemma => kernel_rfl) (by as_aux_lemma => kernel_rfl) (by as_aux_lemma => kernel_rfl) (fun _ _ _ h => h) (Or.inl ⟨by kernel_rfl, by (intro w hSw; (try dsimp only at hSw); go_simp; first | done | with_reducible rfl)⟩) (by assumption) ?_
              (try simp only [Act.put, List.setIfInBounds_toArray, List.set_cons_zero, List.set_cons_succ])
              refine wpAnyH_take (i := 9) (oi := _) (v := _) rfl (by as_aux_lemma => kernel_rfl) (by as_aux_lemma => kernel_rfl) (by as_aux_lemma => kernel_rfl) (fun _ _ _ h => h) (Or.inl ⟨by kernel_rfl, by (intro w hSw; (try dsimp only at hSw); go_simp; first | done | with_reducible rfl)⟩) (by assumption) ?_
              (try simp only [Act.put, List.setIfInBounds_toArray, List.set_cons_zero, List.set_cons_succ])
              refine wpAnyH_ready (rs := [10, 11]) (by as_aux_lemma => kernel_rfl) (by simp) (AllReadyH.cons rfl (fun K hK => ?_) (AllReadyH.cons rfl (fun K hK => ?_) AllReadyH.nil))
              · try simp only [List.getElem_toArray, List.getElem_cons_succ, List.getElem_cons_zero]
                go_simp
                (with_reducible refine (C4.out _).mono ?_)
                rintro e w4 ⟨rfl, hb4⟩
                have HN4 : Hid (Below wr.heap.size wr w4) := Lib.hid (HN3.out.drew.trans (hb4.mono HN3.out.drew.size))
                have SB := hC0.out w4 (HK.out.2.1.trans (HN4.out.mono hle))
                clear hb4
                go_simp
                refine hK.out _ _ (by first | exact SD | exact SC | exact SB | exact SA) (fun hHeld => ?_)
                clear hK K
                (try simp only [Act.put, List.setIfInBounds_toArray, List.set_cons_zero, List.set_cons_succ])
                have SC := hC0.out (w4.alloc zeroId) (HK.out.2.1.trans ((HN4.out.alloc HN4.out.size _).mono hle))
                unfold zeroId at SC
                refine wpAnyH_ready (rs := [11]) (by as_aux_lemma => kernel_rfl) (by simp) (AllReadyH.cons rfl (fun K hK => ?_) AllReadyH.nil)
                try simp only [List.getElem_toArray, List.getElem_cons_succ, List.getElem_cons_zero]
                go_simp
                refine hK.out _ _ (by first | exact SD | exact SC | exact SB | exact SA) (fun hHeld => ?_)
                clear hK K
                (try simp only [Act.put, List.setIfInBounds_toArray, List.set_cons_zero, List.set_cons_succ])
                have Z4 : (w4.alloc zeroId).rowIs w4.heap.size 42 32 (fun _ => .int .u8 0) := zeros_row w4 (T := 42) (c := _) (n := 32) (z := .int .u8 0) (by rfl)
                have HP := Lib.hid (stored o (HN4.out.alloc HN4.out.size zeroId) HN4.out.size Z4)
                have o4 := ok32_of Z4 (Nat.le_refl 32)
                have SD := hC0.out _ (HK.out.2.1.trans (HP.out.2.2.mono hle))
                unfold zeroId at o4 SD
                refine wpAnyH_ready (rs := [12]) (by as_aux_lemma => kernel_rfl) (by simp) (AllReadyH.cons rfl (fun K hK => ?_) AllReadyH.nil)
                try simp only [List.getElem_toArray, List.getElem_cons_succ, List.getElem_cons_zero]
                go_simp
                refine hK.out _ _ (by first | exact SD | exact SC | exact SB | exact SA) (fun hHeld => ?_)
                clear hK K
                (try simp only [Act.put, List.setIfInBounds_toArray, List.set_cons_zero, List.set_cons_succ])
                refine wpAnyH_done (by as_aux_lemma => kernel_rfl) ?_ _
                go_wp2
                go_meet
                exact ⟨w4.heap.size, rfl, HP⟩
              · try simp only [List.getElem_toArray, List.getElem_cons_succ, List.getElem_cons_zero]
                have SB := hC0.out (w3.drew.alloc zeroId) (HK.out.2.1.trans ((HN3.out.drew.alloc HN3.out.size _).mono hle))
                unfold zeroId at SB
                go_simp
                refine hK.out _ _ (by first | exact SD | exact SC | exact SB | exact SA) (fun hHeld => ?_)
                clear hK K
                (try simp only [Act.put, List.setIfInBounds_toArray, List.set_cons_zero, List.set_cons_succ])
                refine wpAnyH_ready (rs := [10]) (by as_aux_lemma => kernel_rfl) (by simp) (AllReadyH.cons rfl (fun K hK => ?_) AllReadyH.nil)
                try simp only [List.getElem_toArray, List.getElem_cons_succ, List.getElem_cons_zero]
                go_simp
                (with_reducible refine (C4.out _).mono ?_)
                rintro e w4 ⟨rfl, hb4⟩
                have Z3 : (w3.drew.alloc zeroId).rowIs w3.heap.size 42 32 (fun _ => .int .u8 0) := zeros_row w3.drew (T := 42) (c := _) (n := 32) (z := .int .u8 0) (by rfl)
                have Z4 : w4.rowIs w3.heap.size 42 32 (fun _ => .int .u8 0) := Z3.of_block (hb4.block _ Z3.lt)
                have HN4 : Hid (Below wr.heap.size wr w4) := Lib.hid ((HN3.out.drew.alloc HN3.out.size zeroId).trans (hb4.mono ((HN3.out.drew.alloc HN3.out.size zeroId).size)))
                have SC := hC0.out w4 (HK.out.2.1.trans (HN4.out.mono hle))
                clear hb4
                go_simp
                refine hK.out _ _ (by first | exact SD | exact SC | exact SB | exact SA) (fun hHeld => ?_)
                clear hK K
                (try simp only [Act.put, List.setIfInBounds_toArray, List.set_cons_zero, List.set_cons_succ])
                have HP := Lib.hid (stored o HN4.out HN3.out.size Z4)
                have o4 := ok32_of Z4 (Nat.le_refl 32)
                have SD := hC0.out _ (HK.out.2.1.trans (HP.out.2.2.mono hle))
                refine wpAnyH_ready (rs := [12]) (by as_aux_lemma => kernel_rfl) (by simp) (AllReadyH.cons rfl (fun K hK => ?_) AllReadyH.nil)
                try simp only [List.getElem_toArray, List.getElem_cons_succ, List.getElem_cons_zero]
                go_simp
                refine hK.out _ _ (by first | exact SD | exact SC | exact SB | exact SA) (fun hHeld => ?_)
                clear hK K
                (try simp only [Act.put, List.setIfInBounds_toArray, List.set_cons_zero, List.set_cons_succ])
                refine wpAnyH_done (by as_aux_lemma => kernel_rfl) ?_ _
                go_wp2
                go_meet
                exact ⟨w3.heap.size, rfl, HP⟩
            case rest =>
              obtain ⟨g, rfl, HG⟩ := hcut
              have HS := Lib.hid ((HK.out.1).below HG.out.2.2)
              have HB6 := Lib.hid (HK.out.2.1.trans (HG.out.2.2.mono hle))
              obtain ⟨c0, hlook⟩ := HS.out.look (nmF o)
              change (Instr.lookup 85 (.map (some w.heap.size)) (.agg (nmA o)) true).run Try.prog wc = .ok (.tuple #[.int .i64 c0, .bool (@decide (nmA o ∈ S) (Classical.propDecidable _))]) wc at hlook
              obtain ⟨w6, hup, hs6, hg6⟩ := HS.out.put (nmF o) (k : Int) (by unfold maxLen; omega) (WalkArith.wf_i64 (by omega))
              change (Instr.mapUpdate 85 (.map (some w.heap.size)) (.agg (nmA o)) (.int .i64 (k : Int))).run Try.prog wc = .ok () w6 at hup
              have HS6 := Lib.hid hs6
              have HB7 := Lib.hid (below_grown HB6.out hg6 (fun g' e => by injection e with e; omega))
              have o32 := ok32_of HG.out.1 (Nat.le_refl 32)
              have r32 : row32 wc g 0 = nmA o := row32_id HG.out.1
              clear hs6 hg6 f1 hno2 C4
              by_cases hm : nmA o ∈ S
              · have HB : Hid (bldR l = (ByteArray.empty, 7)) := Lib.hid (by rw [HK.out.2.2, ED.out]; exact bldF_there HGO.out hm)
                rw [@decide_eq_true _ (Classical.propDecidable _) hm] at hlook
                clear hm hup
                go_wp2
                go_ret2
                exact ⟨by rw [HB.out]; rfl, HB6.out⟩
              · have HB : Hid (bldR l = bldF (k + 1) (s ++ r) (nmA o :: S) (l.drop (k + 1)) ∧ (s ++ r).size ≤ 67108864) := Lib.hid ⟨by rw [HK.out.2.2, ED.out, bldF_on HGO.out hm, HRR.out], by rw [ByteArray.size_append]; omega⟩
                rw [@decide_eq_false _ (Classical.propDecidable _) hm] at hlook
                clear hm
                go_wp2
                go_roundw
                case rel => exact ⟨k + 1, s ++ r, nmA o :: S, by omega, rfl, by go_num, Lib.hid ⟨HS6.out, HB7.out, HB.out.1⟩, HB.out.2, by omega⟩
                case measure => simp [intOf]; omega
          · have HB := Lib.hid (BAD.out (by omega))
            clear BAD GOOD
            go_wp2
            go_ret2
            exact ⟨by rw [HB.out]; rfl, HB3.out⟩
        · have HB : Hid (bldR l = (ByteArray.empty, 1)) := Lib.hid (by rw [HK.out.2.2, ED.out]; exact bldF_bad (by cases hb : badO k s o with | true => rfl | false => have := (badO_iff k s o).1 hb; omega))
          have hk7 : 65536 ≤ k := by omega
          clear hok h6 hk6
          go_wp2_with fail
          (with_reducible refine (C1.out _).mono ?_)
          rintro e w1 ⟨rfl, hb1⟩
          have HB1 := Lib.hid (HK.out.2.1.trans (hb1.mono hle))
          clear hb1 C1
          have hk8 : decide ((65536 : Int) ≤ (k : Int)) = true := by rw [decide_eq_true_eq]; omega
          go_upto_if 27 with fail
          clear hk8
          go_wp2
          go_ret2
          exact ⟨by rw [HB.out]; rfl, HB1.out⟩
    · obtain rfl : k = n := by omega
      have HE : Hid (bldR l = (s ++ trlB k, 0)) := Lib.hid (by rw [HK.out.2.2, List.drop_eq_nil_of_le (by rw [HL.out]; exact Nat.le_refl _)]; rfl)
      have C3 := Lib.hid (fun W => rtrailer_any k W (by omega))
      have hts := (trlB_size k).2
      obtain ⟨t, ht⟩ : ∃ t, trlB k = t := ⟨_, rfl⟩
      rw [ht] at hts C3 HE
      clear ht
      go_wp2_with fail
      (with_reducible refine (C3.out _).mono ?_)
      rintro e w3 ⟨rfl, hb3⟩
      have HB3 := Lib.hid (HK.out.2.1.trans (hb3.mono hle))
      clear hb3 C3
      go_wp2
      go_ret2
      exact ⟨by rw [HE.out]; rfl, HB3.out⟩
end Go.Proofs.Ytpfccicahfncbaa
