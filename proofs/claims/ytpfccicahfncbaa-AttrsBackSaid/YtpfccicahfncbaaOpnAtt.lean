/- Opening a law's argument that is a list of sets of attributes, or a set. No conditions. -/
import Derived.Test.YtpfccicahfncbaaOpn
import Derived.Test.YtpfccicahfncbaaAttGd
import Derived.OpenShut
import Derived.ChangeSame
namespace Go.Proofs.Ytpfccicahfncbaa
open Go.RowKit Go.WideShapes Go.ChangeShapes
theorem u32_of_wf {n : Int} (h : (Lit.int .u32 n).wf = true) : ∃ a : UInt32, n = (a.toNat : Int) := by
  have h := bounds_u32 h
  refine ⟨UInt32.ofNat n.toNat, ?_⟩
  rw [UInt32.toNat_ofNat']
  omega
theorem lit_reach {s : ByteArray} (h : s.data.toList.length ≤ reachBytes) : s.size ≤ 140737488355328 := by
  have := str_reach h
  omega
section
variable {H : Type} {enc : TypeId × Value → H} {W : World}
theorem weights_in {P : Program} {e : TypeId} : ∀ (l : List (DataW H)) (d : DataW H), d ∈ l → ∀ n ∈ d.weights P e, n ∈ DataW.weightsAll P e l
  | [], _, h, _, _ => by cases h
  | x :: r, d, h, n, hn => by
    simp only [DataW.weightsAll, List.mem_append]
    rcases List.mem_cons.1 h with rfl | h
    · exact .inl hn
    · exact .inr (weights_in r d h n hn)
set_option maxRecDepth 100000 in
theorem xattr_open {base fuel : Nat} {L : List Value} {x : DataW H × List MemPlace} {sp : Nat → Bool} {held : Bool}
    (hd : DataW.trod enc Try.prog W base sp held fuel 96 L = some x) : ∃ p : ByteArray × ByteArray, L = xtC p ∧ x.1 = .agg [.lit (.string p.1.data.toList), .lit (.string p.2.data.toList)] := by
  have hu := Try.underlying96
  obtain ⟨y0, y1, m, rfl, hlen, e0, e1⟩ := trod_struct2 hu hd
  have h2 : L.length = 2 := by rw [hlen]; kernel_rfl
  obtain ⟨s, hS, hy0, hz0⟩ := DataW.trod_string (P := Try.prog) Try.underlying9 e0
  obtain ⟨t, hT, hy1, hz1⟩ := DataW.trod_string (P := Try.prog) Try.underlying9 e1
  have k1 : Try.prog.cellsOf 9 = 1 := by kernel_rfl
  have hS' : (L.drop 0).take 1 = [.string s] := by rw [← k1]; exact hS
  have hT' : (L.drop 1).take 1 = [.string t] := by rw [← k1]; exact hT
  refine ⟨(s, t), ?_, by rw [hy0, hy1]⟩
  match L, h2, hS', hT' with
  | [x, y], _, h1, h2 =>
    simp at h1 h2
    rw [h1, h2]; rfl
set_option maxRecDepth 100000 in
theorem xs_open {base fuel : Nat} {cs : List Value} {x : DataW H × List MemPlace} {sp : Nat → Bool} {held : Bool}
    (hd : DataW.trod enc Try.prog W base sp held fuel 55 cs = some x)
    (hall : ∀ n ∈ x.1.weights Try.prog 55, n ≤ reachBytes) (mem : ∀ p ∈ x.2, p.block < W.heap.size) :
    ∃ (A : Option Addr) (n c : Nat) (l : List (ByteArray × ByteArray)), cs = [.slice A n c] ∧ Reads W W.heap.size 2 A n (xtV l) ∧ n * 32 ≤ 140737488351232 ∧ (∀ p ∈ l, p.1.size ≤ 140737488355328 ∧ p.2.size ≤ 140737488355328) ∧ n ≤ c := by
  have hu := Try.underlying55
  have huo := Try.underlying96
  have k2 : Try.prog.cellsOf 96 = 2 := by kernel_rfl
  have k32 : Try.prog.bytesOf 96 = 32 := by kernel_rfl
  rcases DataW.trod_slice (P := Try.prog) hu hd with ⟨h0, hx⟩ | ⟨a, len, cap, elems, rest, n, _, h0, hx, hb, hl, hm, hlen, hel, hsp, hns⟩
  · exact ⟨none, 0, 0, [], h0, Reads.none_, by omega, (fun p hp => by cases hp), Nat.le_refl _⟩
  · rw [k2] at hel
    rw [hx] at hall mem
    dsimp only at hall mem
    have each : ∀ i, ∃ o : ByteArray × ByteArray, i < len → (o.1.size ≤ 140737488355328 ∧ o.2.size ≤ 140737488355328) ∧ W.cell? (a.add (i * 2)) = some (.string o.1) ∧ W.cell? ((a.add (i * 2)).add 1) = some (.string o.2) := fun i => by
      by_cases hi : i < len
      · have h := hel i hi
        rw [List.getElem?_eq_getElem (by omega), Option.bind_eq_some_iff] at h
        obtain ⟨cs', h1, h2⟩ := h
        obtain ⟨o, rfl, hy⟩ := xattr_open h2
        obtain ⟨q1, q2, q3⟩ := World.cells?_some h1
        have g0 := q3 0 (by show 0 < 2; omega)
        have g1 := q3 1 (by show 1 < 2; omega)
        have hw : ∀ n ∈ (elems[i]'(by omega)).1.weights Try.prog 96, n ≤ reachBytes := fun n hn => hall n (by
          have := weights_in (P := Try.prog) _ _ (List.mem_map_of_mem (f := (·.1)) (List.getElem_mem (show i < elems.length by omega))) n hn
          simp only [DataW.weights, hu, List.mem_cons, List.mem_append]
          exact .inr (.inl this))
        rw [hy] at hw
        refine ⟨o, fun _ => ⟨⟨lit_reach (hw _ ?_), lit_reach (hw _ ?_)⟩, ?_, ?_⟩⟩
        · simp [DataW.weights, huo, DataW.weightsEach]
        · simp [DataW.weights, huo, DataW.weightsEach]
        · simpa [Addr.add, xtC] using g0
        · simpa [xtC] using g1
      · exact ⟨(ByteArray.empty, ByteArray.empty), fun h => absurd h hi⟩
    obtain ⟨S, hS⟩ : ∃ S : Nat → ByteArray × ByteArray, ∀ i, i < len → ((S i).1.size ≤ 140737488355328 ∧ (S i).2.size ≤ 140737488355328) ∧ W.cell? (a.add (i * 2)) = some (.string (S i).1) ∧ W.cell? ((a.add (i * 2)).add 1) = some (.string (S i).2) := ⟨fun i => Classical.choose (each i), fun i => Classical.choose_spec (each i)⟩
    have hlb : len * 32 ≤ 140737488351232 := by
      have := hall ((elems.length + rest.length) * 32) (by simp [DataW.weights, hu, k32])
      unfold reachBytes at this
      omega
    refine ⟨some a, len, cap, (List.range len).map S, h0, ⟨by rw [xtV_length]; simp, fun hn => ⟨a, rfl, ?_, fun k u hk => ?_⟩⟩, hlb, fun x hx' => ?_, hl⟩
    · exact mem _ (List.mem_append_left _ (MemPlace.mem_row.2 ⟨0, by rw [k2]; omega, rfl⟩))
    · have hk2 : k < len * 2 := by
        have := (List.getElem?_eq_some_iff.1 hk).1
        rw [xtV_length] at this
        simpa using this
      obtain ⟨i, hi⟩ : ∃ i, k = i * 2 ∨ k = i * 2 + 1 := ⟨k / 2, by omega⟩
      have hil : i < len := by omega
      obtain ⟨e0, e1⟩ := xtV_get ((List.range len).map S) i (by simpa using hil)
      have hc := (hS i hil).2
      rw [show ((List.range len).map S)[i]'(by simpa using hil) = S i from by simp] at e0 e1
      rcases hi with rfl | rfl
      · rw [e0] at hk
        rw [← Option.some.inj hk]
        exact hc.1
      · rw [e1] at hk
        rw [← Option.some.inj hk, ← add_of_add]
        exact hc.2
    · obtain ⟨i, hi, rfl⟩ := List.mem_map.1 hx'
      exact (hS i (List.mem_range.1 hi)).1
set_option maxRecDepth 100000 in
theorem att_open {base fuel : Nat} {L : List Value} {x : DataW H × List MemPlace} {sp : Nat → Bool} {held : Bool}
    (hd : DataW.trod enc Try.prog W base sp held fuel 57 L = some x)
    (hall : ∀ n ∈ x.1.weights Try.prog 57, n ≤ reachBytes) (mem : ∀ p ∈ x.2, p.block < W.heap.size) :
    ∃ q : AttM, L = q.v ∧ q.good W := by
  have hu := Try.underlying57
  obtain ⟨xs, m, _, hx, hlen, hxs, hel⟩ := DataW.trod_struct (P := Try.prog) hu hd
  have h7 : L.length = 7 := by rw [hlen]; kernel_rfl
  have hxs7 : xs.length = 7 := hxs
  have e0 := hel 0 _ rfl
  have e1 := hel 1 _ rfl
  have e2 := hel 2 _ rfl
  have e3 := hel 3 _ rfl
  have e4 := hel 4 _ rfl
  have e5 := hel 5 _ rfl
  have e6 := hel 6 _ rfl
  clear hel hxs hlen
  match xs, hxs7 with
  | [x0, x1, x2, x3, x4, x5, x6], _ =>
  simp only [List.getElem?_cons_zero, List.getElem?_cons_succ] at e0 e1 e2 e3 e4 e5 e6
  obtain ⟨a0, b0, _, w0⟩ := DataW.trod_int (P := Try.prog) Try.underlying5 e0
  obtain ⟨a1, b1, _, w1⟩ := DataW.trod_int (P := Try.prog) Try.underlying50 e1
  obtain ⟨a2, b2, _, w2⟩ := DataW.trod_int (P := Try.prog) Try.underlying50 e2
  obtain ⟨a3, b3, _, w3⟩ := DataW.trod_int (P := Try.prog) Try.underlying50 e3
  obtain ⟨a4, b4, _, w4⟩ := DataW.trod_int (P := Try.prog) Try.underlying2 e4
  obtain ⟨t, b5, hy, hz⟩ := DataW.trod_string (P := Try.prog) Try.underlying9 e5
  rw [hx] at hall mem
  simp only [DataW.weights, hu] at hall
  have h5 : t.size ≤ 140737488355328 := lit_reach (hall _ (by rw [hy]; simp [DataW.weights, DataW.weightsEach]))
  obtain ⟨A, n, c, l, b6, hr, hn, hs, hc⟩ := xs_open e6 (fun n hn => hall n (by simp [DataW.weightsEach]; simp [hn])) (fun p hp => mem p (by simp [hp]))
  have k0 : Try.prog.cellsOf 5 = 1 := by kernel_rfl
  have k1 : Try.prog.cellsOf 50 = 1 := by kernel_rfl
  have k4 : Try.prog.cellsOf 2 = 1 := by kernel_rfl
  have k5 : Try.prog.cellsOf 9 = 1 := by kernel_rfl
  have k6 : Try.prog.cellsOf 55 = 1 := by kernel_rfl
  have c0 : (L.drop 0).take 1 = [.int .u8 a0] := by rw [← k0]; exact b0
  have c1 : (L.drop 1).take 1 = [.int .u32 a1] := by rw [← k1]; exact b1
  have c2 : (L.drop 2).take 1 = [.int .u32 a2] := by rw [← k1]; exact b2
  have c3 : (L.drop 3).take 1 = [.int .u32 a3] := by rw [← k1]; exact b3
  have c4 : (L.drop 4).take 1 = [.int .i64 a4] := by rw [← k4]; exact b4
  have c5 : (L.drop 5).take 1 = [.string t] := by rw [← k5]; exact b5
  have c6 : (L.drop 6).take 1 = [.slice A n c] := by rw [← k6]; exact b6
  obtain ⟨u0, rfl⟩ := u8_of_wf w0
  obtain ⟨u1, rfl⟩ := u32_of_wf w1
  obtain ⟨u2, rfl⟩ := u32_of_wf w2
  obtain ⟨u3, rfl⟩ := u32_of_wf w3
  have hb := bounds_i64 w4
  refine ⟨⟨⟨u0, u1, u2, u3, a4, t, l⟩, A, n, c⟩, ?_, hr, ⟨hb, h5, hs⟩, hn, hc⟩
  match L, h7, c0, c1, c2, c3, c4, c5, c6 with
  | [l0, l1, l2, l3, l4, l5, l6], _, h0, h1, h2, h3, h4, h5, h6 =>
    simp at h0 h1 h2 h3 h4 h5 h6
    rw [h0, h1, h2, h3, h4, h5, h6]; rfl
def attZ : AttM := ⟨⟨0, 0, 0, 0, 0, ByteArray.empty, []⟩, none, 0, 0⟩
set_option maxRecDepth 100000 in
theorem open_atts {base0 base : Nat} {r : Reach} {v : Value} {d : DataW H} {ps : List MemPlace} {ts : List TypeId} {ds : List (DataW H)} {held : Bool}
    (hval : Value.okWide Try.prog W r base0 47 v) (hd : DataW.Trod enc Try.prog W base (fun _ => true) held 47 v d ps)
    (hsz : (DataW.weightsEach Try.prog ts ds).all (· ≤ reachBytes) = true) (j : Nat) (hts : ts[j]? = some 47) (hds : ds[j]? = some d) (mem : ∀ x ∈ ps, x.block < W.heap.size) :
    ∃ (A : Option Addr) (n c : Nat) (M : List AttM), v = .slice A n c ∧ Reads W W.heap.size 7 A n (attsV M) ∧ n * 64 ≤ 140737488351232 ∧ (∀ q ∈ M, q.good W) ∧ n ≤ c := by
  have hu := Try.underlying47
  obtain ⟨a0, len, cap, rfl⟩ := okWide_slice (P := Try.prog) hu hval
  obtain ⟨fuel, hf⟩ := hd
  have k7 : Try.prog.cellsOf 57 = 7 := by kernel_rfl
  have k64 : Try.prog.bytesOf 57 = 64 := by kernel_rfl
  have hcs : (Value.slice a0 len cap).cells.toList = [.slice a0 len cap] := rfl
  rw [hcs] at hf
  rcases DataW.trod_slice (P := Try.prog) hu hf with ⟨h0, hx⟩ | ⟨a, len', cap', elems, rest, n, _, h0, hx, hb, hl, hm, hlen, hel, hsp, hns⟩
  · simp at h0
    obtain ⟨rfl, rfl, rfl⟩ := h0
    exact ⟨none, 0, 0, [], rfl, Reads.none_, by omega, (fun q hq => by cases hq), Nat.le_refl _⟩
  · simp at h0
    obtain ⟨rfl, rfl, rfl⟩ := h0
    rw [k7] at hel
    simp only [Prod.mk.injEq] at hx
    have hall : ∀ n ∈ d.weights Try.prog 47, n ≤ reachBytes := fun n hn => by
      have := List.all_eq_true.1 hsz _ (DataW.weights_mem_each hts hds n hn)
      simpa using this
    have each : ∀ i, ∃ q : AttM, i < len → q.good W ∧ ∀ j, j < 7 → W.cell? ((a.add (i * 7)).add j) = q.v[j]? := fun i => by
      by_cases hi : i < len
      · have h := hel i hi
        have hie : i < elems.length := by omega
        rw [List.getElem?_eq_getElem hie, Option.bind_eq_some_iff] at h
        obtain ⟨cs, h1, h2⟩ := h
        obtain ⟨q, rfl, hq⟩ := att_open h2 (fun n hn => hall n (by
          have := weights_in (P := Try.prog) _ _ (List.mem_map_of_mem (f := (·.1)) (List.getElem_mem hie)) n hn
          rw [hx.1]
          simp only [DataW.weights, hu, List.mem_cons, List.mem_append]
          exact .inr (.inl this))) (fun p hp => mem p (by
            rw [hx.2]
            exact List.mem_append_right _ (List.mem_flatMap.2 ⟨_, List.mem_append_left _ (List.getElem_mem hie), hp⟩)))
        obtain ⟨q1, q2, q3⟩ := World.cells?_some h1
        refine ⟨q, fun _ => ⟨hq, fun j hj => ?_⟩⟩
        have := q3 j hj
        exact this
      · exact ⟨attZ, fun h => absurd h hi⟩
    obtain ⟨S, hS⟩ : ∃ S : Nat → AttM, ∀ i, i < len → (S i).good W ∧ ∀ j, j < 7 → W.cell? ((a.add (i * 7)).add j) = (S i).v[j]? := ⟨fun i => Classical.choose (each i), fun i => Classical.choose_spec (each i)⟩
    have hlb : len * 64 ≤ 140737488351232 := by
      have := hall ((elems.length + rest.length) * 64) (by rw [hx.1]; simp [DataW.weights, hu, k64])
      unfold reachBytes at this
      omega
    refine ⟨some a, len, cap, (List.range len).map S, rfl, ⟨by rw [attsV_length]; simp, fun hn => ⟨a, rfl, ?_, fun k u hk => ?_⟩⟩, hlb, fun x hx' => ?_, hl⟩
    · exact mem _ (by rw [hx.2]; exact List.mem_append_left _ (MemPlace.mem_row.2 ⟨0, by rw [k7]; omega, rfl⟩))
    · have hk2 : k < len * 7 := by
        have := (List.getElem?_eq_some_iff.1 hk).1
        rw [attsV_length] at this
        simpa using this
      obtain ⟨i, j, hj, rfl⟩ : ∃ i j, j < 7 ∧ k = i * 7 + j := ⟨k / 7, k % 7, by omega, by omega⟩
      have hil : i < len := by omega
      have e := attsV_get ((List.range len).map S) i j (by simpa using hil) hj
      rw [show ((List.range len).map S)[i]'(by simpa using hil) = S i from by simp] at e
      rw [e] at hk
      rw [← add_of_add, (hS i hil).2 j hj, hk]
    · obtain ⟨i, hi, rfl⟩ := List.mem_map.1 hx'
      exact (hS i (List.mem_range.1 hi)).1
end
end Go.Proofs.Ytpfccicahfncbaa
