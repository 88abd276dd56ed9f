/- Walk: attrs.Read. -/
import Derived.Test.YtpfccicahfncbaaDoorAttRd1
import Derived.Test.YtpfccicahfncbaaDoorAttChk
import Derived.Deep.RegionHeld3
import Derived.Deep.DeepCutAuto
namespace Go.Proofs.YtpfccicahfncbaaDoor
open Go.RowKit Wir
set_option linter.unusedVariables false
set_option linter.unusedSimpArgs false
/-- A short number is taken: what is left, and whether all is well. -/
def numS (p : ByteArray × Bool) (m : Nat) : ByteArray × Bool := (uintS p.1, p.2 && (decide (uintE p.1 = 0) && decide ((short (byteAt p.1) p.1.size).1 ≤ m)))
def numN (p : ByteArray × Bool) : Nat := (short (byteAt p.1) p.1.size).1
def tkS (p : ByteArray × Bool) (m : Nat) : ByteArray × Bool := (txS p.1 m, p.2 && txB p.1 m)
/-- The list is read: so many are still to come. -/
def rdXs : Nat → ByteArray × Bool → List (ByteArray × ByteArray) → List (ByteArray × ByteArray) × (ByteArray × Bool)
  | 0, p, L => (L, p)
  | r + 1, p, L => if p.2 = true then rdXs r (tkS (tkS p 255) 4096) (L ++ [(txT p.1 255, txT (txS p.1 255) 4096)]) else (L, p)
theorem rdXs_bad (r : Nat) (p : ByteArray × Bool) (L : List (ByteArray × ByteArray)) (h : p.2 = false) : rdXs r p L = (L, p) := by
  cases r with
  | zero => rfl
  | succ r => rw [rdXs, if_neg (by rw [h]; decide)]
def p1 (s : ByteArray) : ByteArray × Bool := (takeS s 1, true)
def p2 (s : ByteArray) := numS (p1 s) 4095
def p3 (s : ByteArray) := numS (p2 s) 4294967295
def p4 (s : ByteArray) := numS (p3 s) 4294967295
def p5 (s : ByteArray) := numS (p4 s) 1099511627776
def p6 (s : ByteArray) := if fixV s 1 = 3 then tkS (p5 s) 1024 else p5 s
def p7 (s : ByteArray) := numS (p6 s) 16
/-- What the bytes say so far. -/
def rdT (s : ByteArray) : ByteArray := if fixV s 1 = 3 then txT (p5 s).1 1024 else ByteArray.empty
def rdL (s : ByteArray) := rdXs (numN (p6 s)) (p7 s) []
def rdA0 (s t : ByteArray) (L : List (ByteArray × ByteArray)) : Att := ⟨UInt8.ofNat (fixV s 1), UInt32.ofNat (numN (p1 s)), UInt32.ofNat (numN (p2 s)), UInt32.ofNat (numN (p3 s)), wrap64 (numN (p4 s) : Int), t, L⟩
def rdA (s : ByteArray) : Att := rdA0 s (rdT s) (rdL s).1
theorem rdA0_nd (s t : ByteArray) (L : List (ByteArray × ByteArray)) (h : fixV s 1 < 256) : (rdA0 s t L).nd.toNat = fixV s 1 := by
  show (UInt8.ofNat (fixV s 1)).toNat = _
  rw [UInt8.toNat_ofNat']; omega
theorem attV_set5 (s t u : ByteArray) (L : List (ByteArray × ByteArray)) (A : Option Addr) (n c : Nat) : (attV (rdA0 s t L) A n c).setIfInBounds 5 (.string u) = attV (rdA0 s u L) A n c := rfl
theorem attV_set6 (s t : ByteArray) (L M : List (ByteArray × ByteArray)) (A A' : Option Addr) (n c n' c' : Nat) : (attV (rdA0 s t L) A n c).setIfInBounds 6 (.slice A' n' c') = attV (rdA0 s t M) A' n' c' := rfl
theorem RS.set_ {w : World} {rb R kb : Nat} {s : ByteArray} {ok : Bool} (h : RS w rb R kb s ok) {g : Nat} (i : Nat) (h1 : g ≠ rb) (h2 : g ≠ R) (h3 : g ≠ kb) (v : Value) : RS (w.setCell ⟨g, i, none⟩ v) rb R kb s ok :=
  ⟨h.rp.far (p := ⟨g, i, none⟩) h1.symm _, Blk.far h.rd (p := ⟨g, i, none⟩) h2.symm _, h.ok.far (p := ⟨g, i, none⟩) h3.symm _, h.n1, h.n2, h.n3⟩
theorem attV0 (s t : ByteArray) (L : List (ByteArray × ByteArray)) (A : Option Addr) (n c : Nat) (h : fixV s 1 < 256) : attV (rdA0 s t L) A n c = #[.int .u8 (fixV s 1 : Int), .int .u32 ((numN (p1 s) : Int) % 4294967296), .int .u32 ((numN (p2 s) : Int) % 4294967296), .int .u32 ((numN (p3 s) : Int) % 4294967296), .int .i64 (wrap64 (numN (p4 s) : Int)), .string t, .slice A n c] := by
  unfold attV
  have e0 := rdA0_nd s t L h
  have e : ∀ n : Nat, ((UInt32.ofNat n).toNat : Int) = (n : Int) % 4294967296 := fun n => by rw [UInt32.toNat_ofNat']; omega
  rw [e0]
  show #[_, Value.int .u32 ((UInt32.ofNat (numN (p1 s))).toNat : Int), Value.int .u32 ((UInt32.ofNat (numN (p2 s))).toNat : Int), Value.int .u32 ((UInt32.ofNat (numN (p3 s))).toNat : Int), Value.int .i64 (wrap64 (numN (p4 s) : Int)), _, _] = _
  rw [e, e, e]
  rfl
def zAtt : Att := ⟨0, 0, 0, 0, 0, ByteArray.empty, []⟩
def rdOK (s : ByteArray) : Bool := decide (takeE s 1 = 0) && ((rdL s).2.2 && (decide ((rdL s).2.1.size = 0) && decide (chkA (rdA s) = 0)))
def rdR (s : ByteArray) : Att × Int := if rdOK s = true then (rdA s, 0) else (zAtt, 4)
theorem uintS_size (s : ByteArray) : (uintS s).size ≤ s.size := by
  unfold uintS
  split
  · exact Nat.le_refl _
  · rw [ByteArray.size_extract]; omega
theorem txS_size (s : ByteArray) (m : Nat) : (txS s m).size ≤ s.size := by
  unfold txS
  split
  · rw [ByteArray.size_extract]; omega
  · exact Nat.le_refl _
theorem takeS_size (s : ByteArray) (m : Nat) : (takeS s m).size ≤ s.size := by
  unfold takeS
  split
  · exact Nat.le_refl _
  · rw [ByteArray.size_extract]; omega
theorem txT_size (s : ByteArray) (m : Nat) : (txT s m).size ≤ s.size := by
  unfold txT
  split
  · rw [ByteArray.size_extract]; omega
  · exact Nat.zero_le _
theorem fixV_byte (s : ByteArray) : fixV s 1 < 256 := by
  unfold fixV
  split
  · omega
  · have := beN_lt (byteAt s) 1; simpa using this
theorem results_rec_tmp {fn : Func} {p u : Tmp} {ty : TypeId} {fs : Array Field} (h : fn.results = #[.cell p ty, .tmp u]) (tmps : Array Value) {P : Program} (w : World) (g : Nat) (t : TypeId) (cs : Array Value) (fr : Nat × Nat)
    (hp : tmps.getD p undef = .pointer (some ⟨g, 0, none⟩)) (hg : w.heap[g]? = some (.cells cs t fr))
    (hu : P.underlying ty = some (.struct fs)) (hi : (P.info? ty).map (·.size) = some cs.size) :
    (results fn tmps).run P w = .ok (.tuple #[.agg cs, tmps.getD u undef]) w := by
  have hp' : tmps[p]?.getD undef = .pointer (some ⟨g, 0, none⟩) := by simpa using hp
  simp [results, h, hp', asAddr, run_loadVar_row w g t ty cs fr (.struct fs) hg hu rfl hi]
theorem elemX : ElemN Tryd.prog 25 43 (.agg #[.string ByteArray.empty, .string ByteArray.empty]) 2 32 := ElemN.of (by kernel_rfl) (by kernel_rfl) rfl (by omega)
theorem own_slX {w : World} {base n size : Nat} {e : TypeId} {v : Value} {xs : List Value} (h : w.ownsRow base e size v n xs) (hn : 1 ≤ n) : ∃ g c, v = .slice (some ⟨g, 0, none⟩) n c ∧ n ≤ c := by
  rcases h.2 with ⟨_, h2⟩ | ⟨g, cap, cur, rfl, _, _, h5, _⟩
  · omega
  · exact ⟨g, cap, rfl, h5⟩
theorem own_lower {w : World} {base base' n size : Nat} {e : TypeId} {v : Value} {xs : List Value} (h : w.ownsRow base e size v n xs) (hb : base' ≤ base) : w.ownsRow base' e size v n xs := by
  refine ⟨h.1, ?_⟩
  rcases h.2 with h2 | ⟨g, cap, cur, a1, a2, a3⟩
  · exact .inl h2
  · exact .inr ⟨g, cap, cur, a1, Nat.le_trans hb a2, a3⟩
/-- What holds at the head of the reading loop. -/
structure RdI (w wr : World) (rb R ab B : Nat) (s : ByteArray) (k : Nat) (p : ByteArray × Bool) (L : List (ByteArray × ByteArray)) (A : Option Addr) (c : Nat) : Prop where
  rs : RS wr rb R (rb + 1) p.1 p.2
  cell : Blk wr ab 27 (attV (rdA0 s (rdT s) L) A k c)
  own : wr.ownsRow B 43 2 (.slice A k c) k (xtV L)
  zero : Blk wr w.heap.size 27 (attV zAtt none 0 0)
  below : Below w.heap.size w wr
  low : B ≤ wr.heap.size
  o1 : w.heap.size < R
  o2 : R < rb
  o3 : rb + 1 < ab
  o4 : ab < B
theorem RdI.grow {w wr w' : World} {rb R ab B k c : Nat} {s : ByteArray} {p p' : ByteArray × Bool} {L : List (ByteArray × ByteArray)} {A : Option Addr} (h : RdI w wr rb R ab B s k p L A c) (hr : RS w' rb R (rb + 1) p'.1 p'.2) (hg : Grow2 wr w' R (rb + 1)) : RdI w w' rb R ab B s k p' L A c :=
  ⟨hr, hg.blk h.cell (by have := h.o2; have := h.o3; omega) (by have := h.o3; omega), hg.own h.own (by have := h.o2; have := h.o3; have := h.o4; omega) (by have := h.o3; have := h.o4; omega), hg.blk h.zero (by have := h.o1; omega) (by have := h.o1; have := h.o2; omega), hg.below h.below h.below.size (by have := h.o1; omega) (by have := h.o1; have := h.o2; omega), Nat.le_trans h.low hg.size, h.o1, h.o2, h.o3, h.o4⟩
theorem RdI.drew {w wr : World} {rb R ab B k c : Nat} {s : ByteArray} {p : ByteArray × Bool} {L : List (ByteArray × ByteArray)} {A : Option Addr} (h : RdI w wr rb R ab B s k p L A c) : RdI w wr.drew rb R ab B s k p L A c :=
  ⟨⟨h.rs.rp, h.rs.rd, h.rs.ok, h.rs.n1, h.rs.n2, h.rs.n3⟩, h.cell, h.own.drew, h.zero, h.below.drew, h.low, h.o1, h.o2, h.o3, h.o4⟩
/-- An element is appended, and the list is stored. -/
theorem RdI.push {w wr w' : World} {rb R ab B k c g c' : Nat} {s : ByteArray} {p : ByteArray × Bool} {L : List (ByteArray × ByteArray)} {A : Option Addr} {x : ByteArray × ByteArray} (h : RdI w wr rb R ab B s k p L A c)
    (ho : w'.ownsRow B 43 2 (.slice (some ⟨g, 0, none⟩) (k + 1) c') (k + 1) (xtV L ++ [.string x.1, .string x.2])) (hg : wr.grownBy w' (Value.slice A k c).ownBlock) :
    RdI w (w'.setCell ⟨ab, 6, none⟩ (.slice (some ⟨g, 0, none⟩) (k + 1) c')) rb R ab B s (k + 1) p (L ++ [x]) (some ⟨g, 0, none⟩) c' ∧ Blk w' ab 27 (attV (rdA0 s (rdT s) L) A k c) := by
  have hne : ∀ b, b < B → some b ≠ (Value.slice A k c).ownBlock := fun b hb e => by
    have := (h.own.lt b e.symm).1; omega
  have hgB : B ≤ g := (ho.lt g rfl).1
  have o1 := h.o1
  have o2 := h.o2
  have o3 := h.o3
  have o4 := h.o4
  have hk : Blk w' ab 27 (attV (rdA0 s (rdT s) L) A k c) := h.cell.grown hg (hne ab o4)
  have hr : RS w' rb R (rb + 1) p.1 p.2 := ⟨h.rs.rp.grown hg (hne _ (by omega)), Blk.grown h.rs.rd hg (hne _ (by omega)), h.rs.ok.grown hg (hne _ (by omega)), h.rs.n1, h.rs.n2, h.rs.n3⟩
  have hb : Below w.heap.size w w' := h.below.grown hg h.below.size (fun j e => by have := (h.own.lt j e).1; omega)
  have hc := hk.set_ 6 (.slice (some ⟨g, 0, none⟩) (k + 1) c')
  rw [attV_set6 s (rdT s) L (L ++ [x])] at hc
  refine ⟨⟨hr.set_ 6 (by omega) (by omega) (by omega) _, hc, ?_, (h.zero.grown hg (hne _ (by omega))).far (p := ⟨ab, 6, none⟩) (by show w.heap.size ≠ ab; omega) _, hb.setCell (p := ⟨ab, 6, none⟩) (by show w.heap.size ≤ ab; omega) _, by rw [World.size_setCell]; exact Nat.le_trans h.low hg.size, o1, o2, o3, o4⟩, hk⟩
  have ho2 : w'.ownsRow B 43 2 (.slice (some ⟨g, 0, none⟩) (k + 1) c') (k + 1) (xtV (L ++ [x])) := by rw [xtV_app]; exact ho
  exact ho2.kept (only_setCell (grown_refl w' (some ab)) (p := ⟨ab, 6, none⟩) (.inl rfl) _) (.inr (by show some g ≠ some ab; intro e; injection e with e; omega))
theorem wrap64_fit (n : Int) : -9223372036854775808 ≤ wrap64 n ∧ wrap64 n ≤ 9223372036854775807 := by unfold wrap64; omega
theorem rdT_size (s : ByteArray) (h : (p5 s).1.size ≤ s.size) : (rdT s).size ≤ s.size := by
  by_cases h3 : fixV s 1 = 3
  · rw [rdT, if_pos h3]
    generalize p5 s = q at *
    exact Nat.le_trans (txT_size q.1 1024) h
  · rw [rdT, if_neg h3]; exact Nat.zero_le _
theorem p7_small (s : ByteArray) (h : (p7 s).2 = true) : numN (p6 s) ≤ 16 := by
  rw [p7] at h
  generalize p6 s = q at *
  rw [numS] at h
  simp only [Bool.and_eq_true, decide_eq_true_eq] at h
  exact h.2.2
theorem numF_p (M : Int) (m : Nat) (hM : (m : Int) = M) (hm : m < 18446744073709551616) (p : ByteArray × Bool) (rb R kb : Nat) (w : World) (h : RS w rb R kb p.1 p.2) (hs : p.1.size ≤ 140737488355328) :
    Calls Tryd.prog 39 #[.int .u64 M, .pointer (some ⟨rb, 0, none⟩), .pointer (some ⟨kb, 0, none⟩)] w
      fun e w' => e = .returned (.int .u64 (numN p : Int)) ∧ RS w' rb R kb (numS p m).1 (numS p m).2 ∧ Grow2 w w' R kb := by
  subst hM
  exact numF_any m p.1 p.2 rb R kb w h (by omega) hm
theorem txtF_p (M : Int) (m : Nat) (hM : (m : Int) = M) (hm : m ≤ 9223372036854775807) (p : ByteArray × Bool) (rb R kb : Nat) (w : World) (h : RS w rb R kb p.1 p.2) (hs : p.1.size ≤ 140737488355328) :
    Calls Tryd.prog 40 #[.int .i64 M, .pointer (some ⟨rb, 0, none⟩), .pointer (some ⟨kb, 0, none⟩)] w
      fun e w' => e = .returned (.string (txT p.1 m)) ∧ RS w' rb R kb (tkS p m).1 (tkS p m).2 ∧ Grow2 w w' R kb := by
  subst hM
  exact txtF_any m p.1 p.2 rb R kb w h (by omega) hm
theorem p_sizes (s : ByteArray) : (p1 s).1.size ≤ s.size ∧ (p2 s).1.size ≤ s.size ∧ (p3 s).1.size ≤ s.size ∧ (p4 s).1.size ≤ s.size ∧ (p5 s).1.size ≤ s.size ∧ (p6 s).1.size ≤ s.size ∧ (p7 s).1.size ≤ s.size := by
  have e1 : ∀ (p : ByteArray × Bool) m, (numS p m).1.size ≤ p.1.size := fun p m => uintS_size p.1
  have h1 : (p1 s).1.size ≤ s.size := takeS_size s 1
  have h2 : (p2 s).1.size ≤ s.size := Nat.le_trans (e1 (p1 s) 4095) h1
  have h3 : (p3 s).1.size ≤ s.size := Nat.le_trans (e1 (p2 s) 4294967295) h2
  have h4 : (p4 s).1.size ≤ s.size := Nat.le_trans (e1 (p3 s) 4294967295) h3
  have h5 : (p5 s).1.size ≤ s.size := Nat.le_trans (e1 (p4 s) 1099511627776) h4
  have h6 : (p6 s).1.size ≤ s.size := by
    by_cases h : fixV s 1 = 3
    · rw [p6, if_pos h]
      generalize p5 s = q at *
      exact Nat.le_trans (txS_size q.1 1024) h5
    · rw [p6, if_neg h]
      exact h5
  have h7 : (p7 s).1.size ≤ s.size := Nat.le_trans (e1 (p6 s) 16) h6
  exact ⟨h1, h2, h3, h4, h5, h6, h7⟩
set_option maxRecDepth 100000 in
set_option maxHeartbeats 6000000 in
theorem attRead_any (s : ByteArray) (w : World) (hs : s.size ≤ 140737488355328) :
    Calls Tryd.prog 16 #[.string s] w fun e w' => ∃ A n c, e = .returned (.tuple #[.agg (attV (rdR s).1 A n c), .int .i64 (rdR s).2]) ∧ w'.ownsRow w.heap.size 43 2 (.slice A n c) n (xtV (rdR s).1.xs) ∧ Below w.heap.size w w' := by
  have hmf : ∀ (fn : Fn) (first cap : Array Value) (w : World), (Instr.makeFunc fn first cap).run Tryd.prog w = .ok (.func fn first cap) w := fun _ _ _ _ => rfl
  go_enter Tryd.func16, Tryd.ntmps16
  have Z0 : Hid (Blk (w.alloc (.cells (attV zAtt none 0 0) 27)) w.heap.size 27 (attV zAtt none 0 0) ∧ Below w.heap.size w (w.alloc (.cells (attV zAtt none 0 0) 27))) := Lib.hid ⟨Blk.new _ _ _, (Below.refl _ _).alloc (Nat.le_refl _) _⟩
  go_upto_region 1 with fail
  change Code.wp _ _ _ _ (w.alloc (.cells (attV zAtt none 0 0) 27))
  generalize w.alloc (.cells (attV zAtt none 0 0) 27) = w0 at Z0 ⊢
  go_wp2_with fail
  (with_reducible refine (newReader_any s _).mono ?_)
  rintro e w1 ⟨rfl, hr1, hb1⟩
  have hlt0 := Z0.out.1.lt
  have Z1 : Hid (Blk w1 w.heap.size 27 (attV zAtt none 0 0) ∧ Rdr w1 w0.heap.size s ∧ Below w.heap.size w w1) := Lib.hid ⟨Z0.out.1.below hb1 Z0.out.1.lt, hr1, Z0.out.2.trans (hb1.mono Z0.out.2.size)⟩
  have hltR := hr1.lt
  clear hr1 hb1 Z0
  generalize w0.heap.size = R at *
  go_upto_region 5 with fail
  have HS : Hid (RS ((w1.alloc (.cells #[.pointer (some ⟨R, 0, none⟩)] 65)).alloc (.cells #[.bool true] 4)) w1.heap.size R (w1.heap.size + 1) s true ∧ Blk ((w1.alloc (.cells #[.pointer (some ⟨R, 0, none⟩)] 65)).alloc (.cells #[.bool true] 4)) w.heap.size 27 (attV zAtt none 0 0) ∧ Below w.heap.size w ((w1.alloc (.cells #[.pointer (some ⟨R, 0, none⟩)] 65)).alloc (.cells #[.bool true] 4))) := Lib.hid (by
    have h1 := Blk.new w1 65 #[.pointer (some ⟨R, 0, none⟩)]
    have h2 := Blk.new (w1.alloc (.cells #[.pointer (some ⟨R, 0, none⟩)] 65)) 4 #[.bool true]
    rw [show (w1.alloc (.cells #[.pointer (some ⟨R, 0, none⟩)] 65)).heap.size = w1.heap.size + 1 from by simp] at h2
    exact ⟨⟨h1.alloc _, (Blk.alloc Z1.out.2.1 _).alloc _, h2, by omega, by omega, by omega⟩, (Z1.out.1.alloc _).alloc _, (Z1.out.2.2.alloc Z1.out.2.2.size _).alloc (by have := Z1.out.2.2.size; simp; omega) _⟩)
  generalize (w1.alloc (.cells #[.pointer (some ⟨R, 0, none⟩)] 65)).alloc (.cells #[.bool true] 4) = w2 at HS ⊢
  have hR0 : w.heap.size < R := by omega
  have hrbR : R < w1.heap.size := hltR
  generalize w1.heap.size = rb at *
  clear Z1 hltR hlt0
  have c0 : w2.cell? ⟨rb, 0, none⟩ = some (.pointer (some ⟨R, 0, none⟩)) := HS.out.1.rp.cell 0
  have F1 := Lib.hid (fixed_g s R 1 w2 HS.out.1.rd (by omega) (by omega) (by omega))
  rw [show ((1 : Nat) : Int) = 1 from rfl] at F1
  go_wp2_with fail
  (with_reducible refine F1.out.mono ?_)
  rintro e w3 ⟨rfl, hr3, hg3⟩
  have HS3 : Hid (RS w3 rb R (rb + 1) (p1 s).1 (p1 s).2 ∧ Blk w3 w.heap.size 27 (attV zAtt none 0 0) ∧ Below w.heap.size w w3) := Lib.hid ⟨⟨HS.out.1.rp.grown hg3 (by intro e; injection e with e; omega), hr3, HS.out.1.ok.grown hg3 (by intro e; injection e with e; omega), HS.out.1.n1, HS.out.1.n2, HS.out.1.n3⟩, HS.out.2.1.grown hg3 (by intro e; injection e with e; omega), HS.out.2.2.grown hg3 HS.out.2.2.size (fun k e => by injection e with e; omega)⟩
  have hfb := fixV_byte s
  have ZS := Lib.hid (p_sizes s)
  have NX : Hid (∀ (W W' : World), Blk W w.heap.size 27 (attV zAtt none 0 0) ∧ Below w.heap.size w W → Grow2 W W' R (rb + 1) → Blk W' w.heap.size 27 (attV zAtt none 0 0) ∧ Below w.heap.size w W') := Lib.hid (fun W W' h hg => ⟨hg.blk h.1 (by omega) (by omega), hg.below h.2 h.2.size (by omega) (by omega)⟩)
  clear hr3 hg3 F1 c0 HS
  have C1 := Lib.hid (numF_p 4095 4095 rfl (by omega) (p1 s) rb R (rb + 1) w3 HS3.out.1 (Nat.le_trans ZS.out.1 hs))
  go_wp2_with fail
  (with_reducible refine C1.out.mono ?_)
  rintro e w4 ⟨rfl, hr, hg⟩
  have HS4 : Hid (RS w4 rb R (rb + 1) (p2 s).1 (p2 s).2 ∧ Blk w4 w.heap.size 27 (attV zAtt none 0 0) ∧ Below w.heap.size w w4) := Lib.hid ⟨hr, NX.out _ _ HS3.out.2 hg⟩
  clear hr hg C1 HS3
  have C1 := Lib.hid (numF_p 4294967295 4294967295 rfl (by omega) (p2 s) rb R (rb + 1) w4 HS4.out.1 (Nat.le_trans ZS.out.2.1 hs))
  go_wp2_with fail
  (with_reducible refine C1.out.mono ?_)
  rintro e w5 ⟨rfl, hr, hg⟩
  have HS5 : Hid (RS w5 rb R (rb + 1) (p3 s).1 (p3 s).2 ∧ Blk w5 w.heap.size 27 (attV zAtt none 0 0) ∧ Below w.heap.size w w5) := Lib.hid ⟨hr, NX.out _ _ HS4.out.2 hg⟩
  clear hr hg C1 HS4
  have C1 := Lib.hid (numF_p 4294967295 4294967295 rfl (by omega) (p3 s) rb R (rb + 1) w5 HS5.out.1 (Nat.le_trans ZS.out.2.2.1 hs))
  go_wp2_with fail
  (with_reducible refine C1.out.mono ?_)
  rintro e w6 ⟨rfl, hr, hg⟩
  have HS6 : Hid (RS w6 rb R (rb + 1) (p4 s).1 (p4 s).2 ∧ Blk w6 w.heap.size 27 (attV zAtt none 0 0) ∧ Below w.heap.size w w6) := Lib.hid ⟨hr, NX.out _ _ HS5.out.2 hg⟩
  clear hr hg C1 HS5
  have C1 := Lib.hid (numF_p 1099511627776 1099511627776 rfl (by omega) (p4 s) rb R (rb + 1) w6 HS6.out.1 (Nat.le_trans ZS.out.2.2.2.1 hs))
  go_wp2_with fail
  (with_reducible refine C1.out.mono ?_)
  rintro e w7 ⟨rfl, hr, hg⟩
  have HS7 : Hid (RS w7 rb R (rb + 1) (p5 s).1 (p5 s).2 ∧ Blk w7 w.heap.size 27 (attV zAtt none 0 0) ∧ Below w.heap.size w w7) := Lib.hid ⟨hr, NX.out _ _ HS6.out.2 hg⟩
  clear hr hg C1 HS6
  go_upto_region 7 with fail
  rw [← attV0 s ⟨#[]⟩ [] none 0 0 hfb]
  have HA : Hid (RS (w7.alloc (.cells (attV (rdA0 s ⟨#[]⟩ []) none 0 0) 27)) rb R (rb + 1) (p5 s).1 (p5 s).2 ∧ Blk (w7.alloc (.cells (attV (rdA0 s ⟨#[]⟩ []) none 0 0) 27)) w7.heap.size 27 (attV (rdA0 s ⟨#[]⟩ []) none 0 0) ∧ (Blk (w7.alloc (.cells (attV (rdA0 s ⟨#[]⟩ []) none 0 0) 27)) w.heap.size 27 (attV zAtt none 0 0) ∧ Below w.heap.size w (w7.alloc (.cells (attV (rdA0 s ⟨#[]⟩ []) none 0 0) 27)))) := Lib.hid ⟨⟨HS7.out.1.rp.alloc _, Blk.alloc HS7.out.1.rd _, HS7.out.1.ok.alloc _, HS7.out.1.n1, HS7.out.1.n2, HS7.out.1.n3⟩, Blk.new _ _ _, HS7.out.2.1.alloc _, HS7.out.2.2.alloc HS7.out.2.2.size _⟩
  have hab : rb + 1 < w7.heap.size := HS7.out.1.ok.lt
  generalize w7.alloc (.cells (attV (rdA0 s ⟨#[]⟩ []) none 0 0) 27) = w8 at HA ⊢
  generalize w7.heap.size = ab at HA hab ⊢
  clear HS7
  obtain ⟨c0, c1, c2, c3, c4, c5, c6⟩ := att_cells (rdA0 s ⟨#[]⟩ []) none 0 0 w8 _ HA.out.2.1
  rw [rdA0_nd s _ _ hfb] at c0
  clear c1 c2 c3 c4 c5 c6
  obtain ⟨N, hN⟩ : ∃ N, fixV s 1 = N := ⟨_, rfl⟩
  have HN := Lib.hid hN
  rw [hN] at c0 hfb ⊢
  clear hN
  go_upto_if 39 with fail
  go_cut [41] (fun v41 wx => Hid (RS wx rb R (rb + 1) (p6 s).1 (p6 s).2 ∧ Blk wx ab 27 (attV (rdA0 s (rdT s) []) none 0 0) ∧ (Blk wx w.heap.size 27 (attV zAtt none 0 0) ∧ Below w.heap.size w wx)))
  case first =>
    by_cases h3 : N = 3
    · have q3 : ((N : Int) == 3) = true := by rw [beq_iff_eq]; omega
      have E6 : Hid (p6 s = tkS (p5 s) 1024) := Lib.hid (by rw [p6, if_pos (HN.out.trans h3)])
      have ET : Hid (rdT s = txT (p5 s).1 1024) := Lib.hid (by rw [rdT, if_pos (HN.out.trans h3)])
      have C1 := Lib.hid (txtF_p 1024 1024 rfl (by omega) (p5 s) rb R (rb + 1) w8 HA.out.1 (Nat.le_trans ZS.out.2.2.2.2.1 hs))
      clear h3
      go_wp2_with fail
      (with_reducible refine C1.out.mono ?_)
      rintro e w9 ⟨rfl, hr, hg⟩
      have HA9 : Hid (RS w9 rb R (rb + 1) (p6 s).1 (p6 s).2 ∧ Blk w9 ab 27 (attV (rdA0 s ⟨#[]⟩ []) none 0 0) ∧ (Blk w9 w.heap.size 27 (attV zAtt none 0 0) ∧ Below w.heap.size w w9)) := Lib.hid ⟨by rw [E6.out]; exact hr, hg.blk HA.out.2.1 (by omega) (by omega), NX.out _ _ HA.out.2.2 hg⟩
      rw [← ET.out]
      clear hr hg C1 E6 ET c0
      have f5 : w9.frozen? ⟨ab, 5, none⟩ = false := HA9.out.2.1.frozen 5
      have c5 : w9.cell? ⟨ab, 5, none⟩ = some (.string ⟨#[]⟩) := HA9.out.2.1.cell 5
      go_wp2
      go_meet
      have hne : ab ≠ rb ∧ ab ≠ R ∧ ab ≠ rb + 1 ∧ ab ≠ w.heap.size := by omega
      have hq2 := HA9.out.2.1.set_ 5 (.string (rdT s))
      rw [attV_set5] at hq2
      exact Lib.hid ⟨HA9.out.1.set_ 5 hne.1 hne.2.1 hne.2.2.1 _, hq2, HA9.out.2.2.1.far (p := ⟨ab, 5, none⟩) hne.2.2.2.symm _, HA9.out.2.2.2.setCell (p := ⟨ab, 5, none⟩) (by show w.heap.size ≤ ab; omega) _⟩
    · have q3 : ((N : Int) == 3) = false := by rw [beq_eq_false_iff_ne]; omega
      have E6 : Hid (p6 s = p5 s) := Lib.hid (by rw [p6, if_neg (by rw [HN.out]; exact h3)])
      have ET : Hid (rdT s = ⟨#[]⟩) := Lib.hid (by rw [rdT, if_neg (by rw [HN.out]; exact h3)]; rfl)
      clear h3
      go_wp2
      go_meet
      rw [E6.out, ET.out]
      exact HA
  case rest =>
    have HB := hcut
    have C1 := Lib.hid (numF_p 16 16 rfl (by omega) (p6 s) rb R (rb + 1) wc HB.out.1 (Nat.le_trans ZS.out.2.2.2.2.2.1 hs))
    clear hcut HA c0
    go_wp2_with fail
    (with_reducible refine C1.out.mono ?_)
    rintro e w10 ⟨rfl, hr, hg⟩
    have HI : Hid (RdI w w10 rb R ab w10.heap.size s 0 (p7 s) [] none 0) := Lib.hid (by
      have q1 := hg.blk HB.out.2.1 (by omega) (by omega)
      have q2 := NX.out _ _ HB.out.2.2 hg
      exact ⟨hr, q1, World.ownsRow_nil _ _ _ _, q2.1, q2.2, Nat.le_refl _, hR0, hrbR, hab, q1.lt⟩)
    have HP7 : Hid ((p7 s).2 = true → numN (p6 s) ≤ 16) := Lib.hid (p7_small s)
    obtain ⟨nn, hnn⟩ : ∃ nn, numN (p6 s) = nn := ⟨_, rfl⟩
    have HL0 : Hid (rdXs nn (p7 s) [] = rdL s) := Lib.hid (by rw [rdL, hnn])
    rw [hnn] at HP7 ⊢
    have hn64 : nn < 18446744073709551616 := by rw [← hnn]; exact short_64 _
    clear hnn hr hg C1 HB NX
    have HT5 := Lib.hid (rdT_size s ZS.out.2.2.2.2.1)
    have hE0 : takeE s 1 = 0 ∨ takeE s 1 = 4 := by
      unfold takeE
      split
      · exact .inr rfl
      · exact .inl rfl
    have HOK : Hid (rdOK s = true → rdR s = (rdA s, 0)) := Lib.hid (fun h => if_pos h)
    have HNO : Hid (rdOK s = false → rdR s = (zAtt, 4)) := Lib.hid (fun h => if_neg (by rw [h]; decide))
    have HOKd : Hid (rdOK s = (decide (takeE s 1 = 0) && ((rdL s).2.2 && (decide ((rdL s).2.1.size = 0) && decide (chkA (rdA0 s (rdT s) (rdL s).1) = 0))))) := Lib.hid rfl
    obtain ⟨e0, he0⟩ : ∃ e0, takeE s 1 = e0 := ⟨_, rfl⟩
    rw [he0] at hE0 HOKd ⊢
    clear he0
    generalize w10.heap.size = B0 at HI
    go_wp2_with fail
    go_loopw [12] (fun i wr => ∃ (k c : Nat) (p : ByteArray × Bool) (L : List (ByteArray × ByteArray)) (A : Option Addr), k ≤ 16 ∧ i = .int .u64 k ∧ Hid (rdXs (nn - k) p L = rdL s) ∧ Hid (p.1.size ≤ s.size) ∧ Hid (p.2 = true → nn ≤ 16 ∧ k ≤ nn) ∧ Hid (∀ x ∈ L, x.1.size ≤ s.size ∧ x.2.size ≤ s.size) ∧ Hid (RdI w wr rb R ab B0 s k p L A c)) (fun i _ => 16 - (intOf i).toNat)
    case atStart => exact ⟨0, 0, p7 s, [], none, by omega, rfl, HL0, Lib.hid ZS.out.2.2.2.2.2.2, Lib.hid (fun h => ⟨HP7.out h, Nat.zero_le _⟩), Lib.hid (fun x hx => by cases hx), HI⟩
    case round =>
      obtain ⟨k, c, p, L, A, hk16, rfl, HX, HS, HQ, HZL, HI⟩ := hrel
      have k0 : wr.cell? ⟨rb + 1, 0, none⟩ = some (.bool p.2) := HI.out.rs.ok.cell 0
      by_cases hgo : p.2 = true ∧ k < nn
      · obtain ⟨hp2, hkn⟩ := hgo
        obtain ⟨q, ok⟩ := p
        obtain rfl : ok = true := hp2
        have hn16 := (HQ.out rfl).1
        have HX2 : Hid (rdXs (nn - (k + 1)) (tkS (tkS (q, true) 255) 4096) (L ++ [(txT q 255, txT (txS q 255) 4096)]) = rdL s) := Lib.hid (by
          have := HX.out
          rw [show nn - k = (nn - (k + 1)) + 1 from by omega, rdXs, if_pos rfl] at this
          exact this)
        have hzq : q.size ≤ s.size := HS.out
        have HS2 : Hid ((tkS (tkS (q, true) 255) 4096).1.size ≤ s.size) := Lib.hid (Nat.le_trans (txS_size (txS q 255) 4096) (Nat.le_trans (txS_size q 255) hzq))
        have HZL2 : Hid (∀ x ∈ L ++ [(txT q 255, txT (txS q 255) 4096)], x.1.size ≤ s.size ∧ x.2.size ≤ s.size) := Lib.hid (fun x hx => by
          rcases List.mem_append.1 hx with h | h
          · exact HZL.out x h
          · rw [List.mem_singleton] at h
            subst h
            exact ⟨Nat.le_trans (txT_size q 255) hzq, Nat.le_trans (txT_size (txS q 255) 4096) (Nat.le_trans (txS_size q 255) hzq)⟩)
        have T1 := Lib.hid (fun W h => txtF_p 255 255 rfl (by omega) (q, true) rb R (rb + 1) W h (Nat.le_trans hzq hs))
        have T2 := Lib.hid (fun W h => txtF_p 4096 4096 rfl (by omega) (tkS (q, true) 255) rb R (rb + 1) W h (Nat.le_trans (Nat.le_trans (txS_size q 255) hzq) hs))
        have HPU := Lib.hid (fun (w1 w2 : World) p g c' h ho hg => RdI.push (w := w) (wr := w1) (w' := w2) (rb := rb) (R := R) (ab := ab) (B := B0) (k := k) (c := c) (g := g) (c' := c') (s := s) (p := p) (L := L) (A := A) (x := (txT q 255, txT (txS q 255) 4096)) h ho hg)
        dsimp only at T1 T2 HPU k0
        obtain ⟨p3', hp3⟩ : ∃ p', tkS (tkS (q, true) 255) 4096 = p' := ⟨_, rfl⟩
        rw [hp3] at HX2 HS2 T2
        obtain ⟨p2', hp2'⟩ : ∃ p', tkS (q, true) 255 = p' := ⟨_, rfl⟩
        rw [hp2'] at T1 T2
        obtain ⟨t2, ht2⟩ : ∃ t, txT (txS q 255) 4096 = t := ⟨_, rfl⟩
        rw [show txT p2'.1 4096 = t2 from by rw [← hp2']; exact ht2] at T2
        rw [ht2] at HX2 HZL2 HPU
        obtain ⟨t1, ht1⟩ : ∃ t, txT q 255 = t := ⟨_, rfl⟩
        rw [ht1] at HX2 HZL2 HPU T1
        clear hp3 hp2' ht2 ht1 HX HS HZL HQ hzq
        have hki : (k : Int) < (nn : Int) := by omega
        go_upto_region 13 with fail
        have HD0 : Hid (RdI w wr.drew rb R ab B0 s k (q, true) L A c) := Lib.hid HI.out.drew
        have d0 : wr.drew.cell? ⟨ab, 6, none⟩ = some (.slice A k c) := HD0.out.cell.cell 6
        clear k0
        refine wp_region_held_drew (S := fun w' => True) (by kernel_rfl) (by trivial) (fun hHeld => ?_)
        refine wpAnyH_take (i := 0) (oi := { dst := some 53, op := .fieldAddr 27 (.tmp 10) 6, type := 0, pos := "attrs.go:110", after := #[], guard := none }) (v := _) rfl (by as_aux_lemma => kernel_rfl) (by as_aux_lemma => kernel_rfl) (by as_aux_lemma => kernel_rfl) (fun _ _ _ h => h) (Or.inl ⟨by kernel_rfl, by (intro w hSw; (try dsimp only at hSw); go_simp; first | done | with_reducible rfl)⟩) (by assumption) ?_
        (try simp only [List.getElem_toArray, List.getElem_cons_succ, List.getElem_cons_zero, Act.put, List.setIfInBounds_toArray, List.set_cons_zero, List.set_cons_succ])
        refine wpAnyH_take (i := 2) (oi := { dst := some 55, op := .move (.tmp 7), type := 78, pos := "attrs.go:110", after := #[], guard := none }) (v := _) rfl (by as_aux_lemma => kernel_rfl) (by as_aux_lemma => kernel_rfl) (by as_aux_lemma => kernel_rfl) (fun _ _ _ h => h) (Or.inl ⟨by kernel_rfl, by (intro w hSw; (try dsimp only at hSw); go_simp; first | done | with_reducible rfl)⟩) (by assumption) ?_
        (try simp only [List.getElem_toArray, List.getElem_cons_succ, List.getElem_cons_zero, Act.put, List.setIfInBounds_toArray, List.set_cons_zero, List.set_cons_succ])
        refine wpAnyH_take (i := 4) (oi := { dst := some 57, op := .move (.tmp 7), type := 78, pos := "attrs.go:110", after := #[], guard := none }) (v := _) rfl (by as_aux_lemma => kernel_rfl) (by as_aux_lemma => kernel_rfl) (by as_aux_lemma => kernel_rfl) (fun _ _ _ h => h) (Or.inl ⟨by kernel_rfl, by (intro w hSw; (try dsimp only at hSw); go_simp; first | done | with_reducible rfl)⟩) (by assumption) ?_
        (try simp only [List.getElem_toArray, List.getElem_cons_succ, List.getElem_cons_zero, Act.put, List.setIfInBounds_toArray, List.set_cons_zero, List.set_cons_succ])
        refine wpAnyH_ready (rs := [1, 3]) (by as_aux_lemma => kernel_rfl) (by simp) (AllReadyH.cons rfl (fun K hK => ?_) (AllReadyH.cons rfl (fun K hK => ?_) AllReadyH.nil))
        · as_aux_lemma =>
            try simp only [List.getElem_toArray, List.getElem_cons_succ, List.getElem_cons_zero]
            go_simp
            refine hK.out _ _ (by trivial) (fun hHeld => ?_)
            clear hK K
            (try simp only [List.getElem_toArray, List.getElem_cons_succ, List.getElem_cons_zero, Act.put, List.setIfInBounds_toArray, List.set_cons_zero, List.set_cons_succ])
            refine wpAnyH_ready (rs := [3]) (by as_aux_lemma => kernel_rfl) (by simp) (AllReadyH.cons rfl (fun K hK => ?_) AllReadyH.nil)
            try simp only [List.getElem_toArray, List.getElem_cons_succ, List.getElem_cons_zero]
            go_simp
            go_at_call 40
            refine (T1.out _ HD0.out.rs).mono ?_
            rintro e wn ⟨rfl, hrn, hgn⟩
            have HDn : Hid (RdI w wn rb R ab B0 s k p2' L A c) := Lib.hid (HD0.out.grow hrn hgn)
            have dn : wn.cell? ⟨ab, 6, none⟩ = some (.slice A k c) := HDn.out.cell.cell 6
            clear hrn hgn
            go_simp
            refine hK.out _ _ (by trivial) (fun hHeld => ?_)
            clear hK K
            (try simp only [List.getElem_toArray, List.getElem_cons_succ, List.getElem_cons_zero, Act.put, List.setIfInBounds_toArray, List.set_cons_zero, List.set_cons_succ])
            refine wpAnyH_ready (rs := [5]) (by as_aux_lemma => kernel_rfl) (by simp) (AllReadyH.cons rfl (fun K hK => ?_) AllReadyH.nil)
            try simp only [List.getElem_toArray, List.getElem_cons_succ, List.getElem_cons_zero]
            go_simp
            go_at_call 40
            refine (T2.out _ HDn.out.rs).mono ?_
            rintro e wm ⟨rfl, hrm, hgm⟩
            have HDm : Hid (RdI w wm rb R ab B0 s k p3' L A c) := Lib.hid (HDn.out.grow hrm hgm)
            have dm : wm.cell? ⟨ab, 6, none⟩ = some (.slice A k c) := HDm.out.cell.cell 6
            have dm2 : (wm.alloc (.cells #[.string t1, .string t2] 43)).cell? ⟨ab, 6, none⟩ = some (.slice A k c) := (HDm.out.cell.alloc _).cell 6
            clear hrm hgm
            go_simp
            refine hK.out _ _ (by trivial) (fun hHeld => ?_)
            clear hK K
            (try simp only [List.getElem_toArray, List.getElem_cons_succ, List.getElem_cons_zero, Act.put, List.setIfInBounds_toArray, List.set_cons_zero, List.set_cons_succ])
            refine wpAnyH_take (i := 6) (oi := { dst := some 59, op := .build 43 #[(0, .tmp 56), (1, .tmp 58)], type := 43, pos := "attrs.go:110", after := #[{ on := 3, ground := .data }, { on := 5, ground := .data }], guard := none }) (v := _) rfl (by as_aux_lemma => kernel_rfl) (by as_aux_lemma => kernel_rfl) (by as_aux_lemma => kernel_rfl) (fun _ _ _ h => h) (Or.inl ⟨by kernel_rfl, by (intro w hSw; (try dsimp only at hSw); go_simp; first | done | with_reducible rfl)⟩) (by assumption) ?_
            (try simp only [List.getElem_toArray, List.getElem_cons_succ, List.getElem_cons_zero, Act.put, List.setIfInBounds_toArray, List.set_cons_zero, List.set_cons_succ])
            refine wpAnyH_ready (rs := [7]) (by as_aux_lemma => kernel_rfl) (by simp) (AllReadyH.cons rfl (fun K hK => ?_) AllReadyH.nil)
            try simp only [List.getElem_toArray, List.getElem_cons_succ, List.getElem_cons_zero]
            go_simp
            refine hK.out _ _ (by trivial) (fun hHeld => ?_)
            clear hK K
            (try simp only [List.getElem_toArray, List.getElem_cons_succ, List.getElem_cons_zero, Act.put, List.setIfInBounds_toArray, List.set_cons_zero, List.set_cons_succ])
            refine wpAnyH_ready (rs := [8]) (by as_aux_lemma => kernel_rfl) (by simp) (AllReadyH.cons rfl (fun K hK => ?_) AllReadyH.nil)
            try simp only [List.getElem_toArray, List.getElem_cons_succ, List.getElem_cons_zero]
            rw [if_pos (by as_aux_lemma => kernel_rfl)]
            refine wp_appendN elemX _ _ rfl B0 (.slice A k c) k _ rfl HDm.out.own #[.string t1, .string t2] rfl rfl (by intro u hu; simp at hu; rcases hu with rfl | rfl <;> rfl) (by omega) (by omega) HDm.out.low ?_
            intro v' w' ho hg hd
            clear hd
            obtain ⟨gg, cg, rfl, hcg⟩ := own_slX ho (by omega)
            have HPP := Lib.hid (HPU.out wm w' p3' gg cg HDm.out ho hg)
            clear ho hg
            have ew : w'.cell? ⟨ab, 6, none⟩ = some (.slice A k c) := HPP.out.2.cell 6
            have fw : w'.frozen? ⟨ab, 6, none⟩ = false := HPP.out.2.frozen 6
            refine hK.out _ _ (by trivial) (fun hHeld => ?_)
            clear hK K
            (try simp only [List.getElem_toArray, List.getElem_cons_succ, List.getElem_cons_zero, Act.put, List.setIfInBounds_toArray, List.set_cons_zero, List.set_cons_succ])
            refine wpAnyH_take (i := 9) (oi := { dst := some 62, op := .fieldAddr 27 (.tmp 10) 6, type := 0, pos := "attrs.go:110", after := #[{ on := 0, ground := .phase }, { on := 1, ground := .phase }, { on := 2, ground := .phase }, { on := 3, ground := .phase }, { on := 4, ground := .phase }, { on := 5, ground := .phase }, { on := 6, ground := .phase }, { on := 7, ground := .phase }, { on := 8, ground := .phase }], guard := none }) (v := _) rfl (by as_aux_lemma => kernel_rfl) (by as_aux_lemma => kernel_rfl) (by as_aux_lemma => kernel_rfl) (fun _ _ _ h => h) (Or.inl ⟨by kernel_rfl, by (intro w hSw; (try dsimp only at hSw); go_simp; first | done | with_reducible rfl)⟩) (by assumption) ?_
            (try simp only [List.getElem_toArray, List.getElem_cons_succ, List.getElem_cons_zero, Act.put, List.setIfInBounds_toArray, List.set_cons_zero, List.set_cons_succ])
            refine wpAnyH_ready (rs := [10]) (by as_aux_lemma => kernel_rfl) (by simp) (AllReadyH.cons rfl (fun K hK => ?_) AllReadyH.nil)
            try simp only [List.getElem_toArray, List.getElem_cons_succ, List.getElem_cons_zero]
            go_simp
            refine hK.out _ _ (by trivial) (fun hHeld => ?_)
            clear hK K
            (try simp only [List.getElem_toArray, List.getElem_cons_succ, List.getElem_cons_zero, Act.put, List.setIfInBounds_toArray, List.set_cons_zero, List.set_cons_succ])
            refine wpAnyH_done (by as_aux_lemma => kernel_rfl) ?_ _
            go_wp2
            go_roundw
            case rel => exact ⟨k + 1, cg, p3', L ++ [(t1, t2)], some ⟨gg, 0, none⟩, by omega, by go_num, HX2, HS2, Lib.hid (fun _ => ⟨hn16, by omega⟩), HZL2, Lib.hid HPP.out.1⟩
            case measure => simp [intOf]; omega
        · as_aux_lemma =>
            try simp only [List.getElem_toArray, List.getElem_cons_succ, List.getElem_cons_zero]
            go_simp
            go_at_call 40
            refine (T1.out _ HD0.out.rs).mono ?_
            rintro e wn ⟨rfl, hrn, hgn⟩
            have HDn : Hid (RdI w wn rb R ab B0 s k p2' L A c) := Lib.hid (HD0.out.grow hrn hgn)
            have dn : wn.cell? ⟨ab, 6, none⟩ = some (.slice A k c) := HDn.out.cell.cell 6
            clear hrn hgn
            go_simp
            refine hK.out _ _ (by trivial) (fun hHeld => ?_)
            clear hK K
            (try simp only [List.getElem_toArray, List.getElem_cons_succ, List.getElem_cons_zero, Act.put, List.setIfInBounds_toArray, List.set_cons_zero, List.set_cons_succ])
            refine wpAnyH_ready (rs := [1, 5]) (by as_aux_lemma => kernel_rfl) (by simp) (AllReadyH.cons rfl (fun K hK => ?_) (AllReadyH.cons rfl (fun K hK => ?_) AllReadyH.nil))
            · as_aux_lemma =>
                try simp only [List.getElem_toArray, List.getElem_cons_succ, List.getElem_cons_zero]
                go_simp
                refine hK.out _ _ (by trivial) (fun hHeld => ?_)
                clear hK K
                (try simp only [List.getElem_toArray, List.getElem_cons_succ, List.getElem_cons_zero, Act.put, List.setIfInBounds_toArray, List.set_cons_zero, List.set_cons_succ])
                refine wpAnyH_ready (rs := [5]) (by as_aux_lemma => kernel_rfl) (by simp) (AllReadyH.cons rfl (fun K hK => ?_) AllReadyH.nil)
                try simp only [List.getElem_toArray, List.getElem_cons_succ, List.getElem_cons_zero]
                go_simp
                go_at_call 40
                refine (T2.out _ HDn.out.rs).mono ?_
                rintro e wm ⟨rfl, hrm, hgm⟩
                have HDm : Hid (RdI w wm rb R ab B0 s k p3' L A c) := Lib.hid (HDn.out.grow hrm hgm)
                have dm : wm.cell? ⟨ab, 6, none⟩ = some (.slice A k c) := HDm.out.cell.cell 6
                have dm2 : (wm.alloc (.cells #[.string t1, .string t2] 43)).cell? ⟨ab, 6, none⟩ = some (.slice A k c) := (HDm.out.cell.alloc _).cell 6
                clear hrm hgm
                go_simp
                refine hK.out _ _ (by trivial) (fun hHeld => ?_)
                clear hK K
                (try simp only [List.getElem_toArray, List.getElem_cons_succ, List.getElem_cons_zero, Act.put, List.setIfInBounds_toArray, List.set_cons_zero, List.set_cons_succ])
                refine wpAnyH_take (i := 6) (oi := { dst := some 59, op := .build 43 #[(0, .tmp 56), (1, .tmp 58)], type := 43, pos := "attrs.go:110", after := #[{ on := 3, ground := .data }, { on := 5, ground := .data }], guard := none }) (v := _) rfl (by as_aux_lemma => kernel_rfl) (by as_aux_lemma => kernel_rfl) (by as_aux_lemma => kernel_rfl) (fun _ _ _ h => h) (Or.inl ⟨by kernel_rfl, by (intro w hSw; (try dsimp only at hSw); go_simp; first | done | with_reducible rfl)⟩) (by assumption) ?_
                (try simp only [List.getElem_toArray, List.getElem_cons_succ, List.getElem_cons_zero, Act.put, List.setIfInBounds_toArray, List.set_cons_zero, List.set_cons_succ])
                refine wpAnyH_ready (rs := [7]) (by as_aux_lemma => kernel_rfl) (by simp) (AllReadyH.cons rfl (fun K hK => ?_) AllReadyH.nil)
                try simp only [List.getElem_toArray, List.getElem_cons_succ, List.getElem_cons_zero]
                go_simp
                refine hK.out _ _ (by trivial) (fun hHeld => ?_)
                clear hK K
                (try simp only [List.getElem_toArray, List.getElem_cons_succ, List.getElem_cons_zero, Act.put, List.setIfInBounds_toArray, List.set_cons_zero, List.set_cons_succ])
                refine wpAnyH_ready (rs := [8]) (by as_aux_lemma => kernel_rfl) (by simp) (AllReadyH.cons rfl (fun K hK => ?_) AllReadyH.nil)
                try simp only [List.getElem_toArray, List.getElem_cons_succ, List.getElem_cons_zero]
                rw [if_pos (by as_aux_lemma => kernel_rfl)]
                refine wp_appendN elemX _ _ rfl B0 (.slice A k c) k _ rfl HDm.out.own #[.string t1, .string t2] rfl rfl (by intro u hu; simp at hu; rcases hu with rfl | rfl <;> rfl) (by omega) (by omega) HDm.out.low ?_
                intro v' w' ho hg hd
                clear hd
                obtain ⟨gg, cg, rfl, hcg⟩ := own_slX ho (by omega)
                have HPP := Lib.hid (HPU.out wm w' p3' gg cg HDm.out ho hg)
                clear ho hg
                have ew : w'.cell? ⟨ab, 6, none⟩ = some (.slice A k c) := HPP.out.2.cell 6
                have fw : w'.frozen? ⟨ab, 6, none⟩ = false := HPP.out.2.frozen 6
                refine hK.out _ _ (by trivial) (fun hHeld => ?_)
                clear hK K
                (try simp only [List.getElem_toArray, List.getElem_cons_succ, List.getElem_cons_zero, Act.put, List.setIfInBounds_toArray, List.set_cons_zero, List.set_cons_succ])
                refine wpAnyH_take (i := 9) (oi := { dst := some 62, op := .fieldAddr 27 (.tmp 10) 6, type := 0, pos := "attrs.go:110", after := #[{ on := 0, ground := .phase }, { on := 1, ground := .phase }, { on := 2, ground := .phase }, { on := 3, ground := .phase }, { on := 4, ground := .phase }, { on := 5, ground := .phase }, { on := 6, ground := .phase }, { on := 7, ground := .phase }, { on := 8, ground := .phase }], guard := none }) (v := _) rfl (by as_aux_lemma => kernel_rfl) (by as_aux_lemma => kernel_rfl) (by as_aux_lemma => kernel_rfl) (fun _ _ _ h => h) (Or.inl ⟨by kernel_rfl, by (intro w hSw; (try dsimp only at hSw); go_simp; first | done | with_reducible rfl)⟩) (by assumption) ?_
                (try simp only [List.getElem_toArray, List.getElem_cons_succ, List.getElem_cons_zero, Act.put, List.setIfInBounds_toArray, List.set_cons_zero, List.set_cons_succ])
                refine wpAnyH_ready (rs := [10]) (by as_aux_lemma => kernel_rfl) (by simp) (AllReadyH.cons rfl (fun K hK => ?_) AllReadyH.nil)
                try simp only [List.getElem_toArray, List.getElem_cons_succ, List.getElem_cons_zero]
                go_simp
                refine hK.out _ _ (by trivial) (fun hHeld => ?_)
                clear hK K
                (try simp only [List.getElem_toArray, List.getElem_cons_succ, List.getElem_cons_zero, Act.put, List.setIfInBounds_toArray, List.set_cons_zero, List.set_cons_succ])
                refine wpAnyH_done (by as_aux_lemma => kernel_rfl) ?_ _
                go_wp2
                go_roundw
                case rel => exact ⟨k + 1, cg, p3', L ++ [(t1, t2)], some ⟨gg, 0, none⟩, by omega, by go_num, HX2, HS2, Lib.hid (fun _ => ⟨hn16, by omega⟩), HZL2, Lib.hid HPP.out.1⟩
                case measure => simp [intOf]; omega
            · as_aux_lemma =>
                try simp only [List.getElem_toArray, List.getElem_cons_succ, List.getElem_cons_zero]
                go_simp
                go_at_call 40
                refine (T2.out _ HDn.out.rs).mono ?_
                rintro e wm ⟨rfl, hrm, hgm⟩
                have HDm : Hid (RdI w wm rb R ab B0 s k p3' L A c) := Lib.hid (HDn.out.grow hrm hgm)
                have dm : wm.cell? ⟨ab, 6, none⟩ = some (.slice A k c) := HDm.out.cell.cell 6
                have dm2 : (wm.alloc (.cells #[.string t1, .string t2] 43)).cell? ⟨ab, 6, none⟩ = some (.slice A k c) := (HDm.out.cell.alloc _).cell 6
                clear hrm hgm
                go_simp
                refine hK.out _ _ (by trivial) (fun hHeld => ?_)
                clear hK K
                (try simp only [List.getElem_toArray, List.getElem_cons_succ, List.getElem_cons_zero, Act.put, List.setIfInBounds_toArray, List.set_cons_zero, List.set_cons_succ])
                refine wpAnyH_take (i := 6) (oi := { dst := some 59, op := .build 43 #[(0, .tmp 56), (1, .tmp 58)], type := 43, pos := "attrs.go:110", after := #[{ on := 3, ground := .data }, { on := 5, ground := .data }], guard := none }) (v := _) rfl (by as_aux_lemma => kernel_rfl) (by as_aux_lemma => kernel_rfl) (by as_aux_lemma => kernel_rfl) (fun _ _ _ h => h) (Or.inl ⟨by kernel_rfl, by (intro w hSw; (try dsimp only at hSw); go_simp; first | done | with_reducible rfl)⟩) (by assumption) ?_
                (try simp only [List.getElem_toArray, List.getElem_cons_succ, List.getElem_cons_zero, Act.put, List.setIfInBounds_toArray, List.set_cons_zero, List.set_cons_succ])
                refine wpAnyH_ready (rs := [1, 7]) (by as_aux_lemma => kernel_rfl) (by simp) (AllReadyH.cons rfl (fun K hK => ?_) (AllReadyH.cons rfl (fun K hK => ?_) AllReadyH.nil))
                · as_aux_lemma =>
                    try simp only [List.getElem_toArray, List.getElem_cons_succ, List.getElem_cons_zero]
                    go_simp
                    refine hK.out _ _ (by trivial) (fun hHeld => ?_)
                    clear hK K
                    (try simp only [List.getElem_toArray, List.getElem_cons_succ, List.getElem_cons_zero, Act.put, List.setIfInBounds_toArray, List.set_cons_zero, List.set_cons_succ])
                    refine wpAnyH_ready (rs := [7]) (by as_aux_lemma => kernel_rfl) (by simp) (AllReadyH.cons rfl (fun K hK => ?_) AllReadyH.nil)
                    try simp only [List.getElem_toArray, List.getElem_cons_succ, List.getElem_cons_zero]
                    go_simp
                    refine hK.out _ _ (by trivial) (fun hHeld => ?_)
                    clear hK K
                    (try simp only [List.getElem_toArray, List.getElem_cons_succ, List.getElem_cons_zero, Act.put, List.setIfInBounds_toArray, List.set_cons_zero, List.set_cons_succ])
                    refine wpAnyH_ready (rs := [8]) (by as_aux_lemma => kernel_rfl) (by simp) (AllReadyH.cons rfl (fun K hK => ?_) AllReadyH.nil)
                    try simp only [List.getElem_toArray, List.getElem_cons_succ, List.getElem_cons_zero]
                    rw [if_pos (by as_aux_lemma => kernel_rfl)]
                    refine wp_appendN elemX _ _ rfl B0 (.slice A k c) k _ rfl HDm.out.own #[.string t1, .string t2] rfl rfl (by intro u hu; simp at hu; rcases hu with rfl | rfl <;> rfl) (by omega) (by omega) HDm.out.low ?_
                    intro v' w' ho hg hd
                    clear hd
                    obtain ⟨gg, cg, rfl, hcg⟩ := own_slX ho (by omega)
                    have HPP := Lib.hid (HPU.out wm w' p3' gg cg HDm.out ho hg)
                    clear ho hg
                    have ew : w'.cell? ⟨ab, 6, none⟩ = some (.slice A k c) := HPP.out.2.cell 6
                    have fw : w'.frozen? ⟨ab, 6, none⟩ = false := HPP.out.2.frozen 6
                    refine hK.out _ _ (by trivial) (fun hHeld => ?_)
                    clear hK K
                    (try simp only [List.getElem_toArray, List.getElem_cons_succ, List.getElem_cons_zero, Act.put, List.setIfInBounds_toArray, List.set_cons_zero, List.set_cons_succ])
                    refine wpAnyH_take (i := 9) (oi := { dst := some 62, op := .fieldAddr 27 (.tmp 10) 6, type := 0, pos := "attrs.go:110", after := #[{ on := 0, ground := .phase }, { on := 1, ground := .phase }, { on := 2, ground := .phase }, { on := 3, ground := .phase }, { on := 4, ground := .phase }, { on := 5, ground := .phase }, { on := 6, ground := .phase }, { on := 7, ground := .phase }, { on := 8, ground := .phase }], guard := none }) (v := _) rfl (by as_aux_lemma => kernel_rfl) (by as_aux_lemma => kernel_rfl) (by as_aux_lemma => kernel_rfl) (fun _ _ _ h => h) (Or.inl ⟨by kernel_rfl, by (intro w hSw; (try dsimp only at hSw); go_simp; first | done | with_reducible rfl)⟩) (by assumption) ?_
                    (try simp only [List.getElem_toArray, List.getElem_cons_succ, List.getElem_cons_zero, Act.put, List.setIfInBounds_toArray, List.set_cons_zero, List.set_cons_succ])
                    refine wpAnyH_ready (rs := [10]) (by as_aux_lemma => kernel_rfl) (by simp) (AllReadyH.cons rfl (fun K hK => ?_) AllReadyH.nil)
                    try simp only [List.getElem_toArray, List.getElem_cons_succ, List.getElem_cons_zero]
                    go_simp
                    refine hK.out _ _ (by trivial) (fun hHeld => ?_)
                    clear hK K
                    (try simp only [List.getElem_toArray, List.getElem_cons_succ, List.getElem_cons_zero, Act.put, List.setIfInBounds_toArray, List.set_cons_zero, List.set_cons_succ])
                    refine wpAnyH_done (by as_aux_lemma => kernel_rfl) ?_ _
                    go_wp2
                    go_roundw
                    case rel => exact ⟨k + 1, cg, p3', L ++ [(t1, t2)], some ⟨gg, 0, none⟩, by omega, by go_num, HX2, HS2, Lib.hid (fun _ => ⟨hn16, by omega⟩), HZL2, Lib.hid HPP.out.1⟩
                    case measure => simp [intOf]; omega
                · as_aux_lemma =>
                    try simp only [List.getElem_toArray, List.getElem_cons_succ, List.getElem_cons_zero]
                    go_simp
                    refine hK.out _ _ (by trivial) (fun hHeld => ?_)
                    clear hK K
                    (try simp only [List.getElem_toArray, List.getElem_cons_succ, List.getElem_cons_zero, Act.put, List.setIfInBounds_toArray, List.set_cons_zero, List.set_cons_succ])
                    refine wpAnyH_ready (rs := [1]) (by as_aux_lemma => kernel_rfl) (by simp) (AllReadyH.cons rfl (fun K hK => ?_) AllReadyH.nil)
                    try simp only [List.getElem_toArray, List.getElem_cons_succ, List.getElem_cons_zero]
                    go_simp
                    refine hK.out _ _ (by trivial) (fun hHeld => ?_)
                    clear hK K
                    (try simp only [List.getElem_toArray, List.getElem_cons_succ, List.getElem_cons_zero, Act.put, List.setIfInBounds_toArray, List.set_cons_zero, List.set_cons_succ])
                    refine wpAnyH_ready (rs := [8]) (by as_aux_lemma => kernel_rfl) (by simp) (AllReadyH.cons rfl (fun K hK => ?_) AllReadyH.nil)
                    try simp only [List.getElem_toArray, List.getElem_cons_succ, List.getElem_cons_zero]
                    rw [if_pos (by as_aux_lemma => kernel_rfl)]
                    refine wp_appendN elemX _ _ rfl B0 (.slice A k c) k _ rfl HDm.out.own #[.string t1, .string t2] rfl rfl (by intro u hu; simp at hu; rcases hu with rfl | rfl <;> rfl) (by omega) (by omega) HDm.out.low ?_
                    intro v' w' ho hg hd
                    clear hd
                    obtain ⟨gg, cg, rfl, hcg⟩ := own_slX ho (by omega)
                    have HPP := Lib.hid (HPU.out wm w' p3' gg cg HDm.out ho hg)
                    clear ho hg
                    have ew : w'.cell? ⟨ab, 6, none⟩ = some (.slice A k c) := HPP.out.2.cell 6
                    have fw : w'.frozen? ⟨ab, 6, none⟩ = false := HPP.out.2.frozen 6
                    refine hK.out _ _ (by trivial) (fun hHeld => ?_)
                    clear hK K
                    (try simp only [List.getElem_toArray, List.getElem_cons_succ, List.getElem_cons_zero, Act.put, List.setIfInBounds_toArray, List.set_cons_zero, List.set_cons_succ])
                    refine wpAnyH_take (i := 9) (oi := { dst := some 62, op := .fieldAddr 27 (.tmp 10) 6, type := 0, pos := "attrs.go:110", after := #[{ on := 0, ground := .phase }, { on := 1, ground := .phase }, { on := 2, ground := .phase }, { on := 3, ground := .phase }, { on := 4, ground := .phase }, { on := 5, ground := .phase }, { on := 6, ground := .phase }, { on := 7, ground := .phase }, { on := 8, ground := .phase }], guard := none }) (v := _) rfl (by as_aux_lemma => kernel_rfl) (by as_aux_lemma => kernel_rfl) (by as_aux_lemma => kernel_rfl) (fun _ _ _ h => h) (Or.inl ⟨by kernel_rfl, by (intro w hSw; (try dsimp only at hSw); go_simp; first | done | with_reducible rfl)⟩) (by assumption) ?_
                    (try simp only [List.getElem_toArray, List.getElem_cons_succ, List.getElem_cons_zero, Act.put, List.setIfInBounds_toArray, List.set_cons_zero, List.set_cons_succ])
                    refine wpAnyH_ready (rs := [10]) (by as_aux_lemma => kernel_rfl) (by simp) (AllReadyH.cons rfl (fun K hK => ?_) AllReadyH.nil)
                    try simp only [List.getElem_toArray, List.getElem_cons_succ, List.getElem_cons_zero]
                    go_simp
                    refine hK.out _ _ (by trivial) (fun hHeld => ?_)
                    clear hK K
                    (try simp only [List.getElem_toArray, List.getElem_cons_succ, List.getElem_cons_zero, Act.put, List.setIfInBounds_toArray, List.set_cons_zero, List.set_cons_succ])
                    refine wpAnyH_done (by as_aux_lemma => kernel_rfl) ?_ _
                    go_wp2
                    go_roundw
                    case rel => exact ⟨k + 1, cg, p3', L ++ [(t1, t2)], some ⟨gg, 0, none⟩, by omega, by go_num, HX2, HS2, Lib.hid (fun _ => ⟨hn16, by omega⟩), HZL2, Lib.hid HPP.out.1⟩
                    case measure => simp [intOf]; omega
      · have hgo' : p.2 = false ∨ (p.2 = true ∧ k = nn) := by
          cases h : p.2 with
          | false => exact .inl rfl
          | true =>
            refine .inr ⟨rfl, ?_⟩
            have h1 := (HQ.out h).2
            rcases Nat.lt_or_ge k nn with h2 | h2
            · exact absurd ⟨h, h2⟩ hgo
            · omega
        have HRL : Hid (rdL s = (L, p)) := Lib.hid (by
          rw [← HX.out]
          rcases hgo' with h | ⟨h, h'⟩
          · exact rdXs_bad _ _ _ h
          · rw [h', Nat.sub_self, rdXs])
        have HOKe : Hid (rdOK s = (decide (e0 = 0) && (p.2 && (decide (p.1.size = 0) && decide (chkA (rdA0 s (rdT s) L) = 0))))) := Lib.hid (by rw [HOKd.out, HRL.out])
        have HAe : Hid (rdA s = rdA0 s (rdT s) L) := Lib.hid (by rw [rdA, HRL.out])
        obtain ⟨q, ok⟩ := p
        dsimp only at HOKe k0 hgo'
        clear hgo HRL HX HQ HOKd HL0 HP7
        have HFIN : Hid (∀ W : World, Blk W w.heap.size 27 (attV zAtt none 0 0) ∧ Below w.heap.size w W → Blk (((((((W.setCell ⟨w.heap.size, 0, none⟩ (.int .u8 0)).setCell ⟨w.heap.size, 1, none⟩ (.int .u32 0)).setCell ⟨w.heap.size, 2, none⟩ (.int .u32 0)).setCell ⟨w.heap.size, 3, none⟩ (.int .u32 0)).setCell ⟨w.heap.size, 4, none⟩ (.int .i64 0)).setCell ⟨w.heap.size, 5, none⟩ (.string ⟨#[]⟩)).setCell ⟨w.heap.size, 6, none⟩ (.slice none 0 0)) w.heap.size 27 (attV zAtt none 0 0) ∧ Below w.heap.size w (((((((W.setCell ⟨w.heap.size, 0, none⟩ (.int .u8 0)).setCell ⟨w.heap.size, 1, none⟩ (.int .u32 0)).setCell ⟨w.heap.size, 2, none⟩ (.int .u32 0)).setCell ⟨w.heap.size, 3, none⟩ (.int .u32 0)).setCell ⟨w.heap.size, 4, none⟩ (.int .i64 0)).setCell ⟨w.heap.size, 5, none⟩ (.string ⟨#[]⟩)).setCell ⟨w.heap.size, 6, none⟩ (.slice none 0 0))) := Lib.hid (fun W h =>
          ⟨((((((h.1.set_ 0 (.int .u8 0)).set_ 1 (.int .u32 0)).set_ 2 (.int .u32 0)).set_ 3 (.int .u32 0)).set_ 4 (.int .i64 0)).set_ 5 (.string ⟨#[]⟩)).set_ 6 (.slice none 0 0), ((((((h.2.setCell (p := ⟨w.heap.size, 0, none⟩) (Nat.le_refl _) _).setCell (p := ⟨w.heap.size, 1, none⟩) (Nat.le_refl _) _).setCell (p := ⟨w.heap.size, 2, none⟩) (Nat.le_refl _) _).setCell (p := ⟨w.heap.size, 3, none⟩) (Nat.le_refl _) _).setCell (p := ⟨w.heap.size, 4, none⟩) (Nat.le_refl _) _).setCell (p := ⟨w.heap.size, 5, none⟩) (Nat.le_refl _) _).setCell (p := ⟨w.heap.size, 6, none⟩) (Nat.le_refl _) _⟩)
        have z0 : ∀ i, wr.cell? ⟨w.heap.size, i, none⟩ = (attV zAtt none 0 0)[i]? := fun i => HI.out.zero.cell i
        have y0 : wr.cell? ⟨w.heap.size, 0, none⟩ = some (.int .u8 0) := z0 0
        have y1 : wr.cell? ⟨w.heap.size, 1, none⟩ = some (.int .u32 0) := z0 1
        have y2 : wr.cell? ⟨w.heap.size, 2, none⟩ = some (.int .u32 0) := z0 2
        have y3 : wr.cell? ⟨w.heap.size, 3, none⟩ = some (.int .u32 0) := z0 3
        have y4 : wr.cell? ⟨w.heap.size, 4, none⟩ = some (.int .i64 0) := z0 4
        have y5 : wr.cell? ⟨w.heap.size, 5, none⟩ = some (.string ⟨#[]⟩) := z0 5
        have y6 : wr.cell? ⟨w.heap.size, 6, none⟩ = some (.slice none 0 0) := z0 6
        have g0 : ∀ i, wr.frozen? ⟨w.heap.size, i, none⟩ = false := fun i => HI.out.zero.frozen i
        clear z0
        rcases hgo' with rfl | ⟨rfl, rfl⟩
        · have F : Hid (rdR s = (zAtt, 4)) := Lib.hid (HNO.out (by rw [HOKe.out]; simp))
          rcases hE0 with rfl | rfl
          all_goals
            go_wp2
            exact bodyPost_ret (results_rec_tmp (p := 2) (u := 3) rfl _ _ w.heap.size 27 (attV zAtt none 0 0) (0, 0) rfl (HFIN.out wr ⟨HI.out.zero, HI.out.below⟩).1 Tryd.underlying27 (by kernel_rfl)) rfl ⟨none, 0, 0, by rw [F.out]; rfl, by rw [F.out]; exact World.ownsRow_nil _ _ _ _, (HFIN.out wr ⟨HI.out.zero, HI.out.below⟩).2⟩
        · rcases hE0 with rfl | rfl
          · have r0 : wr.cell? ⟨rb, 0, none⟩ = some (.pointer (some ⟨R, 0, none⟩)) := HI.out.rs.rp.cell 0
            have EN := Lib.hid (rend_any q R wr HI.out.rs.rd)
            by_cases hq0 : q.size = 0
            · have hen : endE q = 0 := if_pos hq0
              rw [hen] at EN
              clear hen
              have hRd : Reads wr wr.heap.size 2 A k (xtV L) := Reads.of_own HI.out.own
              obtain ⟨w64a, w64b⟩ := wrap64_fit (numN (p4 s) : Int)
              have CH := Lib.hid (attChk_any (rdA0 s (rdT s) L) A k c wr wr.heap.size hRd (Nat.le_refl _) ⟨w64a, w64b⟩ (by omega) (Nat.le_trans HT5.out (by omega)) (fun x hx => ⟨Nat.le_trans (HZL.out x hx).1 (by omega), Nat.le_trans (HZL.out x hx).2 (by omega)⟩))
              clear hRd w64a w64b
              have AC := Lib.hid (fun (W : World) hb => att_cells (rdA0 s (rdT s) L) A k c W ab hb)
              obtain ⟨a0, a1, a2, a3, a4, a5, a6⟩ := AC.out wr HI.out.cell
              go_wp2_with fail
              (with_reducible refine EN.out.mono ?_)
              rintro e wy ⟨rfl, rfl⟩
              go_wp2_with fail
              change Calls _ _ #[.agg (attV (rdA0 s (rdT s) L) A k c)] _ _
              (with_reducible refine CH.out.mono ?_)
              rintro e wz ⟨rfl, hbz⟩
              have HZ := Lib.hid (HI.out.zero.below hbz HI.out.zero.lt)
              have HZB := Lib.hid (HI.out.below.trans (hbz.mono HI.out.below.size))
              have HZO := Lib.hid (own_below HI.out.own hbz)
              have HZA := Lib.hid (HI.out.cell.below hbz HI.out.cell.lt)
              clear hbz y0 y1 y2 y3 y4 y5 y6 g0 a0 a1 a2 a3 a4 a5 a6 k0 r0 CH EN
              have z0 : ∀ i, wz.cell? ⟨w.heap.size, i, none⟩ = (attV zAtt none 0 0)[i]? := fun i => HZ.out.cell i
              have y0 : wz.cell? ⟨w.heap.size, 0, none⟩ = some (.int .u8 0) := z0 0
              have y1 : wz.cell? ⟨w.heap.size, 1, none⟩ = some (.int .u32 0) := z0 1
              have y2 : wz.cell? ⟨w.heap.size, 2, none⟩ = some (.int .u32 0) := z0 2
              have y3 : wz.cell? ⟨w.heap.size, 3, none⟩ = some (.int .u32 0) := z0 3
              have y4 : wz.cell? ⟨w.heap.size, 4, none⟩ = some (.int .i64 0) := z0 4
              have y5 : wz.cell? ⟨w.heap.size, 5, none⟩ = some (.string ⟨#[]⟩) := z0 5
              have y6 : wz.cell? ⟨w.heap.size, 6, none⟩ = some (.slice none 0 0) := z0 6
              have g0 : ∀ i, wz.frozen? ⟨w.heap.size, i, none⟩ = false := fun i => HZ.out.frozen i
              clear z0
              by_cases hch : chkA (rdA0 s (rdT s) L) = 0
              · have F : Hid (rdR s = (rdA0 s (rdT s) L, 0)) := Lib.hid (by rw [← HAe.out]; exact HOK.out (by rw [HOKe.out, decide_eq_true hch, decide_eq_true hq0]; rfl))
                rw [hch]
                obtain ⟨a0, a1, a2, a3, a4, a5, a6⟩ := AC.out wz HZA.out
                clear hch hq0
                have HG2 : Hid (Blk (((((((wz.setCell ⟨w.heap.size, 0, none⟩ (.int .u8 ((rdA0 s (rdT s) L).nd.toNat : Int))).setCell ⟨w.heap.size, 1, none⟩ (.int .u32 ((rdA0 s (rdT s) L).md.toNat : Int))).setCell ⟨w.heap.size, 2, none⟩ (.int .u32 ((rdA0 s (rdT s) L).ui.toNat : Int))).setCell ⟨w.heap.size, 3, none⟩ (.int .u32 ((rdA0 s (rdT s) L).gi.toNat : Int))).setCell ⟨w.heap.size, 4, none⟩ (.int .i64 (rdA0 s (rdT s) L).mt)).setCell ⟨w.heap.size, 5, none⟩ (.string (rdA0 s (rdT s) L).tg)).setCell ⟨w.heap.size, 6, none⟩ (.slice A k c)) w.heap.size 27 (attV (rdA0 s (rdT s) L) A k c)) := Lib.hid (((((((HZ.out.set_ 0 _).set_ 1 _).set_ 2 _).set_ 3 _).set_ 4 _).set_ 5 _).set_ 6 _)
                have HB2 : Hid (Below w.heap.size w (((((((wz.setCell ⟨w.heap.size, 0, none⟩ (.int .u8 ((rdA0 s (rdT s) L).nd.toNat : Int))).setCell ⟨w.heap.size, 1, none⟩ (.int .u32 ((rdA0 s (rdT s) L).md.toNat : Int))).setCell ⟨w.heap.size, 2, none⟩ (.int .u32 ((rdA0 s (rdT s) L).ui.toNat : Int))).setCell ⟨w.heap.size, 3, none⟩ (.int .u32 ((rdA0 s (rdT s) L).gi.toNat : Int))).setCell ⟨w.heap.size, 4, none⟩ (.int .i64 (rdA0 s (rdT s) L).mt)).setCell ⟨w.heap.size, 5, none⟩ (.string (rdA0 s (rdT s) L).tg)).setCell ⟨w.heap.size, 6, none⟩ (.slice A k c))) := Lib.hid (((((((HZB.out.setCell (p := ⟨w.heap.size, 0, none⟩) (Nat.le_refl _) _).setCell (p := ⟨w.heap.size, 1, none⟩) (Nat.le_refl _) _).setCell (p := ⟨w.heap.size, 2, none⟩) (Nat.le_refl _) _).setCell (p := ⟨w.heap.size, 3, none⟩) (Nat.le_refl _) _).setCell (p := ⟨w.heap.size, 4, none⟩) (Nat.le_refl _) _).setCell (p := ⟨w.heap.size, 5, none⟩) (Nat.le_refl _) _).setCell (p := ⟨w.heap.size, 6, none⟩) (Nat.le_refl _) _)
                have HO2 : Hid ((((((((wz.setCell ⟨w.heap.size, 0, none⟩ (.int .u8 ((rdA0 s (rdT s) L).nd.toNat : Int))).setCell ⟨w.heap.size, 1, none⟩ (.int .u32 ((rdA0 s (rdT s) L).md.toNat : Int))).setCell ⟨w.heap.size, 2, none⟩ (.int .u32 ((rdA0 s (rdT s) L).ui.toNat : Int))).setCell ⟨w.heap.size, 3, none⟩ (.int .u32 ((rdA0 s (rdT s) L).gi.toNat : Int))).setCell ⟨w.heap.size, 4, none⟩ (.int .i64 (rdA0 s (rdT s) L).mt)).setCell ⟨w.heap.size, 5, none⟩ (.string (rdA0 s (rdT s) L).tg)).setCell ⟨w.heap.size, 6, none⟩ (.slice A k c)).ownsRow w.heap.size 43 2 (.slice A k c) k (xtV L)) := Lib.hid (by
                  have h1 := HI.out.o1
                  have h2 := HI.out.o2
                  have h3 := HI.out.o3
                  have h4 := HI.out.o4
                  have hg := only_setCell (only_setCell (only_setCell (only_setCell (only_setCell (only_setCell (only_setCell (grown_refl wz (some w.heap.size)) (p := ⟨w.heap.size, 0, none⟩) (.inl rfl) (.int .u8 ((rdA0 s (rdT s) L).nd.toNat : Int))) (p := ⟨w.heap.size, 1, none⟩) (.inl rfl) (.int .u32 ((rdA0 s (rdT s) L).md.toNat : Int))) (p := ⟨w.heap.size, 2, none⟩) (.inl rfl) (.int .u32 ((rdA0 s (rdT s) L).ui.toNat : Int))) (p := ⟨w.heap.size, 3, none⟩) (.inl rfl) (.int .u32 ((rdA0 s (rdT s) L).gi.toNat : Int))) (p := ⟨w.heap.size, 4, none⟩) (.inl rfl) (.int .i64 (rdA0 s (rdT s) L).mt)) (p := ⟨w.heap.size, 5, none⟩) (.inl rfl) (.string (rdA0 s (rdT s) L).tg)) (p := ⟨w.heap.size, 6, none⟩) (.inl rfl) (.slice A k c)
                  refine own_lower (HZO.out.kept hg ?_) (by omega)
                  right
                  intro e
                  have := (HZO.out.lt _ e).1
                  omega)
                go_wp2
                exact bodyPost_ret (results_rec_tmp (p := 2) (u := 3) rfl _ _ w.heap.size 27 (attV (rdA0 s (rdT s) L) A k c) (0, 0) rfl HG2.out Tryd.underlying27 (by kernel_rfl)) rfl ⟨A, k, c, by rw [F.out]; rfl, by rw [F.out]; exact HO2.out, HB2.out⟩
              · have F : Hid (rdR s = (zAtt, 4)) := Lib.hid (HNO.out (by rw [HOKe.out, decide_eq_false hch]; simp))
                have hcb : (chkA (rdA0 s (rdT s) L) != 0) = true := by rw [bne_iff_ne]; exact hch
                clear hch
                go_wp2
                exact bodyPost_ret (results_rec_tmp (p := 2) (u := 3) rfl _ _ w.heap.size 27 (attV zAtt none 0 0) (0, 0) rfl (HFIN.out wz (⟨HZ.out, HZB.out⟩)).1 Tryd.underlying27 (by kernel_rfl)) rfl ⟨none, 0, 0, by rw [F.out]; rfl, by rw [F.out]; exact World.ownsRow_nil _ _ _ _, (HFIN.out wz (⟨HZ.out, HZB.out⟩)).2⟩
            · have hen : endE q = 4 := if_neg hq0
              have F : Hid (rdR s = (zAtt, 4)) := Lib.hid (HNO.out (by rw [HOKe.out, decide_eq_false hq0]; simp))
              rw [hen] at EN
              clear hen hq0
              go_wp2_with fail
              (with_reducible refine EN.out.mono ?_)
              rintro e wy ⟨rfl, rfl⟩
              go_wp2
              exact bodyPost_ret (results_rec_tmp (p := 2) (u := 3) rfl _ _ w.heap.size 27 (attV zAtt none 0 0) (0, 0) rfl (HFIN.out wr (⟨HI.out.zero, HI.out.below⟩)).1 Tryd.underlying27 (by kernel_rfl)) rfl ⟨none, 0, 0, by rw [F.out]; rfl, by rw [F.out]; exact World.ownsRow_nil _ _ _ _, (HFIN.out wr (⟨HI.out.zero, HI.out.below⟩)).2⟩
          · have F : Hid (rdR s = (zAtt, 4)) := Lib.hid (HNO.out (by rw [HOKe.out]; rfl))
            go_wp2
            exact bodyPost_ret (results_rec_tmp (p := 2) (u := 3) rfl _ _ w.heap.size 27 (attV zAtt none 0 0) (0, 0) rfl (HFIN.out wr (⟨HI.out.zero, HI.out.below⟩)).1 Tryd.underlying27 (by kernel_rfl)) rfl ⟨none, 0, 0, by rw [F.out]; rfl, by rw [F.out]; exact World.ownsRow_nil _ _ _ _, (HFIN.out wr (⟨HI.out.zero, HI.out.below⟩)).2⟩
end Go.Proofs.YtpfccicahfncbaaDoor
