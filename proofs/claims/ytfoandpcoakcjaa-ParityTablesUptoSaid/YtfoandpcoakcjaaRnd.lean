/- Walk: digest.rounds. -/
import Derived.Test.YtfoandpcoakcjaaRowu8
import Derived.Test.YtfoandpcoakcjaaRowu64
import Derived.Deep.QuietTactic
import Derived.BigQuiet
namespace Go.Proofs.Ytfoandpcoakcjaa
open Go.RowKit Dig
set_option linter.unusedVariables false
attribute [local go_sem ↓] execOp_ld8 execOp_st8 execOp_ld64 execOp_st64
attribute [local go_sem] run_ld8 run_st8 run_ld64 run_st64
structure Rn (w wr : World) (h ws : Nat → UInt32) : Prop where
  h8 : wr.rowIs w.heap.size 89 8 (uV h)
  o8 : wr.rowIs (w.heap.size + 1) 89 8 (uV fun _ => 0)
  w64 : wr.rowIs (w.heap.size + 1 + 1) 91 64 (uV ws)
  big : w.heap.size + 1 + 1 < wr.heap.size
  below : Below w.heap.size w wr
structure Rv (w wr : World) (B : Nat) (h v : Nat → UInt32) : Prop where
  h8 : wr.rowIs w.heap.size 89 8 (uV h)
  o8 : wr.rowIs (w.heap.size + 1) 89 8 (uV fun _ => 0)
  v8 : wr.rowIs B 89 8 (uV v)
  big : w.heap.size + 1 + 1 < B
  below : Below w.heap.size w wr
theorem Rn.new (w : World) (h : Nat → UInt32) : Rn w (((w.alloc (.cells (uA 8 h) 89)).alloc (.cells (Array.replicate 8 (.int .u32 0)) 89)).alloc (.cells (Array.replicate 64 (.int .u32 0)) 91)) h (fun _ => 0) := by
  have z1 := zeros_row (w.alloc (.cells (uA 8 h) 89)) (T := 89) (n := 8) (z := .int .u32 0) rfl
  have z2 := zeros_row ((w.alloc (.cells (uA 8 h) 89)).alloc (.cells (Array.replicate 8 (.int .u32 0)) 89)) (T := 91) (n := 64) (z := .int .u32 0) rfl
  have e1 : (w.alloc (.cells (uA 8 h) 89)).heap.size = w.heap.size + 1 := by simp
  have e2 : ((w.alloc (.cells (uA 8 h) 89)).alloc (.cells (Array.replicate 8 (.int .u32 0)) 89)).heap.size = w.heap.size + 1 + 1 := by simp
  rw [e1] at z1
  rw [e2] at z2
  refine ⟨((u8_row w h _).alloc _).alloc _, (z1.alloc _), z2, by simp, ?_⟩
  exact (((Below.refl _ _).alloc (Nat.le_refl _) _).alloc (by omega) _).alloc (by omega) _
theorem Rn.drew {w wr : World} {h ws : Nat → UInt32} (R : Rn w wr h ws) : Rn w wr.drew h ws := ⟨R.h8, R.o8, R.w64, R.big, R.below.drew⟩
theorem Rn.set_ {w wr : World} {h ws : Nat → UInt32} (R : Rn w wr h ws) (k : Nat) (v : UInt32) : Rn w (wr.setCell ⟨w.heap.size + 1 + 1, k, none⟩ (.int .u32 (v.toNat : Int))) h (upd ws k v) := by
  refine ⟨R.h8.setOther (by simp; omega) _, R.o8.setOther (by simp) _, ?_, by simpa using R.big, R.below.setCell (by simp; omega) _⟩
  exact (R.w64.set k _).congr fun x _ => uV_upd _ _ _ _
theorem ld_word (x : UInt32) (b : UInt8) : bits .or .u32 ((x.toNat : Int) * 256 % 4294967296) ((b.toNat : Int) % 4294967296) = ((x <<< UInt32.ofNat 8 ||| UInt32.ofNat b.toNat).toNat : Int) := by
  have h1 := u32_shl x 8 (by omega)
  rw [show (2 : Int) ^ 8 = 256 from rfl] at h1
  have h2 : (b.toNat : Int) % 4294967296 = ((UInt32.ofNat b.toNat).toNat : Int) := by rw [UInt32.toNat_ofNat']; omega
  rw [h1, h2, u32_orW]
theorem u32_add4 (a b c d : UInt32) : ((a.toNat : Int) + (b.toNat : Int) + (c.toNat : Int) + (d.toNat : Int)) % 4294967296 = ((a + b + c + d).toNat : Int) := by
  rw [UInt32.toNat_add, UInt32.toNat_add, UInt32.toNat_add]; omega
theorem sched_word (xa xb xc xd : UInt32) :
    (bits .xor .u32 (bits .xor .u32 ((rr xb 17).toNat : Int) ((rr xb 19).toNat : Int)) ((xb.toNat : Int) / 1024) + (xc.toNat : Int) +
      bits .xor .u32 (bits .xor .u32 ((rr xa 7).toNat : Int) ((rr xa 18).toNat : Int)) ((xa.toNat : Int) / 8) + (xd.toNat : Int)) % 4294967296 = ((sg1 xb + xc + sg0 xa + xd).toNat : Int) := by
  have h1 := u32_shrW xb 10 (by omega)
  have h2 := u32_shrW xa 3 (by omega)
  rw [show (2 : Int) ^ 10 = 1024 from rfl] at h1
  rw [show (2 : Int) ^ 3 = 8 from rfl] at h2
  rw [h1, h2, u32_xorW, u32_xorW, u32_xorW, u32_xorW, u32_add4]; rfl
theorem index64 (f : Nat → UInt32) (t : Nat) (ht : t < 64) (W : World) : (Instr.index 91 (.agg (uA 64 f)) (.int .i64 (t : Int))).run Try.prog W = .ok (.int .u32 ((f t).toNat : Int)) W := by
  have hu : Try.prog.underlying 91 = some (.array 64 88) := by kernel_rfl
  have hi : (Try.prog.info? 88).isSome = true := by kernel_rfl
  obtain ⟨i, hi⟩ := Option.isSome_iff_exists.1 hi
  have hz : (Try.prog.info? 88).map (·.size) = some 1 := by kernel_rfl
  rw [hi] at hz
  have hz1 : i.size = 1 := by simpa using hz
  have hg := uA_get 64 f t ht
  simp [Instr.index, run_underlying hu, hi, hz1, sizeOf, typeInfo, go_sem, ht, hg]
def shF (v : Nat → UInt32) : Nat → UInt32
  | 0 => v 0
  | i + 1 => v i
theorem cut8lo (B : Nat) (W : World) : (Instr.sliceAt 89 (.pointer (some ⟨B, 0, none⟩)) (some (.int .i64 1)) none none).run Try.prog W = .ok (.slice (some ⟨B, 1, none⟩) 7 7) W := by
  have hu : Try.prog.underlying 89 = some (.array 8 88) := by kernel_rfl
  have hi : (Try.prog.info? 88).isSome = true := by kernel_rfl
  obtain ⟨i, hi⟩ := Option.isSome_iff_exists.1 hi
  have hz : (Try.prog.info? 88).map (·.size) = some 1 := by kernel_rfl
  rw [hi] at hz
  have hz1 : i.size = 1 := by simpa using hz
  simp [Instr.sliceAt, Instr.sureAddr, run_underlying hu, Instr.sliceBounds, Instr.sliceBound, asIntOf, sizeOf, typeInfo, hi, hz1, Addr.add, go_sem]
theorem cut8hi (B : Nat) (W : World) : (Instr.sliceAt 89 (.pointer (some ⟨B, 0, none⟩)) none (some (.int .i64 7)) none).run Try.prog W = .ok (.slice (some ⟨B, 0, none⟩) 7 8) W := by
  have hu : Try.prog.underlying 89 = some (.array 8 88) := by kernel_rfl
  have hi : (Try.prog.info? 88).isSome = true := by kernel_rfl
  obtain ⟨i, hi⟩ := Option.isSome_iff_exists.1 hi
  have hz : (Try.prog.info? 88).map (·.size) = some 1 := by kernel_rfl
  simp [Instr.sliceAt, Instr.sureAddr, run_underlying hu, Instr.sliceBounds, Instr.sliceBound, asIntOf, sizeOf, typeInfo, hi, Addr.add, go_sem]
theorem rv_drewN {w wr : World} {B : Nat} {h v : Nat → UInt32} (R : Rv w wr B h v) (n : Nat) : Rv w (wr.drewN n) B h v := ⟨R.h8, R.o8, R.v8, R.big, below_drewN R.below n⟩
theorem rv_drew {w wr : World} {B : Nat} {h v : Nat → UInt32} (R : Rv w wr B h v) : Rv w wr.drew B h v := ⟨R.h8, R.o8, R.v8, R.big, R.below.drew⟩
theorem rv_put {w wr : World} {B : Nat} {h v : Nat → UInt32} (R : Rv w wr B h v) (g : Nat → UInt32) : Rv w (put8 wr B 0 (uA 8 g)) B h g := by
  obtain ⟨q1, q2⟩ := put8_row R.v8 0 (uA 8 g) (by omega) (u8_full g)
  have hb := R.big
  have := R.v8.lt
  refine ⟨R.h8.of_block (q2.block _ R.h8.lt (by simp; omega)), R.o8.of_block (q2.block _ R.o8.lt (by simp; omega)), q1.congr (g := uV g) (fun i hi => ?_), hb, below_grown R.below q2 (fun g hg => by cases hg; omega)⟩
  rw [if_pos (by omega)]
  simp [uA, uV, hi]
theorem rv_set {w wr : World} {B : Nat} {h v : Nat → UInt32} (R : Rv w wr B h v) (i : Nat) (x : UInt32) : Rv w (wr.setCell ⟨B, i, none⟩ (.int .u32 (x.toNat : Int))) B h (upd v i x) := by
  have hb := R.big
  exact ⟨R.h8.setOther (by simp; omega) _, R.o8.setOther (by simp; omega) _, (R.v8.set i _).congr fun x _ => uV_upd _ _ _ _, hb, R.below.setCell (by simp; omega) _⟩
theorem copy7 {W : World} {B : Nat} {T : TypeId} {v : Nat → UInt32} (h : W.rowIs B T 8 (uV v)) :
    (Builtin.copy_ #[165, 165] 3 #[.slice (some ⟨B, 1, none⟩) 7 7, .slice (some ⟨B, 0, none⟩) 7 8]).run Try.prog W = .ok (goInt 7) (put8 W B 0 (uA 8 (shF v))) := by
  obtain ⟨c, hc, hs, hg⟩ := h
  have e : c = uA 8 v := by
    apply Array.ext
    · rw [hs, uA_size]
    · intro i h1 h2
      have a := hg i (by omega)
      have b := uA_get 8 v i (by omega)
      rw [Array.getElem?_eq_getElem h1] at a
      rw [Array.getElem?_eq_getElem h2] at b
      rw [Option.some.inj a, Option.some.inj b]; rfl
  subst e
  have := run_copy_row (P := Try.prog) W 165 165 3 88 B 1 7 7 ⟨B, 0, none⟩ 7 8 (uA 8 v) T (uA 7 v).toList (by kernel_rfl) (by kernel_rfl) hc (by rw [Array.length_toList, uA_size]; rfl)
    (fun j u hu => by
      have hj : j < 7 := by
        rcases Nat.lt_or_ge j 7 with h | h
        · exact h
        · rw [List.getElem?_eq_none (by rw [Array.length_toList, uA_size]; exact h)] at hu; cases hu
      have ea : ({ block := B, off := 0, spot := none } : Addr).add j = ⟨B, j, none⟩ := by unfold Addr.add; split <;> simp_all
      rw [ea, cell_of_row W B j _ T (0, 0) hc, uA_get 8 v j (by omega)]
      rw [Array.getElem?_toList, uA_get 7 v j hj] at hu
      exact hu) (by rw [Array.length_toList, uA_size, uA_size]; omega) (fun u hu => by
      simp only [uA, List.mem_map, List.mem_range] at hu
      obtain ⟨j, hj, rfl⟩ := hu
      rfl)
  rw [this, Array.length_toList, uA_size]
  unfold put8
  rw [hc]
  rfl
theorem rd_step (v : Nat → UInt32) (k x : UInt32) : upd (upd (shF v) 0 (t1F v k x + t2F v)) 4 (shF v 4 + t1F v k x) = rdF v k x := by
  funext i
  rcases i with _ | _ | _ | _ | _ | i
  · rfl
  · rfl
  · rfl
  · rfl
  · rfl
  · show (if i + 5 = 4 then _ else (if i + 5 = 0 then _ else shF v (i + 5))) = _
    rw [if_neg (by omega), if_neg (by omega)]; rfl
theorem not_word (a : UInt32) : bits .xor .u32 IntKind.u32.max (a.toNat : Int) = ((~~~ a).toNat : Int) := by
  have := u32_xorW (-1) a
  rw [UInt32.neg_one_xor] at this
  exact this
theorem t1_sum (y7 y4 y5 y6 k x : UInt32) :
    bits .xor .u32 (bits .and .u32 (y4.toNat : Int) (y5.toNat : Int)) (bits .and .u32 (bits .xor .u32 IntKind.u32.max (y4.toNat : Int)) (y6.toNat : Int)) = ((y4 &&& y5 ^^^ ~~~ y4 &&& y6).toNat : Int) := by
  rw [not_word, u32_andW, u32_andW, u32_xorW]
theorem t2_sum (y0 y1 y2 : UInt32) :
    bits .xor .u32 (bits .xor .u32 (bits .and .u32 (y0.toNat : Int) (y1.toNat : Int)) (bits .and .u32 (y0.toNat : Int) (y2.toNat : Int))) (bits .and .u32 (y1.toNat : Int) (y2.toNat : Int)) = ((y0 &&& y1 ^^^ y0 &&& y2 ^^^ y1 &&& y2).toNat : Int) := by
  rw [u32_andW, u32_andW, u32_andW, u32_xorW, u32_xorW]
theorem t12_word (y7 r y4 y5 y6 k x q y0 y1 y2 : UInt32) :
    ((y7.toNat : Int) + (r.toNat : Int) + bits .xor .u32 (bits .and .u32 (y4.toNat : Int) (y5.toNat : Int)) (bits .and .u32 (bits .xor .u32 IntKind.u32.max (y4.toNat : Int)) (y6.toNat : Int)) + (k.toNat : Int) + (x.toNat : Int) +
      ((q.toNat : Int) + bits .xor .u32 (bits .xor .u32 (bits .and .u32 (y0.toNat : Int) (y1.toNat : Int)) (bits .and .u32 (y0.toNat : Int) (y2.toNat : Int))) (bits .and .u32 (y1.toNat : Int) (y2.toNat : Int)))) % 4294967296
      = ((y7 + r + (y4 &&& y5 ^^^ ~~~ y4 &&& y6) + k + x + (q + (y0 &&& y1 ^^^ y0 &&& y2 ^^^ y1 &&& y2))).toNat : Int) := by
  rw [t1_sum y7 y4 y5 y6 k x, t2_sum]
  generalize (y4 &&& y5 ^^^ ~~~ y4 &&& y6) = c
  generalize (y0 &&& y1 ^^^ y0 &&& y2 ^^^ y1 &&& y2) = m
  simp only [UInt32.toNat_add]; omega
theorem t14_word (z y7 r y4 y5 y6 k x : UInt32) :
    ((z.toNat : Int) + ((y7.toNat : Int) + (r.toNat : Int) + bits .xor .u32 (bits .and .u32 (y4.toNat : Int) (y5.toNat : Int)) (bits .and .u32 (bits .xor .u32 IntKind.u32.max (y4.toNat : Int)) (y6.toNat : Int)) + (k.toNat : Int) + (x.toNat : Int))) % 4294967296
      = ((z + (y7 + r + (y4 &&& y5 ^^^ ~~~ y4 &&& y6) + k + x)).toNat : Int) := by
  rw [t1_sum y7 y4 y5 y6 k x]
  generalize (y4 &&& y5 ^^^ ~~~ y4 &&& y6) = c
  simp only [UInt32.toNat_add]; omega
theorem row_block8 {W : World} {B : Nat} {T : TypeId} {v : Nat → UInt32} (h : W.rowIs B T 8 (uV v)) : W.heap[B]? = some (.cells (uA 8 v) T (0, 0)) := by
  obtain ⟨c, hc, hs, hg⟩ := h
  have e : c = uA 8 v := by
    apply Array.ext
    · rw [hs, uA_size]
    · intro i h1 h2
      have a := hg i (by omega)
      have b := uA_get 8 v i (by omega)
      rw [Array.getElem?_eq_getElem h1] at a
      rw [Array.getElem?_eq_getElem h2] at b
      rw [Option.some.inj a, Option.some.inj b]; rfl
  rw [hc, e]
def hF (h v : Nat → UInt32) : Nat → Nat → UInt32
  | 0 => h
  | i + 1 => upd (hF h v i) i (hF h v i i + v i)
theorem hF_eq (h v : Nat → UInt32) (i : Nat) : ∀ x, hF h v i x = if x < i then h x + v x else h x := by
  induction i with
  | zero => intro x; rfl
  | succ i ih =>
    intro x
    rw [hF]; unfold upd
    by_cases e : x = i
    · subst e; rw [if_pos rfl, if_pos (by omega), ih x, if_neg (by omega)]
    · rw [if_neg e, ih x]
      by_cases h1 : x < i
      · rw [if_pos h1, if_pos (by omega)]
      · rw [if_neg h1, if_neg (by omega)]
theorem rv_seth {w wr : World} {B : Nat} {h v : Nat → UInt32} (R : Rv w wr B h v) (i : Nat) (x : UInt32) : Rv w (wr.setCell ⟨w.heap.size, i, none⟩ (.int .u32 (x.toNat : Int))) B (upd h i x) v := by
  have hb := R.big
  exact ⟨(R.h8.set i _).congr fun x _ => uV_upd _ _ _ _, R.o8.setOther (by simp) _, R.v8.setOther (by simp; omega) _, hb, R.below.setCell (by simp) _⟩
set_option maxRecDepth 100000 in
set_option maxHeartbeats 0 in
theorem rounds_any (h k : Nat → UInt32) (s : ByteArray) (K : Nat) (w : World) (hs : s.size = 64) (hk : w.rowIs K 91 64 (uV k)) :
    Calls Try.prog 103 #[.agg (uA 8 h), .pointer (some ⟨K, 0, none⟩), .string s] w fun e w' => e = .returned (.agg (uA 8 (roundsF h k (fun i => byteAt s i)))) ∧ Below w.heap.size w w' := by
  have HS := Lib.hid hs
  have HK := Lib.hid hk
  clear hk
  go_enter Try.func103, Try.ntmps103
  go_wp2
  go_loopw [21] (fun i wr => ∃ k : Nat, k ≤ 64 ∧ i = .int .i64 (k : Int) ∧ Rn w wr h (ldF (fun i => byteAt s i) k)) (fun i _ => 64 - (intOf i).toNat)
  case atStart => exact ⟨0, by omega, rfl, Rn.new w h⟩
  case round =>
    obtain ⟨i, hi, rfl, HR⟩ := hrel
    by_cases hlt : i < 64
    · have c1 := HR.w64.cell (i := i / 4) (by omega)
      have f1 := HR.w64.frozen (i / 4)
      have HRH := Lib.hid HR
      clear HR
      simp only [uV] at c1
      have hb : i < s.size := by omega
      obtain ⟨m, hm⟩ : ∃ m, i / 4 = m := ⟨_, rfl⟩
      have HM := Lib.hid hm
      have hq : ((i : Int) / 4) = (m : Int) := by omega
      have hq64 : m < 64 := by omega
      rw [hm] at c1 f1
      generalize hx : ldF (fun i => byteAt s i) i m = x at c1
      have HX := Lib.hid hx
      have hx32 : x.toNat < 4294967296 := x.toNat_lt
      clear hm hx
      go_wp2
      go_region
      go_wp2
      go_round
      case rel =>
        refine ⟨i + 1, by omega, by go_num, ?_⟩
        have L := ld_word x (byteAt s i)
        rw [byteAt_get, L]
        have e : ldF (fun i => byteAt s i) (i + 1) = upd (ldF (fun i => byteAt s i) i) m (x <<< UInt32.ofNat 8 ||| UInt32.ofNat (byteAt s i).toNat) := by rw [ldF, HM.out, HX.out]
        rw [e]
        exact (HRH.out.set_ m _).drew
      case measure => simp [intOf]; omega
    · obtain rfl : i = 64 := by omega
      have HRH := Lib.hid HR
      clear HR hlt hi
      go_wp2
      generalize hW : ldF (fun i => byteAt s i) 64 = W0 at HRH
      have HW := Lib.hid hW
      clear hW
      rw [show ((64 : Nat) : Int) = 64 from rfl]
      go_loopw [10] (fun i wr => ∃ T : Nat, 16 ≤ T ∧ T ≤ 64 ∧ i = .int .i64 (T : Int) ∧ Rn w wr h (scF W0 (T - 16))) (fun i _ => 64 - (intOf i).toNat)
      case atStart => exact ⟨16, by omega, by omega, rfl, HRH.out⟩
      case round =>
        obtain ⟨T, hT0, hT, rfl, HR⟩ := hrel
        by_cases hlt : T < 64
        · obtain ⟨a, ha⟩ : ∃ a, T - 15 = a := ⟨_, rfl⟩
          obtain ⟨b, hb⟩ : ∃ b, T - 2 = b := ⟨_, rfl⟩
          obtain ⟨c, hc⟩ : ∃ c, T - 7 = c := ⟨_, rfl⟩
          obtain ⟨d, hd⟩ : ∃ d, T - 16 = d := ⟨_, rfl⟩
          have qa : (T : Int) - 15 = (a : Int) := by omega
          have qb : (T : Int) - 2 = (b : Int) := by omega
          have qc : (T : Int) - 7 = (c : Int) := by omega
          have qd : (T : Int) - 16 = (d : Int) := by omega
          have HE := Lib.hid (show a = d + 1 ∧ b = d + 14 ∧ c = d + 9 ∧ T = d + 16 ∧ T + 1 - 16 = d + 1 by omega)
          have la : a < 64 := by omega
          have lb : b < 64 := by omega
          have lc : c < 64 := by omega
          have ld : d < 64 := by omega
          rw [hd] at HR
          have ca := HR.w64.cell la
          have cb := HR.w64.cell lb
          have cc := HR.w64.cell lc
          have cd := HR.w64.cell ld
          have fT := HR.w64.frozen T
          obtain ⟨vT, cT⟩ : ∃ v, wr.cell? ⟨w.heap.size + 1 + 1, T, none⟩ = some v := ⟨_, HR.w64.cell hlt⟩
          have HRH := Lib.hid HR
          clear HR ha hb hc hd
          simp only [uV] at ca cb cc cd
          generalize hxa : scF W0 d a = xa at ca
          generalize hxb : scF W0 d b = xb at cb
          generalize hxc : scF W0 d c = xc at cc
          generalize hxd : scF W0 d d = xd at cd
          have HX := Lib.hid (show _ ∧ _ ∧ _ ∧ _ from ⟨hxa, hxb, hxc, hxd⟩)
          clear hxa hxb hxc hxd
          have la32 : xa.toNat < 4294967296 := xa.toNat_lt
          have lb32 : xb.toNat < 4294967296 := xb.toNat_lt
          have lc32 : xc.toNat < 4294967296 := xc.toNat_lt
          have ld32 : xd.toNat < 4294967296 := xd.toNat_lt
          go_wp2
          go_region
          go_wp2_with fail
          refine (rotl_any xa _ 7 rfl (by omega) (by omega) _).mono ?_; rintro e w' ⟨rfl, rfl⟩
          go_wp2_with fail
          refine (rotl_any xa _ 18 rfl (by omega) (by omega) _).mono ?_; rintro e w' ⟨rfl, rfl⟩
          go_wp2_with fail
          refine (rotl_any xb _ 17 rfl (by omega) (by omega) _).mono ?_; rintro e w' ⟨rfl, rfl⟩
          go_wp2_with fail
          refine (rotl_any xb _ 19 rfl (by omega) (by omega) _).mono ?_; rintro e w' ⟨rfl, rfl⟩
          go_wp2
          go_region
          go_wp2
          go_round
          case rel =>
            refine ⟨T + 1, by omega, by omega, by go_num, ?_⟩
            rw [sched_word xa xb xc xd, HE.out.2.2.2.2]
            have e : scF W0 (d + 1) = upd (scF W0 d) T (sg1 xb + xc + sg0 xa + xd) := by
              rw [scF, ← HX.out.1, ← HX.out.2.1, ← HX.out.2.2.1, ← HX.out.2.2.2, HE.out.1, HE.out.2.1, HE.out.2.2.1, HE.out.2.2.2.1]
            rw [e]
            exact (HRH.out.set_ T _).drew.drew
          case measure => simp [intOf]; omega
        · obtain rfl : T = 64 := by omega
          generalize hW : scF W0 (64 - 16) = W1 at HR
          have HW1 := Lib.hid hW
          clear hW
          have k8 := ok8_of HR.h8 (off := 0) (by omega)
          have r8 : row8 wr w.heap.size 0 = uA 8 h := row8_u HR.h8
          have n8 := u8_full h
          have z1 := zeros_row wr (T := 89) (n := 8) (z := .int .u32 0) (c := #[Value.int .u32 0, Value.int .u32 0, Value.int .u32 0, Value.int .u32 0, Value.int .u32 0, Value.int .u32 0, Value.int .u32 0, Value.int .u32 0]) rfl
          have kW : ok8 (wr.alloc (.cells #[Value.int .u32 0, Value.int .u32 0, Value.int .u32 0, Value.int .u32 0, Value.int .u32 0, Value.int .u32 0, Value.int .u32 0, Value.int .u32 0] 89)) wr.heap.size 0 = true := ok8_of z1 (by omega)
          obtain ⟨q1, q2⟩ := put8_row z1 0 (uA 8 h) (by omega) n8
          have q1 := q1.congr (g := uV h) (fun i hi => by
            rw [if_pos (by omega)]
            simp [uA, uV, hi])
          have k64 := ok64_of ((HR.w64.alloc (.cells #[Value.int .u32 0, Value.int .u32 0, Value.int .u32 0, Value.int .u32 0, Value.int .u32 0, Value.int .u32 0, Value.int .u32 0, Value.int .u32 0] 89)).of_block (q2.block _ (by have := HR.big; simp; omega) (by simp; have := HR.big; omega))) (off := 0) (by omega)
          have r64 : row64 (put8 (wr.alloc (.cells #[Value.int .u32 0, Value.int .u32 0, Value.int .u32 0, Value.int .u32 0, Value.int .u32 0, Value.int .u32 0, Value.int .u32 0, Value.int .u32 0] 89)) wr.heap.size 0 (uA 8 h)) (w.heap.size + 1 + 1) 0 = uA 64 W1 := row64_u ((HR.w64.alloc _).of_block (q2.block _ (by have := HR.big; simp; omega) (by simp; have := HR.big; omega)))
          have RV : Hid (Rv w (put8 (wr.alloc (.cells #[Value.int .u32 0, Value.int .u32 0, Value.int .u32 0, Value.int .u32 0, Value.int .u32 0, Value.int .u32 0, Value.int .u32 0, Value.int .u32 0] 89)) wr.heap.size 0 (uA 8 h)) wr.heap.size h h) := Lib.hid (by
            have hb := HR.big
            refine ⟨(HR.h8.alloc _).of_block (q2.block _ (by simp; omega) (by simp; omega)), (HR.o8.alloc _).of_block (q2.block _ (by simp; omega) (by simp; omega)), q1, hb, ?_⟩
            exact below_grown (HR.below.alloc (by omega) _) q2 (fun g hg => by cases hg; omega))
          have HRH := Lib.hid HR
          clear HR z1 q1 q2
          rw [show ((64 : Nat) : Int) = 64 from rfl]
          go_wp2
          generalize put8 (wr.alloc (.cells #[Value.int .u32 0, Value.int .u32 0, Value.int .u32 0, Value.int .u32 0, Value.int .u32 0, Value.int .u32 0, Value.int .u32 0, Value.int .u32 0] 89)) wr.heap.size 0 (uA 8 h) = w2 at RV r64 k64 ⊢
          obtain ⟨B, hB⟩ : ∃ B, wr.heap.size = B := ⟨_, rfl⟩
          rw [hB] at RV ⊢
          clear hB kW k8 r8 n8
          go_loopw [83] (fun i wr => ∃ t : Nat, t ≤ 64 ∧ i = .int .i64 (t : Int) ∧ Rv w wr B h (rdsF k W1 h t)) (fun i _ => 64 - (intOf i).toNat)
          case atStart => exact ⟨0, by omega, rfl, RV.out⟩
          case round =>
            obtain ⟨t, ht, rfl, HR⟩ := hrel
            by_cases hlt : t < 64
            · have hix := index64 W1 t hlt
              have ck : wr.cell? ⟨K, t, none⟩ = some (uV k t) := (HK.out.of_block (HR.below.block _ HK.out.lt)).cell hlt
              have c0 := HR.v8.cell (i := 0) (by omega)
              have c1 := HR.v8.cell (i := 1) (by omega)
              have c2 := HR.v8.cell (i := 2) (by omega)
              have c3 := HR.v8.cell (i := 3) (by omega)
              have c4 := HR.v8.cell (i := 4) (by omega)
              have c5 := HR.v8.cell (i := 5) (by omega)
              have c6 := HR.v8.cell (i := 6) (by omega)
              have c7 := HR.v8.cell (i := 7) (by omega)
              simp only [uV] at ck c0 c1 c2 c3 c4 c5 c6 c7
              generalize hy0 : rdsF k W1 h t 0 = y0 at c0
              have l0 : y0.toNat < 4294967296 := y0.toNat_lt
              generalize hy1 : rdsF k W1 h t 1 = y1 at c1
              have l1 : y1.toNat < 4294967296 := y1.toNat_lt
              generalize hy2 : rdsF k W1 h t 2 = y2 at c2
              have l2 : y2.toNat < 4294967296 := y2.toNat_lt
              generalize hy3 : rdsF k W1 h t 3 = y3 at c3
              have l3 : y3.toNat < 4294967296 := y3.toNat_lt
              generalize hy4 : rdsF k W1 h t 4 = y4 at c4
              have l4 : y4.toNat < 4294967296 := y4.toNat_lt
              generalize hy5 : rdsF k W1 h t 5 = y5 at c5
              have l5 : y5.toNat < 4294967296 := y5.toNat_lt
              generalize hy6 : rdsF k W1 h t 6 = y6 at c6
              have l6 : y6.toNat < 4294967296 := y6.toNat_lt
              generalize hy7 : rdsF k W1 h t 7 = y7 at c7
              have l7 : y7.toNat < 4294967296 := y7.toNat_lt
              have HY := Lib.hid (show _ ∧ _ ∧ _ ∧ _ ∧ _ ∧ _ ∧ _ ∧ _ from ⟨hy0, hy1, hy2, hy3, hy4, hy5, hy6, hy7⟩)
              have HRH := Lib.hid HR
              have CT1 := cut8lo B
              have CT2 := cut8hi B
              have CP : ∀ n, (Builtin.copy_ #[165, 165] 3 #[.slice (some ⟨B, 1, none⟩) 7 7, .slice (some ⟨B, 0, none⟩) 7 8]).run Try.prog (wr.drewN n) = .ok (goInt 7) (put8 (wr.drewN n) B 0 (uA 8 (shF (rdsF k W1 h t)))) := fun n => copy7 (HRH.out.v8 : (wr.drewN n).rowIs B _ _ _)
              have RV3 : Hid (∀ n, Rv w (put8 (wr.drewN n) B 0 (uA 8 (shF (rdsF k W1 h t)))) B h (shF (rdsF k W1 h t))) := Lib.hid (fun n => rv_put (show Rv w (wr.drewN n) B h _ from rv_drewN HRH.out n) _)
              generalize hsh : shF (rdsF k W1 h t) = sh at CP RV3
              have HSH := Lib.hid hsh
              have HE3 : Hid (upd (upd sh 0 (y7 + rr3 y4 6 11 25 + (y4 &&& y5 ^^^ ~~~ y4 &&& y6) + k t + W1 t + (rr3 y0 2 13 22 + (y0 &&& y1 ^^^ y0 &&& y2 ^^^ y1 &&& y2)))) 4 (sh 4 + (y7 + rr3 y4 6 11 25 + (y4 &&& y5 ^^^ ~~~ y4 &&& y6) + k t + W1 t)) = rdsF k W1 h (t + 1)) := Lib.hid (by
                obtain ⟨a0, a1, a2, a3, a4, a5, a6, a7⟩ := HY.out
                rw [rdsF, ← rd_step, HSH.out]
                unfold t1F t2F
                rw [a0, a1, a2, a4, a5, a6, a7])
              clear hsh
              clear HR hy0 hy1 hy2 hy3 hy4 hy5 hy6 hy7
              go_wp2_with fail
              go_quiet (first | exact quiet_left (right_any y4 6 11 25 (by omega) (by omega) (by omega) (by omega) (by omega) (by omega) _) | exact quiet_add_left (right_any y4 6 11 25 (by omega) (by omega) (by omega) (by omega) (by omega) (by omega) _))
              rename Nat => n1
              go_wp2_with fail
              go_quiet (first | exact quiet_left (right_any y0 2 13 22 (by omega) (by omega) (by omega) (by omega) (by omega) (by omega) _) | exact quiet_add_left (right_any y0 2 13 22 (by omega) (by omega) (by omega) (by omega) (by omega) (by omega) _))
              rename Nat => n2
              go_wp2_with fail
              go_region
              have RV4 := RV3.out (n1 + n2 + 1)
              generalize put8 (wr.drewN (n1 + n2 + 1)) B 0 (uA 8 sh) = w3 at RV4 ⊢
              have d0 := RV4.v8.cell (i := 0) (by omega)
              have d4 := RV4.v8.cell (i := 4) (by omega)
              have e0 := RV4.v8.frozen 0
              have e4 := RV4.v8.frozen 4
              simp only [uV] at d0 d4
              have RVH := Lib.hid RV4
              clear RV4 CP CT1 CT2 c0 c1 c2 c3 c4 c5 c6 c7 ck
              go_wp2
              go_round
              case rel =>
                refine ⟨t + 1, by omega, by go_num, ?_⟩
                rw [t12_word, t14_word, ← HE3.out]
                exact rv_set (rv_set RVH.out 0 _) 4 _
              case measure => simp [intOf]; omega
            · obtain rfl : t = 64 := by omega
              generalize hV : rdsF k W1 h 64 = V at HR
              have HV := Lib.hid hV
              have HRH := Lib.hid HR
              clear hV HR hlt
              rw [show ((64 : Nat) : Int) = 64 from rfl]
              go_wp2
              go_loopw [150] (fun i wr => ∃ a : Nat, a ≤ 8 ∧ i = .int .i64 (a : Int) ∧ Rv w wr B (hF h V a) V) (fun i _ => 8 - (intOf i).toNat)
              case atStart => exact ⟨0, by omega, rfl, HRH.out⟩
              case round =>
                obtain ⟨a, ha, rfl, HR⟩ := hrel
                by_cases hlt : a < 8
                · have c1 := HR.h8.cell hlt
                  have c2 := HR.v8.cell hlt
                  have f1 := HR.h8.frozen a
                  have HRH := Lib.hid HR
                  clear HR
                  simp only [uV] at c1 c2
                  have E : Hid (hF h V (a + 1) = upd (hF h V a) a (hF h V a a + V a)) := Lib.hid rfl
                  generalize hF h V a a = x at c1 E
                  generalize V a = y at c2 E
                  have l1 : x.toNat < 4294967296 := x.toNat_lt
                  have l2 : y.toNat < 4294967296 := y.toNat_lt
                  go_wp2
                  go_region
                  go_wp2
                  go_round
                  case rel =>
                    refine ⟨a + 1, by omega, by go_num, ?_⟩
                    rw [u32_add, E.out]
                    exact rv_drew (rv_seth HRH.out a _)
                  case measure => simp [intOf]; omega
                · obtain rfl : a = 8 := by omega
                  have k8 := ok8_of HR.h8 (off := 0) (by omega)
                  have r8 : row8 wr w.heap.size 0 = uA 8 (hF h V 8) := row8_u HR.h8
                  have n8 := u8_full (hF h V 8)
                  have ko := ok8_of HR.o8 (off := 0) (by omega)
                  obtain ⟨q1, q2⟩ := put8_row HR.o8 0 (uA 8 (hF h V 8)) (by omega) n8
                  have q1 := q1.congr (g := uV (hF h V 8)) (fun i hi => by
                    rw [if_pos (by omega)]
                    simp [uA, uV, hi])
                  have kr := ok8_of q1 (off := 0) (by omega)
                  have rr8 := row8_u q1
                  have BL := Lib.hid (below_grown HR.below q2 (fun g hg => by cases hg; omega))
                  have E : Hid (uA 8 (hF h V 8) = uA 8 (roundsF h k (fun i => byteAt s i))) := Lib.hid (uA_congr fun i hi => by
                    rw [hF_eq, if_pos hi, ← HV.out, ← HW1.out, ← HW.out]; rfl)
                  have HP := Lib.hid (row_block8 q1)
                  clear HR q1 q2
                  rw [show ((8 : Nat) : Int) = 8 from rfl]
                  go_wp2
                  exact bodyPost_ret (v := .agg (uA 8 (hF h V 8))) (results_cell_row rfl _ _ (w.heap.size + 1) 89 _ (0, 0) _ rfl HP.out Try.underlying89 rfl (by rw [uA_size]; kernel_rfl)) rfl ⟨by rw [E.out], BL.out⟩
end Go.Proofs.Ytfoandpcoakcjaa
