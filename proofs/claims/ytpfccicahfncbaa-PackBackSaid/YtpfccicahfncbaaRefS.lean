/- Walk: the reference's sum. No conditions. -/
import Derived.Test.YtpfccicahfncbaaRefFix
import Derived.Test.YtpfccicahfncbaaDig3
import Derived.Test.YtpfccicahfncbaaLd
import Derived.Deep.QuietTactic
import Derived.BigQuiet
import Derived.Deep.DeepCutAuto
namespace Go.Proofs.Ytpfccicahfncbaa
open Go.RowKit Dig
set_option linter.unusedVariables false
set_option linter.unusedSimpArgs false
attribute [local go_sem ↓] execOp_ld8 execOp_st8 execOp_ld32 execOp_st32
attribute [local go_sem] run_ld8 run_st8 run_ld32 run_st32
/-- What the walk keeps at hand: the eight numbers, the constants, the place for the answer. -/
structure Rs (w wr : World) (h : Nat → UInt32) : Prop where
  h8 : wr.rowIs w.heap.size 139 8 (uV h)
  k64 : wr.rowIs (w.heap.size + 1) 143 64 (uV kF)
  o32 : wr.rowIs (w.heap.size + 1 + 1) 42 32 (fun _ => .int .u8 0)
  below : Below w.heap.size w wr
theorem Rs.mono {w wr w' : World} {h : Nat → UInt32} (R : Rs w wr h) (hb : Below (w.heap.size + 1 + 1 + 1) wr w') : Rs w w' h :=
  ⟨R.h8.of_block (hb.block _ (by omega)), R.k64.of_block (hb.block _ (by omega)), R.o32.of_block (hb.block _ (by omega)), R.below.trans (hb.mono (by omega))⟩
theorem rs_new (w : World) : Rs w (((w.alloc (.cells (uA 8 firstF) 139)).alloc (.cells (uA 64 kF) 143)).alloc zeroId) firstF := by
  have e1 : (w.alloc (.cells (uA 8 firstF) 139)).heap.size = w.heap.size + 1 := by simp
  have e2 : ((w.alloc (.cells (uA 8 firstF) 139)).alloc (.cells (uA 64 kF) 143)).heap.size = w.heap.size + 1 + 1 := by simp
  have z1 := u64_row (w.alloc (.cells (uA 8 firstF) 139)) kF 143
  have z2 := zeros_row ((w.alloc (.cells (uA 8 firstF) 139)).alloc (.cells (uA 64 kF) 143)) (T := 42) (c := _) (n := 32) (z := .int .u8 0) (by rfl)
  rw [e1] at z1
  rw [e2] at z2
  exact ⟨((u8_row w firstF _).alloc _).alloc _, z1.alloc _, z2, (((Below.refl _ _).alloc (Nat.le_refl _) _).alloc (by omega) _).alloc (by omega) _⟩
/-- The bytes of the message so far: all of s, the mark, zeros. -/
def mF (s : ByteArray) : Nat → Value := fun j => .int .u8 (((if j < s.size then byteAt s j else if j = s.size then 128 else 0 : UInt8).toNat : Int))
theorem mF_start (s S : ByteArray) (h : s ++ { data := #[128] } = S) (j : Nat) (hj : j < S.size) : Value.int .u8 ((S.data.toList.getD j 0).toNat : Int) = mF s j := by
  have Sz : S.size = s.size + 1 := by rw [← h, ByteArray.size_append]; rfl
  show Value.int .u8 ((byteAt S j).toNat : Int) = _
  rw [← h, byteAt_app]
  unfold mF
  by_cases e : j < s.size
  · rw [if_pos e, if_pos e]
  · rw [if_neg e, if_neg e, if_pos (by omega), show j - s.size = 0 by omega]; rfl
theorem mF_grow (s : ByteArray) (L j : Nat) (hL : s.size + 1 ≤ L) : (if j = L then Value.int .u8 0 else mF s j) = mF s j := by
  by_cases e : j = L
  · rw [if_pos e]; unfold mF; rw [if_neg (by omega), if_neg (by omega)]; rfl
  · rw [if_neg e]
theorem mF_end (s : ByteArray) (hs : 8 * s.size < 18446744073709551616) (M : Nat) (hM : M = s.size + 1 + gapN s.size) (j : Nat) (hj : j < M + 8) : thenStr (mF s) M (bs (be8 (8 * s.size))) j = u8V (padF (byteAt s) s.size (blk s.size)) j := by
  have hg := gap_blk s.size
  unfold thenStr u8V padF mF
  by_cases h1 : j < M
  · rw [if_pos h1]
    by_cases h2 : j < s.size
    · rw [if_pos h2, if_pos h2]
    · rw [if_neg h2, if_neg h2]
      by_cases h3 : j = s.size
      · rw [if_pos h3, if_pos h3]
      · rw [if_neg h3, if_neg h3, if_pos (by omega)]
  · rw [if_neg h1, if_neg (by omega), if_neg (by omega), if_neg (by omega), bs_data, Nat.mod_eq_of_lt hs]
    unfold be8
    have : j - M < 8 := by omega
    simp only [List.getD_eq_getElem?_getD, List.getElem?_map, List.getElem?_range this, Option.map_some, Option.getD_some]
    rw [show 7 - (j - M) = 64 * blk s.size - 1 - j by omega]
theorem full8_lit (a b c d e f g h : Int) : full8 #[.int .u32 a, .int .u32 b, .int .u32 c, .int .u32 d, .int .u32 e, .int .u32 f, .int .u32 g, .int .u32 h] = true := by
  unfold full8
  rw [Bool.and_eq_true]
  refine ⟨rfl, ?_⟩
  rw [Array.all_eq_true_iff_forall_mem]
  intro v hv
  simp only [List.mem_toArray, List.mem_cons, List.not_mem_nil, or_false] at hv
  rcases hv with rfl | rfl | rfl | rfl | rfl | rfl | rfl | rfl <;> rfl
def lF (b : Nat → UInt8) (t : Nat) : Nat → UInt32 := fun j => if j < t then ldF b 64 j else 0
theorem lF_end (b : Nat → UInt8) (j : Nat) : lF b 16 j = ldF b 64 j := by
  unfold lF
  by_cases h : j < 16
  · rw [if_pos h]
  · rw [if_neg h, ld_zero b j 64 (by omega)]
theorem lF_next (b : Nat → UInt8) (t : Nat) (ht : t < 16) : upd (lF b t) t (wdF b t) = lF b (t + 1) := by
  funext j
  unfold upd lF
  by_cases e : j = t
  · subst e; rw [if_pos rfl, if_pos (by omega), ld_word4 b j ht]
  · rw [if_neg e]
    by_cases h : j < t
    · rw [if_pos h, if_pos (by omega)]
    · rw [if_neg h, if_neg (by omega)]
def zero64 : Obj := .cells #[Value.int .u32 0, Value.int .u32 0, Value.int .u32 0, Value.int .u32 0, Value.int .u32 0, Value.int .u32 0, Value.int .u32 0, Value.int .u32 0, Value.int .u32 0, Value.int .u32 0, Value.int .u32 0, Value.int .u32 0, Value.int .u32 0, Value.int .u32 0, Value.int .u32 0, Value.int .u32 0, Value.int .u32 0, Value.int .u32 0, Value.int .u32 0, Value.int .u32 0, Value.int .u32 0, Value.int .u32 0, Value.int .u32 0, Value.int .u32 0, Value.int .u32 0, Value.int .u32 0, Value.int .u32 0, Value.int .u32 0, Value.int .u32 0, Value.int .u32 0, Value.int .u32 0, Value.int .u32 0, Value.int .u32 0, Value.int .u32 0, Value.int .u32 0, Value.int .u32 0, Value.int .u32 0, Value.int .u32 0, Value.int .u32 0, Value.int .u32 0, Value.int .u32 0, Value.int .u32 0, Value.int .u32 0, Value.int .u32 0, Value.int .u32 0, Value.int .u32 0, Value.int .u32 0, Value.int .u32 0, Value.int .u32 0, Value.int .u32 0, Value.int .u32 0, Value.int .u32 0, Value.int .u32 0, Value.int .u32 0, Value.int .u32 0, Value.int .u32 0, Value.int .u32 0, Value.int .u32 0, Value.int .u32 0, Value.int .u32 0, Value.int .u32 0, Value.int .u32 0, Value.int .u32 0, Value.int .u32 0] 143
theorem zero64_row (w : World) : (w.alloc zero64).rowIs w.heap.size 143 64 (uV fun _ => 0) :=
  zeros_row w (T := 143) (n := 64) (z := .int .u32 0) (c := #[Value.int .u32 0, Value.int .u32 0, Value.int .u32 0, Value.int .u32 0, Value.int .u32 0, Value.int .u32 0, Value.int .u32 0, Value.int .u32 0, Value.int .u32 0, Value.int .u32 0, Value.int .u32 0, Value.int .u32 0, Value.int .u32 0, Value.int .u32 0, Value.int .u32 0, Value.int .u32 0, Value.int .u32 0, Value.int .u32 0, Value.int .u32 0, Value.int .u32 0, Value.int .u32 0, Value.int .u32 0, Value.int .u32 0, Value.int .u32 0, Value.int .u32 0, Value.int .u32 0, Value.int .u32 0, Value.int .u32 0, Value.int .u32 0, Value.int .u32 0, Value.int .u32 0, Value.int .u32 0, Value.int .u32 0, Value.int .u32 0, Value.int .u32 0, Value.int .u32 0, Value.int .u32 0, Value.int .u32 0, Value.int .u32 0, Value.int .u32 0, Value.int .u32 0, Value.int .u32 0, Value.int .u32 0, Value.int .u32 0, Value.int .u32 0, Value.int .u32 0, Value.int .u32 0, Value.int .u32 0, Value.int .u32 0, Value.int .u32 0, Value.int .u32 0, Value.int .u32 0, Value.int .u32 0, Value.int .u32 0, Value.int .u32 0, Value.int .u32 0, Value.int .u32 0, Value.int .u32 0, Value.int .u32 0, Value.int .u32 0, Value.int .u32 0, Value.int .u32 0, Value.int .u32 0, Value.int .u32 0]) (by kernel_rfl)
/-- What stands at hand inside the great loop. -/
structure Rl (w wr : World) (h : Nat → UInt32) (g tot cap : Nat) (P : Nat → UInt8) : Prop where
  rs : Rs w wr h
  buf : bufIs wr 5 g tot cap (u8V P)
  big : w.heap.size + 1 + 1 + 1 ≤ g
theorem wd_bits2 (b0 b1 b2 b3 : UInt8) :
    bits .or .u32 (bits .or .u32 (bits .or .u32 ((b0.toNat : Int) * 16777216) ((b1.toNat : Int) * 65536)) ((b2.toNat : Int) * 256)) (b3.toNat : Int)
      = ((UInt32.ofNat b0.toNat <<< UInt32.ofNat 24 ||| UInt32.ofNat b1.toNat <<< UInt32.ofNat 16 ||| UInt32.ofNat b2.toNat <<< UInt32.ofNat 8 ||| UInt32.ofNat b3.toNat).toNat : Int) := by
  have l0 := b0.toNat_lt
  have l1 := b1.toNat_lt
  have l2 := b2.toNat_lt
  have h := wd_bits b0 b1 b2 b3
  rw [show (b0.toNat : Int) * 16777216 % 4294967296 = (b0.toNat : Int) * 16777216 by omega, show (b1.toNat : Int) * 65536 % 4294967296 = (b1.toNat : Int) * 65536 by omega, show (b2.toNat : Int) * 256 % 4294967296 = (b2.toNat : Int) * 256 by omega] at h
  exact h
theorem sched_wrap (xa xb xc xd : UInt32) :
    IntKind.u32.wrap (IntKind.u32.wrap (IntKind.u32.wrap (bits .xor .u32 (bits .xor .u32 ((rr xb 17).toNat : Int) ((rr xb 19).toNat : Int)) ((xb.toNat : Int) / 1024) + (xc.toNat : Int)) +
      bits .xor .u32 (bits .xor .u32 ((rr xa 7).toNat : Int) ((rr xa 18).toNat : Int)) ((xa.toNat : Int) / 8)) + (xd.toNat : Int)) = ((sg1 xb + xc + sg0 xa + xd).toNat : Int) := by
  have h1 := u32_shrW xb 10 (by omega)
  have h2 := u32_shrW xa 3 (by omega)
  rw [show (2 : Int) ^ 10 = 1024 from rfl] at h1
  rw [show (2 : Int) ^ 3 = 8 from rfl] at h2
  rw [h1, h2, u32_xorW, u32_xorW, u32_xorW, u32_xorW, u32_addW, u32_addW, u32_addW]; rfl
theorem t1_wrap (x7 x4 x5 x6 k x : UInt32) :
    IntKind.u32.wrap (IntKind.u32.wrap (IntKind.u32.wrap (IntKind.u32.wrap ((x7.toNat : Int) + bits .xor .u32 (bits .xor .u32 ((rr x4 6).toNat : Int) ((rr x4 11).toNat : Int)) ((rr x4 25).toNat : Int)) +
      bits .xor .u32 (bits .and .u32 (x4.toNat : Int) (x5.toNat : Int)) (bits .and .u32 (bits .xor .u32 IntKind.u32.max (x4.toNat : Int)) (x6.toNat : Int))) + (k.toNat : Int)) + (x.toNat : Int))
      = ((x7 + rr3 x4 6 11 25 + (x4 &&& x5 ^^^ ~~~ x4 &&& x6) + k + x).toNat : Int) := by
  rw [t1_sum x7 x4 x5 x6 k x, u32_xorW, u32_xorW, u32_addW, u32_addW, u32_addW, u32_addW]; rfl
theorem t2_wrap (x0 x1 x2 : UInt32) :
    IntKind.u32.wrap (bits .xor .u32 (bits .xor .u32 ((rr x0 2).toNat : Int) ((rr x0 13).toNat : Int)) ((rr x0 22).toNat : Int) +
      bits .xor .u32 (bits .xor .u32 (bits .and .u32 (x0.toNat : Int) (x1.toNat : Int)) (bits .and .u32 (x0.toNat : Int) (x2.toNat : Int))) (bits .and .u32 (x1.toNat : Int) (x2.toNat : Int)))
      = ((rr3 x0 2 13 22 + (x0 &&& x1 ^^^ x0 &&& x2 ^^^ x1 &&& x2)).toNat : Int) := by
  rw [t2_sum, u32_xorW, u32_xorW, u32_addW]; rfl
theorem t1_mod (x7 x4 x5 x6 k x : UInt32) :
    (((((x7.toNat : Int) + bits .xor .u32 (bits .xor .u32 ((rr x4 6).toNat : Int) ((rr x4 11).toNat : Int)) ((rr x4 25).toNat : Int)) % 4294967296 +
      bits .xor .u32 (bits .and .u32 (x4.toNat : Int) (x5.toNat : Int)) (bits .and .u32 (bits .xor .u32 IntKind.u32.max (x4.toNat : Int)) (x6.toNat : Int))) % 4294967296 + (k.toNat : Int)) % 4294967296 + (x.toNat : Int)) % 4294967296
      = ((x7 + rr3 x4 6 11 25 + (x4 &&& x5 ^^^ ~~~ x4 &&& x6) + k + x).toNat : Int) := by
  have h := t1_wrap x7 x4 x5 x6 k x
  simp only [IntKind.wrap_u32'] at h
  exact h
theorem t2_mod (x0 x1 x2 : UInt32) :
    (bits .xor .u32 (bits .xor .u32 ((rr x0 2).toNat : Int) ((rr x0 13).toNat : Int)) ((rr x0 22).toNat : Int) +
      bits .xor .u32 (bits .xor .u32 (bits .and .u32 (x0.toNat : Int) (x1.toNat : Int)) (bits .and .u32 (x0.toNat : Int) (x2.toNat : Int))) (bits .and .u32 (x1.toNat : Int) (x2.toNat : Int))) % 4294967296
      = ((rr3 x0 2 13 22 + (x0 &&& x1 ^^^ x0 &&& x2 ^^^ x1 &&& x2)).toNat : Int) := by
  have h := t2_wrap x0 x1 x2
  simp only [IntKind.wrap_u32'] at h
  exact h
theorem rd_lit (v : Nat → UInt32) (k x T1 T2 : UInt32) (h1 : t1F v k x = T1) (h2 : t2F v = T2) :
    (#[.int .u32 (((T1 + T2).toNat : Nat) : Int), .int .u32 ((v 0).toNat : Int), .int .u32 ((v 1).toNat : Int), .int .u32 ((v 2).toNat : Int), .int .u32 (((v 3 + T1).toNat : Nat) : Int), .int .u32 ((v 4).toNat : Int), .int .u32 ((v 5).toNat : Int), .int .u32 ((v 6).toNat : Int)] : Array Value) = uA 8 (rdF v k x) := by
  subst h1 h2; rfl
theorem sched_mod (xa xb xc xd : UInt32) :
    (((bits .xor .u32 (bits .xor .u32 ((rr xb 17).toNat : Int) ((rr xb 19).toNat : Int)) ((xb.toNat : Int) / 1024) + (xc.toNat : Int)) % 4294967296 +
      bits .xor .u32 (bits .xor .u32 ((rr xa 7).toNat : Int) ((rr xa 18).toNat : Int)) ((xa.toNat : Int) / 8)) % 4294967296 + (xd.toNat : Int)) % 4294967296 = ((sg1 xb + xc + sg0 xa + xd).toNat : Int) := by
  have h := sched_wrap xa xb xc xd
  simp only [IntKind.wrap_u32'] at h
  exact h
/-- What stands at hand inside a block's rounds. -/
structure Rq (w wr : World) (h : Nat → UInt32) (g tot cap : Nat) (P : Nat → UInt8) (B V : Nat) (W v : Nat → UInt32) : Prop where
  rl : Rl w wr h g tot cap P
  ws : wr.rowIs B 143 64 (uV W)
  v8 : wr.rowIs V 139 8 (uV v)
  gB : g < B
  BV : B < V
theorem Rl.mono {w wr w' : World} {h : Nat → UInt32} {g tot cap B : Nat} {P : Nat → UInt8} (R : Rl w wr h g tot cap P) (hb : Below B wr w') (hB : g < B) : Rl w w' h g tot cap P :=
  ⟨R.rs.mono (hb.mono (by have := R.big; omega)), R.buf.below hb hB, R.big⟩
theorem rq_put {w wr : World} {h : Nat → UInt32} {g tot cap : Nat} {P : Nat → UInt8} {B V : Nat} {W v u : Nat → UInt32} (R : Rq w wr h g tot cap P B V W v) : Rq w (put8 wr V 0 (uA 8 u)) h g tot cap P B V W u := by
  obtain ⟨q1, q2⟩ := put8_row R.v8 0 (uA 8 u) (by omega) (u8_full u)
  have q1 := q1.congr (g := uV u) (fun i hi => by
    rw [if_pos (by omega)]
    simp [uA, uV, hi])
  have hV := R.v8.lt
  have D : Below V wr (put8 wr V 0 (uA 8 u)) := Below.grown (Below.refl _ _) q2 (by omega) (fun k hk => by cases hk; exact Nat.le_refl _)
  exact ⟨R.rl.mono D (by have := R.gB; have := R.BV; omega), R.ws.of_block (D.block _ R.BV), q1, R.gB, R.BV⟩
theorem rq_drewN {w wr : World} {h : Nat → UInt32} {g tot cap : Nat} {P : Nat → UInt8} {B V : Nat} {W v : Nat → UInt32} (R : Rq w wr h g tot cap P B V W v) (n : Nat) : Rq w (wr.drewN n) h g tot cap P B V W v :=
  ⟨R.rl.mono (below_drewN (Below.refl (g + 1) wr) n) (by omega), R.ws, R.v8, R.gB, R.BV⟩
/-- One of the eight numbers is written. -/
theorem rq_seth {w wr : World} {h : Nat → UInt32} {g tot cap : Nat} {P : Nat → UInt8} {B V : Nat} {W v : Nat → UInt32} (R : Rq w wr h g tot cap P B V W v) (i : Nat) (x : UInt32) : Rq w (wr.setCell ⟨w.heap.size, i, none⟩ (.int .u32 (x.toNat : Int))).drew (upd h i x) g tot cap P B V W v := by
  have h1 := R.gB
  have h2 := R.BV
  have h3 := R.rl.big
  have e : ∀ k, k ≠ w.heap.size → (wr.setCell ⟨w.heap.size, i, none⟩ (.int .u32 (x.toNat : Int))).drew.heap[k]? = wr.heap[k]? := fun k hk => Below.heap_setCell wr ⟨w.heap.size, i, none⟩ _ k hk
  exact ⟨⟨⟨(R.rl.rs.h8.set i _).congr fun x _ => uV_upd _ _ _ _, R.rl.rs.k64.of_block (e _ (by omega)), R.rl.rs.o32.of_block (e _ (by omega)), (R.rl.rs.below.setCell (by simp) _).drew⟩, R.rl.buf.of_block (e _ (by omega)), h3⟩, R.ws.of_block (e _ (by omega)), R.v8.of_block (e _ (by omega)), h1, h2⟩
set_option maxRecDepth 100000 in
set_option maxHeartbeats 0 in
theorem refSum_big (s : ByteArray) (w : World) (hs : s.size ≤ 140737488351232) :
    Calls Try.prog 95 #[.string s, .agg (uA 8 firstF), .agg (uA 64 kF)] w fun e w' => e = .returned (.agg (idA (shaF (byteAt s) s.size))) ∧ Below w.heap.size w w' := by
  have R0 := Lib.hid (rs_new w)
  obtain ⟨S, hS⟩ : ∃ S, s ++ { data := #[128] } = S := ⟨_, rfl⟩
  have HS := Lib.hid hS
  have Sz : S.size = s.size + 1 := by rw [← hS, ByteArray.size_append]; rfl
  have HZ := Lib.hid Sz
  have hcat : ¬ 9223372036854775807 < s.size + 1 := by omega
  obtain ⟨M, hM⟩ : ∃ M, s.size + 1 + gapN s.size = M := ⟨_, rfl⟩
  have HM : Hid (s.size + 1 + gapN s.size = M ∧ M + 8 = 64 * blk s.size ∧ M ≤ s.size + 64) := Lib.hid ⟨hM, by have := gap_blk s.size; omega, by unfold gapN at hM; omega⟩
  have hz8 : s.size ≤ 140737488351232 := hs
  clear Sz hM hs
  go_enter Try.func95, Try.ntmps95
  go_upto_region 1 with fail
  change Code.wp _ _ _ _ (((w.alloc (.cells (uA 8 firstF) 139)).alloc (.cells (uA 64 kF) 143)).alloc zeroId)
  have hbig : Hid (w.heap.size + 1 + 1 + 1 ≤ (((w.alloc (.cells (uA 8 firstF) 139)).alloc (.cells (uA 64 kF) 143)).alloc zeroId).heap.size) := Lib.hid (by simp)
  generalize ((w.alloc (.cells (uA 8 firstF) 139)).alloc (.cells (uA 64 kF) 143)).alloc zeroId = w1 at R0 hbig ⊢
  go_wp2_with (with_reducible refine conv_bytes_wp (e := 5) (by kernel_rfl) (by kernel_rfl) (by kernel_rfl) rfl _ rfl S rfl ?_; intro cap w2 hc2 hg2)
  have R2 : Hid (Rs w w2 firstF ∧ bufIs w2 5 w1.heap.size S.size cap (mF s) ∧ w.heap.size + 1 + 1 + 1 ≤ w1.heap.size ∧ w.heap.size + 1 + 1 + 1 ≤ w2.heap.size) := Lib.hid ⟨R0.out.mono (Below.grown (Below.refl _ _) hg2 hbig.out (fun k hk => by cases hk)), hc2.congr (fun j hj => mF_start s S HS.out j hj), hbig.out, Nat.le_trans hbig.out hg2.size⟩
  clear hc2 hg2 hS hcat
  generalize w1.heap.size = g0 at R2 ⊢
  have I5 := elemByte.info
  obtain ⟨i5, i5a, i5b, i5c, i5d⟩ := I5
  have II := Lib.hid (And.intro i5a (And.intro i5b (And.intro i5c i5d)))
  clear i5a i5b i5c i5d
  go_loopw [7] (fun v wr => ∃ L g cap : Nat, S.size ≤ L ∧ L ≤ M ∧ v = .slice (some ⟨g, 0, none⟩) L cap ∧ Hid (Rs w wr firstF ∧ bufIs wr 5 g L cap (mF s) ∧ w.heap.size + 1 + 1 + 1 ≤ g ∧ w.heap.size + 1 + 1 + 1 ≤ wr.heap.size)) (fun v _ => M - (match v with | .slice _ n _ => n | _ => 0))
  case atStart => exact ⟨S.size, g0, cap, Nat.le_refl _, by have := HM.out; have := HZ.out; omega, rfl, R2⟩
  case round =>
    obtain ⟨L, g, cp, hL1, hL2, rfl, HR⟩ := hrel
    obtain ⟨r, hr⟩ : ∃ r, L % 64 = r := ⟨_, rfl⟩
    have hri : (L : Int).tmod 64 = (r : Int) := by rw [Int.tmod_eq_emod_of_nonneg (by omega)]; omega
    have hLz : L ≤ 140737488351296 := by have := HM.out; omega
    have HLL := Lib.hid (And.intro hL1 hL2)
    by_cases hlt : L < M
    · have hr56 : ¬ (r : Int) = 56 := by have := HM.out; have := HZ.out; omega
      clear hr hL1 hL2
      go_wp2_with (with_reducible refine append_one_wp rfl _ _ _ rfl 5 (by kernel_rfl) i5 II.out.1 II.out.2.1 II.out.2.2.1 II.out.2.2.2 g L cp (mF s) rfl HR.out.2.1 (.int .u8 0) wr.heap.size rfl rfl rfl (by omega) ?_; intro g' cp' w' hb' hg' hd')
      go_roundw
      case rel =>
        refine ⟨L + 1, g', cp', by have := HLL.out; omega, by omega, rfl, Lib.hid ⟨HR.out.1.mono (Below.grown (Below.refl _ _) hg' HR.out.2.2.2 (fun k hk => by cases hk; exact HR.out.2.2.1)), hb'.congr (fun j _ => mF_grow s L j (by have := HLL.out; have := HZ.out; omega)), ?_, Nat.le_trans HR.out.2.2.2 hg'.size⟩⟩
        have := HR.out.2.2.1
        have := HR.out.2.2.2
        rcases hd' with hd' | hd' <;> omega
      case measure => simp; omega
    · have hr56 : (r : Int) = 56 := by have := HM.out; omega
      obtain rfl : L = M := by omega
      obtain ⟨n, hn⟩ : ∃ n, s.size = n := ⟨_, rfl⟩
      obtain ⟨N, hN⟩ : ∃ N, 8 * n = N := ⟨_, rfl⟩
      have hN3 : 8 * (n : Int) = (N : Int) := by omega
      have hN2 : N ≤ 1125899906809856 := by omega
      have hN4 : IntKind.u64.wrap (N : Int) = (N : Int) := by rw [IntKind.wrap_u64]; omega
      have hN5 : IntKind.u64.wrap (n : Int) = (n : Int) := by rw [IntKind.wrap_u64]; omega
      have HN := Lib.hid (And.intro hn hN)
      have bz : (bs (be8 N)).size = 8 := by rw [bs_size, be8_length]
      clear hN hr hL1 hL2 hlt
      go_wp2_with fail
      refine (rfixed8_any N _ (by omega)).mono ?_; rintro e w3 ⟨rfl, hb3⟩
      have R3 : Hid (Rs w w3 firstF ∧ bufIs w3 5 g L cp (mF s) ∧ w.heap.size + 1 + 1 + 1 ≤ g ∧ w.heap.size + 1 + 1 + 1 ≤ w3.heap.size) := Lib.hid ⟨HR.out.1.mono (hb3.mono HR.out.2.2.2), HR.out.2.1.below hb3 HR.out.2.1.lt, HR.out.2.2.1, Nat.le_trans HR.out.2.2.2 hb3.size⟩
      clear hb3
      go_wp2_with (with_reducible refine append_str_wp rfl _ _ _ 9 rfl 5 (by kernel_rfl) (by kernel_rfl) i5 II.out.1 II.out.2.1 II.out.2.2.1 II.out.2.2.2 g L cp (mF s) rfl R3.out.2.1 (bs (be8 N)) rfl (by rw [bz]; omega) ?_; intro g' cp' w4 hb' hg' hd')
      obtain ⟨tb, htb⟩ : ∃ tb, blk s.size = tb := ⟨_, rfl⟩
      obtain ⟨tot, htot⟩ : ∃ tot, L + 8 = tot := ⟨_, rfl⟩
      rw [bz, htot] at hb'
      rw [htot]
      have HT : Hid (blk s.size = tb ∧ tot = 64 * tb ∧ tot ≤ 140737488351316) := Lib.hid ⟨htb, by have := HM.out; omega, by omega⟩
      obtain ⟨P, hP⟩ : ∃ P, padF (byteAt s) s.size tb = P := ⟨_, rfl⟩
      have HP := Lib.hid hP
      have R4 : Hid (Rl w w4 firstF g' tot cp' P) := Lib.hid ⟨R3.out.1.mono (Below.grown (Below.refl _ _) hg' R3.out.2.2.2 (fun k hk => by cases hk; exact R3.out.2.2.1)), hb'.congr (fun j hj => by
        rw [← hP, ← htb, ← HN.out.2, ← HN.out.1]
        exact mF_end s (by omega) L HM.out.1.symm j (by omega)), by
          have := R3.out.2.2.1
          have := R3.out.2.2.2
          rcases hd' with hd' | hd' <;> omega⟩
      have htt : tot ≤ 140737488351316 := HT.out.2.2
      have hcc : tot ≤ cp' := R4.out.buf.le
      clear hb' hg' hd' htb htot hP hr56 hri hn hN3 hN4 hN5 hN2 bz hLz hz8
      go_loopw [8] (fun a wr => ∃ m : Nat, m ≤ tb ∧ a = .int .i64 ((64 * m : Nat) : Int) ∧ Hid (Rl w wr (hsF P m) g' tot cp' P)) (fun a _ => tot - (intOf a).toNat)
      case atStart => exact ⟨0, by omega, rfl, R4⟩
      case round =>
        obtain ⟨m, hm, rfl, HR⟩ := hrel
        obtain ⟨q, hq⟩ : ∃ q, 64 * m = q := ⟨_, rfl⟩
        rw [hq]
        have HQ := Lib.hid hq
        by_cases hlt : m < tb
        · have hqt : q + 64 ≤ tot := by have := HT.out.2.1; omega
          have hqd : q < tot := by omega
          have hdd : decide (q < tot) = true := by simp; omega
          have HMT := Lib.hid hlt
          clear hq hlt hm
          obtain ⟨b, hb⟩ : ∃ b, (fun i => P (q + i)) = b := ⟨_, rfl⟩
          have HB := Lib.hid hb
          clear hb
          have Z3 : Hid (Rl w (wr.alloc zero64) (hsF P m) g' tot cp' P ∧ (wr.alloc zero64).rowIs wr.heap.size 143 64 (uV (lF b 0)) ∧ wr.heap.size > g') := Lib.hid ⟨HR.out.mono ((Below.refl wr.heap.size wr).alloc (Nat.le_refl _) _) HR.out.buf.lt, zero64_row wr, HR.out.buf.lt⟩
          go_upto_region 9 with fail
          change Code.wp _ _ _ _ (wr.alloc zero64)
          generalize wr.alloc zero64 = wA at Z3 ⊢
          obtain ⟨B, hB⟩ : ∃ B, wr.heap.size = B := ⟨_, rfl⟩
          rw [hB] at Z3 ⊢
          have GB : Hid (g' < B) := Lib.hid Z3.out.2.2
          clear hB
          go_wp2
          go_loopw [10] (fun a wx => ∃ t : Nat, t ≤ 16 ∧ a = .int .i64 (t : Int) ∧ Hid (Rl w wx (hsF P m) g' tot cp' P ∧ wx.rowIs B 143 64 (uV (lF b t)))) (fun a _ => 16 - (intOf a).toNat)
          case atStart => exact ⟨0, by omega, rfl, Lib.hid ⟨Z3.out.1, Z3.out.2.1⟩⟩
          case round =>
            obtain ⟨t, ht, rfl, HX⟩ := hrel
            by_cases ht16 : t < 16
            · obtain ⟨f4, hf4⟩ : ∃ f4, 4 * t = f4 := ⟨_, rfl⟩
              obtain ⟨z, hz⟩ : ∃ z, q + f4 = z := ⟨_, rfl⟩
              have hf4i : (4 : Int) * (t : Int) = (f4 : Int) := by omega
              have hzi : (q : Int) + (f4 : Int) = (z : Int) := by omega
              have hz4 : z + 4 ≤ tot := by omega
              obtain ⟨d, hd⟩ : ∃ d, tot - z = d := ⟨_, rfl⟩
              obtain ⟨e, he⟩ : ∃ e, cp' - z = e := ⟨_, rfl⟩
              have hd4 : 4 ≤ d := by omega
              have hzt : z ≤ tot := by omega
              have hzc : z ≤ cp' := by omega
              have c0 := HX.out.1.buf.cell (j := z) (by omega)
              have c1 := HX.out.1.buf.cell (j := z + 1) (by omega)
              have c2 := HX.out.1.buf.cell (j := z + 2) (by omega)
              have c3 := HX.out.1.buf.cell (j := z + 3) (by omega)
              simp only [u8V] at c0 c1 c2 c3
              obtain ⟨v, cv⟩ : ∃ v, wr.cell? ⟨B, t, none⟩ = some v := ⟨_, HX.out.2.cell (by omega)⟩
              have fv := HX.out.2.frozen t
              have WD : Hid (wdF b t = UInt32.ofNat (P z).toNat <<< UInt32.ofNat 24 ||| UInt32.ofNat (P (z + 1)).toNat <<< UInt32.ofNat 16 ||| UInt32.ofNat (P (z + 2)).toNat <<< UInt32.ofNat 8 ||| UInt32.ofNat (P (z + 3)).toNat) := Lib.hid (by
                rw [← HB.out]; unfold wdF; dsimp only
                rw [show q + 4 * t = z by omega, show q + (4 * t + 1) = z + 1 by omega, show q + (4 * t + 2) = z + 2 by omega, show q + (4 * t + 3) = z + 3 by omega])
              have l0 := (P z).toNat_lt
              have l1 := (P (z + 1)).toNat_lt
              have l2 := (P (z + 2)).toNat_lt
              have l3 := (P (z + 3)).toNat_lt
              generalize P z = p0 at c0 l0 WD
              generalize P (z + 1) = p1 at c1 l1 WD
              generalize P (z + 2) = p2 at c2 l2 WD
              generalize P (z + 3) = p3 at c3 l3 WD
              clear hf4 hz
              go_wp2
              --BEGIN3
              go_region
              go_wp2
              go_round
              case rel =>
                refine ⟨t + 1, by omega, by go_num, ?_⟩
                rw [wd_bits2, ← WD.out]
                exact Lib.hid ⟨HX.out.1.mono (((Below.refl B _).setCell (Nat.le_refl _) _).drew) GB.out, ((HX.out.2.set t _).congr fun x _ => by rw [uV_upd, lF_next b t (by omega)])⟩
              case measure => simp [intOf]; omega
              --END3
            · obtain rfl : t = 16 := by omega
              have W4 : Hid (Rl w wr (hsF P m) g' tot cp' P ∧ wr.rowIs B 143 64 (uV (scF (ldF b 64) 0))) := Lib.hid ⟨HX.out.1, HX.out.2.congr fun x _ => by unfold uV; rw [lF_end]; rfl⟩
              obtain ⟨W0, hW0⟩ : ∃ W0, ldF b 64 = W0 := ⟨_, rfl⟩
              rw [hW0] at W4
              have HW0 := Lib.hid hW0
              clear hW0 ht ht16 HX
              rw [show ((16 : Nat) : Int) = 16 from rfl]
              go_wp2
              go_loopw [12] (fun a wx => ∃ T : Nat, 16 ≤ T ∧ T ≤ 64 ∧ a = .int .i64 (T : Int) ∧ Hid (Rl w wx (hsF P m) g' tot cp' P ∧ wx.rowIs B 143 64 (uV (scF W0 (T - 16))))) (fun a _ => 64 - (intOf a).toNat)
              case atStart => exact ⟨16, by omega, by omega, rfl, W4⟩
              case round =>
                obtain ⟨T, hT0, hT, rfl, HX⟩ := hrel
                by_cases hT64 : T < 64
                · --BEGIN4
                  obtain ⟨a1, ha1⟩ : ∃ a, T - 15 = a := ⟨_, rfl⟩
                  obtain ⟨a2, ha2⟩ : ∃ a, T - 2 = a := ⟨_, rfl⟩
                  obtain ⟨a3, ha3⟩ : ∃ a, T - 7 = a := ⟨_, rfl⟩
                  obtain ⟨a4, ha4⟩ : ∃ a, T - 16 = a := ⟨_, rfl⟩
                  have q1 : (T : Int) - 15 = (a1 : Int) := by omega
                  have q2 : (T : Int) - 2 = (a2 : Int) := by omega
                  have q3 : (T : Int) - 7 = (a3 : Int) := by omega
                  have q4 : (T : Int) - 16 = (a4 : Int) := by omega
                  have HE := Lib.hid (show a1 = a4 + 1 ∧ a2 = a4 + 14 ∧ a3 = a4 + 9 ∧ T = a4 + 16 ∧ T + 1 - 16 = a4 + 1 by omega)
                  have i1 : a1 < 64 := by omega
                  have i2 : a2 < 64 := by omega
                  have i3 : a3 < 64 := by omega
                  have i4 : a4 < 64 := by omega
                  rw [ha4] at HX
                  have e1 := HX.out.2.cell i1
                  have e2 := HX.out.2.cell i2
                  have e3 := HX.out.2.cell i3
                  have e4 := HX.out.2.cell i4
                  have fT := HX.out.2.frozen T
                  obtain ⟨vT, cT⟩ : ∃ v, wr.cell? ⟨B, T, none⟩ = some v := ⟨_, HX.out.2.cell hT64⟩
                  have ne3 : ({ block := B, off := T, spot := none } : Addr) ≠ ⟨B, a3, none⟩ := by intro e; injection e with _ e; omega
                  have ne4 : ({ block := B, off := T, spot := none } : Addr) ≠ ⟨B, a4, none⟩ := by intro e; injection e with _ e; omega
                  have wr3 : IntKind.i64.wrap (a3 : Int) = (a3 : Int) := IntWalk.i64_in _ (by omega)
                  have wr4 : IntKind.i64.wrap (a4 : Int) = (a4 : Int) := IntWalk.i64_in _ (by omega)
                  have j3 : (a3 : Int) < 64 := by omega
                  have j4 : (a4 : Int) < 64 := by omega
                  have jT : (T : Int) < 64 := by omega
                  clear ha1 ha2 ha3 ha4
                  simp only [uV] at e1 e2 e3 e4
                  generalize hxa : scF W0 a4 a1 = xa at e1
                  generalize hxb : scF W0 a4 a2 = xb at e2
                  generalize hxc : scF W0 a4 a3 = xc at e3
                  generalize hxd : scF W0 a4 a4 = xd at e4
                  have HXX := Lib.hid (show _ ∧ _ ∧ _ ∧ _ from ⟨hxa, hxb, hxc, hxd⟩)
                  clear hxa hxb hxc hxd
                  have la32 : xa.toNat < 4294967296 := xa.toNat_lt
                  have lb32 : xb.toNat < 4294967296 := xb.toNat_lt
                  have lc32 : xc.toNat < 4294967296 := xc.toNat_lt
                  have ld32 : xd.toNat < 4294967296 := xd.toNat_lt
                  go_wp2
                  refine wp_region_held_drew (S := fun w' => w'.cell? ⟨B, a3, none⟩ = some (.int .u32 (xc.toNat : Int)) ∧ w'.cell? ⟨B, a4, none⟩ = some (.int .u32 (xd.toNat : Int))) (by kernel_rfl) (by first | exact ⟨e3, e4⟩ | exact ⟨(World.cell?_setCell_other _ _ _ _ ne3).trans e3, (World.cell?_setCell_other _ _ _ _ ne4).trans e4⟩) (fun hHeld => ?_)
                  refine wpAnyH_take (i := 0) (oi := _) (v := _) rfl (by kernel_rfl) (by kernel_rfl) (by kernel_rfl) (fun _ _ _ h => h) (Or.inl ⟨by rfl, by (intro w hSw; (try dsimp only at hSw); go_simp; first | done | with_reducible rfl)⟩) (by assumption) ?_
                  (try simp only [Act.put, List.setIfInBounds_toArray, List.set_cons_zero, List.set_cons_succ])
                  refine wpAnyH_take (i := 1) (oi := _) (v := _) rfl (by kernel_rfl) (by kernel_rfl) (by kernel_rfl) (fun _ _ _ h => h) (Or.inl ⟨by rfl, by (intro w hSw; (try dsimp only at hSw); go_simp; first | done | with_reducible rfl)⟩) (by assumption) ?_
                  (try simp only [Act.put, List.setIfInBounds_toArray, List.set_cons_zero, List.set_cons_succ])
                  refine wpAnyH_take (i := 3) (oi := _) (v := _) rfl (by kernel_rfl) (by kernel_rfl) (by kernel_rfl) (fun _ _ _ h => h) (Or.inl ⟨by rfl, by (intro w hSw; (try dsimp only at hSw); go_simp; first | done | with_reducible rfl)⟩) (by assumption) ?_
                  (try simp only [Act.put, List.setIfInBounds_toArray, List.set_cons_zero, List.set_cons_succ])
                  refine wpAnyH_take (i := 6) (oi := _) (v := _) rfl (by kernel_rfl) (by kernel_rfl) (by kernel_rfl) (fun _ _ _ h => h) (Or.inl ⟨by rfl, by (intro w hSw; (try dsimp only at hSw); go_simp; first | done | with_reducible rfl)⟩) (by assumption) ?_
                  (try simp only [Act.put, List.setIfInBounds_toArray, List.set_cons_zero, List.set_cons_succ])
                  refine wpAnyH_take (i := 7) (oi := _) (v := _) rfl (by kernel_rfl) (by kernel_rfl) (by kernel_rfl) (fun _ _ _ h => h) (Or.inl ⟨by rfl, by (intro w hSw; (try dsimp only at hSw); go_simp; first | done | with_reducible rfl)⟩) (by assumption) ?_
                  (try simp only [Act.put, List.setIfInBounds_toArray, List.set_cons_zero, List.set_cons_succ])
                  refine wpAnyH_take (i := 9) (oi := _) (v := _) rfl (by kernel_rfl) (by kernel_rfl) (by kernel_rfl) (fun _ _ _ h => h) (Or.inl ⟨by rfl, by (intro w hSw; (try dsimp only at hSw); go_simp; first | done | with_reducible rfl)⟩) (by assumption) ?_
                  (try simp only [Act.put, List.setIfInBounds_toArray, List.set_cons_zero, List.set_cons_succ])
                  refine wpAnyH_take (i := 10) (oi := _) (v := _) rfl (by kernel_rfl) (by kernel_rfl) (by kernel_rfl) (fun _ _ _ h => h) (Or.inl ⟨by rfl, by (intro w hSw; (try dsimp only at hSw); go_simp; first | done | with_reducible rfl)⟩) (by assumption) ?_
                  (try simp only [Act.put, List.setIfInBounds_toArray, List.set_cons_zero, List.set_cons_succ])
                  refine wpAnyH_take (i := 11) (oi := _) (v := _) rfl (by kernel_rfl) (by kernel_rfl) (by kernel_rfl) (fun _ _ _ h => h) (Or.inl ⟨by rfl, by (intro w hSw; (try dsimp only at hSw); go_simp; first | done | with_reducible rfl)⟩) (by assumption) ?_
                  (try simp only [Act.put, List.setIfInBounds_toArray, List.set_cons_zero, List.set_cons_succ])
                  refine wpAnyH_take (i := 12) (oi := _) (v := _) rfl (by kernel_rfl) (by kernel_rfl) (by kernel_rfl) (fun _ _ _ h => h) (Or.inl ⟨by rfl, by (intro w hSw; (try dsimp only at hSw); go_simp; first | done | with_reducible rfl)⟩) (by assumption) ?_
                  (try simp only [Act.put, List.setIfInBounds_toArray, List.set_cons_zero, List.set_cons_succ])
                  refine wpAnyH_take (i := 14) (oi := _) (v := _) rfl (by kernel_rfl) (by kernel_rfl) (by kernel_rfl) (fun _ _ _ h => h) (Or.inl ⟨by rfl, by (intro w hSw; (try dsimp only at hSw); go_simp; first | done | with_reducible rfl)⟩) (by assumption) ?_
                  (try simp only [Act.put, List.setIfInBounds_toArray, List.set_cons_zero, List.set_cons_succ])
                  refine wpAnyH_take (i := 16) (oi := _) (v := _) rfl (by kernel_rfl) (by kernel_rfl) (by kernel_rfl) (fun _ _ _ h => h) (Or.inl ⟨by rfl, by (intro w hSw; (try dsimp only at hSw); go_simp; first | done | with_reducible rfl)⟩) (by assumption) ?_
                  (try simp only [Act.put, List.setIfInBounds_toArray, List.set_cons_zero, List.set_cons_succ])
                  refine wpAnyH_take (i := 19) (oi := _) (v := _) rfl (by kernel_rfl) (by kernel_rfl) (by kernel_rfl) (fun _ _ _ h => h) (Or.inl ⟨by rfl, by (intro w hSw; (try dsimp only at hSw); go_simp; first | done | with_reducible rfl)⟩) (by assumption) ?_
                  (try simp only [Act.put, List.setIfInBounds_toArray, List.set_cons_zero, List.set_cons_succ])
                  refine wpAnyH_take (i := 20) (oi := _) (v := _) rfl (by kernel_rfl) (by kernel_rfl) (by kernel_rfl) (fun _ _ _ h => h) (Or.inl ⟨by rfl, by (intro w hSw; (try dsimp only at hSw); go_simp; first | done | with_reducible rfl)⟩) (by assumption) ?_
                  (try simp only [Act.put, List.setIfInBounds_toArray, List.set_cons_zero, List.set_cons_succ])
                  refine wpAnyH_take (i := 23) (oi := _) (v := _) rfl (by kernel_rfl) (by kernel_rfl) (by kernel_rfl) (fun _ _ _ h => h) (Or.inl ⟨by rfl, by (intro w hSw; (try dsimp only at hSw); go_simp; first | done | with_reducible rfl)⟩) (by assumption) ?_
                  (try simp only [Act.put, List.setIfInBounds_toArray, List.set_cons_zero, List.set_cons_succ])
                  refine wpAnyH_take (i := 24) (oi := _) (v := _) rfl (by kernel_rfl) (by kernel_rfl) (by kernel_rfl) (fun _ _ _ h => h) (Or.inl ⟨by rfl, by (intro w hSw; (try dsimp only at hSw); go_simp; first | done | with_reducible rfl)⟩) (by assumption) ?_
                  (try simp only [Act.put, List.setIfInBounds_toArray, List.set_cons_zero, List.set_cons_succ])
                  refine wpAnyH_take (i := 25) (oi := _) (v := _) rfl (by kernel_rfl) (by kernel_rfl) (by kernel_rfl) (fun _ _ _ h => h) (Or.inl ⟨by rfl, by (intro w hSw; (try dsimp only at hSw); go_simp; first | done | with_reducible rfl)⟩) (by assumption) ?_
                  (try simp only [Act.put, List.setIfInBounds_toArray, List.set_cons_zero, List.set_cons_succ])
                  refine wpAnyH_take (i := 26) (oi := _) (v := _) rfl (by kernel_rfl) (by kernel_rfl) (by kernel_rfl) (fun _ _ _ h => h) (Or.inl ⟨by rfl, by (intro w hSw; (try dsimp only at hSw); go_simp; first | done | with_reducible rfl)⟩) (by assumption) ?_
                  (try simp only [Act.put, List.setIfInBounds_toArray, List.set_cons_zero, List.set_cons_succ])
                  refine wpAnyH_ready (rs := [2]) (by kernel_rfl) (by simp) (AllReadyH.cons rfl (fun K hK => ?_) AllReadyH.nil)
                  try simp only [List.getElem_toArray, List.getElem_cons_succ, List.getElem_cons_zero]
                  go_simp
                  go_at_call 106
                  refine (turn_any xb 17 (by omega) (by omega) _).mono ?_
                  rintro e w' ⟨rfl, k1, rfl⟩
                  go_simp
                  refine hK.out _ _ (by first | exact ⟨e3, e4⟩ | exact ⟨(World.cell?_setCell_other _ _ _ _ ne3).trans e3, (World.cell?_setCell_other _ _ _ _ ne4).trans e4⟩) (fun hHeld => ?_)
                  clear hK K
                  (try simp only [Act.put, List.setIfInBounds_toArray, List.set_cons_zero, List.set_cons_succ])
                  refine wpAnyH_ready (rs := [4]) (by kernel_rfl) (by simp) (AllReadyH.cons rfl (fun K hK => ?_) AllReadyH.nil)
                  try simp only [List.getElem_toArray, List.getElem_cons_succ, List.getElem_cons_zero]
                  go_simp
                  go_at_call 106
                  refine (turn_any xb 19 (by omega) (by omega) _).mono ?_
                  rintro e w' ⟨rfl, k2, rfl⟩
                  go_simp
                  refine hK.out _ _ (by first | exact ⟨e3, e4⟩ | exact ⟨(World.cell?_setCell_other _ _ _ _ ne3).trans e3, (World.cell?_setCell_other _ _ _ _ ne4).trans e4⟩) (fun hHeld => ?_)
                  clear hK K
                  (try simp only [Act.put, List.setIfInBounds_toArray, List.set_cons_zero, List.set_cons_succ])
                  refine wpAnyH_take (i := 5) (oi := _) (v := _) rfl (by kernel_rfl) (by kernel_rfl) (by kernel_rfl) (fun _ _ _ h => h) (Or.inl ⟨by rfl, by (intro w hSw; (try dsimp only at hSw); go_simp; first | done | with_reducible rfl)⟩) (by assumption) ?_
                  (try simp only [Act.put, List.setIfInBounds_toArray, List.set_cons_zero, List.set_cons_succ])
                  refine wpAnyH_take (i := 8) (oi := _) (v := _) rfl (by kernel_rfl) (by kernel_rfl) (by kernel_rfl) (fun _ _ _ h => h) (Or.inl ⟨by rfl, by (intro w hSw; (try dsimp only at hSw); go_simp; first | done | with_reducible rfl)⟩) (by assumption) ?_
                  (try simp only [Act.put, List.setIfInBounds_toArray, List.set_cons_zero, List.set_cons_succ])
                  refine wpAnyH_take (i := 13) (oi := _) (v := _) rfl (by kernel_rfl) (by kernel_rfl) (by kernel_rfl) (fun _ _ _ h => h) (Or.inl ⟨by rfl, by (intro w hSw; (try dsimp only at hSw); go_simp; first | done | with_reducible rfl)⟩) (by assumption) ?_
                  (try simp only [Act.put, List.setIfInBounds_toArray, List.set_cons_zero, List.set_cons_succ])
                  refine wpAnyH_ready (rs := [15]) (by kernel_rfl) (by simp) (AllReadyH.cons rfl (fun K hK => ?_) AllReadyH.nil)
                  try simp only [List.getElem_toArray, List.getElem_cons_succ, List.getElem_cons_zero]
                  go_simp
                  go_at_call 106
                  refine (turn_any xa 7 (by omega) (by omega) _).mono ?_
                  rintro e w' ⟨rfl, k3, rfl⟩
                  go_simp
                  refine hK.out _ _ (by first | exact ⟨e3, e4⟩ | exact ⟨(World.cell?_setCell_other _ _ _ _ ne3).trans e3, (World.cell?_setCell_other _ _ _ _ ne4).trans e4⟩) (fun hHeld => ?_)
                  clear hK K
                  (try simp only [Act.put, List.setIfInBounds_toArray, List.set_cons_zero, List.set_cons_succ])
                  refine wpAnyH_ready (rs := [17]) (by kernel_rfl) (by simp) (AllReadyH.cons rfl (fun K hK => ?_) AllReadyH.nil)
                  try simp only [List.getElem_toArray, List.getElem_cons_succ, List.getElem_cons_zero]
                  go_simp
                  go_at_call 106
                  refine (turn_any xa 18 (by omega) (by omega) _).mono ?_
                  rintro e w' ⟨rfl, k4, rfl⟩
                  go_simp
                  refine hK.out _ _ (by first | exact ⟨e3, e4⟩ | exact ⟨(World.cell?_setCell_other _ _ _ _ ne3).trans e3, (World.cell?_setCell_other _ _ _ _ ne4).trans e4⟩) (fun hHeld => ?_)
                  clear hK K
                  (try simp only [Act.put, List.setIfInBounds_toArray, List.set_cons_zero, List.set_cons_succ])
                  refine wpAnyH_take (i := 18) (oi := _) (v := _) rfl (by kernel_rfl) (by kernel_rfl) (by kernel_rfl) (fun _ _ _ h => h) (Or.inl ⟨by rfl, by (intro w hSw; (try dsimp only at hSw); go_simp; first | done | with_reducible rfl)⟩) (by assumption) ?_
                  (try simp only [Act.put, List.setIfInBounds_toArray, List.set_cons_zero, List.set_cons_succ])
                  refine wpAnyH_take (i := 21) (oi := _) (v := _) rfl (by kernel_rfl) (by kernel_rfl) (by kernel_rfl) (fun _ _ _ h => h) (Or.inl ⟨by rfl, by (intro w hSw; (try dsimp only at hSw); go_simp; first | done | with_reducible rfl)⟩) (by assumption) ?_
                  (try simp only [Act.put, List.setIfInBounds_toArray, List.set_cons_zero, List.set_cons_succ])
                  refine wpAnyH_take (i := 22) (oi := _) (v := _) rfl (by kernel_rfl) (by kernel_rfl) (by kernel_rfl) (fun _ _ _ h => h) (Or.inl ⟨by rfl, by (intro w hSw; (try dsimp only at hSw); go_simp; first | done | with_reducible rfl)⟩) (by assumption) ?_
                  (try simp only [Act.put, List.setIfInBounds_toArray, List.set_cons_zero, List.set_cons_succ])
                  refine wpAnyH_take (i := 27) (oi := _) (v := _) rfl (by kernel_rfl) (by kernel_rfl) (by kernel_rfl) (fun _ _ _ h => h) (Or.inl ⟨by rfl, by (intro w hSw; (try dsimp only at hSw); go_simp; first | done | with_reducible rfl)⟩) (by assumption) ?_
                  (try simp only [Act.put, List.setIfInBounds_toArray, List.set_cons_zero, List.set_cons_succ])
                  refine wpAnyH_take (i := 28) (oi := _) (v := _) rfl (by kernel_rfl) (by kernel_rfl) (by kernel_rfl) (fun _ _ _ h => h) (Or.inl ⟨by rfl, by (intro w hSw; (try dsimp only at hSw); go_simp; first | done | with_reducible rfl)⟩) (by assumption) ?_
                  (try simp only [Act.put, List.setIfInBounds_toArray, List.set_cons_zero, List.set_cons_succ])
                  refine wpAnyH_ready (rs := [29]) (by kernel_rfl) (by simp) (AllReadyH.cons rfl (fun K hK => ?_) AllReadyH.nil)
                  try simp only [List.getElem_toArray, List.getElem_cons_succ, List.getElem_cons_zero]
                  go_simp
                  refine hK.out _ _ (by first | exact ⟨e3, e4⟩ | exact ⟨(World.cell?_setCell_other _ _ _ _ ne3).trans e3, (World.cell?_setCell_other _ _ _ _ ne4).trans e4⟩) (fun hHeld => ?_)
                  clear hK K
                  (try simp only [Act.put, List.setIfInBounds_toArray, List.set_cons_zero, List.set_cons_succ])
                  refine wpAnyH_done (by kernel_rfl) ?_ _
                  go_wp2
                  go_roundw
                  case rel =>
                    refine ⟨T + 1, by omega, by omega, by go_num, ?_⟩
                    first | rw [sched_wrap, HE.out.2.2.2.2] | rw [sched_mod, HE.out.2.2.2.2] | rw [sched_word, HE.out.2.2.2.2]
                    have e : scF W0 (a4 + 1) = upd (scF W0 a4) T (sg1 xb + xc + sg0 xa + xd) := by
                      rw [scF, ← HXX.out.1, ← HXX.out.2.1, ← HXX.out.2.2.1, ← HXX.out.2.2.2, HE.out.1, HE.out.2.1, HE.out.2.2.1, HE.out.2.2.2.1]
                    refine Lib.hid ⟨HX.out.1.mono ((below_drewN (Below.refl B _) _).setCell (Nat.le_refl _) _) GB.out, ?_⟩
                    exact ((show (World.drewN _ _).rowIs B 143 64 (uV (scF W0 a4)) from HX.out.2).set T _).congr fun x _ => by rw [uV_upd, e]
                  case measure => simp [intOf]; omega
                  --END4
                · obtain rfl : T = 64 := by omega
                  obtain ⟨W1, hW1⟩ : ∃ W1, scF W0 (64 - 16) = W1 := ⟨_, rfl⟩
                  rw [hW1] at HX
                  have HW1 := Lib.hid hW1
                  have k8 := ok8_of HX.out.1.rs.h8 (off := 0) (by omega)
                  have r8 : row8 wr w.heap.size 0 = uA 8 (hsF P m) := row8_u HX.out.1.rs.h8
                  have n8 := u8_full (hsF P m)
                  have z1 := zeros_row wr (T := 139) (n := 8) (z := .int .u32 0) (c := #[Value.int .u32 0, Value.int .u32 0, Value.int .u32 0, Value.int .u32 0, Value.int .u32 0, Value.int .u32 0, Value.int .u32 0, Value.int .u32 0]) rfl
                  have kW : ok8 (wr.alloc (.cells #[Value.int .u32 0, Value.int .u32 0, Value.int .u32 0, Value.int .u32 0, Value.int .u32 0, Value.int .u32 0, Value.int .u32 0, Value.int .u32 0] 139)) wr.heap.size 0 = true := ok8_of z1 (by omega)
                  obtain ⟨q1, q2⟩ := put8_row z1 0 (uA 8 (hsF P m)) (by omega) n8
                  have q1 := q1.congr (g := uV (hsF P m)) (fun i hi => by
                    rw [if_pos (by omega)]
                    simp [uA, uV, hi])
                  have D := below_grown ((Below.refl wr.heap.size wr).alloc (Nat.le_refl _) _) q2 (fun g hg => by cases hg; exact Nat.le_refl _)
                  have RQ : Hid (Rq w (put8 (wr.alloc (.cells #[Value.int .u32 0, Value.int .u32 0, Value.int .u32 0, Value.int .u32 0, Value.int .u32 0, Value.int .u32 0, Value.int .u32 0, Value.int .u32 0] 139)) wr.heap.size 0 (uA 8 (hsF P m))) (hsF P m) g' tot cp' P B wr.heap.size W1 (hsF P m)) := Lib.hid
                    ⟨HX.out.1.mono D HX.out.1.buf.lt, HX.out.2.of_block (D.block _ HX.out.2.lt), q1, GB.out, HX.out.2.lt⟩
                  clear z1 q1 q2 D hW1 hT0 hT hT64
                  rw [show ((64 : Nat) : Int) = 64 from rfl]
                  go_wp2
                  generalize put8 (wr.alloc (.cells #[Value.int .u32 0, Value.int .u32 0, Value.int .u32 0, Value.int .u32 0, Value.int .u32 0, Value.int .u32 0, Value.int .u32 0, Value.int .u32 0] 139)) wr.heap.size 0 (uA 8 (hsF P m)) = w6 at RQ ⊢
                  obtain ⟨V, hV⟩ : ∃ V, wr.heap.size = V := ⟨_, rfl⟩
                  rw [hV] at RQ ⊢
                  clear hV kW k8 r8 n8
                  go_loopw [16] (fun a wx => ∃ t : Nat, t ≤ 64 ∧ a = .int .i64 (t : Int) ∧ Hid (Rq w wx (hsF P m) g' tot cp' P B V W1 (rdsF kF W1 (hsF P m) t))) (fun a _ => 64 - (intOf a).toNat)
                  case atStart => exact ⟨0, by omega, rfl, RQ⟩
                  case round =>
                    obtain ⟨t, ht, rfl, HY⟩ := hrel
                    by_cases ht64 : t < 64
                    · --BEGIN5
                      have ck := HY.out.rl.rs.k64.cell ht64
                      have cw := HY.out.ws.cell ht64
                      have y0 := HY.out.v8.cell (i := 0) (by omega)
                      have y1 := HY.out.v8.cell (i := 1) (by omega)
                      have y2 := HY.out.v8.cell (i := 2) (by omega)
                      have y3 := HY.out.v8.cell (i := 3) (by omega)
                      have y4 := HY.out.v8.cell (i := 4) (by omega)
                      have y5 := HY.out.v8.cell (i := 5) (by omega)
                      have y6 := HY.out.v8.cell (i := 6) (by omega)
                      have y7 := HY.out.v8.cell (i := 7) (by omega)
                      have kv := ok8_of HY.out.v8 (off := 0) (by omega)
                      simp only [uV] at ck cw y0 y1 y2 y3 y4 y5 y6 y7
                      generalize hx0 : rdsF kF W1 (hsF P m) t 0 = x0 at y0
                      generalize hx1 : rdsF kF W1 (hsF P m) t 1 = x1 at y1
                      generalize hx2 : rdsF kF W1 (hsF P m) t 2 = x2 at y2
                      generalize hx3 : rdsF kF W1 (hsF P m) t 3 = x3 at y3
                      generalize hx4 : rdsF kF W1 (hsF P m) t 4 = x4 at y4
                      generalize hx5 : rdsF kF W1 (hsF P m) t 5 = x5 at y5
                      generalize hx6 : rdsF kF W1 (hsF P m) t 6 = x6 at y6
                      generalize hx7 : rdsF kF W1 (hsF P m) t 7 = x7 at y7
                      have HXS := Lib.hid (show _ ∧ _ ∧ _ ∧ _ ∧ _ ∧ _ ∧ _ ∧ _ from ⟨hx0, hx1, hx2, hx3, hx4, hx5, hx6, hx7⟩)
                      clear hx0 hx1 hx2 hx3 hx4 hx5 hx6 hx7
                      have l0 : x0.toNat < 4294967296 := x0.toNat_lt
                      have l1 : x1.toNat < 4294967296 := x1.toNat_lt
                      have l2 : x2.toNat < 4294967296 := x2.toNat_lt
                      have l3 : x3.toNat < 4294967296 := x3.toNat_lt
                      have l4 : x4.toNat < 4294967296 := x4.toNat_lt
                      have l5 : x5.toNat < 4294967296 := x5.toNat_lt
                      have l6 : x6.toNat < 4294967296 := x6.toNat_lt
                      have l7 : x7.toNat < 4294967296 := x7.toNat_lt
                      have FL := full8_lit
                      go_wp2_with fail
                      have jt : (t : Int) < 64 := by omega
                      have kvn : ∀ n, ok8 (wr.drewN n) V 0 = true := fun _ => kv
                      refine wp_region_held_drew (S := fun w' => w'.cell? ⟨V, 7, none⟩ = some (.int .u32 (x7.toNat : Int)) ∧ w'.cell? ⟨V, 5, none⟩ = some (.int .u32 (x5.toNat : Int)) ∧ w'.cell? ⟨V, 6, none⟩ = some (.int .u32 (x6.toNat : Int)) ∧ w'.cell? ⟨w.heap.size + 1, t, none⟩ = some (.int .u32 ((kF t).toNat : Int)) ∧ w'.cell? ⟨B, t, none⟩ = some (.int .u32 ((W1 t).toNat : Int))) (by kernel_rfl) (by exact ⟨y7, y5, y6, ck, cw⟩) (fun hHeld => ?_)
                      refine wpAnyH_take (i := 0) (oi := _) (v := _) rfl (by kernel_rfl) (by kernel_rfl) (by kernel_rfl) (fun _ _ _ h => h) (Or.inl ⟨by rfl, by (intro w hSw; (try dsimp only at hSw); go_simp; first | done | with_reducible rfl)⟩) (by assumption) ?_
                      (try simp only [Act.put, List.setIfInBounds_toArray, List.set_cons_zero, List.set_cons_succ])
                      refine wpAnyH_take (i := 1) (oi := _) (v := _) rfl (by kernel_rfl) (by kernel_rfl) (by kernel_rfl) (fun _ _ _ h => h) (Or.inl ⟨by rfl, by (intro w hSw; (try dsimp only at hSw); go_simp; first | done | with_reducible rfl)⟩) (by assumption) ?_
                      (try simp only [Act.put, List.setIfInBounds_toArray, List.set_cons_zero, List.set_cons_succ])
                      refine wpAnyH_take (i := 2) (oi := _) (v := _) rfl (by kernel_rfl) (by kernel_rfl) (by kernel_rfl) (fun _ _ _ h => h) (Or.inl ⟨by rfl, by (intro w hSw; (try dsimp only at hSw); go_simp; first | done | with_reducible rfl)⟩) (by assumption) ?_
                      (try simp only [Act.put, List.setIfInBounds_toArray, List.set_cons_zero, List.set_cons_succ])
                      refine wpAnyH_take (i := 4) (oi := _) (v := _) rfl (by kernel_rfl) (by kernel_rfl) (by kernel_rfl) (fun _ _ _ h => h) (Or.inl ⟨by rfl, by (intro w hSw; (try dsimp only at hSw); go_simp; first | done | with_reducible rfl)⟩) (by assumption) ?_
                      (try simp only [Act.put, List.setIfInBounds_toArray, List.set_cons_zero, List.set_cons_succ])
                      refine wpAnyH_take (i := 7) (oi := _) (v := _) rfl (by kernel_rfl) (by kernel_rfl) (by kernel_rfl) (fun _ _ _ h => h) (Or.inl ⟨by rfl, by (intro w hSw; (try dsimp only at hSw); go_simp; first | done | with_reducible rfl)⟩) (by assumption) ?_
                      (try simp only [Act.put, List.setIfInBounds_toArray, List.set_cons_zero, List.set_cons_succ])
                      refine wpAnyH_take (i := 11) (oi := _) (v := _) rfl (by kernel_rfl) (by kernel_rfl) (by kernel_rfl) (fun _ _ _ h => h) (Or.inl ⟨by rfl, by (intro w hSw; (try dsimp only at hSw); go_simp; first | done | with_reducible rfl)⟩) (by assumption) ?_
                      (try simp only [Act.put, List.setIfInBounds_toArray, List.set_cons_zero, List.set_cons_succ])
                      refine wpAnyH_take (i := 12) (oi := _) (v := _) rfl (by kernel_rfl) (by kernel_rfl) (by kernel_rfl) (fun _ _ _ h => h) (Or.inl ⟨by rfl, by (intro w hSw; (try dsimp only at hSw); go_simp; first | done | with_reducible rfl)⟩) (by assumption) ?_
                      (try simp only [Act.put, List.setIfInBounds_toArray, List.set_cons_zero, List.set_cons_succ])
                      refine wpAnyH_take (i := 13) (oi := _) (v := _) rfl (by kernel_rfl) (by kernel_rfl) (by kernel_rfl) (fun _ _ _ h => h) (Or.inl ⟨by rfl, by (intro w hSw; (try dsimp only at hSw); go_simp; first | done | with_reducible rfl)⟩) (by assumption) ?_
                      (try simp only [Act.put, List.setIfInBounds_toArray, List.set_cons_zero, List.set_cons_succ])
                      refine wpAnyH_take (i := 14) (oi := _) (v := _) rfl (by kernel_rfl) (by kernel_rfl) (by kernel_rfl) (fun _ _ _ h => h) (Or.inl ⟨by rfl, by (intro w hSw; (try dsimp only at hSw); go_simp; first | done | with_reducible rfl)⟩) (by assumption) ?_
                      (try simp only [Act.put, List.setIfInBounds_toArray, List.set_cons_zero, List.set_cons_succ])
                      refine wpAnyH_take (i := 15) (oi := _) (v := _) rfl (by kernel_rfl) (by kernel_rfl) (by kernel_rfl) (fun _ _ _ h => h) (Or.inl ⟨by rfl, by (intro w hSw; (try dsimp only at hSw); go_simp; first | done | with_reducible rfl)⟩) (by assumption) ?_
                      (try simp only [Act.put, List.setIfInBounds_toArray, List.set_cons_zero, List.set_cons_succ])
                      refine wpAnyH_take (i := 16) (oi := _) (v := _) rfl (by kernel_rfl) (by kernel_rfl) (by kernel_rfl) (fun _ _ _ h => h) (Or.inl ⟨by rfl, by (intro w hSw; (try dsimp only at hSw); go_simp; first | done | with_reducible rfl)⟩) (by assumption) ?_
                      (try simp only [Act.put, List.setIfInBounds_toArray, List.set_cons_zero, List.set_cons_succ])
                      refine wpAnyH_take (i := 17) (oi := _) (v := _) rfl (by kernel_rfl) (by kernel_rfl) (by kernel_rfl) (fun _ _ _ h => h) (Or.inl ⟨by rfl, by (intro w hSw; (try dsimp only at hSw); go_simp; first | done | with_reducible rfl)⟩) (by assumption) ?_
                      (try simp only [Act.put, List.setIfInBounds_toArray, List.set_cons_zero, List.set_cons_succ])
                      refine wpAnyH_take (i := 18) (oi := _) (v := _) rfl (by kernel_rfl) (by kernel_rfl) (by kernel_rfl) (fun _ _ _ h => h) (Or.inl ⟨by rfl, by (intro w hSw; (try dsimp only at hSw); go_simp; first | done | with_reducible rfl)⟩) (by assumption) ?_
                      (try simp only [Act.put, List.setIfInBounds_toArray, List.set_cons_zero, List.set_cons_succ])
                      refine wpAnyH_take (i := 19) (oi := _) (v := _) rfl (by kernel_rfl) (by kernel_rfl) (by kernel_rfl) (fun _ _ _ h => h) (Or.inl ⟨by rfl, by (intro w hSw; (try dsimp only at hSw); go_simp; first | done | with_reducible rfl)⟩) (by assumption) ?_
                      (try simp only [Act.put, List.setIfInBounds_toArray, List.set_cons_zero, List.set_cons_succ])
                      refine wpAnyH_take (i := 20) (oi := _) (v := _) rfl (by kernel_rfl) (by kernel_rfl) (by kernel_rfl) (fun _ _ _ h => h) (Or.inl ⟨by rfl, by (intro w hSw; (try dsimp only at hSw); go_simp; first | done | with_reducible rfl)⟩) (by assumption) ?_
                      (try simp only [Act.put, List.setIfInBounds_toArray, List.set_cons_zero, List.set_cons_succ])
                      refine wpAnyH_take (i := 22) (oi := _) (v := _) rfl (by kernel_rfl) (by kernel_rfl) (by kernel_rfl) (fun _ _ _ h => h) (Or.inl ⟨by rfl, by (intro w hSw; (try dsimp only at hSw); go_simp; first | done | with_reducible rfl)⟩) (by assumption) ?_
                      (try simp only [Act.put, List.setIfInBounds_toArray, List.set_cons_zero, List.set_cons_succ])
                      refine wpAnyH_take (i := 23) (oi := _) (v := _) rfl (by kernel_rfl) (by kernel_rfl) (by kernel_rfl) (fun _ _ _ h => h) (Or.inl ⟨by rfl, by (intro w hSw; (try dsimp only at hSw); go_simp; first | done | with_reducible rfl)⟩) (by assumption) ?_
                      (try simp only [Act.put, List.setIfInBounds_toArray, List.set_cons_zero, List.set_cons_succ])
                      refine wpAnyH_take (i := 24) (oi := _) (v := _) rfl (by kernel_rfl) (by kernel_rfl) (by kernel_rfl) (fun _ _ _ h => h) (Or.inl ⟨by rfl, by (intro w hSw; (try dsimp only at hSw); go_simp; first | done | with_reducible rfl)⟩) (by assumption) ?_
                      (try simp only [Act.put, List.setIfInBounds_toArray, List.set_cons_zero, List.set_cons_succ])
                      refine wpAnyH_take (i := 26) (oi := _) (v := _) rfl (by kernel_rfl) (by kernel_rfl) (by kernel_rfl) (fun _ _ _ h => h) (Or.inl ⟨by rfl, by (intro w hSw; (try dsimp only at hSw); go_simp; first | done | with_reducible rfl)⟩) (by assumption) ?_
                      (try simp only [Act.put, List.setIfInBounds_toArray, List.set_cons_zero, List.set_cons_succ])
                      refine wpAnyH_take (i := 27) (oi := _) (v := _) rfl (by kernel_rfl) (by kernel_rfl) (by kernel_rfl) (fun _ _ _ h => h) (Or.inl ⟨by rfl, by (intro w hSw; (try dsimp only at hSw); go_simp; first | done | with_reducible rfl)⟩) (by assumption) ?_
                      (try simp only [Act.put, List.setIfInBounds_toArray, List.set_cons_zero, List.set_cons_succ])
                      refine wpAnyH_take (i := 28) (oi := _) (v := _) rfl (by kernel_rfl) (by kernel_rfl) (by kernel_rfl) (fun _ _ _ h => h) (Or.inl ⟨by rfl, by (intro w hSw; (try dsimp only at hSw); go_simp; first | done | with_reducible rfl)⟩) (by assumption) ?_
                      (try simp only [Act.put, List.setIfInBounds_toArray, List.set_cons_zero, List.set_cons_succ])
                      refine wpAnyH_ready (rs := [3]) (by kernel_rfl) (by simp) (AllReadyH.cons rfl (fun K hK => ?_) AllReadyH.nil)
                      try simp only [List.getElem_toArray, List.getElem_cons_succ, List.getElem_cons_zero]
                      go_simp
                      go_at_call 106
                      refine (turn_any x4 6 (by omega) (by omega) _).mono ?_
                      rintro e w' ⟨rfl, k1, rfl⟩
                      go_simp
                      refine hK.out _ _ (by exact ⟨y7, y5, y6, ck, cw⟩) (fun hHeld => ?_)
                      clear hK K
                      (try simp only [Act.put, List.setIfInBounds_toArray, List.set_cons_zero, List.set_cons_succ])
                      refine wpAnyH_ready (rs := [5]) (by kernel_rfl) (by simp) (AllReadyH.cons rfl (fun K hK => ?_) AllReadyH.nil)
                      try simp only [List.getElem_toArray, List.getElem_cons_succ, List.getElem_cons_zero]
                      go_simp
                      go_at_call 106
                      refine (turn_any x4 11 (by omega) (by omega) _).mono ?_
                      rintro e w' ⟨rfl, k2, rfl⟩
                      go_simp
                      refine hK.out _ _ (by exact ⟨y7, y5, y6, ck, cw⟩) (fun hHeld => ?_)
                      clear hK K
                      (try simp only [Act.put, List.setIfInBounds_toArray, List.set_cons_zero, List.set_cons_succ])
                      refine wpAnyH_take (i := 6) (oi := _) (v := _) rfl (by kernel_rfl) (by kernel_rfl) (by kernel_rfl) (fun _ _ _ h => h) (Or.inl ⟨by rfl, by (intro w hSw; (try dsimp only at hSw); go_simp; first | done | with_reducible rfl)⟩) (by assumption) ?_
                      (try simp only [Act.put, List.setIfInBounds_toArray, List.set_cons_zero, List.set_cons_succ])
                      refine wpAnyH_ready (rs := [8]) (by kernel_rfl) (by simp) (AllReadyH.cons rfl (fun K hK => ?_) AllReadyH.nil)
                      try simp only [List.getElem_toArray, List.getElem_cons_succ, List.getElem_cons_zero]
                      go_simp
                      go_at_call 106
                      refine (turn_any x4 25 (by omega) (by omega) _).mono ?_
                      rintro e w' ⟨rfl, k3, rfl⟩
                      go_simp
                      refine hK.out _ _ (by exact ⟨y7, y5, y6, ck, cw⟩) (fun hHeld => ?_)
                      clear hK K
                      (try simp only [Act.put, List.setIfInBounds_toArray, List.set_cons_zero, List.set_cons_succ])
                      refine wpAnyH_take (i := 9) (oi := _) (v := _) rfl (by kernel_rfl) (by kernel_rfl) (by kernel_rfl) (fun _ _ _ h => h) (Or.inl ⟨by rfl, by (intro w hSw; (try dsimp only at hSw); go_simp; first | done | with_reducible rfl)⟩) (by assumption) ?_
                      (try simp only [Act.put, List.setIfInBounds_toArray, List.set_cons_zero, List.set_cons_succ])
                      refine wpAnyH_take (i := 10) (oi := _) (v := _) rfl (by kernel_rfl) (by kernel_rfl) (by kernel_rfl) (fun _ _ _ h => h) (Or.inl ⟨by rfl, by (intro w hSw; (try dsimp only at hSw); go_simp; first | done | with_reducible rfl)⟩) (by assumption) ?_
                      (try simp only [Act.put, List.setIfInBounds_toArray, List.set_cons_zero, List.set_cons_succ])
                      refine wpAnyH_take (i := 21) (oi := _) (v := _) rfl (by kernel_rfl) (by kernel_rfl) (by kernel_rfl) (fun _ _ _ h => h) (Or.inl ⟨by rfl, by (intro w hSw; (try dsimp only at hSw); go_simp; first | done | with_reducible rfl)⟩) (by assumption) ?_
                      (try simp only [Act.put, List.setIfInBounds_toArray, List.set_cons_zero, List.set_cons_succ])
                      refine wpAnyH_take (i := 25) (oi := _) (v := _) rfl (by kernel_rfl) (by kernel_rfl) (by kernel_rfl) (fun _ _ _ h => h) (Or.inl ⟨by rfl, by (intro w hSw; (try dsimp only at hSw); go_simp; first | done | with_reducible rfl)⟩) (by assumption) ?_
                      (try simp only [Act.put, List.setIfInBounds_toArray, List.set_cons_zero, List.set_cons_succ])
                      refine wpAnyH_take (i := 29) (oi := _) (v := _) rfl (by kernel_rfl) (by kernel_rfl) (by kernel_rfl) (fun _ _ _ h => h) (Or.inl ⟨by rfl, by (intro w hSw; (try dsimp only at hSw); go_simp; first | done | with_reducible rfl)⟩) (by assumption) ?_
                      (try simp only [Act.put, List.setIfInBounds_toArray, List.set_cons_zero, List.set_cons_succ])
                      refine wpAnyH_take (i := 30) (oi := _) (v := _) rfl (by kernel_rfl) (by kernel_rfl) (by kernel_rfl) (fun _ _ _ h => h) (Or.inl ⟨by rfl, by (intro w hSw; (try dsimp only at hSw); go_simp; first | done | with_reducible rfl)⟩) (by assumption) ?_
                      (try simp only [Act.put, List.setIfInBounds_toArray, List.set_cons_zero, List.set_cons_succ])
                      refine wpAnyH_done (by kernel_rfl) ?_ _
                      go_wp2_with fail
                      first | rw [t1_wrap] | rw [t1_mod]
                      generalize hT1 : x7 + rr3 x4 6 11 25 + (x4 &&& x5 ^^^ ~~~ x4 &&& x6) + kF t + W1 t = T1
                      have HT1 := Lib.hid hT1
                      clear hT1
                      have lT1 : T1.toNat < 4294967296 := T1.toNat_lt
                      refine wp_region_held_drew (S := fun w' => w'.cell? ⟨V, 1, none⟩ = some (.int .u32 (x1.toNat : Int)) ∧ w'.cell? ⟨V, 2, none⟩ = some (.int .u32 (x2.toNat : Int))) (by kernel_rfl) (by exact ⟨y1, y2⟩) (fun hHeld => ?_)
                      refine wpAnyH_take (i := 0) (oi := _) (v := _) rfl (by kernel_rfl) (by kernel_rfl) (by kernel_rfl) (fun _ _ _ h => h) (Or.inl ⟨by rfl, by (intro w hSw; (try dsimp only at hSw); go_simp; first | done | with_reducible rfl)⟩) (by assumption) ?_
                      (try simp only [Act.put, List.setIfInBounds_toArray, List.set_cons_zero, List.set_cons_succ])
                      refine wpAnyH_take (i := 2) (oi := _) (v := _) rfl (by kernel_rfl) (by kernel_rfl) (by kernel_rfl) (fun _ _ _ h => h) (Or.inl ⟨by rfl, by (intro w hSw; (try dsimp only at hSw); go_simp; first | done | with_reducible rfl)⟩) (by assumption) ?_
                      (try simp only [Act.put, List.setIfInBounds_toArray, List.set_cons_zero, List.set_cons_succ])
                      refine wpAnyH_take (i := 5) (oi := _) (v := _) rfl (by kernel_rfl) (by kernel_rfl) (by kernel_rfl) (fun _ _ _ h => h) (Or.inl ⟨by rfl, by (intro w hSw; (try dsimp only at hSw); go_simp; first | done | with_reducible rfl)⟩) (by assumption) ?_
                      (try simp only [Act.put, List.setIfInBounds_toArray, List.set_cons_zero, List.set_cons_succ])
                      refine wpAnyH_take (i := 8) (oi := _) (v := _) rfl (by kernel_rfl) (by kernel_rfl) (by kernel_rfl) (fun _ _ _ h => h) (Or.inl ⟨by rfl, by (intro w hSw; (try dsimp only at hSw); go_simp; first | done | with_reducible rfl)⟩) (by assumption) ?_
                      (try simp only [Act.put, List.setIfInBounds_toArray, List.set_cons_zero, List.set_cons_succ])
                      refine wpAnyH_take (i := 9) (oi := _) (v := _) rfl (by kernel_rfl) (by kernel_rfl) (by kernel_rfl) (fun _ _ _ h => h) (Or.inl ⟨by rfl, by (intro w hSw; (try dsimp only at hSw); go_simp; first | done | with_reducible rfl)⟩) (by assumption) ?_
                      (try simp only [Act.put, List.setIfInBounds_toArray, List.set_cons_zero, List.set_cons_succ])
                      refine wpAnyH_take (i := 10) (oi := _) (v := _) rfl (by kernel_rfl) (by kernel_rfl) (by kernel_rfl) (fun _ _ _ h => h) (Or.inl ⟨by rfl, by (intro w hSw; (try dsimp only at hSw); go_simp; first | done | with_reducible rfl)⟩) (by assumption) ?_
                      (try simp only [Act.put, List.setIfInBounds_toArray, List.set_cons_zero, List.set_cons_succ])
                      refine wpAnyH_take (i := 11) (oi := _) (v := _) rfl (by kernel_rfl) (by kernel_rfl) (by kernel_rfl) (fun _ _ _ h => h) (Or.inl ⟨by rfl, by (intro w hSw; (try dsimp only at hSw); go_simp; first | done | with_reducible rfl)⟩) (by assumption) ?_
                      (try simp only [Act.put, List.setIfInBounds_toArray, List.set_cons_zero, List.set_cons_succ])
                      refine wpAnyH_take (i := 12) (oi := _) (v := _) rfl (by kernel_rfl) (by kernel_rfl) (by kernel_rfl) (fun _ _ _ h => h) (Or.inl ⟨by rfl, by (intro w hSw; (try dsimp only at hSw); go_simp; first | done | with_reducible rfl)⟩) (by assumption) ?_
                      (try simp only [Act.put, List.setIfInBounds_toArray, List.set_cons_zero, List.set_cons_succ])
                      refine wpAnyH_take (i := 13) (oi := _) (v := _) rfl (by kernel_rfl) (by kernel_rfl) (by kernel_rfl) (fun _ _ _ h => h) (Or.inl ⟨by rfl, by (intro w hSw; (try dsimp only at hSw); go_simp; first | done | with_reducible rfl)⟩) (by assumption) ?_
                      (try simp only [Act.put, List.setIfInBounds_toArray, List.set_cons_zero, List.set_cons_succ])
                      refine wpAnyH_take (i := 14) (oi := _) (v := _) rfl (by kernel_rfl) (by kernel_rfl) (by kernel_rfl) (fun _ _ _ h => h) (Or.inl ⟨by rfl, by (intro w hSw; (try dsimp only at hSw); go_simp; first | done | with_reducible rfl)⟩) (by assumption) ?_
                      (try simp only [Act.put, List.setIfInBounds_toArray, List.set_cons_zero, List.set_cons_succ])
                      refine wpAnyH_take (i := 15) (oi := _) (v := _) rfl (by kernel_rfl) (by kernel_rfl) (by kernel_rfl) (fun _ _ _ h => h) (Or.inl ⟨by rfl, by (intro w hSw; (try dsimp only at hSw); go_simp; first | done | with_reducible rfl)⟩) (by assumption) ?_
                      (try simp only [Act.put, List.setIfInBounds_toArray, List.set_cons_zero, List.set_cons_succ])
                      refine wpAnyH_take (i := 16) (oi := _) (v := _) rfl (by kernel_rfl) (by kernel_rfl) (by kernel_rfl) (fun _ _ _ h => h) (Or.inl ⟨by rfl, by (intro w hSw; (try dsimp only at hSw); go_simp; first | done | with_reducible rfl)⟩) (by assumption) ?_
                      (try simp only [Act.put, List.setIfInBounds_toArray, List.set_cons_zero, List.set_cons_succ])
                      refine wpAnyH_take (i := 17) (oi := _) (v := _) rfl (by kernel_rfl) (by kernel_rfl) (by kernel_rfl) (fun _ _ _ h => h) (Or.inl ⟨by rfl, by (intro w hSw; (try dsimp only at hSw); go_simp; first | done | with_reducible rfl)⟩) (by assumption) ?_
                      (try simp only [Act.put, List.setIfInBounds_toArray, List.set_cons_zero, List.set_cons_succ])
                      refine wpAnyH_take (i := 18) (oi := _) (v := _) rfl (by kernel_rfl) (by kernel_rfl) (by kernel_rfl) (fun _ _ _ h => h) (Or.inl ⟨by rfl, by (intro w hSw; (try dsimp only at hSw); go_simp; first | done | with_reducible rfl)⟩) (by assumption) ?_
                      (try simp only [Act.put, List.setIfInBounds_toArray, List.set_cons_zero, List.set_cons_succ])
                      refine wpAnyH_take (i := 19) (oi := _) (v := _) rfl (by kernel_rfl) (by kernel_rfl) (by kernel_rfl) (fun _ _ _ h => h) (Or.inl ⟨by rfl, by (intro w hSw; (try dsimp only at hSw); go_simp; first | done | with_reducible rfl)⟩) (by assumption) ?_
                      (try simp only [Act.put, List.setIfInBounds_toArray, List.set_cons_zero, List.set_cons_succ])
                      refine wpAnyH_take (i := 20) (oi := _) (v := _) rfl (by kernel_rfl) (by kernel_rfl) (by kernel_rfl) (fun _ _ _ h => h) (Or.inl ⟨by rfl, by (intro w hSw; (try dsimp only at hSw); go_simp; first | done | with_reducible rfl)⟩) (by assumption) ?_
                      (try simp only [Act.put, List.setIfInBounds_toArray, List.set_cons_zero, List.set_cons_succ])
                      refine wpAnyH_take (i := 21) (oi := _) (v := _) rfl (by kernel_rfl) (by kernel_rfl) (by kernel_rfl) (fun _ _ _ h => h) (Or.inl ⟨by rfl, by (intro w hSw; (try dsimp only at hSw); go_simp; first | done | with_reducible rfl)⟩) (by assumption) ?_
                      (try simp only [Act.put, List.setIfInBounds_toArray, List.set_cons_zero, List.set_cons_succ])
                      refine wpAnyH_take (i := 22) (oi := _) (v := _) rfl (by kernel_rfl) (by kernel_rfl) (by kernel_rfl) (fun _ _ _ h => h) (Or.inl ⟨by rfl, by (intro w hSw; (try dsimp only at hSw); go_simp; first | done | with_reducible rfl)⟩) (by assumption) ?_
                      (try simp only [Act.put, List.setIfInBounds_toArray, List.set_cons_zero, List.set_cons_succ])
                      refine wpAnyH_ready (rs := [1]) (by kernel_rfl) (by simp) (AllReadyH.cons rfl (fun K hK => ?_) AllReadyH.nil)
                      try simp only [List.getElem_toArray, List.getElem_cons_succ, List.getElem_cons_zero]
                      go_simp
                      go_at_call 106
                      refine (turn_any x0 2 (by omega) (by omega) _).mono ?_
                      rintro e w' ⟨rfl, k4, rfl⟩
                      go_simp
                      refine hK.out _ _ (by exact ⟨y1, y2⟩) (fun hHeld => ?_)
                      clear hK K
                      (try simp only [Act.put, List.setIfInBounds_toArray, List.set_cons_zero, List.set_cons_succ])
                      refine wpAnyH_ready (rs := [3]) (by kernel_rfl) (by simp) (AllReadyH.cons rfl (fun K hK => ?_) AllReadyH.nil)
                      try simp only [List.getElem_toArray, List.getElem_cons_succ, List.getElem_cons_zero]
                      go_simp
                      go_at_call 106
                      refine (turn_any x0 13 (by omega) (by omega) _).mono ?_
                      rintro e w' ⟨rfl, k5, rfl⟩
                      go_simp
                      refine hK.out _ _ (by exact ⟨y1, y2⟩) (fun hHeld => ?_)
                      clear hK K
                      (try simp only [Act.put, List.setIfInBounds_toArray, List.set_cons_zero, List.set_cons_succ])
                      refine wpAnyH_take (i := 4) (oi := _) (v := _) rfl (by kernel_rfl) (by kernel_rfl) (by kernel_rfl) (fun _ _ _ h => h) (Or.inl ⟨by rfl, by (intro w hSw; (try dsimp only at hSw); go_simp; first | done | with_reducible rfl)⟩) (by assumption) ?_
                      (try simp only [Act.put, List.setIfInBounds_toArray, List.set_cons_zero, List.set_cons_succ])
                      refine wpAnyH_ready (rs := [6]) (by kernel_rfl) (by simp) (AllReadyH.cons rfl (fun K hK => ?_) AllReadyH.nil)
                      try simp only [List.getElem_toArray, List.getElem_cons_succ, List.getElem_cons_zero]
                      go_simp
                      go_at_call 106
                      refine (turn_any x0 22 (by omega) (by omega) _).mono ?_
                      rintro e w' ⟨rfl, k6, rfl⟩
                      go_simp
                      refine hK.out _ _ (by exact ⟨y1, y2⟩) (fun hHeld => ?_)
                      clear hK K
                      (try simp only [Act.put, List.setIfInBounds_toArray, List.set_cons_zero, List.set_cons_succ])
                      refine wpAnyH_take (i := 7) (oi := _) (v := _) rfl (by kernel_rfl) (by kernel_rfl) (by kernel_rfl) (fun _ _ _ h => h) (Or.inl ⟨by rfl, by (intro w hSw; (try dsimp only at hSw); go_simp; first | done | with_reducible rfl)⟩) (by assumption) ?_
                      (try simp only [Act.put, List.setIfInBounds_toArray, List.set_cons_zero, List.set_cons_succ])
                      refine wpAnyH_take (i := 23) (oi := _) (v := _) rfl (by kernel_rfl) (by kernel_rfl) (by kernel_rfl) (fun _ _ _ h => h) (Or.inl ⟨by rfl, by (intro w hSw; (try dsimp only at hSw); go_simp; first | done | with_reducible rfl)⟩) (by assumption) ?_
                      (try simp only [Act.put, List.setIfInBounds_toArray, List.set_cons_zero, List.set_cons_succ])
                      refine wpAnyH_take (i := 24) (oi := _) (v := _) rfl (by kernel_rfl) (by kernel_rfl) (by kernel_rfl) (fun _ _ _ h => h) (Or.inl ⟨by rfl, by (intro w hSw; (try dsimp only at hSw); go_simp; first | done | with_reducible rfl)⟩) (by assumption) ?_
                      (try simp only [Act.put, List.setIfInBounds_toArray, List.set_cons_zero, List.set_cons_succ])
                      refine wpAnyH_done (by kernel_rfl) ?_ _
                      go_upto_region 28 with fail
                      first | rw [t2_wrap] | rw [t2_mod]
                      generalize hT2 : rr3 x0 2 13 22 + (x0 &&& x1 ^^^ x0 &&& x2 ^^^ x1 &&& x2) = T2
                      have HT2 := Lib.hid hT2
                      clear hT2
                      have lT2 : T2.toNat < 4294967296 := T2.toNat_lt
                      go_wp2
                      go_roundw
                      case rel =>
                        refine ⟨t + 1, by omega, by go_num, ?_⟩
                        rw [u32_add, u32_add]
                        have E := rd_lit (rdsF kF W1 (hsF P m) t) (kF t) (W1 t) T1 T2 (by
                          obtain ⟨a0, a1, a2, a3, a4, a5, a6, a7⟩ := HXS.out
                          unfold t1F; rw [a4, a5, a6, a7, HT1.out]) (by
                          obtain ⟨a0, a1, a2, a3, a4, a5, a6, a7⟩ := HXS.out
                          unfold t2F; rw [a0, a1, a2, HT2.out])
                        obtain ⟨a0, a1, a2, a3, a4, a5, a6, a7⟩ := HXS.out
                        rw [a0, a1, a2, a3, a4, a5, a6] at E
                        rw [E]
                        exact Lib.hid (rq_put (rq_drewN HY.out _))
                      case measure => simp [intOf]; omega
                      --END5
                    · obtain rfl : t = 64 := by omega
                      generalize hVf : rdsF kF W1 (hsF P m) 64 = Vf at HY
                      have HV := Lib.hid hVf
                      clear hVf ht ht64
                      rw [show ((64 : Nat) : Int) = 64 from rfl]
                      go_wp2
                      go_loopw [21] (fun a wx => ∃ i : Nat, i ≤ 8 ∧ a = .int .i64 (i : Int) ∧ Hid (Rq w wx (hF (hsF P m) Vf i) g' tot cp' P B V W1 Vf)) (fun a _ => 8 - (intOf a).toNat)
                      case atStart => exact ⟨0, by omega, rfl, HY⟩
                      case round =>
                        obtain ⟨i, hi, rfl, HZZ⟩ := hrel
                        by_cases hi8 : i < 8
                        · --BEGIN6
                          have c1 := HZZ.out.rl.rs.h8.cell hi8
                          have c2 := HZZ.out.v8.cell hi8
                          have f1 := HZZ.out.rl.rs.h8.frozen i
                          simp only [uV] at c1 c2
                          have E : Hid (hF (hsF P m) Vf (i + 1) = upd (hF (hsF P m) Vf i) i (hF (hsF P m) Vf i i + Vf i)) := Lib.hid rfl
                          generalize hF (hsF P m) Vf i i = x at c1 E
                          generalize Vf i = y at c2 E
                          have l1 : x.toNat < 4294967296 := x.toNat_lt
                          have l2 : y.toNat < 4294967296 := y.toNat_lt
                          go_wp2
                          go_region
                          go_wp2
                          go_round
                          case rel =>
                            refine ⟨i + 1, by omega, by go_num, ?_⟩
                            rw [u32_add, E.out]
                            exact Lib.hid (rq_seth HZZ.out i _)
                          case measure => simp [intOf]; omega
                          --END6
                        · obtain rfl : i = 8 := by omega
                          rw [show ((8 : Nat) : Int) = 8 from rfl]
                          have EQ : Hid (∀ j, j < 8 → hF (hsF P m) Vf 8 j = hsF P (m + 1) j) := Lib.hid (fun j hj => by
                            rw [hF_eq, if_pos hj, ← HV.out, ← HW1.out, ← HW0.out, ← HB.out, ← HQ.out]; rfl)
                          have HMT2 := HMT.out
                          have hqi : (q : Int) + 64 = ((64 * (m + 1) : Nat) : Int) := by have := HQ.out; omega
                          go_wp2
                          go_roundw
                          case rel =>
                            refine ⟨m + 1, by omega, by first | rfl | (rw [← hqi]), Lib.hid ⟨⟨HZZ.out.rl.rs.h8.congr fun j hj => by unfold uV; rw [EQ.out j hj], HZZ.out.rl.rs.k64, HZZ.out.rl.rs.o32, HZZ.out.rl.rs.below⟩, HZZ.out.rl.buf, HZZ.out.rl.big⟩⟩
                          case measure => simp [intOf]; omega
        · have hqe : q = tot := by have := HT.out.2.1; omega
          --BEGIN7
          have hmt : m = tb := by omega
          rw [hmt] at HR
          have SH : Hid (∀ k, shaF (byteAt s) s.size k = UInt8.ofNat ((hsF P tb (k / 4)).toNat / 2 ^ (24 - 8 * (k % 4)))) := Lib.hid (fun k => by
            unfold shaF; rw [HT.out.1, HP.out])
          generalize hsF P tb = F at HR SH
          have ZN : Hid ((wr.alloc zeroId).rowIs wr.heap.size 42 32 (fun _ => .int .u8 0) ∧ Rs w (wr.alloc zeroId) F ∧ w.heap.size + 1 + 1 + 1 ≤ wr.heap.size) := Lib.hid ⟨zeros_row wr (T := 42) (c := _) (n := 32) (z := .int .u8 0) (by rfl), HR.out.rs.mono ((Below.refl _ _).alloc (by have := HR.out.big; have := HR.out.buf.lt; omega) _), by have := HR.out.big; have := HR.out.buf.lt; omega⟩
          go_upto_region 34 with fail
          change Code.wp _ _ _ _ (wr.alloc zeroId)
          generalize wr.alloc zeroId = w8 at ZN ⊢
          obtain ⟨g8, hg8⟩ : ∃ g8, wr.heap.size = g8 := ⟨_, rfl⟩
          rw [hg8] at ZN ⊢
          clear hg8 HR
          have hgg := ZN.out.2.2
          go_wp2
          go_loopw [23] (fun a wx => ∃ k : Nat, k ≤ 32 ∧ a = .int .i64 (k : Int) ∧ Hid (wx.rowIs g8 42 32 (u8V (shaI (byteAt s) s.size k)) ∧ Rs w wx F)) (fun a _ => 32 - (intOf a).toNat)
          case atStart => exact ⟨0, by omega, rfl, Lib.hid ⟨ZN.out.1.congr fun i _ => by unfold u8V shaI; rw [if_neg (by omega)]; rfl, ZN.out.2.1⟩⟩
          case round =>
            obtain ⟨k, hk, rfl, HX⟩ := hrel
            by_cases hk32 : k < 32
            · obtain ⟨c, hc⟩ : ∃ c, k / 4 = c := ⟨_, rfl⟩
              obtain ⟨r, hr⟩ : ∃ r, k % 4 = r := ⟨_, rfl⟩
              obtain ⟨s8, hs8⟩ : ∃ s8, 8 * r = s8 := ⟨_, rfl⟩
              obtain ⟨sh, hsh⟩ : ∃ sh, 24 - s8 = sh := ⟨_, rfl⟩
              have hmi : (k : Int) / 4 = (c : Int) := by omega
              have hri : (k : Int).tmod 4 = (r : Int) := by rw [Int.tmod_eq_emod_of_nonneg (by omega)]; omega
              have hsi : (8 : Int) * (r : Int) = (s8 : Int) := by omega
              have hshi : (24 : Int) - (s8 : Int) = (sh : Int) := by omega
              have hm8 : c < 8 := by omega
              have HVV : Hid (shaF (byteAt s) s.size k = UInt8.ofNat ((F c).toNat / 2 ^ sh)) := Lib.hid (by rw [SH.out k, hc, hr, hs8, hsh])
              have c1 := HX.out.2.h8.cell hm8
              simp only [uV] at c1
              obtain ⟨v, ck⟩ : ∃ v, wr.cell? ⟨g8, k, none⟩ = some v := ⟨_, HX.out.1.cell hk32⟩
              have fk := HX.out.1.frozen k
              generalize F c = y at c1 HVV
              have hy : y.toNat < 4294967296 := y.toNat_lt
              have hsh2 : sh < 32 := by omega
              clear hc hr hs8 hsh
              go_wp2
              go_roundw
              case rel =>
                refine ⟨k + 1, by omega, by go_num, Lib.hid ⟨(HX.out.1.set k _).congr fun i hi => ?_, HX.out.2.mono ((Below.refl _ _).setCell hgg _)⟩⟩
                unfold u8V shaI
                by_cases e : i = k
                · rw [if_pos e, if_pos (by omega), e, HVV.out, byte_shift]
                · rw [if_neg e]
                  by_cases h3 : i < k
                  · rw [if_pos h3, if_pos (by omega)]
                  · rw [if_neg h3, if_neg (by omega)]
              case measure => simp [intOf]; omega
            · obtain rfl : k = 32 := by omega
              have I1 : Hid (wr.rowIs g8 42 32 (u8V (shaF (byteAt s) s.size))) := Lib.hid (HX.out.1.congr fun i hi => by unfold u8V shaI; rw [if_pos hi])
              have e1 : row32 wr g8 0 = idA (shaF (byteAt s) s.size) := row32_id I1.out
              have o1 := ok32_of HX.out.1 (off := 0) (by omega)
              have o2 := ok32_of HX.out.2.o32 (off := 0) (by omega)
              have f1 := idA_full (shaF (byteAt s) s.size)
              have HPP := Lib.hid (id_put (shaF (byteAt s) s.size) HX.out.2.o32 HX.out.2.below (by omega))
              rw [show ((32 : Nat) : Int) = 32 from rfl]
              go_wp2
              exact bodyPost_ret (v := .agg (idA (shaF (byteAt s) s.size))) (results_cell_row rfl _ _ (w.heap.size + 1 + 1) 42 _ (0, 0) _ rfl HPP.out.1 Try.underlying42 rfl (by rw [idA_size]; kernel_rfl)) rfl ⟨rfl, HPP.out.2⟩
          --END7
theorem refSum_any (s : ByteArray) (w : World) (hs : s.size ≤ 16777216) :
    Calls Try.prog 95 #[.string s, .agg (uA 8 firstF), .agg (uA 64 kF)] w fun e w' => e = .returned (.agg (idA (shaF (byteAt s) s.size))) ∧ Below w.heap.size w w' :=
  refSum_big s w (by omega)
end Go.Proofs.Ytpfccicahfncbaa
