/- Several texts of the claim joined into one (part 1): plain facts and walks. No conditions but those that each theorem tells. -/
import Derived.Test.YtpfccicahfncbaaGen
import Derived.Test.YtpfccicahfncbaaU32
import Derived.Test.YtpfccicahfncbaaFix
import Derived.Test.YtpfccicahfncbaaDig4
import Derived.Test.YtpfccicahfncbaaWir
import Derived.Test.YtpfccicahfncbaaMem3
import Derived.Deep.RegionHeld3
import Derived.OpenShut
import Derived.ChangeSame
import Derived.Test.YtpfccicahfncbaaTake1
import Derived.Test.YtpfccicahfncbaaBuf
namespace Go.Proofs.Ytpfccicahfncbaa
open Go.RowKit Go.WideShapes Go.ChangeShapes
theorem u8_of_wf {n : Int} (h : (Lit.int .u8 n).wf = true) : ∃ a : UInt8, n = (a.toNat : Int) := by
  have h := bounds_u8 h
  refine ⟨UInt8.ofNat n.toNat, ?_⟩
  rw [UInt8.toNat_ofNat']
  omega
theorem str_reach {s : ByteArray} (h : s.data.toList.length ≤ reachBytes) : s.size ≤ 140737488351232 := by
  have h2 : s.data.size ≤ reachBytes := by rw [← Array.length_toList]; exact h
  have h3 : s.size = s.data.size := rfl
  unfold reachBytes at h2
  omega
section
variable {H : Type} {enc : TypeId × Value → H} {P : Program} {W : World}
/-- A list of texts. -/
theorem open_strs {t e : TypeId} {base0 base : Nat} {r : Reach} {v : Value} {d : DataW H} {ps : List MemPlace} {ts : List TypeId} {ds : List (DataW H)} {held : Bool}
    (ht : P.underlying t = some (.slice e)) (he : P.underlying e = some .string) (hc : P.cellsOf e = 1) (hb : P.bytesOf e = 16)
    (hval : Value.okWide P W r base0 t v) (hd : DataW.Trod enc P W base (fun _ => true) held t v d ps)
    (hsz : (DataW.weightsEach P ts ds).all (· ≤ reachBytes) = true) (j : Nat) (hts : ts[j]? = some t) (hds : ds[j]? = some d) (mem : ∀ x ∈ ps, x.block < W.heap.size) :
    ∃ (A : Option Addr) (n c : Nat) (ss : List ByteArray), v = .slice A n c ∧ Reads W W.heap.size 1 A n (strV ss) ∧ n * 16 ≤ 140737488351232 ∧ ∀ s ∈ ss, s.size ≤ 9223372036854775807 := by
  obtain ⟨a0, len, cap, rfl⟩ := okWide_slice ht hval
  obtain ⟨fuel, hf⟩ := hd
  rcases open_strings ht he hc hf with ⟨hcs, hx⟩ | ⟨a, len', cap', ss, hcs, _, hl, hm, hz, hx, hcell, hws⟩
  · simp [Value.cells] at hcs
    obtain ⟨rfl, rfl, rfl⟩ := hcs
    exact ⟨none, 0, 0, [], rfl, Reads.none_, by omega, by simp⟩
  · simp [Value.cells] at hcs
    obtain ⟨rfl, rfl, rfl⟩ := hcs
    simp only [Prod.mk.injEq] at hx
    obtain ⟨rfl, rfl⟩ := hx
    simp only [if_true] at hz
    have hw := sized_slice hsz hts hds ht
    rw [hb] at hw
    simp only [strs, List.length_map, List.length_take, List.length_drop, reachBytes] at hw
    refine ⟨some a, len, cap, ss.take len, rfl, ⟨by simp [strV]; omega, fun hn => ⟨a, rfl, mem _ (MemPlace.mem_row.2 ⟨0, by omega, rfl⟩), fun k u hu => ?_⟩⟩, by omega, fun s hs => hws s (List.mem_of_mem_take hs)⟩
    have hk : k < len := by
      rcases Nat.lt_or_ge k len with h | h
      · exact h
      · rw [List.getElem?_eq_none (by simp [strV]; omega)] at hu; cases hu
    rw [hcell k (by omega)]
    simp only [strV, List.getElem?_map] at hu
    rw [List.getElem?_take, if_pos hk, List.getElem?_eq_getElem (by omega)] at hu
    simp at hu
    rw [← hu, List.getD_eq_getElem?_getD, List.getElem?_eq_getElem (by omega)]; rfl
/-- A list of texts. -/
theorem open_strsc {t e : TypeId} {base0 base : Nat} {r : Reach} {v : Value} {d : DataW H} {ps : List MemPlace} {ts : List TypeId} {ds : List (DataW H)} {held : Bool}
    (ht : P.underlying t = some (.slice e)) (he : P.underlying e = some .string) (hc : P.cellsOf e = 1) (hb : P.bytesOf e = 16)
    (hval : Value.okWide P W r base0 t v) (hd : DataW.Trod enc P W base (fun _ => true) held t v d ps)
    (hsz : (DataW.weightsEach P ts ds).all (· ≤ reachBytes) = true) (j : Nat) (hts : ts[j]? = some t) (hds : ds[j]? = some d) (mem : ∀ x ∈ ps, x.block < W.heap.size) :
    ∃ (A : Option Addr) (n c : Nat) (ss : List ByteArray), v = .slice A n c ∧ Reads W W.heap.size 1 A n (strV ss) ∧ n * 16 ≤ 140737488351232 ∧ (∀ s ∈ ss, s.size ≤ 9223372036854775807) ∧ n ≤ c := by
  obtain ⟨a0, len, cap, rfl⟩ := okWide_slice ht hval
  obtain ⟨fuel, hf⟩ := hd
  rcases open_strings ht he hc hf with ⟨hcs, hx⟩ | ⟨a, len', cap', ss, hcs, _, hl, hm, hz, hx, hcell, hws⟩
  · simp [Value.cells] at hcs
    obtain ⟨rfl, rfl, rfl⟩ := hcs
    exact ⟨none, 0, 0, [], rfl, Reads.none_, by omega, by simp, by omega⟩
  · simp [Value.cells] at hcs
    obtain ⟨rfl, rfl, rfl⟩ := hcs
    simp only [Prod.mk.injEq] at hx
    obtain ⟨rfl, rfl⟩ := hx
    simp only [if_true] at hz
    have hw := sized_slice hsz hts hds ht
    rw [hb] at hw
    simp only [strs, List.length_map, List.length_take, List.length_drop, reachBytes] at hw
    refine ⟨some a, len, cap, ss.take len, rfl, ⟨by simp [strV]; omega, fun hn => ⟨a, rfl, mem _ (MemPlace.mem_row.2 ⟨0, by omega, rfl⟩), fun k u hu => ?_⟩⟩, by omega, fun s hs => hws s (List.mem_of_mem_take hs), hl⟩
    have hk : k < len := by
      rcases Nat.lt_or_ge k len with h | h
      · exact h
      · rw [List.getElem?_eq_none (by simp [strV]; omega)] at hu; cases hu
    rw [hcell k (by omega)]
    simp only [strV, List.getElem?_map] at hu
    rw [List.getElem?_take, if_pos hk, List.getElem?_eq_getElem (by omega)] at hu
    simp at hu
    rw [← hu, List.getD_eq_getElem?_getD, List.getElem?_eq_getElem (by omega)]; rfl
end
theorem ints_u8s : ∀ (zs : List Int), (∀ n ∈ zs, (Lit.int .u8 n).wf = true) → zs.map (Value.int .u8) = u8s (zs.map fun n => UInt8.ofNat n.toNat)
  | [], _ => rfl
  | z :: zs, h => by
    have hz := bounds_u8 (h z (by simp))
    have e : (((UInt8.ofNat z.toNat).toNat : Nat) : Int) = z := by rw [UInt8.toNat_ofNat']; omega
    have ih := ints_u8s zs (fun n hn => h n (by simp [hn]))
    simp only [u8s, List.map_cons] at ih ⊢
    rw [ih, e]
section
variable {H : Type} {enc : TypeId × Value → H} {P : Program} {W : World}
theorem open_bytes {t e : TypeId} {base0 base : Nat} {r : Reach} {v : Value} {d : DataW H} {ps : List MemPlace} {ts : List TypeId} {ds : List (DataW H)} {held : Bool}
    (ht : P.underlying t = some (.slice e)) (he : P.underlying e = some (.int .u8)) (hc : P.cellsOf e = 1) (hb : P.bytesOf e = 1)
    (hval : Value.okWide P W r base0 t v) (hd : DataW.Trod enc P W base (fun _ => true) held t v d ps)
    (hsz : (DataW.weightsEach P ts ds).all (· ≤ reachBytes) = true) (j : Nat) (hts : ts[j]? = some t) (hds : ds[j]? = some d) (mem : ∀ x ∈ ps, x.block < W.heap.size) :
    ∃ (A : Option Addr) (n c : Nat) (l : List UInt8), v = .slice A n c ∧ Reads W W.heap.size 1 A n (u8s l) ∧ n ≤ 140737488351232 ∧ n ≤ c := by
  obtain ⟨a0, len, cap, rfl⟩ := okWide_slice ht hval
  obtain ⟨fuel, hf⟩ := hd
  rcases open_ints ht he hc hf with ⟨hcs, hx⟩ | ⟨a, len', cap', zs, hcs, _, hl, hm, hz, hx, hcell, hws⟩
  · simp [Value.cells] at hcs
    obtain ⟨rfl, rfl, rfl⟩ := hcs
    exact ⟨none, 0, 0, [], rfl, Reads.none_, by omega, by omega⟩
  · simp [Value.cells] at hcs
    obtain ⟨rfl, rfl, rfl⟩ := hcs
    simp only [Prod.mk.injEq] at hx
    obtain ⟨rfl, rfl⟩ := hx
    simp only [if_true] at hz
    have hw := sized_slice hsz hts hds ht
    rw [hb] at hw
    simp only [lits, List.length_map, List.length_take, List.length_drop, reachBytes] at hw
    refine ⟨some a, len, cap, (zs.take len).map fun n => UInt8.ofNat n.toNat, rfl, ⟨by simp [u8s]; omega, fun hn => ⟨a, rfl, mem _ (MemPlace.mem_row.2 ⟨0, by omega, rfl⟩), fun k u hu => ?_⟩⟩, by omega, hl⟩
    rw [← ints_u8s _ (fun n hn => hws n (List.mem_of_mem_take hn))] at hu
    have hk : k < len := by
      rcases Nat.lt_or_ge k len with h | h
      · exact h
      · rw [List.getElem?_eq_none (by simp; omega)] at hu; cases hu
    rw [hcell k (by omega)]
    rw [List.getElem?_map, List.getElem?_take, if_pos hk, List.getElem?_eq_getElem (by omega)] at hu
    simp at hu
    rw [← hu, List.getD_eq_getElem?_getD, List.getElem?_eq_getElem (by omega)]; rfl
end
end Go.Proofs.Ytpfccicahfncbaa
namespace Go.Proofs.Ytpfccicahfncbaa
open Go.RowKit
/-- A bit more. -/
def bitC (n : UInt32) : UInt32 := n >>> 1 ^^^ (3988292384 &&& (0 - (n &&& 1)))
def bitsC : Nat → UInt32 → UInt32
  | 0, n => n
  | k + 1, n => bitC (bitsC k n)
/-- A byte more. -/
def stepC (n : UInt32) (b : UInt8) : UInt32 := bitsC 8 (n ^^^ UInt32.ofNat b.toNat)
def foldC (n : UInt32) (F : Nat → UInt8) : Nat → UInt32
  | 0 => n
  | k + 1 => stepC (foldC n F k) (F k)
/-- A checksum gone on with a text. -/
def onC (c : UInt32) (s : ByteArray) : UInt32 := ~~~ foldC (~~~ c) (byteAt s) s.size
theorem foldC_congr {n : UInt32} {F G : Nat → UInt8} {k : Nat} (h : ∀ i, i < k → F i = G i) : foldC n F k = foldC n G k := by
  induction k with
  | zero => rfl
  | succ k ih => rw [foldC, foldC, ih (fun i hi => h i (by omega)), h k (by omega)]
theorem foldC_add (n : UInt32) (F : Nat → UInt8) (a b : Nat) : foldC n F (a + b) = foldC (foldC n F a) (fun i => F (a + i)) b := by
  induction b with
  | zero => rfl
  | succ b ih => rw [← Nat.add_assoc, foldC, ih]; rfl
/-- Of two texts one behind the other. -/
theorem onC_on (c : UInt32) (a b : ByteArray) : onC (onC c a) b = onC c (a ++ b) := by
  unfold onC
  rw [UInt32.not_not, ByteArray.size_append, foldC_add]
  congr 1
  rw [show foldC (~~~ c) (byteAt (a ++ b)) a.size = foldC (~~~ c) (byteAt a) a.size from foldC_congr fun i hi => by rw [byteAt_app, if_pos hi]]
  exact foldC_congr fun i _ => by rw [byteAt_app, if_neg (by omega), Nat.add_sub_cancel_left]
theorem and_one32 (n : UInt32) : (n &&& 1).toNat = n.toNat % 2 := by
  rw [UInt32.toNat_and]; exact Nat.and_one_is_mod _
theorem bitC_odd (n : UInt32) (h : n.toNat % 2 = 1) : bitC n = n >>> 1 ^^^ 3988292384 := by
  unfold bitC
  have : n &&& 1 = 1 := UInt32.toNat_inj.1 (by rw [and_one32, h]; rfl)
  rw [this]; congr 1
theorem bitC_even (n : UInt32) (h : n.toNat % 2 = 0) : bitC n = n >>> 1 := by
  unfold bitC
  have : n &&& 1 = 0 := UInt32.toNat_inj.1 (by rw [and_one32, h]; rfl)
  rw [this]
  show n >>> 1 ^^^ (3988292384 &&& 0) = _
  rw [UInt32.and_zero, UInt32.xor_zero]
/-- The lowest k bytes of a number, the highest first. -/
def beK (k n : Nat) : List UInt8 := (be8 n).drop (8 - k)
theorem beK_length (k n : Nat) (h : k ≤ 8) : (beK k n).length = k := by unfold beK; rw [List.length_drop, be8_length]; omega
theorem beK_at (k n j : Nat) (h : k ≤ 8) (hj : j < k) : (beK k n).getD j 0 = UInt8.ofNat (n / 2 ^ (8 * (k - 1 - j))) := by
  unfold beK
  rw [List.getD_eq_getElem?_getD, List.getElem?_drop]
  have := beF_end n (8 - k + j) (by omega)
  rw [List.getD_eq_getElem?_getD] at this
  rw [← this]
  unfold beF
  rw [if_pos (by omega), show 7 - (8 - k + j) = k - 1 - j by omega]
/-- The number that bytes are, the highest first. -/
def beV (F : Nat → UInt8) : Nat → Nat
  | 0 => 0
  | k + 1 => beV F k * 256 + (F k).toNat
theorem beV_lt (F : Nat → UInt8) (k : Nat) : beV F k < 256 ^ k := by
  induction k with
  | zero => exact Nat.one_pos
  | succ k ih => rw [beV, Nat.pow_succ]; have := (F k).toNat_lt; omega
theorem beV_congr {F G : Nat → UInt8} {k : Nat} (h : ∀ i, i < k → F i = G i) : beV F k = beV G k := by
  induction k with
  | zero => rfl
  | succ k ih => rw [beV, beV, ih (fun i hi => h i (by omega)), h k (by omega)]
/-- A payload in a frame. -/
def hdB (p : ByteArray) : ByteArray := bs (beK 4 p.size)
def crcF (p : ByteArray) : UInt32 := onC 0 (hdB p ++ p)
def frmB (p : ByteArray) : ByteArray := hdB p ++ bs (beK 4 (crcF p).toNat) ++ p
theorem hdB_size (p : ByteArray) : (hdB p).size = 4 := by unfold hdB; rw [bs_size, beK_length _ _ (by omega)]
theorem frmB_size (p : ByteArray) : (frmB p).size = 8 + p.size := by
  unfold frmB; rw [ByteArray.size_append, ByteArray.size_append, hdB_size, bs_size, beK_length _ _ (by omega)]
end Go.Proofs.Ytpfccicahfncbaa
namespace Go.Proofs.Ytpfccicahfncbaa
open Go.RowKit Dig
set_option linter.unusedVariables false
attribute [local go_sem ↓] execOp_ld32 execOp_st32
attribute [local go_sem] run_ld32 run_st32
def headB (k : UInt8) (n : Nat) : ByteArray := bs [k] ++ bs (be8 n)
theorem headB_size (k : UInt8) (n : Nat) : (headB k n).size = 9 := by unfold headB; rw [ByteArray.size_append, bs_size, bs_size, be8_length]; rfl
set_option maxRecDepth 100000 in
set_option maxHeartbeats 0 in
theorem of_any (k : UInt8) (s : ByteArray) (w : World) (hs : s.size ≤ 16777216) :
    Calls Try.prog 26 #[.int .u8 (k.toNat : Int), .string s] w fun e w' => e = .returned (.agg (idA (shaF (byteAt (headB k s.size ++ s)) (headB k s.size ++ s).size))) ∧ Below w.heap.size w w' := by
  have Z0 : Hid ((w.alloc zeroId).rowIs w.heap.size 42 32 (fun _ => .int .u8 0) ∧ Below w.heap.size w (w.alloc zeroId) ∧ (w.alloc zeroId).heap.size = w.heap.size + 1) := Lib.hid ⟨zeros_row w (T := 42) (c := _) (n := 32) (z := .int .u8 0) (by rfl), (Below.refl _ _).alloc (Nat.le_refl _) _, by simp⟩
  have hnw : IntKind.u64.wrap (s.size : Int) = (s.size : Int) := by rw [IntKind.wrap_u64]; omega
  have RC : Hid (∀ j, j < 1 → ((w.alloc zeroId).alloc (.cells #[.int .u8 (k.toNat : Int)] 5)).cell? (({ block := w.heap.size + 1, off := 0 } : Addr).add j) = some (.int .u8 (([k].getD j 0).toNat : Int))) := Lib.hid (fun j hj => by
    obtain rfl : j = 0 := by omega
    have := (World.rowIs_alloc (w.alloc zeroId) #[.int .u8 (k.toNat : Int)] 5 (fun _ => .int .u8 (k.toNat : Int)) (fun i hi => by
      have : i = 0 := by simpa using hi
      subst this; rfl)).cell (i := 0) (by simp)
    rw [add0, size1 w zeroId]
    exact this)
  have HS := Lib.hid hs
  have hb1 : (bs [k]).size ≤ 4611686018427387904 := by rw [bs_size]; show 1 ≤ _; omega
  have hn64 : s.size < 18446744073709551616 := by omega
  clear hs
  have B0 : Hid (Below w.heap.size w ((w.alloc zeroId).alloc (.cells #[.int .u8 (k.toNat : Int)] 5)) ∧ ((w.alloc zeroId).alloc (.cells #[.int .u8 (k.toNat : Int)] 5)).rowIs w.heap.size 42 32 (fun _ => .int .u8 0)) := Lib.hid ⟨Z0.out.2.1.alloc Z0.out.2.1.size _, Z0.out.1.alloc _⟩
  have RC' := RC.out
  unfold zeroId at RC'
  have RCH := Lib.hid RC'
  clear RC RC'
  go_enter Try.func26, Try.ntmps26
  go_wp2_with (with_reducible refine conv_str_wp (e := 5) (by kernel_rfl) (by kernel_rfl) (by kernel_rfl) rfl _ rfl ⟨w.heap.size + 1, 0, none⟩ 1 1 rfl [k] rfl RCH.out ?_)
  change Calls _ _ _ ((w.alloc zeroId).alloc (.cells #[.int .u8 (k.toNat : Int)] 5)) _
  generalize (w.alloc zeroId).alloc (.cells #[.int .u8 (k.toNat : Int)] 5) = w0 at B0 ⊢
  refine (putFixed8_any (bs [k]) s.size w0 hn64 hb1).mono ?_
  rintro e w1 ⟨rfl, hb⟩
  have Z1 : Hid (w1.rowIs w.heap.size 42 32 (fun _ => .int .u8 0) ∧ Below w.heap.size w w1) := Lib.hid ⟨B0.out.2.of_block (hb.block _ B0.out.2.lt), B0.out.1.trans (hb.mono B0.out.1.size)⟩
  clear hb
  rw [show bs [k] ++ bs (be8 s.size) = headB k s.size from rfl]
  have hH := headB_size k s.size
  obtain ⟨Hd, hHd⟩ : ∃ Hd, headB k s.size = Hd := ⟨_, rfl⟩
  have HHD := Lib.hid hHd
  rw [hHd] at hH ⊢
  clear hHd hn64 hb1 hnw
  go_wp2_with fail
  refine (newState_any w1).mono ?_
  rintro e w2 ⟨p, hp, rfl, hst, hb⟩
  have Z2 : Hid (w2.rowIs w.heap.size 42 32 (fun _ => .int .u8 0) ∧ Below w.heap.size w w2 ∧ w.heap.size + 1 ≤ p ∧ St w2 p ByteArray.empty) := Lib.hid ⟨Z1.out.1.of_block (hb.block _ Z1.out.1.lt), Z1.out.2.trans (hb.mono Z1.out.2.size), by have := Z1.out.1.lt; omega, hst⟩
  clear hp hst hb
  go_wp2_with fail
  refine (write_any p ByteArray.empty Hd w2 Z2.out.2.2.2 (by show 0 + Hd.size ≤ _; omega)).mono ?_
  rintro e w3 ⟨rfl, hst, hg⟩
  rw [show ByteArray.empty ++ Hd = Hd from ext_byteAt (by rw [ByteArray.size_append]; show 0 + _ = _; omega) (fun i hi => by rw [byteAt_app]; show (if i < 0 then _ else byteAt Hd (i - 0)) = _; rw [if_neg (by omega), Nat.sub_zero])] at hst
  have Z3 : Hid (w3.rowIs w.heap.size 42 32 (fun _ => .int .u8 0) ∧ Below w.heap.size w w3 ∧ w.heap.size + 1 ≤ p ∧ St w3 p Hd) := Lib.hid ⟨Z2.out.1.of_block (hg.block _ Z2.out.1.lt (by have := Z2.out.2.2.1; simp; omega)), below_grown Z2.out.2.1 hg (fun g hg => by cases hg; have := Z2.out.2.2.1; omega), Z2.out.2.2.1, hst⟩
  clear hst hg
  go_wp2_with fail
  refine (write_any p Hd s w3 Z3.out.2.2.2 (by have := HS.out; omega)).mono ?_
  rintro e w4 ⟨rfl, hst, hg⟩
  have Z4 : Hid (w4.rowIs w.heap.size 42 32 (fun _ => .int .u8 0) ∧ Below w.heap.size w w4 ∧ St w4 p (Hd ++ s)) := Lib.hid ⟨Z3.out.1.of_block (hg.block _ Z3.out.1.lt (by have := Z3.out.2.2.1; simp; omega)), below_grown Z3.out.2.1 hg (fun g hg => by cases hg; have := Z3.out.2.2.1; omega), hst⟩
  clear hst hg
  obtain ⟨U, hU⟩ : ∃ U, Hd ++ s = U := ⟨_, rfl⟩
  have HU := Lib.hid hU
  have hUs : U.size ≤ 1152921504606846976 := by rw [← hU, ByteArray.size_append]; have := HS.out; omega
  rw [hU] at Z4
  clear hU
  go_wp2_with fail
  refine (stateSum_any p U w4 Z4.out.2.2 hUs).mono ?_
  rintro e w5 ⟨rfl, hb⟩
  obtain ⟨⟨o1, o2, o3, o4⟩, HV⟩ := id_var (w := w) (w3 := w5) (shaF (byteAt U) U.size) (Z4.out.1.of_block (hb.block _ Z4.out.1.lt)) (Z4.out.2.1.trans (hb.mono Z4.out.2.1.size))
  have f1 := idA_full (shaF (byteAt U) U.size)
  have HVH := Lib.hid HV
  clear hb HV
  unfold zeroId at o1 o2 o3 o4
  go_wp2
  exact bodyPost_ret (v := .agg (idA (shaF (byteAt U) U.size))) (results_cell_row rfl _ _ w.heap.size 42 _ (0, 0) _ rfl HVH.out.1 Try.underlying42 rfl (by rw [idA_size]; kernel_rfl)) rfl ⟨by rw [HHD.out, HU.out], HVH.out.2⟩
end Go.Proofs.Ytpfccicahfncbaa
namespace Go.Proofs.Ytpfccicahfncbaa
open Go.RowKit Wir Dig
/-- An object: its kind, its payload. -/
abbrev PObj := UInt8 × ByteArray
def okO (o : PObj) : Bool := decide (1 ≤ o.1.toNat) && decide (o.1.toNat ≤ 5) && decide (o.2.size ≤ 2097152)
def recS (o : PObj) : ByteArray := bs [o.1] ++ o.2
def recB (o : PObj) : ByteArray := frmB (recS o)
def trlS (n : Nat) : ByteArray := ⟨#[0]⟩ ++ bs (putL n)
def trlB (n : Nat) : ByteArray := frmB (trlS n)
/-- An object's name. -/
def nmS (o : PObj) : ByteArray := headB o.1 o.2.size ++ o.2
def nmF (o : PObj) : Nat → UInt8 := shaF (byteAt (nmS o)) (nmS o).size
def nmA (o : PObj) : Array Value := idA (nmF o)
def markPk : ByteArray := ⟨#[109, 112, 107, 49]⟩
/-- What makes the i-th object one that can't be packed behind s. -/
def badO (i : Nat) (s : ByteArray) (o : PObj) : Bool := !okO o || decide (65536 ≤ i) || decide (67108864 < s.size + (9 + o.2.size) + (trlB (i + 1)).size)
open Classical in
/-- Build, from the i-th object on, s being there, the names seen. -/
noncomputable def bldF : Nat → ByteArray → List (Array Value) → List PObj → ByteArray × Int
  | i, s, _, [] => (s ++ trlB i, 0)
  | i, s, S, o :: l => if badO i s o = true then (ByteArray.empty, 1) else if nmA o ∈ S then (ByteArray.empty, 7) else bldF (i + 1) (s ++ recB o) (nmA o :: S) l
noncomputable def bldR (l : List PObj) : ByteArray × Int := bldF 0 markPk [] l
theorem bldF_bad {i : Nat} {s : ByteArray} {S : List (Array Value)} {o : PObj} {l : List PObj} (h : badO i s o = true) : bldF i s S (o :: l) = (ByteArray.empty, 1) := by rw [bldF, if_pos h]
theorem bldF_there {i : Nat} {s : ByteArray} {S : List (Array Value)} {o : PObj} {l : List PObj} (h : badO i s o = false) (hm : nmA o ∈ S) : bldF i s S (o :: l) = (ByteArray.empty, 7) := by
  rw [bldF, if_neg (by rw [h]; simp), if_pos hm]
theorem bldF_on {i : Nat} {s : ByteArray} {S : List (Array Value)} {o : PObj} {l : List PObj} (h : badO i s o = false) (hm : ¬ nmA o ∈ S) : bldF i s S (o :: l) = bldF (i + 1) (s ++ recB o) (nmA o :: S) l := by
  rw [bldF, if_neg (by rw [h]; simp), if_neg hm]
theorem okO_iff (o : PObj) : okO o = true ↔ 1 ≤ o.1.toNat ∧ o.1.toNat ≤ 5 ∧ o.2.size ≤ 2097152 := by
  unfold okO; simp [and_assoc]
theorem badO_iff (i : Nat) (s : ByteArray) (o : PObj) : badO i s o = false ↔ okO o = true ∧ i < 65536 ∧ s.size + (9 + o.2.size) + (trlB (i + 1)).size ≤ 67108864 := by
  unfold badO
  simp [Bool.or_eq_false_iff, and_assoc]
theorem recS_size (o : PObj) : (recS o).size = 1 + o.2.size := by unfold recS; rw [ByteArray.size_append, bs_size]; rfl
theorem recB_size (o : PObj) : (recB o).size = 9 + o.2.size := by unfold recB; rw [frmB_size, recS_size]; omega
theorem putL_le (n : Nat) : 1 ≤ (putL n).length ∧ (putL n).length ≤ 10 := putN_length 9 n
theorem trlS_size (n : Nat) : (trlS n).size = 1 + (putL n).length := by unfold trlS; rw [ByteArray.size_append, bs_size]; rfl
theorem trlB_size (n : Nat) : 10 ≤ (trlB n).size ∧ (trlB n).size ≤ 19 := by
  have := putL_le n
  unfold trlB; rw [frmB_size, trlS_size]; omega
end Go.Proofs.Ytpfccicahfncbaa
namespace Go.Proofs.Ytpfccicahfncbaa
open Go.RowKit
/-- What the table says of a slice type and its element type. -/
structure ElemN (P : Program) (t e : TypeId) (z : Value) (size bytes : Nat) : Prop where
  ht : P.underlying t = some (.slice e)
  info : ∃ i, P.info? e = some i ∧ i.zero = some z ∧ i.size = size ∧ i.bytes = bytes
  hz : z.cells.size = size
  pos : 0 < size
theorem ElemN.of {P : Program} {t e : TypeId} {z : Value} {size bytes : Nat} (ht : P.underlying t = some (.slice e))
    (hi : (P.info? e).map (fun i => (i.zero, i.size, i.bytes)) = some (some z, size, bytes)) (hz : z.cells.size = size) (hp : 0 < size) : ElemN P t e z size bytes := by
  obtain ⟨i, h1, h2, h3, h4⟩ := info_parts hi
  exact ⟨ht, ⟨i, h1, h2, h3, h4⟩, hz, hp⟩
theorem reads_new (w : World) (cs : Array Value) (e : TypeId) (size : Nat) (h : cs.size = size) : Reads (w.alloc (.cells cs e)) (w.heap.size + 1) size (some ⟨w.heap.size, 0, none⟩) 1 cs.toList := by
  refine ⟨by rw [Array.length_toList, h, Nat.one_mul], fun _ => ⟨_, rfl, by simp, fun j u hj => ?_⟩⟩
  have hb : (w.alloc (.cells cs e)).heap[w.heap.size]? = some (.cells cs e (0, 0)) := heap_alloc_new w _
  have ea : ({ block := w.heap.size, off := 0, spot := none } : Addr).add j = ⟨w.heap.size, j, none⟩ := by unfold Addr.add; split <;> simp_all
  rw [ea, cell_of_row _ _ j cs e (0, 0) hb, ← hj, Array.getElem?_toList]
theorem grown_alloc {w w' : World} {o : Obj} {row : Option Nat} (h : (w.alloc o).grownBy w' row) : w.grownBy w' row :=
  ⟨h.os, h.tape, h.output, Nat.le_trans (by simp) h.size, fun k hk hne => (h.block k (by simp; omega) hne).trans (Below.heap_alloc w _ k hk)⟩
section
variable {P : Program} {w : World} {t e : TypeId} {z : Value} {size bytes : Nat}
theorem appendN_new (E : ElemN P t e z size bytes) {ops : Array Oper} {rest : List Oper} {o : Oper} {a : Act} {Q : Exit → Act → World → Prop} (hgd : o.guard = none) (s x : Operand)
    (ho : o.op = .call { callee := .builtin .append, args := #[s, x], argTypes := #[t, t] })
    (base : Nat) (v : Value) (n : Nat) (xs : List Value) (hs : a.eval s = v) (hown : w.ownsRow base e size v n xs) (cs : Array Value) (hcs : cs.size = size) (hx : a.eval x = .slice (some ⟨w.heap.size, 0, none⟩) 1 1)
    (h1 : ∀ u ∈ cs.toList, u.oneCell' = true) (hn : n ≤ 4611686018427387904) (hbytes : (n + 1) * bytes ≤ 140737488355328) (hbase : base ≤ w.heap.size)
    (h : ∀ v' w', w'.ownsRow base e size v' (n + 1) (xs ++ cs.toList) → w.grownBy w' v.ownBlock → (v'.ownBlock = v.ownBlock ∨ v'.ownBlock = some (w.heap.size + 1)) → wpList P ops Q rest (a.put o.dst v') w') : wpList P ops Q (o :: rest) a (w.alloc (.cells cs e)) := by
  obtain ⟨i, hi, hz0, hz1, hz2⟩ := E.info
  exact wpList_append_any (w.alloc (.cells cs e)) hgd s x t ho base e i z size bytes E.ht hi hz0 hz1 hz2 E.hz E.pos v n xs hs (hown.alloc _) (w.heap.size + 1) (some ⟨w.heap.size, 0, none⟩) 1 1 cs.toList hx
    (reads_new w cs e size hcs) h1 (by unfold maxLen; omega) hbytes (by simp; omega) (fun v' w' h2 h3 h4 => h v' w' h2 (grown_alloc h3) (by simp at h4; exact h4))
theorem step_appendN (E : ElemN P t e z size bytes) {ops : Array Oper} {o : Oper} {a : Act} {K : Act → World → Prop} {Q : Exit → Act → World → Prop} {F : Prop} (hgd : o.guard = none) (s x : Operand)
    (ho : o.op = .call { callee := .builtin .append, args := #[s, x], argTypes := #[t, t] })
    (base : Nat) (v : Value) (n : Nat) (xs : List Value) (hs : a.eval s = v) (hown : w.ownsRow base e size v n xs) (cs : Array Value) (hcs : cs.size = size) (hx : a.eval x = .slice (some ⟨w.heap.size, 0, none⟩) 1 1)
    (h1 : ∀ u ∈ cs.toList, u.oneCell' = true) (hn : n ≤ 4611686018427387904) (hbytes : (n + 1) * bytes ≤ 140737488355328) (hbase : base ≤ w.heap.size)
    (h : ∀ v' w', w'.ownsRow base e size v' (n + 1) (xs ++ cs.toList) → w.grownBy w' v.ownBlock → K (a.put o.dst v') w') :
    if Region.wanted o (yielded ops a.tmps) = true then Oper.wp P o a (w.alloc (.cells cs e)).drew K Q else F := by
  obtain ⟨i, hi, hz0, hz1, hz2⟩ := E.info
  exact step_append_any (w.alloc (.cells cs e)).drew hgd s x t ho base e i z size bytes E.ht hi hz0 hz1 hz2 E.hz E.pos v n xs hs (hown.alloc _) (w.heap.size + 1) (some ⟨w.heap.size, 0, none⟩) 1 1 cs.toList hx
    (reads_new w cs e size hcs) h1 (by unfold maxLen; omega) hbytes (by simp; omega) (fun v' w' h2 h3 h4 => h v' w' h2 (grown_alloc (w' := w') (o := .cells cs e) ⟨h3.os, h3.tape, h3.output, h3.size, h3.block⟩))
theorem wp_appendN (E : ElemN P t e z size bytes) {o : Oper} {a : Act} {K : Act → World → Prop} {Q : Exit → Act → World → Prop} (s x : Operand)
    (ho : o.op = .call { callee := .builtin .append, args := #[s, x], argTypes := #[t, t] })
    (base : Nat) (v : Value) (n : Nat) (xs : List Value) (hs : a.eval s = v) (hown : w.ownsRow base e size v n xs) (cs : Array Value) (hcs : cs.size = size) (hx : a.eval x = .slice (some ⟨w.heap.size, 0, none⟩) 1 1)
    (h1 : ∀ u ∈ cs.toList, u.oneCell' = true) (hn : n ≤ 4611686018427387904) (hbytes : (n + 1) * bytes ≤ 140737488355328) (hbase : base ≤ w.heap.size)
    (h : ∀ v' w', w'.ownsRow base e size v' (n + 1) (xs ++ cs.toList) → w.grownBy w' v.ownBlock → (v'.ownBlock = v.ownBlock ∨ v'.ownBlock = some (w.heap.size + 1)) → K (a.put o.dst v') w') : Oper.wp P o a (w.alloc (.cells cs e)) K Q := by
  obtain ⟨i, hi, hz0, hz1, hz2⟩ := E.info
  exact wp_append_any (w.alloc (.cells cs e)) s x t ho base e i z size bytes E.ht hi hz0 hz1 hz2 E.hz E.pos v n xs hs (hown.alloc _) (w.heap.size + 1) (some ⟨w.heap.size, 0, none⟩) 1 1 cs.toList hx
    (reads_new w cs e size hcs) h1 (by unfold maxLen; omega) hbytes (by simp; omega) (fun v' w' h2 h3 h4 => h v' w' h2 (grown_alloc h3) (by simp at h4; exact h4))
end
/-- Of a row of the call's own the first k elements alone. -/
theorem own_shorter {w : World} {base : Nat} {e : TypeId} {size n k g c : Nat} {xs : List Value} (h : w.ownsRow base e size (.slice (some ⟨g, 0, none⟩) n c) n xs) (hk : k ≤ n) : w.ownsRow base e size (.slice (some ⟨g, 0, none⟩) k c) k (xs.take (k * size)) := by
  have hl := h.1
  rcases h.2 with ⟨h', _⟩ | ⟨g', cap, cur, h', a1, a2, a3, a4, a5, a6⟩
  · cases h'
  · simp only [Value.slice.injEq, Option.some.injEq, Addr.mk.injEq, and_true, true_and] at h'
    obtain ⟨rfl, rfl⟩ := h'
    have hm : k * size ≤ n * size := Nat.mul_le_mul_right _ hk
    refine ⟨by rw [List.length_take, hl]; omega, .inr ⟨g, c, cur, rfl, a1, a2, by omega, a4, a5, ?_⟩⟩
    rw [← a6, List.take_take, Nat.min_eq_left hm]
end Go.Proofs.Ytpfccicahfncbaa
namespace Go.Proofs.Ytpfccicahfncbaa
open Go.RowKit
set_option linter.unusedVariables false
/-- Objects as values. -/
def objC (o : PObj) : List Value := [.int .u8 (o.1.toNat : Int), .string o.2]
def objV (l : List PObj) : List Value := l.flatMap objC
theorem objV_length (l : List PObj) : (objV l).length = l.length * 2 := by
  induction l with
  | nil => rfl
  | cons o l ih =>
    show (objC o ++ objV l).length = _
    rw [List.length_append, ih, List.length_cons]
    show 2 + _ = _
    omega
theorem objV_app (a b : List PObj) : objV (a ++ b) = objV a ++ objV b := by unfold objV; rw [List.flatMap_append]
theorem objV_get (l : List PObj) (i : Nat) (h : i < l.length) : (objV l)[i * 2]? = some (.int .u8 ((l[i]).1.toNat : Int)) ∧ (objV l)[i * 2 + 1]? = some (.string (l[i]).2) := by
  induction l generalizing i with
  | nil => simp at h
  | cons o l ih =>
    have e : objV (o :: l) = .int .u8 (o.1.toNat : Int) :: .string o.2 :: objV l := rfl
    rw [e]
    cases i with
    | zero => exact ⟨rfl, rfl⟩
    | succ i =>
      have := ih i (by simpa using h)
      rw [show (i + 1) * 2 = i * 2 + 1 + 1 by omega]
      simpa using this
theorem objV_one (l : List PObj) : ∀ u ∈ objV l, u.oneCell' = true := fun u hu => by
  obtain ⟨o, _, ho⟩ := List.mem_flatMap.1 hu
  simp only [objC, List.mem_cons, List.not_mem_nil, or_false] at ho
  rcases ho with rfl | rfl <;> rfl
/-- The i-th object's cells. -/
theorem obj_cells {w : World} {B n : Nat} {A : Option Addr} {l : List PObj} (h : Reads w B 2 A n (objV l)) (i : Nat) (hi : i < n) :
    ∃ (ad : Addr) (hl : i < l.length), A = some ad ∧ ad.block < B ∧ w.cell? (ad.add (i * 2)) = some (.int .u8 ((l[i]).1.toNat : Int)) ∧ w.cell? ((ad.add (i * 2)).add 1) = some (.string (l[i]).2) := by
  obtain ⟨ad, e, hb, hc⟩ := h.2 (by omega)
  have hl : i < l.length := by have := h.1; rw [objV_length] at this; omega
  obtain ⟨g1, g2⟩ := objV_get l i hl
  exact ⟨ad, hl, e, hb, hc _ _ g1, by rw [add_of_add]; exact hc _ _ g2⟩
theorem Reads.objLen {w : World} {B n : Nat} {A : Option Addr} {l : List PObj} (h : Reads w B 2 A n (objV l)) : l.length = n := by
  have := h.1; rw [objV_length] at this; omega
theorem elemObj : ElemN Try.prog 23 30 (.agg #[.int .u8 0, .string ByteArray.empty]) 2 24 := ElemN.of (by kernel_rfl) (by kernel_rfl) rfl (by omega)
def markO : PObj := (77, ByteArray.empty)
theorem objV_take (l : List PObj) (k : Nat) (hk : k < l.length) : objV (l.take (k + 1)) = objV (l.take k) ++ [.int .u8 ((l[k]).1.toNat : Int), .string (l[k]).2] := by
  rw [List.take_add_one, List.getElem?_eq_getElem hk, objV_app]; rfl
theorem own_slice {w : World} {base n size : Nat} {e : TypeId} {v : Value} {xs : List Value} (h : w.ownsRow base e size v n xs) (hn : 1 ≤ n) : ∃ g c, v = .slice (some ⟨g, 0, none⟩) n c ∧ n ≤ c := by
  rcases h.2 with ⟨_, h2⟩ | ⟨g, cap, cur, rfl, _, _, h5, _⟩
  · omega
  · exact ⟨g, cap, rfl, h5⟩
set_option maxRecDepth 100000 in
set_option maxHeartbeats 1000000 in
theorem own_any (A : Option Addr) (n c : Nat) (l : List PObj) (w : World) (B : Nat) (hr : Reads w B 2 A n (objV l)) (hB : B ≤ w.heap.size) (hn : n * 24 ≤ 140737488351232) :
    Calls Try.prog 7 #[.slice A n c] w fun e w' => ∃ g cap, e = .returned (.slice (some ⟨g, 0, none⟩) n cap) ∧ w'.ownsRow w.heap.size 30 2 (.slice (some ⟨g, 0, none⟩) (n + 1) cap) (n + 1) (objV (l ++ [markO])) ∧ Below w.heap.size w w' := by
  have HR := Lib.hid hr
  have HL := Lib.hid hr.objLen
  clear hr
  go_enter Try.func7, Try.ntmps7
  go_wp2
  go_loopw [3, 4] (fun v i wr => ∃ k : Nat, k ≤ n ∧ i = .int .i64 k ∧ Hid (wr.ownsRow w.heap.size 30 2 v k (objV (l.take k)) ∧ Below w.heap.size w wr)) (fun _ i _ => n - (intOf i).toNat)
  case atStart => exact ⟨0, by omega, rfl, Lib.hid ⟨World.ownsRow_nil _ _ _ _, Below.refl _ _⟩⟩
  case round =>
    obtain ⟨k, hk, rfl, HK⟩ := hrel
    by_cases hlt : k < n
    · obtain ⟨ad, hkl, rfl, hbl, hc0, hc1⟩ := obj_cells HR.out k hlt
      have E1 := Lib.hid (objV_take l k hkl)
      have hC0 : Hid (∀ W : World, (∀ p : Addr, p.block < B → W.cell? p = w.cell? p) → W.cell? (ad.add (k * 2)) = some (.int .u8 ((l[k]).1.toNat : Int)) ∧ W.cell? ((ad.add (k * 2)).add 1) = some (.string (l[k]).2)) := Lib.hid (fun W hW => by
        rw [hW _ (by rw [block_of_add]; exact hbl), hW _ (by rw [block_of_add, block_of_add]; exact hbl)]; exact ⟨hc0, hc1⟩)
      obtain ⟨o, ho⟩ : ∃ o, l[k] = o := ⟨_, rfl⟩
      rw [ho] at E1 hC0
      obtain ⟨x0, x1⟩ := hC0.out wr (fun p hp => HK.out.2.cell (by omega))
      have hle := HK.out.2.size
      have hk1 : k ≤ 4611686018427387904 := by omega
      have hk2 : (k + 1) * 24 ≤ 140737488355328 := by omega
      have hki : (k : Int) < (n : Int) := by omega
      clear hc0 hc1 ho
      go_wp2
      have HO := Lib.hid HK.out.1
      have HCB := Lib.hid (fun (W : World) (hb : Below w.heap.size w W) => hC0.out W (fun p hp => hb.cell (by omega)))
      go_region_held3 (fun w' => w'.cell? (ad.add (k * 2)) = some (.int .u8 (o.1.toNat : Int)) ∧ w'.cell? ⟨(ad.add (k * 2)).block, (ad.add (k * 2)).off + 1, none⟩ = some (.string o.2))
        (first | exact HCB.out _ HK.out.2 | exact HCB.out _ HK.out.2.drew | exact HCB.out _ (HK.out.2.drew.alloc HK.out.2.size _) | exact HCB.out _ (HK.out.2.alloc HK.out.2.size _) | exact HCB.out _ (below_own HK.out.2 HO.out hg))
        ((refine step_appendN elemObj (by rfl) _ _ (by rfl) w.heap.size u3 k _ (by rfl) HO.out #[.int .u8 (o.1.toNat : Int), .string o.2] rfl (by rfl) (by intro u hu; simp at hu; rcases hu with rfl | rfl <;> rfl) hk1 hk2 hle ?_; intro v' w' ho hg))
      have HK' : Hid (w'.ownsRow w.heap.size 30 2 v' (k + 1) (objV (l.take (k + 1))) ∧ Below w.heap.size w w') := Lib.hid ⟨by rw [E1.out]; exact ho, below_own HK.out.2 HO.out hg⟩
      clear ho hg
      go_wp2
      go_roundw
      case rel => exact ⟨k + 1, by omega, by go_num, HK'⟩
      case measure => simp [intOf]; omega
    · obtain rfl : k = n := by omega
      have HO : Hid (wr.ownsRow w.heap.size 30 2 u3 k (objV l)) := Lib.hid (by have := HK.out.1; rw [List.take_of_length_le (by rw [HL.out]; exact Nat.le_refl _)] at this; exact this)
      have hle := HK.out.2.size
      have hk1 : k ≤ 4611686018427387904 := by omega
      have hk2 : (k + 1) * 24 ≤ 140737488355328 := by omega
      go_wp2_with (at_builtin; refine appendN_new elemObj rfl _ _ rfl w.heap.size u3 k _ (by rfl) HO.out #[.int .u8 77, .string ByteArray.empty] rfl (by rfl) (by intro u hu; simp at hu; rcases hu with rfl | rfl <;> rfl) hk1 hk2 hle ?_; intro v' w' ho hg hd; clear hd; have HO2 : Hid (w'.ownsRow w.heap.size 30 2 v' (k + 1) (objV (l ++ [markO]))) := Lib.hid (by rw [objV_app]; exact ho); have HB2 := Lib.hid (below_own HK.out.2 HO.out hg); clear ho hg; obtain ⟨g, cap, rfl, hcap⟩ := own_slice HO2.out (by omega))
      go_ret
      exact ⟨g, cap, rfl, HO2.out, HB2.out⟩
end Go.Proofs.Ytpfccicahfncbaa
namespace Go.Proofs.Ytpfccicahfncbaa
open Go.RowKit Go.WideShapes Go.ChangeShapes
section
variable {H : Type} {enc : TypeId × Value → H} {W : World}
set_option maxRecDepth 100000 in
theorem object_cells {base fuel : Nat} {L : List Value} {x : DataW H × List MemPlace} {sp : Nat → Bool} {held : Bool}
    (hd : DataW.trod enc Try.prog W base sp held fuel 31 L = some x) : ∃ (o : PObj) (y : DataW H), L = [.int .u8 (o.1.toNat : Int), .string o.2] ∧ x.1 = .agg [y, .lit (.string o.2.data.toList)] := by
  have hu := Try.underlying31
  obtain ⟨y0, y1, m, rfl, hlen, e0, e1⟩ := trod_struct2 hu hd
  have h2 : L.length = 2 := by rw [hlen]; kernel_rfl
  obtain ⟨a, ha, _, wa⟩ := DataW.trod_int (P := Try.prog) Try.underlying5 e0
  obtain ⟨t, hT, hy, hz⟩ := DataW.trod_string (P := Try.prog) Try.underlying9 e1
  have k1 : Try.prog.cellsOf 9 = 1 := by kernel_rfl
  have k2 : Try.prog.cellsOf 5 = 1 := by kernel_rfl
  have ha' : (L.drop 0).take 1 = [.int .u8 a] := by rw [← k2]; exact ha
  have hT' : (L.drop 1).take 1 = [.string t] := by rw [← k1]; exact hT
  obtain ⟨k, hk⟩ := u8_of_wf wa
  subst hk
  refine ⟨(k, t), y0.1, ?_, by rw [hy]⟩
  match L, h2, ha', hT' with
  | [x, y], _, h1, h2 =>
    simp at h1 h2
    rw [h1, h2]
theorem weights_all_in {P : Program} {e : TypeId} : ∀ (l : List (DataW H)) (d : DataW H), d ∈ l → ∀ n ∈ d.weights P e, n ∈ DataW.weightsAll P e l
  | [], _, h, _, _ => by cases h
  | x :: r, d, h, n, hn => by
    simp only [DataW.weightsAll, List.mem_append]
    rcases List.mem_cons.1 h with rfl | h
    · exact .inl hn
    · exact .inr (weights_all_in r d h n hn)
set_option maxRecDepth 100000 in
theorem open_objs {base0 base : Nat} {r : Reach} {v : Value} {d : DataW H} {ps : List MemPlace} {ts : List TypeId} {ds : List (DataW H)} {held : Bool}
    (hval : Value.okWide Try.prog W r base0 22 v) (hd : DataW.Trod enc Try.prog W base (fun _ => true) held 22 v d ps)
    (hsz : (DataW.weightsEach Try.prog ts ds).all (· ≤ reachBytes) = true) (j : Nat) (hts : ts[j]? = some 22) (hds : ds[j]? = some d) (mem : ∀ x ∈ ps, x.block < W.heap.size) :
    ∃ (A : Option Addr) (n c : Nat) (L : List PObj), v = .slice A n c ∧ Reads W W.heap.size 2 A n (objV L) ∧ n * 24 ≤ 140737488351232 ∧ (∀ o ∈ L, o.2.size ≤ 140737488355328) ∧ n ≤ c := by
  have hu := Try.underlying22
  have huo := Try.underlying31
  obtain ⟨a0, len, cap, rfl⟩ := okWide_slice (P := Try.prog) hu hval
  obtain ⟨fuel, hf⟩ := hd
  have k2 : Try.prog.cellsOf 31 = 2 := by kernel_rfl
  have k24 : Try.prog.bytesOf 31 = 24 := by kernel_rfl
  have hcs : (Value.slice a0 len cap).cells.toList = [.slice a0 len cap] := rfl
  rw [hcs] at hf
  rcases DataW.trod_slice (P := Try.prog) hu hf with ⟨h0, hx⟩ | ⟨a, len', cap', elems, rest, n, _, h0, hx, hb, hl, hm, hlen, hel, hsp, hns⟩
  · simp at h0
    obtain ⟨rfl, rfl, rfl⟩ := h0
    exact ⟨none, 0, 0, [], rfl, Reads.none_, by omega, by simp, Nat.le_refl _⟩
  · simp at h0
    obtain ⟨rfl, rfl, rfl⟩ := h0
    rw [k2] at hel
    simp only [Prod.mk.injEq] at hx
    have hall : ∀ n ∈ d.weights Try.prog 22, n ≤ reachBytes := fun n hn => by
      have := List.all_eq_true.1 hsz _ (DataW.weights_mem_each hts hds n hn)
      simpa using this
    have each : ∀ i, ∃ o : PObj, i < len → o.2.size ≤ 140737488355328 ∧ W.cell? (a.add (i * 2)) = some (.int .u8 (o.1.toNat : Int)) ∧ W.cell? ((a.add (i * 2)).add 1) = some (.string o.2) := fun i => by
      by_cases hi : i < len
      · have h := hel i hi
        rw [List.getElem?_eq_getElem (by omega), Option.bind_eq_some_iff] at h
        obtain ⟨cs, h1, h2⟩ := h
        obtain ⟨o, y, rfl, hy⟩ := object_cells h2
        obtain ⟨q1, q2, q3⟩ := World.cells?_some h1
        have g0 := q3 0 (by omega)
        have g1 := q3 1 (by omega)
        refine ⟨o, fun _ => ⟨?_, by simpa [Addr.add] using g0, by simpa using g1⟩⟩
        have hw : o.2.data.toList.length ∈ DataW.weightsAll Try.prog 31 (elems.map (·.1)) := weights_all_in _ _ (List.mem_map_of_mem (f := (·.1)) (List.getElem_mem (show i < elems.length by omega))) _ (by
          rw [hy]
          simp [DataW.weights, huo, DataW.weightsEach])
        have := hall o.2.data.toList.length (by
          rw [hx.1]
          simp only [DataW.weights, hu, List.mem_cons, List.mem_append]
          exact .inr (.inl hw))
        rw [Array.length_toList] at this
        unfold reachBytes at this
        have e : o.2.data.size = o.2.size := rfl
        omega
      · exact ⟨(0, ByteArray.empty), fun h => absurd h hi⟩
    obtain ⟨S, hS⟩ : ∃ S : Nat → PObj, ∀ i, i < len → (S i).2.size ≤ 140737488355328 ∧ W.cell? (a.add (i * 2)) = some (.int .u8 ((S i).1.toNat : Int)) ∧ W.cell? ((a.add (i * 2)).add 1) = some (.string (S i).2) := ⟨fun i => Classical.choose (each i), fun i => Classical.choose_spec (each i)⟩
    have hlb : len * 24 ≤ 140737488351232 := by
      have := hall ((elems.length + rest.length) * 24) (by rw [hx.1]; simp [DataW.weights, hu, k24])
      unfold reachBytes at this
      omega
    refine ⟨some a, len, cap, (List.range len).map S, rfl, ⟨by rw [objV_length]; simp, fun hn => ⟨a, rfl, ?_, fun k u hk => ?_⟩⟩, hlb, fun x hx' => ?_, hl⟩
    · exact mem _ (by rw [hx.2]; exact List.mem_append_left _ (MemPlace.mem_row.2 ⟨0, by rw [k2]; omega, rfl⟩))
    · have hk2 : k < len * 2 := by
        have := (List.getElem?_eq_some_iff.1 hk).1
        rw [objV_length] at this
        simpa using this
      obtain ⟨i, hi⟩ : ∃ i, k = i * 2 ∨ k = i * 2 + 1 := ⟨k / 2, by omega⟩
      have hil : i < len := by omega
      obtain ⟨e0, e1⟩ := objV_get ((List.range len).map S) i (by simpa using hil)
      have hc := (hS i hil).2
      rw [show ((List.range len).map S)[i]'(by simpa using hil) = S i from by simp] at e0 e1
      rcases hi with rfl | rfl
      · rw [e0] at hk
        rw [← Option.some.inj hk]
        exact hc.1
      · rw [e1] at hk
        rw [← Option.some.inj hk, ← add_of_add]
        exact hc.2
    · obtain ⟨i, hi, rfl⟩ := List.mem_map.1 hx'
      exact (hS i (List.mem_range.1 hi)).1
end
end Go.Proofs.Ytpfccicahfncbaa
namespace Go.Proofs.Ytpfccicahfncbaa
open Go.RowKit
theorem u32_nat {n : Int} (h : (Lit.int .u32 n).wf = true) : ∃ a : Nat, n = (a : Int) ∧ a < 4294967296 := by
  have h := bounds_u32 h
  exact ⟨n.toNat, by omega, by omega⟩
theorem u64_nat {n : Int} (h : (Lit.int .u64 n).wf = true) : ∃ a : Nat, n = (a : Int) ∧ a < 18446744073709551616 := by
  have h := bounds_u64 h
  exact ⟨n.toNat, by omega, by omega⟩
end Go.Proofs.Ytpfccicahfncbaa
namespace Go.Proofs.Ytpfccicahfncbaa
open Go.RowKit Wir
set_option linter.unusedVariables false
/-- A number of k bytes, the greatest first. -/
def beN (F : Nat → UInt8) : Nat → Nat
  | 0 => 0
  | k + 1 => beN F k * 256 + (F k).toNat
theorem beN_lt (F : Nat → UInt8) (k : Nat) : beN F k < 2 ^ (8 * k) := by
  induction k with
  | zero => exact (by decide : 0 < 2 ^ 0)
  | succ k ih =>
    have := (F k).toNat_lt
    rw [Nat.mul_add, Nat.pow_add]
    show beN F k * 256 + _ < 2 ^ (8 * k) * 256
    omega
theorem beN_small (F : Nat → UInt8) (k : Nat) (h : k ≤ 7) : beN F k < 72057594037927936 := Nat.lt_of_lt_of_le (beN_lt F k) (Nat.pow_le_pow_right (by omega) (by omega) : 2 ^ (8 * k) ≤ 2 ^ 56)
theorem fix_step (a x : Nat) (ha : a < 72057594037927936) (hx : x < 256) : bits .or .u64 (IntKind.u64.wrap ((a : Int) * 256)) (x : Int) = ((a * 256 + x : Nat) : Int) := by
  have e : (a : Int) * 256 = ((a * 256 : Nat) : Int) := by omega
  have wz : ∀ n : Nat, n < 18446744073709551616 → IntKind.u64.wrap (n : Int) = (n : Int) := fun n h => by rw [IntKind.wrap_u64]; omega
  rw [e, wz _ (by omega), u64_or_nat _ _ (by omega) (by omega)]
  congr 1
  have := Nat.two_pow_add_eq_or_of_lt (b := x) (i := 8) (by simpa using hx) a
  rw [show (2 ^ 8 * a) = a * 256 from by rw [Nat.mul_comm]] at this
  exact this.symm
/-- What Fixed tells. -/
def fixV (s : ByteArray) (k : Nat) : Nat := if s.size < k then 0 else beN (byteAt s) k
theorem fixF_any (s : ByteArray) (wb nb k : Nat) (w : World) (hw : Blk w wb 3 #[.int .i64 (k : Int)]) (h : Blk w nb 99 #[.int .u64 0]) (hs : s.size ≤ 9223372036854775807) (hk : k ≤ 8) :
    Calls Try.prog 82 #[.string s, .pointer (some ⟨wb, 0, none⟩), .pointer (some ⟨nb, 0, none⟩)] w fun e w' => e = .returned (.int .i64 (k : Int)) ∧ Blk w' nb 99 #[.int .u64 (fixV s k : Int)] ∧ (∀ g, g ≠ nb → g < w.heap.size → w'.heap[g]? = w.heap[g]?) ∧ ∀ B, B ≤ nb → Below B w w' := by
  have hne : wb ≠ nb := Blk.ne_ hw h (by decide)
  have c0 : w.cell? ⟨nb, 0, none⟩ = some (.int .u64 0) := h.cell 0
  have c1 : w.cell? ⟨wb, 0, none⟩ = some (.int .i64 (k : Int)) := hw.cell 0
  have H := Lib.hid h
  have HW := Lib.hid hw
  clear h hw
  go_enter Try.func82, Try.ntmps82
  by_cases hle : s.size < k
  · have E : Hid (fixV s k = 0) := Lib.hid (if_pos hle)
    go_wp2
    go_ret
    exact ⟨rfl, by rw [E.out]; exact H.out, fun g _ _ => rfl, fun B _ => Below.refl _ _⟩
  · have E : Hid (fixV s k = beN (byteAt s) k) := Lib.hid (if_neg hle)
    have hki : (k : Int) ≤ (s.size : Int) := by omega
    go_wp2_with fail
    clear c0 c1
    go_loopw [11] (fun i wr => ∃ j : Nat, j ≤ k ∧ i = .int .i64 j ∧ Hid (Blk wr nb 99 #[.int .u64 (beN (byteAt s) j : Int)] ∧ Blk wr wb 3 #[.int .i64 (k : Int)] ∧ (∀ g, g ≠ nb → g < w.heap.size → wr.heap[g]? = w.heap[g]?) ∧ ∀ B, B ≤ nb → Below B w wr)) (fun i _ => k - (intOf i).toNat)
    case atStart => exact ⟨0, by omega, rfl, Lib.hid ⟨H.out, HW.out, fun g _ _ => rfl, fun B _ => Below.refl _ _⟩⟩
    case round =>
      obtain ⟨j, hj, rfl, HK⟩ := hrel
      by_cases hlt : j < k
      · have hjs : j < s.size := by omega
        have hji : (j : Int) < (k : Int) := by omega
        have hji2 : (j : Int) < (s.size : Int) := by omega
        have hx := (byteAt s j).toNat_lt
        have EX := Lib.hid (byteAt_get s j hjs)
        have FS : Hid (bits .or .u64 (IntKind.u64.wrap ((beN (byteAt s) j : Int) * 256)) ((byteAt s j).toNat : Int) = (beN (byteAt s) (j + 1) : Int)) := Lib.hid (fix_step _ _ (beN_small (byteAt s) j (by omega)) hx)
        have HS : Hid (∀ v, Blk (wr.drew.setCell ⟨nb, 0, none⟩ v) nb 99 #[v] ∧ Blk (wr.drew.setCell ⟨nb, 0, none⟩ v) wb 3 #[.int .i64 (k : Int)] ∧ (∀ g, g ≠ nb → g < w.heap.size → (wr.drew.setCell ⟨nb, 0, none⟩ v).heap[g]? = w.heap[g]?) ∧ ∀ B, B ≤ nb → Below B w (wr.drew.setCell ⟨nb, 0, none⟩ v)) := Lib.hid (fun v => ⟨HK.out.1.set_ 0 v, HK.out.2.1.far (p := ⟨nb, 0, none⟩) hne v, fun g h1 h2 => by rw [Below.heap_setCell _ _ _ _ h1]; exact HK.out.2.2.1 g h1 h2, fun B hB => (HK.out.2.2.2 B hB).drew.setCell hB v⟩)
        have c0 : wr.cell? ⟨nb, 0, none⟩ = some (.int .u64 (beN (byteAt s) j : Int)) := HK.out.1.cell 0
        have f0 : wr.frozen? ⟨nb, 0, none⟩ = false := HK.out.1.frozen 0
        obtain ⟨a', ha'⟩ : ∃ a', beN (byteAt s) (j + 1) = a' := ⟨_, rfl⟩
        rw [ha'] at FS
        have HA := Lib.hid ha'
        clear ha'
        generalize beN (byteAt s) j = a at *
        rw [← EX.out] at FS hx
        go_wp2_with fail
        go_region
        rw [FS.out]
        go_wp2
        go_roundw
        case rel => exact ⟨j + 1, by omega, by go_num, Lib.hid (by rw [HA.out]; exact HS.out _)⟩
        case measure => simp [intOf]; omega
      · obtain rfl : j = k := by omega
        have c1 : wr.cell? ⟨wb, 0, none⟩ = some (.int .i64 (j : Int)) := HK.out.2.1.cell 0
        clear hle
        go_wp2
        go_ret
        exact ⟨rfl, by rw [E.out]; exact HK.out.1, HK.out.2.2.1, HK.out.2.2.2⟩
theorem withFixed_any (s : ByteArray) (R wb nb k : Nat) (w : World) (h : Rdr w R s) (hw : Blk w wb 3 #[.int .i64 (k : Int)]) (hn : Blk w nb 99 #[.int .u64 0]) (hs : s.size ≤ 9223372036854775807) (hk : k ≤ 8) :
    Calls Try.prog 78 #[.pointer (some ⟨R, 0, none⟩), .func (.func 82) #[] #[.pointer (some ⟨wb, 0, none⟩), .pointer (some ⟨nb, 0, none⟩)]] w
      fun e w' => e = .returned (.int .i64 (takeE s k)) ∧ Rdr w' R (takeS s k) ∧ Blk w' nb 99 #[.int .u64 (fixV s k : Int)] ∧ ∀ B, B ≤ R → B ≤ nb → Below B w w' := by
  have c0 : w.cell? ⟨R, 0, none⟩ = some (.string s) := h.cell 0
  have hne : R ≠ nb := Blk.ne_ h hn (by decide)
  have H := Lib.hid h
  have F := Lib.hid (fixF_any s wb nb k w hw hn hs hk)
  have hlt := h.lt
  clear h hw hn
  go_enter Try.func78, Try.ntmps78
  go_wp2_with fail
  (with_reducible refine F.out.mono ?_)
  rintro e w1 ⟨rfl, hn1, hk1, hb1⟩
  have R1 : Hid (Rdr w1 R s) := Lib.hid ((hk1 R hne hlt).trans H.out)
  have B1 := Lib.hid hn1
  have L1 : Hid (∀ B, B ≤ R → B ≤ nb → Below B w w1) := Lib.hid (fun B _ h2 => hb1 B h2)
  clear hn1 hk1 hb1 F
  have c1 : w1.cell? ⟨R, 0, none⟩ = some (.string s) := R1.out.cell 0
  have f1 : w1.frozen? ⟨R, 0, none⟩ = false := R1.out.frozen 0
  by_cases hk : s.size < k
  · have E1' : Hid (takeE s k = 4) := Lib.hid (by rw [takeE, if_pos hk])
    have E2' : Hid (takeS s k = s) := Lib.hid (by rw [takeS, if_pos hk])
    go_wp2
    go_ret
    exact ⟨by rw [E1'.out]; rfl, by rw [E2'.out]; exact R1.out, B1.out, L1.out⟩
  · have E1' : Hid (takeE s k = 0) := Lib.hid (by rw [takeE, if_neg hk])
    have E2' : Hid (takeS s k = s.extract k s.size) := Lib.hid (by rw [takeS, if_neg hk])
    have hms : k ≤ s.size := by omega
    clear hk
    go_wp2
    go_ret
    exact ⟨by rw [E1'.out]; rfl, by rw [E2'.out]; exact R1.out.set_ 0 _, B1.out.far (p := ⟨R, 0, none⟩) (by show nb ≠ R; omega) _, fun B h1 h2 => (L1.out B h1 h2).setCell h1 _⟩
theorem fixed_any (s : ByteArray) (R k : Nat) (w : World) (h : Rdr w R s) (hs : s.size ≤ 9223372036854775807) (hk : k ≤ 8) (hk1 : 1 ≤ k) :
    Calls Try.prog 55 #[.pointer (some ⟨R, 0, none⟩), .int .i64 (k : Int)] w
      fun e w' => e = .returned (.tuple #[.int .u64 (fixV s k : Int), .int .i64 (takeE s k)]) ∧ Rdr w' R (takeS s k) ∧ ∀ B, B ≤ R → Below B w w' := by
  have hlt := h.lt
  have hmf : ∀ (fn : Fn) (first cap : Array Value) (w : World), (Instr.makeFunc fn first cap).run Try.prog w = .ok (.func fn first cap) w := fun _ _ _ _ => rfl
  have HN0 := Blk.new w 3 #[.int .i64 (k : Int)]
  have HN := HN0.alloc (.cells #[.int .u64 0] 99)
  have HT0 := Blk.new (w.alloc (.cells #[.int .i64 (k : Int)] 3)) 99 #[.int .u64 0]
  rw [show (w.alloc (.cells #[.int .i64 (k : Int)] 3)).heap.size = w.heap.size + 1 from by simp] at HT0
  have W := Lib.hid (withFixed_any s R w.heap.size (w.heap.size + 1) k ((w.alloc (.cells #[.int .i64 (k : Int)] 3)).alloc (.cells #[.int .u64 0] 99)) ((Blk.alloc h _).alloc _) HN HT0 hs hk)
  have B0 : Hid (∀ B, B ≤ R → Below B w ((w.alloc (.cells #[.int .i64 (k : Int)] 3)).alloc (.cells #[.int .u64 0] 99))) := Lib.hid (fun B hB => ((Below.refl _ _).alloc (by omega) _).alloc (by simp; omega) _)
  have c0 : (w.alloc (.cells #[.int .i64 (k : Int)] 3)).cell? ⟨w.heap.size, 0, none⟩ = some (.int .i64 (k : Int)) := HN0.cell 0
  clear h HN0 HT0 HN
  go_enter Try.func55, Try.ntmps55
  go_wp2_with fail
  (with_reducible refine W.out.mono ?_)
  rintro e w1 ⟨rfl, hr1, hb1, hl1⟩
  have R1 := Lib.hid hr1
  have L1 : Hid (∀ B, B ≤ R → Below B w w1) := Lib.hid (fun B hB => (B0.out B hB).trans (hl1 B hB (by omega)))
  have c1 : w1.cell? ⟨w.heap.size + 1, 0, none⟩ = some (.int .u64 (fixV s k : Int)) := hb1.cell 0
  clear hr1 hl1 hb1 c0 W
  go_wp2
  go_ret2
  exact ⟨rfl, R1.out, L1.out⟩
end Go.Proofs.Ytpfccicahfncbaa
namespace Go.Proofs.Ytpfccicahfncbaa
open Go.RowKit
set_option linter.unusedVariables false
theorem not_word32 (a : UInt32) : bits .xor .u32 IntKind.u32.max (a.toNat : Int) = ((~~~ a).toNat : Int) := by
  have := u32_xorW (-1) a
  rw [UInt32.neg_one_xor] at this
  exact this
theorem bit_val (n : UInt32) : bits .xor .u32 ((n.toNat : Int) / 2) (bits .and .u32 3988292384 (IntKind.u32.wrap (-(bits .and .u32 (n.toNat : Int) 1)))) = ((bitC n).toNat : Int) := by
  have a := u32_andW n 1
  rw [show (((1 : UInt32).toNat : Nat) : Int) = 1 from rfl] at a
  have s := u32_shrW n 1 (by omega)
  rw [show ((2 : Int) ^ 1) = 2 from rfl] at s
  have ng : IntKind.u32.wrap (-((n &&& 1).toNat : Int)) = ((0 - (n &&& 1)).toNat : Int) := by
    rw [IntKind.wrap_u32', UInt32.toNat_sub]
    have : (n &&& 1).toNat < 4294967296 := UInt32.toNat_lt _
    show _ = (((4294967296 - (n &&& 1).toNat + 0) % 4294967296 : Nat) : Int)
    omega
  have b := u32_andW 3988292384 (0 - (n &&& 1))
  rw [show (((3988292384 : UInt32).toNat : Nat) : Int) = 3988292384 from rfl] at b
  rw [a, ng, b, s, u32_xorW]; rfl
theorem bit_val' (n : UInt32) : bits .xor .u32 ((n.toNat : Int) / 2) (bits .and .u32 3988292384 (-(bits .and .u32 (n.toNat : Int) 1) % 4294967296)) = ((bitC n).toNat : Int) := by
  have := bit_val n
  rw [IntKind.wrap_u32'] at this
  exact this
theorem byte_xor (n : UInt32) (b : UInt8) : ∃ x, n ^^^ UInt32.ofNat b.toNat = x ∧ bits .xor .u32 (n.toNat : Int) (b.toNat : Int) = (x.toNat : Int) := by
  refine ⟨_, rfl, ?_⟩
  have := u32_xorW n (UInt32.ofNat b.toNat)
  rw [show (UInt32.ofNat b.toNat).toNat = b.toNat from by rw [UInt32.toNat_ofNat']; have := b.toNat_lt; omega] at this
  exact this
set_option maxRecDepth 100000 in
theorem onF_any (b : UInt8) (P : Nat) (n : UInt32) (w : World) (h : Blk w P 50 #[.int .u32 (n.toNat : Int)]) :
    Calls Try.prog 92 #[.int .u8 (b.toNat : Int), .pointer (some ⟨P, 0, none⟩)] w fun e w' => e = .returned (.tuple #[]) ∧ Blk w' P 50 #[.int .u32 ((stepC n b).toNat : Int)] ∧ w.grownBy w' (some P) := by
  have c0 : w.cell? ⟨P, 0, none⟩ = some (.int .u32 (n.toNat : Int)) := h.cell 0
  have f0 : w.frozen? ⟨P, 0, none⟩ = false := h.frozen 0
  have H := Lib.hid h
  obtain ⟨x, hx, X0⟩ := byte_xor n b
  have HX : Hid (stepC n b = bitsC 8 x) := Lib.hid (by unfold stepC; rw [hx])
  have hb : b.toNat < 256 := b.toNat_lt
  clear h hx
  go_enter Try.func92, Try.ntmps92
  go_wp2
  clear c0 f0 X0
  go_loopw [7] (fun i wr => ∃ k : Nat, k ≤ 8 ∧ i = .int .i64 k ∧ Hid (Blk wr P 50 #[.int .u32 ((bitsC k x).toNat : Int)] ∧ w.grownBy wr (some P))) (fun i _ => 8 - (intOf i).toNat)
  case atStart => exact ⟨0, by omega, rfl, Lib.hid ⟨H.out.set_ 0 _, only_setCell (World.grownBy.refl _ _) (.inl rfl) _⟩⟩
  case round =>
    obtain ⟨k, hk, rfl, HR⟩ := hrel
    by_cases hlt : k < 8
    · have c1 : wr.cell? ⟨P, 0, none⟩ = some (.int .u32 ((bitsC k x).toNat : Int)) := HR.out.1.cell 0
      have f1 : wr.frozen? ⟨P, 0, none⟩ = false := HR.out.1.frozen 0
      have BV := Lib.hid (bit_val' (bitsC k x))
      have SB : Hid (bitsC (k + 1) x = bitC (bitsC k x)) := Lib.hid rfl
      generalize bitsC k x = m at *
      go_wp2
      go_roundw
      case rel =>
        refine ⟨k + 1, by omega, by go_num, Lib.hid ⟨?_, only_setCell HR.out.2 (.inl rfl) _⟩⟩
        rw [BV.out, SB.out]
        exact HR.out.1.set_ 0 _
      case measure => simp [intOf]; omega
    · obtain rfl : k = 8 := by omega
      go_wp2
      go_end0
      exact ⟨rfl, by rw [HX.out]; exact HR.out.1, HR.out.2⟩
set_option maxRecDepth 100000 in
theorem on_any (c : UInt32) (s : ByteArray) (w : World) (hs : s.size ≤ 140737488355328) :
    Calls Try.prog 69 #[.int .u32 (c.toNat : Int), .string s] w fun e w' => e = .returned (.int .u32 ((onC c s).toNat : Int)) ∧ Below w.heap.size w w' := by
  have hmf : ∀ (fn : Fn) (first cap : Array Value) (w : World), (Instr.makeFunc fn first cap).run Try.prog w = .ok (.func fn first cap) w := fun _ _ _ _ => rfl
  go_enter Try.func69, Try.ntmps69
  go_wp2_with ((with_reducible refine conv_bytes_wp (e := 5) (by kernel_rfl) (by kernel_rfl) (by kernel_rfl) rfl _ rfl s rfl ?_); intro cap w1 hc1 hg1)
  have HC : Hid (bufIs w1 5 (w.heap.size + 1) s.size cap (fun j => .int .u8 ((byteAt s j).toNat : Int))) := Lib.hid (by have := hc1; simp only [World.size_alloc] at this; exact this)
  have HB1 : Hid (Below w.heap.size w w1 ∧ Blk w1 w.heap.size 50 #[.int .u32 ((~~~c).toNat : Int)]) := Lib.hid (by
    refine ⟨below_grown ((Below.refl _ _).alloc (Nat.le_refl _) _) hg1 (by intro g h; cases h), ?_⟩
    have := (Blk.new w 50 _).grown hg1 (by intro h; cases h)
    rw [← not_word32]
    exact this)
  have NW := Lib.hid (not_word32 (foldC (~~~c) (byteAt s) s.size))
  clear hc1 hg1
  go_loopw [14] (fun i wr => ∃ k : Nat, k ≤ s.size ∧ i = .int .i64 k ∧ Hid (Blk wr w.heap.size 50 #[.int .u32 ((foldC (~~~c) (byteAt s) k).toNat : Int)] ∧ w1.grownBy wr (some w.heap.size))) (fun i _ => s.size - (intOf i).toNat)
  case atStart => exact ⟨0, by omega, rfl, Lib.hid ⟨HB1.out.2, World.grownBy.refl _ _⟩⟩
  case round =>
    obtain ⟨k, hk, rfl, HR⟩ := hrel
    by_cases hlt : k < s.size
    · have hcell : wr.cell? ⟨w.heap.size + 1, k, none⟩ = some (.int .u8 ((byteAt s k).toNat : Int)) := by
        have := (HC.out.grown HR.out.2 (by simp)).cell hlt
        exact this
      have hki : (k : Int) < (s.size : Int) := by omega
      go_wp2_with fail
      refine (onF_any (byteAt s k) w.heap.size _ _ HR.out.1).mono ?_
      rintro e w2 ⟨rfl, hb2, hg2⟩
      go_wp2
      go_roundw
      case rel => exact ⟨k + 1, by omega, by go_num, Lib.hid ⟨hb2, grown_both HR.out.2 hg2⟩⟩
      case measure => simp [intOf]; omega
    · obtain rfl : k = s.size := by omega
      have c1 : wr.cell? ⟨w.heap.size, 0, none⟩ = some (.int .u32 ((foldC (~~~c) (byteAt s) s.size).toNat : Int)) := HR.out.1.cell 0
      go_wp2
      go_ret
      exact ⟨by show Ending.returned (.int .u32 (bits .xor .u32 IntKind.u32.max _)) = _; rw [NW.out]; rfl, below_grown HB1.out.1 HR.out.2 (by intro g h; injection h with h; omega)⟩
end Go.Proofs.Ytpfccicahfncbaa
namespace Go.Proofs.Ytpfccicahfncbaa
open Go.RowKit
set_option linter.unusedVariables false
theorem crc_any (s : ByteArray) (w : World) (hs : s.size ≤ 140737488355328) :
    Calls Try.prog 70 #[.string s] w fun e w' => e = .returned (.int .u32 ((onC 0 s).toNat : Int)) ∧ Below w.heap.size w w' := by
  have O := Lib.hid (fun W => on_any 0 s W hs)
  go_enter Try.func70, Try.ntmps70
  go_wp2_with fail
  refine (O.out _).mono ?_
  rintro e w' ⟨rfl, hb⟩
  go_wp2
  go_ret
  exact ⟨rfl, hb⟩
theorem half32 (n : UInt32) : (n.toNat : Int) / (2 : Int) = ((n >>> 1).toNat : Int) := by
  have s := u32_shrW n 1 (by omega)
  rw [show ((2 : Int) ^ 1) = 2 from rfl] at s
  exact s
set_option maxRecDepth 100000 in
theorem rstep_any (n : UInt32) (b : UInt8) (w : World) :
    Calls Try.prog 113 #[.int .u32 (n.toNat : Int), .int .u8 (b.toNat : Int)] w fun e w' => e = .returned (.int .u32 ((stepC n b).toNat : Int)) ∧ w = w' := by
  obtain ⟨x, hx, X0⟩ := byte_xor n b
  have HX : Hid (stepC n b = bitsC 8 x) := Lib.hid (by unfold stepC; rw [hx])
  have hb : b.toNat < 256 := b.toNat_lt
  clear hx
  go_enter Try.func113, Try.ntmps113
  go_wp2
  clear X0
  go_loop [0, 5] (fun v i => ∃ k : Nat, k ≤ 8 ∧ i = .int .i64 k ∧ v = .int .u32 ((bitsC k x).toNat : Int)) (fun _ i => 8 - (intOf i).toNat)
  case atStart => exact ⟨0, by omega, rfl, rfl⟩
  case round =>
    obtain ⟨k, hk, rfl, rfl⟩ := hrel
    by_cases hlt : k < 8
    · have SB : Hid (bitsC (k + 1) x = bitC (bitsC k x)) := Lib.hid rfl
      generalize bitsC k x = m at *
      have hm : m.toNat < 4294967296 := m.toNat_lt
      have HH := Lib.hid (half32 m)
      by_cases ho : m.toNat % 2 = 1
      · have HO : Hid (bitC m = m >>> 1 ^^^ 3988292384) := Lib.hid (bitC_odd m ho)
        have hoi : ((m.toNat : Int) % 2 == 1) = true := by rw [beq_iff_eq]; omega
        have XX := Lib.hid (u32_xorW (m >>> 1) 3988292384)
        clear ho
        go_wp2
        go_round
        case rel => exact ⟨k + 1, by omega, by go_num, by
          rw [SB.out, HO.out, HH.out]
          have := XX.out
          rw [show (((3988292384 : UInt32).toNat : Nat) : Int) = 3988292384 from rfl] at this
          rw [this]⟩
        case measure => simp [intOf]; omega
      · have HO : Hid (bitC m = m >>> 1) := Lib.hid (bitC_even m (by omega))
        have hoi : ((m.toNat : Int) % 2 == 1) = false := by rw [beq_eq_false_iff_ne]; omega
        clear ho
        go_wp2
        go_round
        case rel => exact ⟨k + 1, by omega, by go_num, by rw [SB.out, HO.out, HH.out]⟩
        case measure => simp [intOf]; omega
    · obtain rfl : k = 8 := by omega
      go_wp2
      go_ret
      exact ⟨by rw [HX.out]; rfl, rfl⟩
set_option maxRecDepth 100000 in
theorem ron_any (c : UInt32) (s : ByteArray) (w : World) (hs : s.size ≤ 9223372036854775807) :
    Calls Try.prog 105 #[.int .u32 (c.toNat : Int), .string s] w fun e w' => e = .returned (.int .u32 ((onC c s).toNat : Int)) ∧ w = w' := by
  have N0 := Lib.hid (not_word32 c)
  have N1 := Lib.hid (not_word32 (foldC (~~~c) (byteAt s) s.size))
  go_enter Try.func105, Try.ntmps105
  go_wp2
  go_loop [5, 6] (fun v i => ∃ k : Nat, k ≤ s.size ∧ i = .int .i64 k ∧ v = .int .u32 ((foldC (~~~c) (byteAt s) k).toNat : Int)) (fun _ i => s.size - (intOf i).toNat)
  case atStart => exact ⟨0, by omega, rfl, by rw [N0.out]; rfl⟩
  case round =>
    obtain ⟨k, hk, rfl, rfl⟩ := hrel
    by_cases hlt : k < s.size
    · have FB : Hid (foldC (~~~c) (byteAt s) (k + 1) = stepC (foldC (~~~c) (byteAt s) k) (byteAt s k)) := Lib.hid rfl
      have EB := Lib.hid (byteAt_get s k hlt)
      generalize foldC (~~~c) (byteAt s) k = m at *
      go_wp2_with fail
      refine (rstep_any m s[k] _).mono ?_
      rintro e w' ⟨rfl, rfl⟩
      go_wp2
      go_round
      case rel => exact ⟨k + 1, by omega, by go_num, by rw [FB.out, EB.out]⟩
      case measure => simp [intOf]; omega
    · obtain rfl : k = s.size := by omega
      go_wp2
      go_ret
      exact ⟨by show Ending.returned (.int .u32 (bits .xor .u32 IntKind.u32.max _)) = _; rw [N1.out]; rfl, rfl⟩
theorem rcrc_any (s : ByteArray) (w : World) (hs : s.size ≤ 9223372036854775807) :
    Calls Try.prog 94 #[.string s] w fun e w' => e = .returned (.int .u32 ((onC 0 s).toNat : Int)) ∧ w = w' := by
  have O := Lib.hid (fun W => ron_any 0 s W hs)
  go_enter Try.func94, Try.ntmps94
  go_wp2_with fail
  refine (O.out _).mono ?_
  rintro e w' ⟨rfl, rfl⟩
  go_wp2
  go_ret
  exact ⟨rfl, rfl⟩
end Go.Proofs.Ytpfccicahfncbaa
