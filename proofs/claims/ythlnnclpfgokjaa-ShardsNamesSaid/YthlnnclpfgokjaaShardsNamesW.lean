/- Walk: the law ShardsNames returns true. -/
import Derived.Test.YthlnnclpfgokjaaShN
import Derived.Test.YthlnnclpfgokjaaShI
import Derived.Test.YthlnnclpfgokjaaShC
import Derived.Test.YthlnnclpfgokjaaPick
namespace Go.Proofs.Ythlnnclpfgokjaa
open Go.RowKit Gf
set_option linter.unusedVariables false
theorem litReads (w : World) (T : TypeId) (cs : Array Value) (xs : List Value) (n : Nat) (h : cs = xs.toArray) (hn : n = xs.length) : Reads (w.alloc (.cells cs T)) (w.heap.size + 1) 1 (some ⟨w.heap.size, 0, none⟩) n xs := by
  subst h hn
  refine ⟨by omega, fun _ => ⟨_, rfl, by simp, fun j u hj => ?_⟩⟩
  have hj' : j < xs.length := by
    rcases Nat.lt_or_ge j xs.length with h | h
    · exact h
    · simp [h] at hj
  have := (World.rowIs_alloc w xs.toArray T (fun j => xs.getD j undef) (fun i hi => by simp at hi; simp [hi])).cell (i := j) (by simpa using hj')
  have ea : ({ block := w.heap.size, off := 0, spot := none } : Addr).add j = ⟨w.heap.size, j, none⟩ := by unfold Addr.add; split <;> simp_all
  rw [ea, this]
  simp [List.getD, hj]
def sA5 : ByteArray := ⟨#[97, 98, 99, 100, 101]⟩
def sA1 : ByteArray := ⟨#[97]⟩
def cutA : List ByteArray := [⟨#[97, 98, 99]⟩, ⟨#[100, 101, 0]⟩]
theorem cut_a5 : cutR sA5 2 = (cutA, 0) := by
  unfold cutR; rw [if_pos (by omega)]
  show (cutL sA5 2, (0 : Int)) = _
  have : cutL sA5 2 = cutA := by decide +kernel
  rw [this]
theorem cut_a1 : cutR sA1 33 = ([], 1) := by unfold cutR; rw [if_neg (by omega)]
theorem enc_none : encR [] 1 = ([], 1) := encR_no (by rintro ⟨h, _⟩; simp at h)
def four : List ByteArray := [ByteArray.empty, ByteArray.empty, ByteArray.empty, ByteArray.empty]
def one4 : List Bool := [true, false, false, false]
theorem reb_lost : rebR four one4 2 = ([], 70) := by
  unfold rebR
  rw [if_pos ⟨by omega, by omega, by decide, by decide, by decide⟩, if_neg (by decide +kernel), if_pos (by decide +kernel)]
set_option maxRecDepth 100000 in
set_option maxHeartbeats 1000000 in
theorem shardsNames_walk (w : World) : Calls Try.prog 13 #[] w fun e w' => e = .returned (.bool true) ∧ Below w.heap.size w w' := by
  have hmk : ∀ W : World, (Instr.makeSlice 28 (.int .i64 4) (.int .i64 4)).run Try.prog W = .ok (.slice (some ⟨W.heap.size, 0, none⟩) 4 4) (W.alloc (.cells #[.string ByteArray.empty, .string ByteArray.empty, .string ByteArray.empty, .string ByteArray.empty] 9)) := fun _ => by kernel_rfl
  go_enter Try.func13, Try.ntmps13
  go_wp2_with fail
  refine (cut_any sA5 2 _ (by decide)).mono ?_
  rintro e w1 ⟨va, rfl, hoa, hba⟩
  rw [cut_a5] at hoa ⊢
  have HOA : Hid (w1.ownsRow w.heap.size 9 1 va 2 (strV cutA)) := Lib.hid hoa
  have HB1 := Lib.hid hba
  have s1 := hba.size
  clear hoa hba
  go_wp2_with fail
  refine (cut_any sA1 33 _ (by decide)).mono ?_
  rintro e w2 ⟨v2, rfl, ho2, hb2⟩
  rw [cut_a1]
  have HB2 := Lib.hid (HB1.out.trans (hb2.mono s1))
  have HO2 := Lib.hid (own_below HOA.out hb2)
  have s2 := HB2.out.size
  clear ho2 hb2
  go_wp2_with fail
  refine (encode_any none 0 0 [] 1 _ 0 Reads.none_ (by omega) (by omega) (by omega) (by omega) (by decide)).mono ?_
  rintro e w3 ⟨v3, rfl, ho3, hb3⟩
  rw [enc_none]
  have HB3 := Lib.hid (HB2.out.trans (hb3.mono s2))
  have HO3 := Lib.hid (own_below HO2.out hb3)
  have s3 := HB3.out.size
  clear ho3 hb3
  go_wp2_with fail
  have RL : Hid (∀ W : World, Reads ((W.alloc (.cells #[.string ByteArray.empty, .string ByteArray.empty, .string ByteArray.empty, .string ByteArray.empty] 9)).alloc (.cells #[.bool true, .bool false, .bool false, .bool false] 4)) (W.heap.size + 1) 1 (some ⟨W.heap.size, 0, none⟩) 4 (strV four)) := Lib.hid (fun W => (litReads W 9 _ (strV four) 4 rfl rfl).alloc (by simp) _)
  have RB : Hid (∀ W : World, Reads ((W.alloc (.cells #[.string ByteArray.empty, .string ByteArray.empty, .string ByteArray.empty, .string ByteArray.empty] 9)).alloc (.cells #[.bool true, .bool false, .bool false, .bool false] 4)) (W.heap.size + 2) 1 (some ⟨W.heap.size + 1, 0, none⟩) 4 (boolV one4)) := Lib.hid (fun W => by
    have := litReads (W.alloc (.cells #[.string ByteArray.empty, .string ByteArray.empty, .string ByteArray.empty, .string ByteArray.empty] 9)) 4 #[.bool true, .bool false, .bool false, .bool false] (boolV one4) 4 rfl rfl
    simpa using this)
  refine (rebuild_any _ 4 4 four _ 4 4 one4 2 _ _ _ (RL.out w3) (by simp) (RB.out w3) (by simp) (by omega) (by omega) (by decide)).mono ?_
  rintro e w4 ⟨v4, rfl, ho4, hb4⟩
  rw [reb_lost]
  have HB34 : Hid (Below w3.heap.size w3 w4) := Lib.hid ((((Below.refl w3.heap.size w3).alloc (Nat.le_refl _) _).alloc (by simp) _).trans (hb4.mono (by simp; omega)))
  have HB4 := Lib.hid (HB3.out.trans (HB34.out.mono s3))
  have HO4 := Lib.hid (own_below HO3.out HB34.out)
  have s4 := HB4.out.size
  clear ho4 hb4 hmk
  obtain ⟨Aa, ca, rfl, _, hra⟩ := own_readsC HO4.out
  have RL5 : Hid (Reads (w4.alloc (.cells #[.string ⟨#[97, 98, 99]⟩, .string ⟨#[100, 101, 0]⟩] 9)) (w4.heap.size + 1) 1 (some ⟨w4.heap.size, 0, none⟩) 2 (strV cutA)) := Lib.hid (litReads w4 9 _ (strV cutA) 2 rfl rfl)
  have RA5 : Hid (Reads (w4.alloc (.cells #[.string ⟨#[97, 98, 99]⟩, .string ⟨#[100, 101, 0]⟩] 9)) w4.heap.size 1 Aa 2 (strV cutA)) := Lib.hid (hra.alloc (Nat.le_refl _) _)
  have HB5 := Lib.hid (HB4.out.alloc s4 (.cells #[.string ⟨#[97, 98, 99]⟩, .string ⟨#[100, 101, 0]⟩] 9))
  clear hra
  go_wp2_with fail
  refine (same_self _ _ 2 _ 2 _ cutA _ _ _ RA5.out RL5.out (by omega) (by omega)).mono ?_
  rintro e w5 ⟨rfl, q, rfl⟩
  go_wp2
  go_ret
  exact ⟨rfl, below_drewN HB5.out _⟩
end Go.Proofs.Ythlnnclpfgokjaa
