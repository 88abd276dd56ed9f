/- Several texts of the claim joined into one (part 14): plain facts and walks. No conditions but those that each theorem tells. -/
import Derived.Test.YtpfccicahfncbaaDoorMgAttrsOne8
import Derived.Test.YtpfccicahfncbaaDoorMgAttrsOne9
import Derived.Test.YtpfccicahfncbaaDoorMgAttrsOne3
import Derived.Test.YtpfccicahfncbaaDoorMgAttrsOne13
import Derived.Test.YtpfccicahfncbaaDoorMgAttrsOne11
namespace Go.Proofs.YtpfccicahfncbaaDoor
open Go.RowKit Wir
set_option linter.unusedVariables false
set_option linter.unusedSimpArgs false
set_option maxRecDepth 100000 in
set_option maxHeartbeats 1000000 in
theorem rattPut_any (a : Att) (A : Option Addr) (n c : Nat) (w : World) (B : Nat) (hr : Reads w B 2 A n (xtV a.xs)) (hT : Tabs w) (hB : B ≤ w.heap.size) (hf : a.fit) (hn : n ≤ 4611686018427387904) (ht : a.tg.size ≤ 4611686018427387904) (hz : ∀ p ∈ a.xs, p.1.size ≤ 4611686018427387904 ∧ p.2.size ≤ 4611686018427387904) :
    Calls Tryd.prog 15 #[.agg (attV a A n c)] w fun e w' => e = .returned (.tuple #[.string (putR a), .int .i64 (chkA a)]) ∧ Below w.heap.size w w' := by
  have HR := Lib.hid hr
  have HT := Lib.hid hT
  have HB0 : Hid (Blk (w.alloc (.cells (attV a A n c) 31)) w.heap.size 31 (attV a A n c) ∧ Below w.heap.size w (w.alloc (.cells (attV a A n c) 31))) := Lib.hid ⟨Blk.new _ _ _, (Below.refl _ _).alloc (Nat.le_refl _) _⟩
  have CH := Lib.hid (fun W (hb : Below w.heap.size w W) => rattChk_any a A n c W B (HR.out.below (Below.mono hb hB)) (Utf8Tabs_below HT.out hb) (Nat.le_trans hB hb.size) hf hn ht hz)
  have LD := Lib.hid (fun W (hb : Below w.heap.size w W) (h0 : chkA a = 0) => rattLaid_any a A n c W B (HR.out.below (Below.mono hb hB)) (Nat.le_trans hB hb.size) h0)
  clear hr hz hT
  go_enter Tryd.func15, Tryd.ntmps15
  go_upto_region 1 with fail
  generalize w.alloc (.cells (attV a A n c) 31) = w1 at HB0 ⊢
  obtain ⟨c0, c1, c2, c3, c4, c5, c6⟩ := ratt_cells a A n c w1 _ HB0.out.1
  go_wp2_with fail
  change Calls _ _ #[.agg (attV a A n c)] _ _
  (with_reducible refine (CH.out w1 HB0.out.2).mono ?_)
  rintro e w2 ⟨rfl, hb2⟩
  have HB2 : Hid (Blk w2 w.heap.size 31 (attV a A n c) ∧ Below w.heap.size w w2) := Lib.hid ⟨HB0.out.1.below hb2 HB0.out.1.lt, HB0.out.2.trans (hb2.mono HB0.out.2.size)⟩
  clear c0 c1 c2 c3 c4 c5 c6 hb2 HB0 CH
  by_cases hch : chkA a = 0
  · have E : Hid (putR a = layA a) := Lib.hid (by rw [putR, if_pos hch])
    have L2 := Lib.hid (LD.out w2 HB2.out.2 hch)
    have HC := Lib.hid hch
    obtain ⟨c0, c1, c2, c3, c4, c5, c6⟩ := ratt_cells a A n c w2 _ HB2.out.1
    rw [hch]
    clear hch LD
    go_wp2_with fail
    change Calls _ _ #[.agg (attV a A n c)] _ _
    (with_reducible refine L2.out.mono ?_)
    rintro e w3 ⟨rfl, hb3⟩
    have HB3 : Hid (Below w.heap.size w w3) := Lib.hid (HB2.out.2.trans (hb3.mono HB2.out.2.size))
    clear hb3 L2 c0 c1 c2 c3 c4 c5 c6
    go_wp2
    go_ret2
    exact ⟨by rw [E.out, HC.out]; rfl, HB3.out⟩
  · have E : Hid (putR a = ByteArray.empty) := Lib.hid (by rw [putR, if_neg hch])
    have E1 : Hid (chkA a = 1) := Lib.hid ((chkA_or a).resolve_left hch)
    have hch1 : (chkA a != 0) = true := by rw [bne_iff_ne]; exact hch
    clear hch LD
    go_wp2
    go_ret2
    exact ⟨by rw [E.out, E1.out]; rfl, HB2.out.2⟩
end Go.Proofs.YtpfccicahfncbaaDoor
namespace Go.Proofs.YtpfccicahfncbaaDoor
open Go.RowKit Wir
set_option linter.unusedVariables false
theorem rdR_xlen (s : ByteArray) : (rdR s).1.xs.length ≤ 16 := by
  rcases rdR_or s with ⟨h, e⟩ | ⟨h, e⟩
  · rw [e]
    unfold rdOK at h
    simp only [Bool.and_eq_true, decide_eq_true_eq] at h
    exact (chk2_false (chkA_zero h.2.2.2).2.1).2.2.2
  · rw [e]; exact Nat.zero_le _
/-- What holds in all later worlds too. -/
def Stay (P : World → Prop) (W : World) : Prop := ∀ W', Below W.heap.size W W' → P W'
theorem Stay.now {P : World → Prop} {W : World} (h : Stay P W) : P W := h W (Below.refl _ _)
theorem Stay.mono {P : World → Prop} {W W' : World} (h : Stay P W) (hb : Below W.heap.size W W') : Stay P W' := fun _ h2 => h _ (hb.trans (h2.mono hb.size))
theorem Stay.and {P Q : World → Prop} {W : World} (h : Stay P W) (k : Stay Q W) : Stay (fun W => P W ∧ Q W) W := fun _ hb => ⟨h _ hb, k _ hb⟩
theorem Stay.below {w W : World} (h : Below w.heap.size w W) : Stay (fun W => Below w.heap.size w W) W := fun _ hb => h.trans (hb.mono h.size)
/-- A set of attributes lies at the block p, its list reads. -/
structure AtB (W : World) (t : TypeId) (p : Nat) (a : Att) (A : Option Addr) (n c : Nat) : Prop where
  blk : Blk W p t (attV a A n c)
  rd : Reads W W.heap.size 2 A n (xtV a.xs)
theorem AtB.mono {W W' : World} {t : TypeId} {p n c : Nat} {a : Att} {A : Option Addr} (h : AtB W t p a A n c) (hb : Below W.heap.size W W') : AtB W' t p a A n c :=
  ⟨h.blk.below hb h.blk.lt, (h.rd.below hb).more hb.size⟩
theorem AtB.stay {W : World} {t : TypeId} {p n c : Nat} {a : Att} {A : Option Addr} (h : AtB W t p a A n c) : Stay (fun W => AtB W t p a A n c) W := fun _ hb => h.mono hb
theorem AtB.new {W : World} {t : TypeId} {n c : Nat} {a : Att} {A : Option Addr} (h : Reads W W.heap.size 2 A n (xtV a.xs)) : AtB (W.alloc (.cells (attV a A n c) t)) t W.heap.size a A n c :=
  ⟨Blk.new _ _ _, (h.alloc (Nat.le_refl _) _).more (by simp)⟩
theorem AtB.cells {W : World} {t : TypeId} {p n c : Nat} {a : Att} {A : Option Addr} (h : AtB W t p a A n c) :
    W.cell? ⟨p, 0, none⟩ = some (.int .u8 (a.nd.toNat : Int)) ∧ W.cell? ⟨p, 1, none⟩ = some (.int .u32 (a.md.toNat : Int)) ∧ W.cell? ⟨p, 2, none⟩ = some (.int .u32 (a.ui.toNat : Int)) ∧ W.cell? ⟨p, 3, none⟩ = some (.int .u32 (a.gi.toNat : Int)) ∧ W.cell? ⟨p, 4, none⟩ = some (.int .i64 a.mt) ∧ W.cell? ⟨p, 5, none⟩ = some (.string a.tg) ∧ W.cell? ⟨p, 6, none⟩ = some (.slice A n c) :=
  ⟨h.blk.cell 0, h.blk.cell 1, h.blk.cell 2, h.blk.cell 3, h.blk.cell 4, h.blk.cell 5, h.blk.cell 6⟩
/-- A copy with its mark behind. -/
def MarkB (W : World) (g n : Nat) (l : List (ByteArray × ByteArray)) : Prop := Reads W W.heap.size 2 (some ⟨g, 0, none⟩) (n + 1) (xtV (l ++ [markX]))
theorem MarkB.mono {W W' : World} {g n : Nat} {l : List (ByteArray × ByteArray)} (h : MarkB W g n l) (hb : Below W.heap.size W W') : MarkB W' g n l := (Reads.below h hb).more hb.size
theorem MarkB.stay {W : World} {g n : Nat} {l : List (ByteArray × ByteArray)} (h : MarkB W g n l) : Stay (fun W => MarkB W g n l) W := fun _ hb => h.mono hb
theorem MarkB.len {W : World} {g n : Nat} {l : List (ByteArray × ByteArray)} (h : MarkB W g n l) : l.length = n := by
  have := Reads.xtLen h; rw [List.length_append, List.length_singleton] at this; omega
theorem MarkB.rd {W : World} {g n : Nat} {l : List (ByteArray × ByteArray)} (h : MarkB W g n l) : Reads W W.heap.size 2 (some ⟨g, 0, none⟩) n (xtV l) := by
  have := Reads.short h (Nat.le_succ n)
  rw [xtV_cut1 _ _ _ h.len] at this
  exact this
theorem MarkB.of {W : World} {base g n cap : Nat} {l : List (ByteArray × ByteArray)} (h : W.ownsRow base 43 2 (.slice (some ⟨g, 0, none⟩) (n + 1) cap) (n + 1) (xtV (l ++ [markX]))) : MarkB W g n l ∧ n + 1 ≤ cap := by
  refine ⟨Reads.of_own h, ?_⟩
  rcases h.2 with ⟨h', _⟩ | ⟨g', cap', cur, h', _, _, a3, _⟩
  · cases h'
  · simp only [Value.slice.injEq] at h'
    obtain ⟨_, _, h5⟩ := h'
    omega
end Go.Proofs.YtpfccicahfncbaaDoor
