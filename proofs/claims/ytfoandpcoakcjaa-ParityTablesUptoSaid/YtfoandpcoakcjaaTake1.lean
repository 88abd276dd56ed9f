/- Walks: wire's Reader: Take. -/
import Derived.Test.YtfoandpcoakcjaaRead
namespace Go.Proofs.Ytfoandpcoakcjaa
open Go.RowKit Wir
set_option linter.unusedVariables false
/-- The first n bytes, if there are so many. -/
def tk (s : ByteArray) (n : Nat) : ByteArray := s.extract 0 (min n s.size)
theorem tk_le (s : ByteArray) (n : Nat) (h : n ≤ s.size) : tk s n = s.extract 0 n := by unfold tk; rw [Nat.min_eq_left h]
theorem tk_ge (s : ByteArray) (n : Nat) (h : s.size ≤ n) : tk s n = s := by
  unfold tk; rw [Nat.min_eq_right h]
  simp
/-- What Take tells. -/
def tkR (s : ByteArray) (n : Nat) : ByteArray := if s.size < n then ⟨#[]⟩ else s.extract 0 n
theorem takeF_any (s : ByteArray) (nb tb n : Nat) (v : Value) (w : World) (hn : Blk w nb 3 #[.int .i64 (n : Int)]) (h : Blk w tb 9 #[v]) (hs : s.size ≤ 9223372036854775807) (hn2 : n ≤ 9223372036854775807) :
    Calls Try.prog 89 #[.string s, .pointer (some ⟨nb, 0, none⟩), .pointer (some ⟨tb, 0, none⟩)] w fun e w' => e = .returned (.int .i64 (n : Int)) ∧ w' = w.setCell ⟨tb, 0, none⟩ (.string (tk s n)) := by
  have c0 : w.cell? ⟨tb, 0, none⟩ = some v := h.cell 0
  have f0 : w.frozen? ⟨tb, 0, none⟩ = false := h.frozen 0
  have c1 : w.cell? ⟨nb, 0, none⟩ = some (.int .i64 (n : Int)) := hn.cell 0
  have hne : nb ≠ tb := Blk.ne_ hn h (by decide)
  have c2 : ∀ u, (w.setCell ⟨tb, 0, none⟩ u).cell? ⟨nb, 0, none⟩ = some (.int .i64 (n : Int)) := fun u => (hn.far (p := ⟨tb, 0, none⟩) hne u).cell 0
  clear hn h
  by_cases hle : n < s.size
  · have M := Lib.hid (tk_le s n (by omega))
    go_enter Try.func89, Try.ntmps89
    go_wp2
    go_ret
    exact ⟨rfl, by rw [M.out]⟩
  · have M := Lib.hid (tk_ge s n (by omega))
    have hle2 : s.size ≤ n := by omega
    clear hle
    go_enter Try.func89, Try.ntmps89
    go_wp2
    all_goals
      go_ret
      exact ⟨rfl, by first | (rw [M.out]; done) | (rw [tk_le s n (by omega)]; done)⟩
def takeE (s : ByteArray) (n : Nat) : Int := if s.size < n then 4 else 0
def takeS (s : ByteArray) (n : Nat) : ByteArray := if s.size < n then s else s.extract n s.size
theorem withTake_any (s : ByteArray) (R nb tb n : Nat) (v : Value) (w : World) (h : Rdr w R s) (hnb : Blk w nb 3 #[.int .i64 (n : Int)]) (htb : Blk w tb 9 #[v]) (hs : s.size ≤ 9223372036854775807) (hn2 : n ≤ 9223372036854775807) :
    Calls Try.prog 87 #[.pointer (some ⟨R, 0, none⟩), .func (.func 89) #[] #[.pointer (some ⟨nb, 0, none⟩), .pointer (some ⟨tb, 0, none⟩)]] w
      fun e w' => e = .returned (.int .i64 (takeE s n)) ∧ Rdr w' R (takeS s n) ∧ Blk w' tb 9 #[.string (tk s n)] ∧ ∀ B, B ≤ R → B ≤ tb → Below B w w' := by
  have c0 : w.cell? ⟨R, 0, none⟩ = some (.string s) := h.cell 0
  have hne : R ≠ tb := Blk.ne_ h htb (by decide)
  have H := Lib.hid h
  have HN := Lib.hid hnb
  have HB := Lib.hid htb
  clear h hnb htb
  go_enter Try.func87, Try.ntmps87
  go_wp2_with fail
  refine (takeF_any s nb tb n v _ HN.out HB.out hs hn2).mono ?_
  rintro e w1 ⟨rfl, hw1⟩
  have R1 : Hid (Rdr w1 R s) := Lib.hid (by rw [hw1]; exact H.out.far (p := ⟨tb, 0, none⟩) (by show R ≠ tb; exact hne) _)
  have B1 : Hid (Blk w1 tb 9 #[.string (tk s n)]) := Lib.hid (by rw [hw1]; exact HB.out.set_ 0 _)
  have L1 : Hid (∀ B, B ≤ R → B ≤ tb → Below B w w1) := Lib.hid (fun B h1 h2 => by rw [hw1]; exact (Below.refl _ _).setCell h2 _)
  clear hw1
  have c1 : w1.cell? ⟨R, 0, none⟩ = some (.string s) := R1.out.cell 0
  have f1 : w1.frozen? ⟨R, 0, none⟩ = false := R1.out.frozen 0
  by_cases hk : s.size < n
  · have E1' : Hid (takeE s n = 4) := Lib.hid (by rw [takeE, if_pos hk])
    have E2' : Hid (takeS s n = s) := Lib.hid (by rw [takeS, if_pos hk])
    go_wp2
    go_ret
    exact ⟨by rw [E1'.out]; rfl, by rw [E2'.out]; exact R1.out, B1.out, L1.out⟩
  · have E1' : Hid (takeE s n = 0) := Lib.hid (by rw [takeE, if_neg hk])
    have E2' : Hid (takeS s n = s.extract n s.size) := Lib.hid (by rw [takeS, if_neg hk])
    have hms : n ≤ s.size := by omega
    clear hk
    go_wp2
    go_ret
    exact ⟨by rw [E1'.out]; rfl, by rw [E2'.out]; exact R1.out.set_ 0 _, B1.out.far (p := ⟨R, 0, none⟩) (by show tb ≠ R; omega) _, fun B h1 h2 => (L1.out B h1 h2).setCell h1 _⟩
theorem take_any' (s : ByteArray) (R n : Nat) (w : World) (h : Rdr w R s) (hs : s.size ≤ 9223372036854775807) (hn : n ≤ 9223372036854775807) :
    Calls Try.prog 58 #[.pointer (some ⟨R, 0, none⟩), .int .i64 (n : Int)] w
      fun e w' => e = .returned (.tuple #[.string (tkR s n), .int .i64 (takeE s n)]) ∧ Rdr w' R (takeS s n) ∧ ∀ B, B ≤ R → Below B w w' := by
  have hlt := h.lt
  have hmf : ∀ (fn : Fn) (first cap : Array Value) (w : World), (Instr.makeFunc fn first cap).run Try.prog w = .ok (.func fn first cap) w := fun _ _ _ _ => rfl
  have HN0 := Blk.new w 3 #[.int .i64 (n : Int)]
  have HN := Lib.hid (HN0.alloc (.cells #[.string ⟨#[]⟩] 9))
  have HT0 := Blk.new (w.alloc (.cells #[.int .i64 (n : Int)] 3)) 9 #[.string ⟨#[]⟩]
  rw [show (w.alloc (.cells #[.int .i64 (n : Int)] 3)).heap.size = w.heap.size + 1 from by simp] at HT0
  have HT := Lib.hid HT0
  have H : Hid (Rdr ((w.alloc (.cells #[.int .i64 (n : Int)] 3)).alloc (.cells #[.string ⟨#[]⟩] 9)) R s) := Lib.hid ((Blk.alloc h _).alloc _)
  have B0 : Hid (∀ B, B ≤ R → Below B w ((w.alloc (.cells #[.int .i64 (n : Int)] 3)).alloc (.cells #[.string ⟨#[]⟩] 9))) := Lib.hid (fun B hB => ((Below.refl _ _).alloc (by omega) _).alloc (by simp; omega) _)
  have c0 : (w.alloc (.cells #[.int .i64 (n : Int)] 3)).cell? ⟨w.heap.size, 0, none⟩ = some (.int .i64 (n : Int)) := HN0.cell 0
  clear h HN0 HT0
  go_enter Try.func58, Try.ntmps58
  go_wp2_with fail
  refine (withTake_any s R w.heap.size (w.heap.size + 1) n _ _ H.out HN.out HT.out hs hn).mono ?_
  rintro e w1 ⟨rfl, hr1, hb1, hl1⟩
  have R1 := Lib.hid hr1
  have L1 : Hid (∀ B, B ≤ R → Below B w w1) := Lib.hid (fun B hB => (B0.out B hB).trans (hl1 B hB (by omega)))
  have c1 : w1.cell? ⟨w.heap.size + 1, 0, none⟩ = some (.string (tk s n)) := hb1.cell 0
  clear hr1 hl1 hb1 c0
  by_cases hk : s.size < n
  · have E1' : Hid (takeE s n = 4) := Lib.hid (by rw [takeE, if_pos hk])
    have IF : Hid (tkR s n = ⟨#[]⟩) := Lib.hid (if_pos hk)
    rw [E1'.out]
    clear hk
    go_wp2
    go_ret2
    exact ⟨by rw [IF.out, E1'.out]; rfl, R1.out, L1.out⟩
  · have E1' : Hid (takeE s n = 0) := Lib.hid (by rw [takeE, if_neg hk])
    have IF : Hid (tkR s n = s.extract 0 n) := Lib.hid (if_neg hk)
    rw [tk_le s n (by omega)] at c1
    rw [E1'.out]
    clear hk
    go_wp2
    go_ret2
    exact ⟨by rw [IF.out, E1'.out]; rfl, R1.out, L1.out⟩
end Go.Proofs.Ytfoandpcoakcjaa
