/- Walk: pack.records with Scan's function; what it tells. -/
import Derived.Test.YtpfccicahfncbaaMgPackBack2
import Derived.Test.YtpfccicahfncbaaScn1MPackBack
namespace Go.Proofs.Ytpfccicahfncbaa
open Go.RowKit Wir Dig
set_option linter.unusedVariables false
set_option linter.unusedSimpArgs false
theorem fstF_ok {s r : ByteArray} {o : PObj} (h : fstF s = some (o, r)) : okO o = true ∧ r.size + 9 + o.2.size = s.size := by
  cases hu : unF s with
  | none => rw [fstF_none hu] at h; cases h
  | some q =>
    obtain ⟨p, r'⟩ := q
    have hsz := unF_sizes hu
    by_cases h0 : p.size = 0
    · rw [fstF_empty hu h0] at h; cases h
    · cases hb : okO (byteAt p 0, p.extract 1 p.size) with
      | false => rw [fstF_bad hu h0 hb] at h; cases h
      | true =>
        rw [fstF_some hu h0 hb] at h
        injection h with h
        injection h with h1 h2
        subst h1; subst h2
        refine ⟨hb, ?_⟩
        show _ + 9 + (p.extract 1 p.size).size = _
        rw [ByteArray.size_extract]; omega
open Classical in
/-- Records, as Scan goes through them: the entries, what is left. -/
noncomputable def scnF (N : Nat) : Nat → ByteArray → List (Nat × PObj) → List (Array Value) → List (Nat × PObj) × ByteArray
  | 0, s, L, _ => (L, s)
  | f + 1, s, L, S => match fstF s with
    | none => (L, s)
    | some (o, r) => if nmA o ∈ S ∨ 65536 < L.length + 1 then (L ++ [(N - s.size, o)], s) else scnF N f r (L ++ [(N - s.size, o)]) (nmA o :: S)
theorem scnF_none {N f : Nat} {s : ByteArray} {L : List (Nat × PObj)} {S : List (Array Value)} (h : fstF s = none) : scnF N (f + 1) s L S = (L, s) := by rw [scnF, h]
theorem scnF_stop {N f : Nat} {s r : ByteArray} {o : PObj} {L : List (Nat × PObj)} {S : List (Array Value)} (h : fstF s = some (o, r)) (hx : nmA o ∈ S ∨ 65536 < L.length + 1) : scnF N (f + 1) s L S = (L ++ [(N - s.size, o)], s) := by rw [scnF, h]; simp only; rw [if_pos hx]
theorem scnF_on {N f : Nat} {s r : ByteArray} {o : PObj} {L : List (Nat × PObj)} {S : List (Array Value)} (h : fstF s = some (o, r)) (h1 : ¬ nmA o ∈ S) (h2 : L.length + 1 ≤ 65536) : scnF N (f + 1) s L S = scnF N f r (L ++ [(N - s.size, o)]) (nmA o :: S) := by
  rw [scnF, h]; simp only; rw [if_neg (by rintro (h | h); exact h1 h; omega)]
def strLen : Value → Nat
  | .string b => b.size
  | _ => 0
set_option maxRecDepth 100000 in
set_option maxHeartbeats 1000000 in
theorem recordsS_any (s : ByteArray) (base mb lb m : Nat) (v : Value) (w : World) (h : ScI w base mb lb m v []) (hS : SeenC w m 0 []) (h4 : 4 ≤ s.size) (hs : s.size ≤ 140737488355328) :
    Calls Try.prog 40 #[.string s, .func (.func 41) #[] #[.pointer (some ⟨mb, 0, none⟩), .pointer (some ⟨lb, 0, none⟩)]] w fun e w' => ∃ v', e = .returned (.string (scnF s.size (s.size + 1) (s.extract 4 s.size) [] []).2) ∧ ScI w' base mb lb m v' (scnF s.size (s.size + 1) (s.extract 4 s.size) [] []).1 ∧ Below base w w' := by
  have HH := Lib.hid h
  have HS := Lib.hid hS
  have h4i : (4 : Int) ≤ (s.size : Int) := by omega
  clear h hS
  go_enter Try.func40, Try.ntmps40
  go_wp2
  obtain ⟨T, hT⟩ : ∃ T, scnF s.size (s.size + 1) (s.extract 4 s.size) [] [] = T := ⟨_, rfl⟩
  have HT := Lib.hid hT
  have hr0 : (s.extract 4 s.size).size < s.size + 1 := by rw [ByteArray.size_extract]; omega
  clear hT
  go_loopw [5] (fun u5 wr => ∃ (r : ByteArray) (L : List (Nat × PObj)) (S : List (Array Value)) (v : Value) (f : Nat), u5 = .string r ∧ r.size < f ∧ r.size ≤ s.size ∧ Hid (ScI wr base mb lb m v L ∧ SeenC wr m L.length S ∧ Below base w wr ∧ scnF s.size f r L S = T) ∧ L.length ≤ 65536) (fun u5 _ => strLen u5)
  case atStart => exact ⟨_, [], [], v, s.size + 1, rfl, hr0, by omega, Lib.hid ⟨HH.out, HS.out, Below.refl _ _, HT.out⟩, by simp⟩
  case round =>
    obtain ⟨r, L, S, v, f, rfl, hrf, hrs, HK, hL⟩ := hrel
    obtain ⟨f, rfl⟩ : ∃ k, f = k + 1 := ⟨f - 1, by omega⟩
    have F := Lib.hid (fun W => pkFirst_any r W (by omega))
    cases hf : fstF r with
    | none =>
      have E := Lib.hid ((scnF_none (N := s.size) (f := f) (L := L) (S := S) hf).symm.trans HK.out.2.2.2)
      rw [fstV_none hf] at F
      unfold zeroO at F
      clear hf
      go_wp2_with fail
      (with_reducible refine (F.out _).mono ?_)
      rintro e w1 ⟨rfl, hb1⟩
      have HF : Hid (ScI (w1.alloc (.cells #[.int .u8 0, .string ByteArray.empty] 30)) base mb lb m v L ∧ Below base w (w1.alloc (.cells #[.int .u8 0, .string ByteArray.empty] 30))) := Lib.hid ⟨(HK.out.1.below hb1).below ((Below.refl _ _).alloc (Nat.le_refl _) _), ((HK.out.2.2.1.trans (hb1.mono HK.out.1.2.2.2.2.2.2)).alloc (HK.out.1.below hb1).2.2.2.2.2.2 _)⟩
      clear hb1 F
      go_wp2
      go_ret
      exact ⟨v, by rw [HT.out, ← E.out]; rfl, by rw [HT.out, ← E.out]; exact HF.out.1, HF.out.2⟩
    | some q =>
      obtain ⟨o, r'⟩ := q
      have hok := fstF_ok hf
      have hzo := (okO_iff o).1 hok.1
      have C : Hid (∀ W, ScI W base mb lb m v L → SeenC W m L.length S → Calls Try.prog 41 #[.int .i64 ((s.size : Int) - (r.size : Int)), .agg #[.int .u8 (o.1.toNat : Int), .string o.2], .pointer (some ⟨mb, 0, none⟩), .pointer (some ⟨lb, 0, none⟩)] W fun e w' => ∃ v', e = .returned (.bool (!(@decide (nmA o ∈ S) (Classical.propDecidable _)) && decide (L.length + 1 ≤ 65536))) ∧ ScI w' base mb lb m v' (L ++ [(s.size - r.size, o)]) ∧ (¬ nmA o ∈ S → SeenC w' m (L.length + 1) (nmA o :: S)) ∧ Below base W w') := Lib.hid (fun W h1 h2 => by
        have := scanF_any (s.size - r.size) o base mb lb m L.length v L S W h1 h2 hL hL hzo.2.2 (by omega)
        rw [show ((s.size - r.size : Nat) : Int) = (s.size : Int) - (r.size : Int) from by omega] at this
        exact this)
      have ES := Lib.hid (fun hx => (scnF_stop (N := s.size) (f := f) (L := L) (S := S) hf hx).symm.trans HK.out.2.2.2)
      have EO := Lib.hid (fun h1 h2 => (scnF_on (N := s.size) (f := f) (L := L) (S := S) hf h1 h2).symm.trans HK.out.2.2.2)
      rw [fstV_some hf] at F
      unfold objA at F
      have hr' := hok.2
      have hsub : IntKind.i64.wrap ((s.size : Int) - (r.size : Int)) = (s.size : Int) - (r.size : Int) := wrap_small _ (by omega)
      clear hf hok
      go_wp2_with fail
      (with_reducible refine (F.out _).mono ?_)
      rintro e w1 ⟨rfl, hb1⟩
      have HF : Hid (ScI (w1.alloc (.cells #[.int .u8 (o.1.toNat : Int), .string o.2] 30)) base mb lb m v L ∧ SeenC (w1.alloc (.cells #[.int .u8 (o.1.toNat : Int), .string o.2] 30)) m L.length S ∧ Below base w (w1.alloc (.cells #[.int .u8 (o.1.toNat : Int), .string o.2] 30))) := Lib.hid ⟨(HK.out.1.below hb1).below ((Below.refl _ _).alloc (Nat.le_refl _) _), (HK.out.2.1.below hb1).below ((Below.refl _ _).alloc (Nat.le_refl _) _), ((HK.out.2.2.1.trans (hb1.mono HK.out.1.2.2.2.2.2.2)).alloc (HK.out.1.below hb1).2.2.2.2.2.2 _)⟩
      have HQ := Lib.hid (Blk.new w1 30 #[.int .u8 (o.1.toNat : Int), .string o.2])
      clear hb1 F
      go_upto_region 3 with fail
      generalize w1.alloc (.cells #[.int .u8 (o.1.toNat : Int), .string o.2] 30) = w2 at HF HQ ⊢
      have y0 := HQ.out.cell 0
      have y1 := HQ.out.cell 1
      go_wp2_with fail
      (with_reducible refine (C.out _ HF.out.1 HF.out.2.1).mono ?_)
      rintro e w3 ⟨v3, rfl, h3, h4', hb3⟩
      have H3 := Lib.hid h3
      have H4 := Lib.hid h4'
      have HB3 : Hid (Below base w w3) := Lib.hid (HF.out.2.2.trans hb3)
      clear h3 h4' hb3 C y0 y1
      by_cases hst : nmA o ∈ S ∨ 65536 < L.length + 1
      · have E := Lib.hid (ES.out hst)
        have HB : Hid ((!(@decide (nmA o ∈ S) (Classical.propDecidable _)) && decide (L.length + 1 ≤ 65536)) = false) := Lib.hid (by
          rcases hst with h | h
          · rw [@decide_eq_true _ (Classical.propDecidable _) h]; rfl
          · rw [decide_eq_false (by omega : ¬ L.length + 1 ≤ 65536), Bool.and_false])
        clear ES EO hst
        rw [HB.out]
        go_wp2
        go_ret
        exact ⟨v3, by rw [HT.out, ← E.out]; rfl, by rw [HT.out, ← E.out]; exact H3.out, HB3.out⟩
      · have h1 : ¬ nmA o ∈ S := fun h => hst (Or.inl h)
        have h2 : L.length + 1 ≤ 65536 := by omega
        have E := Lib.hid (EO.out h1 h2)
        have H5 := Lib.hid (H4.out h1)
        have HB : Hid ((!(@decide (nmA o ∈ S) (Classical.propDecidable _)) && decide (L.length + 1 ≤ 65536)) = true) := Lib.hid (by
          rw [@decide_eq_false _ (Classical.propDecidable _) h1, decide_eq_true h2]; rfl)
        clear ES EO hst h1
        rw [HB.out]
        go_wp2
        go_roundw
        case rel => exact ⟨r', L ++ [(s.size - r.size, o)], nmA o :: S, v3, f, rfl, by omega, by omega, Lib.hid ⟨H3.out, by rw [List.length_append]; exact H5.out, HB3.out, E.out⟩, by rw [List.length_append]; exact h2⟩
        case measure => simp [strLen]; omega
end Go.Proofs.Ytpfccicahfncbaa
