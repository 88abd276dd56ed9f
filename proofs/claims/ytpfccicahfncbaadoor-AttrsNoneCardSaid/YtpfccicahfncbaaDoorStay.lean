/- A fact that stays: it holds in all later worlds too. No conditions. -/
import Derived.Test.YtpfccicahfncbaaDoorMem3
namespace Go.Proofs.YtpfccicahfncbaaDoor
open Go.RowKit
/-- What holds in all later worlds too. -/
def Stay (P : World → Prop) (W : World) : Prop := ∀ W', Below W.heap.size W W' → P W'
theorem Stay.now {P : World → Prop} {W : World} (h : Stay P W) : P W := h W (Below.refl _ _)
theorem Stay.mono {P : World → Prop} {W W' : World} (h : Stay P W) (hb : Below W.heap.size W W') : Stay P W' := fun _ h2 => h _ (hb.trans (h2.mono hb.size))
theorem Stay.and {P Q : World → Prop} {W : World} (h : Stay P W) (k : Stay Q W) : Stay (fun W => P W ∧ Q W) W := fun _ hb => ⟨h _ hb, k _ hb⟩
theorem Stay.below {w W : World} (h : Below w.heap.size w W) : Stay (fun W => Below w.heap.size w W) W := fun _ hb => h.trans (hb.mono h.size)
end Go.Proofs.YtpfccicahfncbaaDoor
