/- A set of attributes as a law is handed it. No conditions. -/
import Derived.Test.YtpfccicahfncbaaAtts
namespace Go.Proofs.Ytpfccicahfncbaa
open Go.RowKit Wir
/-- A set of attributes as a law is handed it. -/
def AttM.good (W : World) (q : AttM) : Prop := Reads W W.heap.size 2 q.A q.n (xtV q.a.xs) ∧ q.a.sized ∧ q.n * 32 ≤ 140737488351232 ∧ q.n ≤ q.c
end Go.Proofs.Ytpfccicahfncbaa
