/- A slice of calls that came in, as a walk is told of it. -/
import Derived.Test.YtnjcmhpifdaheaaDoorRd
import Derived.Test.YtnjcmhpifdaheaaDoorOrderCheck
namespace Go.Proofs.YtnjcmhpifdaheaaDoor
open Go.RowKit

def IsCallRow (w : World) (a : Option Addr) (len cap : Nat) (cs : List OCall) : Prop :=
  cs.length = len ∧ len * 40 ≤ 140737488351232 ∧ len ≤ cap ∧ (a = none → len = 0 ∧ cap = 0) ∧ Ord.IsCalls w a cs
end Go.Proofs.YtnjcmhpifdaheaaDoor
