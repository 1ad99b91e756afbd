/- A slice of structs of two integers that came in, as a walk is told of it. -/
import Derived.Test.YtnjcmhpifdaheaaDoorRd
namespace Go.Proofs.YtnjcmhpifdaheaaDoor
open Go.RowKit

/-- element i's field q is the integer z i q -/
def IsPairs (w : World) (a : Option Addr) (len : Nat) (z : Nat → Nat → Int) : Prop :=
  len = 0 ∨ ∃ b off, a = some ⟨b, off, none⟩ ∧ len * 16 ≤ 140737488351232 ∧ b < w.heap.size ∧ (∀ i q, i < len → q < 2 → w.cell? ⟨b, off + i * 2 + q, none⟩ = some (.int .i64 (z i q))) ∧
    ∀ i q, i < len → q < 2 → (Lit.int .i64 (z i q)).wf = true
end Go.Proofs.YtnjcmhpifdaheaaDoor
