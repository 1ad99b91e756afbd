/- A slice of MemOps that came in, as a walk is told of it. -/
import Derived.Test.YtnapgigemdmigaaDoorRd
namespace Go.Proofs.YtnapgigemdmigaaDoor
open Go.RowKit

/-- element i: three integers z i q, and a slice of bytes -/
def IsMemOps (w : World) (a : Option Addr) (len : Nat) (z : Nat → Nat → Int) (A : Nat → Option Addr) (L C : Nat → Nat) (Z : Nat → List Int) : Prop :=
  len = 0 ∨ ∃ b off, a = some ⟨b, off, none⟩ ∧ len * 48 ≤ 140737488351232 ∧ b < w.heap.size ∧ ∀ i, i < len →
    (∀ q, q < 3 → w.cell? ⟨b, off + i * 4 + q, none⟩ = some (.int .i64 (z i q)) ∧ (Lit.int .i64 (z i q)).wf = true) ∧ w.cell? ⟨b, off + i * 4 + 3, none⟩ = some (.slice (A i) (L i) (C i)) ∧ IsRow .u8 1 w (A i) (L i) (C i) (Z i)
end Go.Proofs.YtnapgigemdmigaaDoor
