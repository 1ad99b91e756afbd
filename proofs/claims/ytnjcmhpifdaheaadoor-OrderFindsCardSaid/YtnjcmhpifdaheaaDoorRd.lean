/- How arguments that came in are told to a walk: a row of integers. -/
import Derived.WalkKit
import Derived.ProofKit
import Derived.OpenShut
import Derived.ShutString
import Derived.ChangeOld
import Derived.Below
import Derived.SizedLaws
namespace Go.Proofs.YtnjcmhpifdaheaaDoor
open Go.ChangeShapes Go.WideShapes Go.ChangeAt Go.RowKit

/-- A slice of integers that came in: nil; or a row of 'cap' cells, the numbers 'zs' (the first 'len' are its elements), each fitting its kind; it takes at most 2^47 - 4096 bytes (sz: an element's). -/
def IsRow (k : IntKind) (sz : Nat) (w : World) (a : Option Addr) (len cap : Nat) (zs : List Int) : Prop :=
  (a = none ∧ len = 0 ∧ cap = 0 ∧ zs = []) ∨
  ∃ x, a = some x ∧ len ≤ cap ∧ cap * sz ≤ 140737488351232 ∧ cap ≤ maxLen ∧ zs.length = cap ∧ (∀ i, i < zs.length → w.cell? (x.add i) = some (.int k (zs.getD i 0))) ∧ ∀ n ∈ zs, (Lit.int k n).wf = true
theorem cell_lt {w : World} {a : Addr} {v : Value} (h : w.cell? a = some v) : a.block < w.heap.size := by
  unfold World.cell? at h
  by_cases q : a.block < w.heap.size
  · exact q
  · rw [Array.getElem?_eq_none (by omega)] at h; cases h
/-- its elements, one by one: at whatever later world that keeps what was -/
theorem IsRow.at {k : IntKind} {sz : Nat} {w : World} {a : Option Addr} {len cap : Nat} {zs : List Int} (h : IsRow k sz w a len cap zs) (hl : 0 < len) :
    ∃ b off, a = some ⟨b, off, none⟩ ∧ len ≤ cap ∧ cap * sz ≤ 140737488351232 ∧ zs.length = cap ∧ b < w.heap.size ∧
      (∀ w', Below w.heap.size w w' → ∀ i, i < cap → w'.cell? ⟨b, off + i, none⟩ = some (.int k (zs.getD i 0))) ∧ ∀ i, i < cap → (Lit.int k (zs.getD i 0)).wf = true := by
  rcases h with ⟨_, h, _⟩ | ⟨⟨b, off, spot⟩, rfl, h1, h2, h3, h4, h5, h6⟩
  · omega
  · have c0 := h5 0 (by omega)
    have hspot : spot = none := by simpa [Addr.add] using World.cell?_spot c0
    subst hspot
    have hb : b < w.heap.size := cell_lt c0
    refine ⟨b, off, rfl, h1, h2, h4, hb, fun w' hw i hi => ?_, fun i hi => ?_⟩
    · rw [hw.cell (p := ⟨b, off + i, none⟩) hb]
      rw [← add_plain]
      exact h5 i (by omega)
    · have e : zs.getD i 0 = zs[i]'(by omega) := by simp [List.getD, List.getElem?_eq_getElem (show i < zs.length by omega)]
      rw [e]; exact h6 _ (List.getElem_mem _)
end Go.Proofs.YtnjcmhpifdaheaaDoor
