/- A slice of rows of integers that came in ([][]int), as a walk is told of it. -/
import Derived.Test.YtnjcmhpifdaheaaDoorRd
namespace Go.Proofs.YtnjcmhpifdaheaaDoor
open Go.RowKit

/-- a slice of integers, as it stands in memory -/
def RowAt (w : World) (a : Option Addr) (len : Nat) (z : Nat → Int) : Prop :=
  len ≤ maxLen ∧ (∀ i, i < len → (Lit.int .i64 (z i)).wf = true) ∧ (len = 0 ∨ ∃ b off, a = some ⟨b, off, none⟩ ∧ b < w.heap.size ∧ ∀ i, i < len → w.cell? ⟨b, off + i, none⟩ = some (.int .i64 (z i)))
theorem RowAt.below {w w' : World} {a : Option Addr} {len : Nat} {z : Nat → Int} (h : RowAt w a len z) (hb : Below w.heap.size w w') : RowAt w' a len z := by
  obtain ⟨h1, h2, h3⟩ := h
  refine ⟨h1, h2, h3.imp id ?_⟩
  rintro ⟨b, off, rfl, hlt, hc⟩
  exact ⟨b, off, rfl, Nat.lt_of_lt_of_le hlt hb.size, fun i hi => (hb.cell (p := ⟨b, off + i, none⟩) hlt).trans (hc i hi)⟩
/-- element i is the slice A i of L i integers Z i -/
def IsRows (w : World) (a : Option Addr) (len : Nat) (A : Nat → Option Addr) (L C : Nat → Nat) (Z : Nat → Nat → Int) : Prop :=
  len = 0 ∨ ∃ b off, a = some ⟨b, off, none⟩ ∧ len * 24 ≤ 140737488351232 ∧ b < w.heap.size ∧ ∀ i, i < len → w.cell? ⟨b, off + i, none⟩ = some (.slice (A i) (L i) (C i)) ∧ RowAt w (A i) (L i) (Z i)
theorem IsRow.rowAt {w : World} {a : Option Addr} {len cap : Nat} {zs : List Int} (h : IsRow .i64 8 w a len cap zs) : RowAt w a len (fun i => zs.getD i 0) := by
  rcases Nat.eq_zero_or_pos len with h0 | h0
  · subst h0
    exact ⟨Nat.zero_le _, fun i hi => by omega, .inl rfl⟩
  · obtain ⟨b, off, rfl, h1, h2, h3, h4, h5, h6⟩ := h.at h0
    exact ⟨by unfold maxLen; omega, fun i hi => h6 i (by omega), .inr ⟨b, off, rfl, h4, fun i hi => h5 w (Below.refl _ _) i (by omega)⟩⟩
end Go.Proofs.YtnjcmhpifdaheaaDoor
