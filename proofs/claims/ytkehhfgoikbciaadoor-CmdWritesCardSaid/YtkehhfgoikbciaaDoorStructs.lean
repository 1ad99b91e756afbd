/- Structs of integers that came in by value (api.Command), told to a walk. -/
import Derived.Test.YtkehhfgoikbciaaDoorOps
import Derived.Test.YtkehhfgoikbciaaDoorCmdE
namespace Go.Proofs.YtkehhfgoikbciaaDoor
open Go.ChangeShapes Go.WideShapes Go.Deep Go.RowKit Go.ChangeAt
set_option linter.unusedVariables false

set_option maxRecDepth 100000 in
theorem cmd_of {H : Type} {enc : TypeId × Value → H} {W : World} {base : Nat} {v : Value} {d : DataW H} {p : List MemPlace}
    (hv : Value.okWide Tryd.prog W .any base 63 v) (h : DataW.Trod enc Tryd.prog W 0 (fun _ => true) true 63 v d p) :
    ∃ x0 x1 x2 x3 x4 x5, v = cmdV x0 x1 x2 x3 x4 x5 ∧ I64 x0 ∧ I64 x1 ∧ I64 x2 ∧ I64 x3 ∧ I64 x4 ∧ I64 x5 := by
  obtain ⟨cs, rfl, hsz⟩ := okWide_struct Tryd.underlying63 hv
  obtain ⟨fuel, hf⟩ := h
  obtain ⟨xs, n, _, _, _, hlen, hg⟩ := DataW.trod_struct Tryd.underlying63 hf
  have hC : Tryd.prog.cellsOf 63 = 6 := by kernel_rfl
  have h1 : Tryd.prog.cellsOf 3 = 1 := by kernel_rfl
  rw [hC] at hsz
  obtain ⟨x0, e0, w0⟩ := field_int hlen hg (i := 0) rfl Tryd.underlying3 h1
  obtain ⟨x1, e1, w1⟩ := field_int hlen hg (i := 1) rfl Tryd.underlying3 h1
  obtain ⟨x2, e2, w2⟩ := field_int hlen hg (i := 2) rfl Tryd.underlying3 h1
  obtain ⟨x3, e3, w3⟩ := field_int hlen hg (i := 3) rfl Tryd.underlying3 h1
  obtain ⟨x4, e4, w4⟩ := field_int hlen hg (i := 4) rfl Tryd.underlying3 h1
  obtain ⟨x5, e5, w5⟩ := field_int hlen hg (i := 5) rfl Tryd.underlying3 h1
  simp [Value.cells] at e0 e1 e2 e3 e4 e5
  refine ⟨x0, x1, x2, x3, x4, x5, ?_, bounds_i64 w0, bounds_i64 w1, bounds_i64 w2, bounds_i64 w3, bounds_i64 w4, bounds_i64 w5⟩
  unfold cmdV
  congr 1
  apply Array.ext_getElem?
  intro i
  rcases (by omega : i = 0 ∨ i = 1 ∨ i = 2 ∨ i = 3 ∨ i = 4 ∨ i = 5 ∨ 6 ≤ i) with rfl | rfl | rfl | rfl | rfl | rfl | hi
  · simpa using e0
  · simpa using e1
  · simpa using e2
  · simpa using e3
  · simpa using e4
  · simpa using e5
  · rw [Array.getElem?_eq_none (by omega), Array.getElem?_eq_none (by simp; omega)]
end Go.Proofs.YtkehhfgoikbciaaDoor
