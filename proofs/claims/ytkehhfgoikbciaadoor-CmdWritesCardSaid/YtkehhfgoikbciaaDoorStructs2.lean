/- api.Completion, that came in by value, told to a walk. -/
import Derived.Test.YtkehhfgoikbciaaDoorStructs
import Derived.Test.YtkehhfgoikbciaaDoorDoneE
namespace Go.Proofs.YtkehhfgoikbciaaDoor
open Go.ChangeShapes Go.WideShapes Go.Deep Go.RowKit Go.ChangeAt
set_option linter.unusedVariables false

theorem field_bool {H : Type} {enc : TypeId × Value → H} {P : Program} {w : World} {base : Nat} {spare : Nat → Bool} {held : Bool} {n : Nat} {cs : List Value} {xs : List (DataW H × List MemPlace)} {fs : Array Field}
    (hlen : xs.length = fs.size) (hg : ∀ (i : Nat) (f : Field), fs[i]? = some f → DataW.trod enc P w base spare held n f.type ((cs.drop f.offset).take (P.cellsOf f.type)) = xs[i]?)
    {i : Nat} {f : Field} (hf : fs[i]? = some f) (ht : P.underlying f.type = some .bool) (hc : P.cellsOf f.type = 1) : ∃ z : Bool, cs[f.offset]? = some (.bool z) := by
  have h := hg i f hf
  have hi : i < xs.length := by rw [hlen]; exact (Array.getElem?_eq_some_iff.1 hf).1
  rw [hc, List.getElem?_eq_getElem hi] at h
  obtain ⟨z, e, _⟩ := DataW.trod_bool ht h
  exact ⟨z, take_one e⟩

set_option maxRecDepth 100000 in
theorem done_of {H : Type} {enc : TypeId × Value → H} {W : World} {base : Nat} {v : Value} {d : DataW H} {p : List MemPlace}
    (hv : Value.okWide Tryd.prog W .any base 65 v) (h : DataW.Trod enc Tryd.prog W 0 (fun _ => true) true 65 v d p) :
    ∃ x0 x1 x2 x3 ph, v = doneV x0 x1 x2 x3 ph ∧ IW x0 ∧ IW x1 ∧ IW x2 ∧ IW x3 := by
  obtain ⟨cs, rfl, hsz⟩ := okWide_struct Tryd.underlying65 hv
  obtain ⟨fuel, hf⟩ := h
  obtain ⟨xs, n, _, _, _, hlen, hg⟩ := DataW.trod_struct Tryd.underlying65 hf
  have hC : Tryd.prog.cellsOf 65 = 5 := by kernel_rfl
  have h1 : Tryd.prog.cellsOf 3 = 1 := by kernel_rfl
  have h2 : Tryd.prog.cellsOf 4 = 1 := by kernel_rfl
  rw [hC] at hsz
  obtain ⟨x0, e0, w0⟩ := field_int hlen hg (i := 0) rfl Tryd.underlying3 h1
  obtain ⟨x1, e1, w1⟩ := field_int hlen hg (i := 1) rfl Tryd.underlying3 h1
  obtain ⟨x2, e2, w2⟩ := field_int hlen hg (i := 2) rfl Tryd.underlying3 h1
  obtain ⟨x3, e3, w3⟩ := field_int hlen hg (i := 3) rfl Tryd.underlying3 h1
  obtain ⟨ph, e4⟩ := field_bool hlen hg (i := 4) rfl Tryd.underlying4 h2
  simp [Value.cells] at e0 e1 e2 e3 e4
  refine ⟨x0, x1, x2, x3, ph, ?_, bounds_i64 w0, bounds_i64 w1, bounds_i64 w2, bounds_i64 w3⟩
  unfold doneV
  congr 1
  apply Array.ext_getElem?
  intro i
  rcases (by omega : i = 0 ∨ i = 1 ∨ i = 2 ∨ i = 3 ∨ i = 4 ∨ 5 ≤ i) with rfl | rfl | rfl | rfl | rfl | hi
  · simpa using e0
  · simpa using e1
  · simpa using e2
  · simpa using e3
  · simpa using e4
  · rw [Array.getElem?_eq_none (by omega), Array.getElem?_eq_none (by simp; omega)]
end Go.Proofs.YtkehhfgoikbciaaDoor
