/- A slice of rows of integers that came in: opened. -/
import Derived.Test.YtkehhfgoikbciaaDoorFrame
import Derived.Test.YtkehhfgoikbciaaDoorIRowsRd
import Derived.Deep.Matrix
import Derived.Deep.Slices
namespace Go.Proofs.YtkehhfgoikbciaaDoor
open Go.ChangeShapes Go.WideShapes Go.Deep Go.RowKit Go.ChangeAt
set_option linter.unusedVariables false

set_option maxRecDepth 100000 in
theorem rows_of {H : Type} {enc : TypeId × Value → H} {W : World} {base : Nat} {v : Value} {d : DataW H} {p : List MemPlace} {ts : List TypeId} {ds : List (DataW H)}
    (hv : Value.okWide Tryd.prog W .any base 102 v) (h : DataW.Trod enc Tryd.prog W 0 (fun _ => true) true 102 v d p)
    (hs : (DataW.weightsEach Tryd.prog ts ds).all (· ≤ reachBytes) = true) {j : Nat} (hj : ts[j]? = some 102) (hd : ds[j]? = some d) :
    ∃ a len cap A L C Z, v = .slice a len cap ∧ IsRows W a len A L C Z := by
  have hT : Tryd.prog.underlying 102 = some (.slice 30) := Tryd.underlying102
  obtain ⟨a, len, cap, rfl⟩ := okWide_slice hT hv
  obtain ⟨fuel, hf⟩ := h
  rcases open_int_rows hT Tryd.underlying30 Tryd.underlying3 (by kernel_rfl) (by kernel_rfl) hf with ⟨hcs, _⟩ | ⟨x, l, c, A, L, C, Z, hcs, _, hl, hm, hx, hr⟩
  · simp [Value.cells] at hcs
    obtain ⟨rfl, rfl, rfl⟩ := hcs
    exact ⟨_, _, _, fun _ => none, fun _ => 0, fun _ => 0, fun _ _ => 0, rfl, .inl rfl⟩
  · simp [Value.cells] at hcs
    obtain ⟨rfl, rfl, rfl⟩ := hcs
    simp only [Prod.mk.injEq] at hx
    obtain ⟨rfl, _⟩ := hx
    have hw := sized_slice hs hj hd hT
    have hb : Tryd.prog.bytesOf 30 = 24 := by kernel_rfl
    rw [hb] at hw
    simp only [List.length_map, List.length_range, reachBytes] at hw
    refine ⟨_, _, _, A, L, C, fun r i => (Z r).getD i 0, rfl, ?_⟩
    by_cases hl0 : len = 0
    · exact .inl hl0
    · refine .inr ?_
      obtain ⟨b, off, spot⟩ := x
      have c0 := (hr 0 (by omega)).1
      have hspot : spot = none := by simpa [Addr.add] using World.cell?_spot c0
      subst hspot
      refine ⟨b, off, rfl, by omega, by have := cell_lt c0; simpa [Addr.add] using this, fun i hi => ?_⟩
      obtain ⟨g1, g2, g3, g4, g5, g6, g7⟩ := hr i (by omega)
      refine ⟨by rw [← WideShapes.add_plain]; exact g1, by omega, fun q hq => ?_, ?_⟩
      · have e : (Z i).getD q 0 = (Z i)[q]'(by omega) := by simp [List.getD, List.getElem?_eq_getElem (show q < (Z i).length by omega)]
        show (Lit.int .i64 ((Z i).getD q 0)).wf = true
        rw [e]; exact g5 _ (List.getElem_mem _)
      · by_cases hz : L i = 0
        · exact .inl hz
        · refine .inr ?_
          cases hA : A i with
          | none => have := g6 hA; omega
          | some a' =>
            obtain ⟨_, g8⟩ := g7 a' hA
            obtain ⟨b', off', spot'⟩ := a'
            have c1 := g8 0 (by omega)
            have hspot' : spot' = none := by simpa [Addr.add] using World.cell?_spot c1
            subst hspot'
            refine ⟨b', off', rfl, by have := cell_lt c1; simpa [Addr.add] using this, fun q hq => ?_⟩
            rw [← WideShapes.add_plain]
            exact g8 q (by omega)
end Go.Proofs.YtkehhfgoikbciaaDoor
