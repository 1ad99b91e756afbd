/- list.Build at any arguments; an argument's integers. -/
import Derived.Test.YtnapgigemdmigaaDoorBuild
import Derived.Test.YtnapgigemdmigaaDoorRd
namespace Go.Proofs.YtnapgigemdmigaaDoor
open Go.RowKit Go.WideShapes
set_option linter.unusedVariables false

theorem IsRow.ints {w : World} {a : Option Addr} {len cap : Nat} {zs : List Int} (h : IsRow .i64 8 w a len cap zs) :
    ∃ ps : List Int, ps.length = len ∧ len * 8 ≤ 140737488351232 ∧ len ≤ cap ∧ (∀ x ∈ ps, -9223372036854775808 ≤ x ∧ x ≤ 9223372036854775807) ∧
      (len = 0 ∨ ∃ b off, a = some ⟨b, off, none⟩ ∧ b < w.heap.size ∧ ∀ w', Below w.heap.size w w' → ∀ i, i < len → w'.cell? ⟨b, off + i, none⟩ = some (.int .i64 (ps.getD i 0))) := by
  by_cases hl : 0 < len
  · obtain ⟨b, off, rfl, h1, h2, h3, h4, h5, h6⟩ := h.at hl
    refine ⟨zs.take len, by simp; omega, by omega, h1, ?_, .inr ⟨b, off, rfl, h4, fun w' hw i hi => ?_⟩⟩
    · intro x hx
      obtain ⟨i, hi, e⟩ := List.mem_iff_getElem.1 hx
      have hi' : i < len := by simp at hi; omega
      have := h6 i (by omega)
      have e2 : zs.getD i 0 = x := by
        rw [← e]; simp [List.getD, List.getElem?_eq_getElem (show i < zs.length by omega)]
      rw [e2] at this
      exact bounds_i64 this
    · rw [h5 w' hw i (by omega)]
      simp [List.getD, hi]
  · exact ⟨[], by simp; omega, by omega, by omega, by simp, .inl (by omega)⟩

theorem build_any (b mb : Nat) (bs : List Int) (at_ : Int) (a : Option Addr) (c : Nat) (offset long : Int) (pages : List Int) (w : World) (hm : MemAt w b mb bs) (hrd : NumsRd w mb a c pages) (a0 : -9223372036854775808 ≤ at_) (a1 : at_ ≤ 9223372036854775807)
    (hwf : ∀ x ∈ pages, -9223372036854775808 ≤ x ∧ x ≤ 9223372036854775807) (hn : pages.length ≤ 9223372036854775807) (o0 : -9223372036854775808 ≤ offset) (o1 : offset ≤ 9223372036854775807) (l0 : -9223372036854775808 ≤ long) (l1 : long ≤ 9223372036854775807) :
    Calls Tryd.prog 26 #[.pointer (some ⟨b, 0, none⟩), .int .i64 at_, .slice a pages.length c, .int .i64 offset, .int .i64 long] w (BuildEnd (buildRes bs at_ pages offset long) b mb w) := by
  by_cases h : long < 1 ∨ 2048 < long ∨ offset < 0 ∨ 60 < offset ∨ offset % 4 ≠ 0 ∨ (pages.length : Int) ≠ (offset + long + 63) / 64
  · exact build_early b mb bs at_ a pages.length c offset long w hm o0 o1 l0 l1 hn pages rfl h
  · exact build_late b mb bs at_ a c offset long pages w hm hrd a0 a1 hwf (by omega) (by omega) (by omega) (by omega) (by omega) (by omega)
end Go.Proofs.YtnapgigemdmigaaDoor
