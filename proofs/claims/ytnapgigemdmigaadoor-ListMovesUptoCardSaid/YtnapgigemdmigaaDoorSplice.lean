/- splice, one element more: plain. -/
import Derived.Test.YtnapgigemdmigaaDoorBase2
namespace Go.Proofs.YtnapgigemdmigaaDoor
open Go.RowKit
theorem splice_set (bs : List Int) (p : Nat) (ds : List Int) (k : Nat) (hk : k < ds.length) (hp : p + k < bs.length) :
    (splice bs p (ds.take k)).set (p + k) (ds.getD k 0) = splice bs p (ds.take (k + 1)) := by
  apply List.ext_getElem?
  intro i
  have hl : (splice bs p (ds.take k)).length = bs.length := length_splice _ _ _ (by simp; omega)
  unfold splice at hl ⊢
  simp only [List.length_take, Nat.min_eq_left (Nat.le_of_lt hk), Nat.min_eq_left (show k + 1 ≤ ds.length from hk)] at hl ⊢
  rw [List.getElem?_set]
  simp only [hl]
  simp only [List.getElem?_append, List.length_take, List.getElem?_take, List.getElem?_drop, Nat.min_eq_left (Nat.le_of_lt hk), Nat.min_eq_left (show k + 1 ≤ ds.length from hk), Nat.min_eq_left (show p ≤ bs.length by omega), List.getD]
  by_cases h1 : p + k = i
  · subst h1
    simp [hp, hk]
    intro h; omega
  · rw [if_neg h1]
    by_cases h2 : i < p
    · simp [h2]
    · by_cases h3 : i - p < k
      · simp [h2, h3, show i - p < k + 1 by omega]
      · simp [h2, h3, show ¬ i - p < k + 1 by omega]
        congr 1; omega
end Go.Proofs.YtnapgigemdmigaaDoor
