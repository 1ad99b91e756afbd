/- A region that draws its order, told by what has come up: one obligation for each operation (also in a round of a range over a function). -/
import Derived.OrdersIn
import Derived.WalkKit
import Derived.TacticsIn
namespace Go.Proofs.YtkehhfgoikbciaaDoor
open Go.RowKit
set_option linter.unusedVariables false

def falses (L : Array Bool) : Nat := (L.toList.filter (· == false)).length
theorem falses_set (L : Array Bool) (i : Nat) (h : L.getD i true = false) : falses (L.setIfInBounds i true) + 1 = falses L := by
  have hi : i < L.size := by
    rcases Nat.lt_or_ge i L.size with q | q
    · exact q
    · simp [Array.getElem?_eq_none q] at h
  have hLi : L[i] = false := by simpa [hi] using h
  obtain ⟨l⟩ := L
  simp at hi hLi
  simp only [falses, List.setIfInBounds_toArray]
  clear h
  induction l generalizing i with
  | nil => simp at hi
  | cons x xs ih =>
    cases i with
    | zero => simp at hLi; subst hLi; simp
    | succ j =>
      have := ih j (by simpa using hi) (by simpa using hLi)
      simp only [List.set_cons_succ, List.filter_cons]
      cases x <;> simp_all

theorem wpAnyIn_states {F : Fence} {n : Nat} {P : Program} {md : Region.Mode} {ops : Array Oper} {Q : Exit → Act → World → Prop} (A : Array Bool → Act) (Wd : Array Bool → World) (G : Array Bool → Prop)
    (hstep : ∀ L, G L → ∀ i ∈ Region.ready md ops L, G (L.setIfInBounds i true) ∧ ∀ K : Act → World → Prop, K (A (L.setIfInBounds i true)) (Wd (L.setIfInBounds i true)) → wpOpIn F n P ops Q i K (A L) (Wd L))
    (hend : ∀ L, G L → Region.ready md ops L = [] → Q .normal (A L) (Wd L)) :
    ∀ (fuel : Nat) (L : Array Bool), G L → falses L ≤ fuel → wpAnyIn F n P md ops Q fuel L (A L) (Wd L) := by
  intro fuel
  induction fuel with
  | zero =>
    intro L hG hf
    have hr : Region.ready md ops L = [] := by
      cases h : Region.ready md ops L with
      | nil => rfl
      | cons i r =>
        have hm : i ∈ Region.ready md ops L := by rw [h]; simp
        have := falses_set L i (mem_ready.1 hm).1
        omega
    exact ⟨hr, hend L hG hr⟩
  | succ fuel ih =>
    intro L hG hf
    refine ⟨fun hr => hend L hG hr, fun i hi => ?_⟩
    have hs := falses_set L i (mem_ready.1 hi).1
    obtain ⟨hG', h⟩ := hstep L hG i hi
    exact h _ (ih _ hG' (by omega))
theorem wpIn_region_states {F : Fence} {n : Nat} {P : Program} {ops : Array Oper} {Q : Exit → Act → World → Prop} {id : Nat} {a : Act} {w : World} (hm : P.follows .mixedOrders = true)
    (A : Array Bool → Act) (Wd : Array Bool → World) (G : Array Bool → Prop) (L0 : Array Bool) (hL : L0 = Array.replicate ops.size false) (ha : A L0 = a) (hw : Wd L0 = w.drew) (hG : G L0)
    (hstep : ∀ L, G L → ∀ i ∈ Region.ready .any ops L, G (L.setIfInBounds i true) ∧ ∀ K : Act → World → Prop, K (A (L.setIfInBounds i true)) (Wd (L.setIfInBounds i true)) → wpOpIn F n P ops Q i K (A L) (Wd L))
    (hend : ∀ L, G L → Region.ready .any ops L = [] → Q .normal (A L) (Wd L)) : (Code.region id ops true).wpIn F n P Q a w := by
  refine wpIn_region_any hm ?_
  rw [← hL, ← ha]
  have e : ({ w with drawn := w.drawn + 1 } : World) = Wd L0 := hw.symm
  rw [e]
  refine wpAnyIn_states A Wd G hstep hend _ L0 hG ?_
  rw [hL]
  have : ∀ m, falses (Array.replicate m false) ≤ m := fun m => by
    unfold falses
    exact Nat.le_trans (List.length_filter_le _ _) (by simp)
  exact this _
/-- where nothing more may come up, whatever has its grounds has come up -/
theorem unready {md : Region.Mode} {ops : Array Oper} {L : Array Bool} (hr : Region.ready md ops L = []) (i : Nat) (o : Oper) (ho : ops[i]? = some o) (hd : ∀ e ∈ o.after, Region.binds md e = true → L.getD e.on false = true) : L.getD i true = true := by
  cases h : L.getD i true with
  | true => rfl
  | false => have := mem_ready.2 ⟨h, o, ho, hd⟩; rw [hr] at this; cases this
end Go.Proofs.YtkehhfgoikbciaaDoor
