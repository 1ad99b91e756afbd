/- The document's search finds what the program's search finds: it leaves no order out, and those that it tries besides have no end. -/
import Derived.Test.YtnjcmhpifdaheaaDoorOrderRight
namespace Go.Proofs.YtnjcmhpifdaheaaDoor
set_option linter.unusedVariables false
namespace Ord
open Classical in
/-- the document's search -/
noncomputable def refFind (cs : List OCall) : Nat → List Nat → Option (List Nat)
  | 0, ord => some ord
  | k + 1, ord => (List.range cs.length).findSome? fun i => if i ∈ ord then none else if Right cs (ord ++ [i]) then refFind cs k (ord ++ [i]) else none

open Classical in
theorem refFind_sound {cs : List OCall} : ∀ (k : Nat) (ord r : List Nat), Right cs ord → ord.Nodup → (∀ x ∈ ord, x < cs.length) → refFind cs k ord = some r → Right cs r ∧ r.Nodup ∧ (∀ x ∈ r, x < cs.length) ∧ r.length = ord.length + k ∧ ord <+: r := by
  intro k
  induction k with
  | zero =>
    intro ord r h1 h2 h3 h
    simp [refFind] at h
    subst h
    exact ⟨h1, h2, h3, rfl, List.prefix_refl _⟩
  | succ k ih =>
    intro ord r h1 h2 h3 h
    unfold refFind at h
    obtain ⟨l1, i, l2, hm, hfi, _⟩ := List.findSome?_eq_some_iff.1 h
    have hi : i < cs.length := by
      have : i ∈ List.range cs.length := by rw [hm]; simp
      exact List.mem_range.1 this
    split at hfi
    · cases hfi
    · rename_i hni
      split at hfi
      · rename_i hr
        have := ih (ord ++ [i]) r hr (by
          refine List.nodup_append.2 ⟨h2, by simp, ?_⟩
          intro a ha b hb e
          simp at hb
          subst hb e
          exact hni ha) (by
          intro x hx
          rcases List.mem_append.1 hx with hx | hx
          · exact h3 x hx
          · simp at hx; subst hx; exact hi) hfi
        refine ⟨this.1, this.2.1, this.2.2.1, by rw [this.2.2.2.1]; simp; omega, (List.prefix_append _ _).trans this.2.2.2.2⟩
      · cases hfi

open Classical in
/-- who ended ahead of one that is there can have no place any more -/
theorem refFind_blocked {cs : List OCall} (k : Nat) (ord : List Nat) (hl : ord.length + k = cs.length) (h1 : Right cs ord) (h2 : ord.Nodup) (h3 : ∀ x ∈ ord, x < cs.length) (p j : Nat) (hp : p < ord.length) (hj : j < cs.length) (hn : j ∉ ord) (ht : (at_ cs j).to_ ≤ (oat cs ord p).fr) :
    refFind cs k ord = none := by
  cases h : refFind cs k ord with
  | none => rfl
  | some r =>
    obtain ⟨r1, r2, r3, r4, r5⟩ := refFind_sound k ord r h1 h2 h3 h
    have hf : Full cs r := ⟨by omega, r2, r3⟩
    obtain ⟨q, hq, e⟩ := oat_mem (cs := cs) (hf.mem hj)
    obtain ⟨t, rfl⟩ := r5
    by_cases hqp : q < ord.length
    · rw [List.getD_eq_getElem?_getD, List.getElem?_append_left hqp] at e
      refine absurd ?_ hn
      rw [← e]
      simp [hqp]
    · have := (r1 q hq).1 p (by omega)
      rw [oat_left cs ord t p hp] at this
      unfold oat at this ht
      rw [e] at this
      exact absurd ht this

open Classical in
theorem refFind_eq {cs : List OCall} (hn : cs.length ≤ 10) (hv : ∀ i, i < cs.length → (at_ cs i).fr < (at_ cs i).to_) : ∀ (k : Nat) (ord : List Nat), Good cs ord → ord.length + k = cs.length → refFind cs k ord = (first cs k (who cs ord)).map (ord ++ ·) := by
  intro k
  induction k with
  | zero => intro ord _ _; simp [refFind, first]
  | succ k ih =>
    intro ord h hl
    unfold refFind first
    have key : ∀ i ∈ List.range cs.length, (if i ∈ ord then none else if Right cs (ord ++ [i]) then refFind cs k (ord ++ [i]) else none) =
        ((if ok cs (who cs ord) i then (first cs k (next cs (who cs ord) i)).map (i :: ·) else none) : Option (List Nat)).map (ord ++ ·) := by
      intro i hi
      have hi := List.mem_range.1 hi
      by_cases ho : ok cs (who cs ord) i = true
      · have hk := (ok_iff cs hn h i hi).1 ho
        have hg : Good cs (ord ++ [i]) := .snoc ord i h hi ho
        rw [if_neg hk.1, if_pos (hg.right hn), if_pos ho, ih _ hg (by simp; omega), who_snoc]
        cases first cs k (next cs (who cs ord) i) <;> simp
      · rw [if_neg ho]
        by_cases hm : i ∈ ord
        · rw [if_pos hm]; rfl
        · rw [if_neg hm]
          by_cases hr : Right cs (ord ++ [i])
          · rw [if_pos hr]
            have hr' := (right_snoc cs ord i).1 hr
            have : ∃ j, j < cs.length ∧ (at_ cs j).to_ ≤ (at_ cs i).fr ∧ j ∉ ord := by
              refine Classical.byContradiction fun hno => ho ((ok_iff cs hn h i hi).2 ⟨hm, fun j hj ht => Classical.byContradiction fun hj2 => hno ⟨j, hj, ht, hj2⟩, hr'.2.2⟩)
            obtain ⟨j, hj, ht, hj2⟩ := this
            have hnd := h.nodup hn
            by_cases hji : j = i
            · subst hji
              have := hv j hj
              omega
            · refine refFind_blocked k (ord ++ [i]) (by simp; omega) hr ?_ ?_ ord.length j (by simp) hj (by simp [hj2, hji]) (by rw [oat_snoc]; exact ht)
              · refine List.nodup_append.2 ⟨hnd.1, by simp, ?_⟩
                intro a ha b hb e
                simp at hb
                subst hb e
                exact hm ha
              · intro x hx
                rcases List.mem_append.1 hx with hx | hx
                · exact hnd.2 x hx
                · simp at hx; subst hx; exact hi
          · rw [if_neg hr]; rfl
    have : ∀ (l : List Nat), (∀ i ∈ l, i ∈ List.range cs.length) → l.findSome? (fun i => if i ∈ ord then none else if Right cs (ord ++ [i]) then refFind cs k (ord ++ [i]) else none) =
        (l.findSome? fun i => if ok cs (who cs ord) i then (first cs k (next cs (who cs ord) i)).map (i :: ·) else none).map (ord ++ ·) := by
      intro l
      induction l with
      | nil => intro _; rfl
      | cons i r ihl =>
        intro hm
        rw [List.findSome?_cons, List.findSome?_cons, key i (hm i (by simp)), ihl (fun x hx => hm x (by simp [hx]))]
        cases (if ok cs (who cs ord) i then (first cs k (next cs (who cs ord) i)).map (i :: ·) else none) <;> rfl
    exact this _ (fun _ h => h)
end Ord
end Go.Proofs.YtnjcmhpifdaheaaDoor
