/- What was done one behind the other has an order; without a read too. -/
import Derived.Test.YtnjcmhpifdaheaaOrderWiderLaw
namespace Go.Proofs.Ytnjcmhpifdaheaa
open Go.RowKit
set_option linter.unusedVariables false
namespace Ord

/-- what the last write of a block in a list says -/
def lastOf (l : List OCall) (lba : Int) : Int := l.foldl (fun v c => if c.wr && decide (c.lba = lba) then c.val else v) 0
theorem lastOf_snoc (l : List OCall) (c : OCall) (lba : Int) : lastOf (l ++ [c]) lba = if c.wr && decide (c.lba = lba) then c.val else lastOf l lba := by
  simp [lastOf, List.foldl_append]
theorem lastOf_drop (A B : List OCall) (r : OCall) (hr : r.wr = false) (lba : Int) : lastOf (A ++ r :: B) lba = lastOf (A ++ B) lba := by
  simp [lastOf, List.foldl_append, hr]
theorem lastOf_is {P : Int → Prop} (h0 : P 0) (lba : Int) : ∀ (l : List OCall), (∀ c ∈ l, P c.val) → P (lastOf l lba) := by
  intro l
  have : ∀ (l : List OCall) (v : Int), P v → (∀ c ∈ l, P c.val) → P (l.foldl (fun v c => if c.wr && decide (c.lba = lba) then c.val else v) v) := by
    intro l
    induction l with
    | nil => intro v hv _; exact hv
    | cons c r ih =>
      intro v hv hc
      rw [List.foldl_cons]
      refine ih _ ?_ (fun d hd => hc d (List.mem_cons_of_mem _ hd))
      split
      · exact hc c (List.mem_cons_self ..)
      · exact hv
  exact this l 0 h0

/-- done one behind the other -/
structure Ser (ms : List OCall) : Prop where
  pair : ms.Pairwise (fun a b => a.fr < b.to_)
  each : ∀ c ∈ ms, ¬ badNum c ∧ c.fr < c.to_
  reads : ∀ pre c post, ms = pre ++ c :: post → c.wr = true ∨ lastOf pre c.lba = c.val
theorem Ser.nil : Ser [] := ⟨.nil, (fun c hc => by cases hc), (fun pre c post h => by simp at h)⟩
theorem Ser.snoc {ms : List OCall} (h : Ser ms) {c : OCall} (h1 : ∀ a ∈ ms, a.fr < c.to_) (h2 : ¬ badNum c ∧ c.fr < c.to_) (h3 : c.wr = true ∨ lastOf ms c.lba = c.val) : Ser (ms ++ [c]) := by
  refine ⟨?_, ?_, ?_⟩
  · refine List.pairwise_append.2 ⟨h.pair, List.pairwise_singleton _ _, fun a ha b hb => ?_⟩
    simp at hb; subst hb; exact h1 a ha
  · intro d hd
    rcases List.mem_append.1 hd with hd | hd
    · exact h.each d hd
    · simp at hd; subst hd; exact h2
  · intro pre d post e
    rcases List.append_eq_append_iff.1 e with ⟨A, e1, e2⟩ | ⟨B, e1, e2⟩
    · cases A with
      | nil =>
        simp at e2 e1
        obtain ⟨rfl, rfl⟩ := e2
        subst e1
        exact h3
      | cons x A => simp at e2
    · cases B with
      | nil =>
        simp at e2 e1
        obtain ⟨rfl, rfl⟩ := e2
        subst e1
        exact h3
      | cons x B =>
        simp at e2
        obtain ⟨rfl, rfl⟩ := e2
        exact h.reads pre d B e1
theorem Ser.erase {A B : List OCall} {r : OCall} (h : Ser (A ++ r :: B)) (hr : r.wr = false) : Ser (A ++ B) := by
  refine ⟨h.pair.sublist (List.Sublist.append (List.Sublist.refl A) (List.sublist_cons_self r B)), fun c hc => h.each c ?_, ?_⟩
  · rcases List.mem_append.1 hc with hc | hc
    · exact List.mem_append_left _ hc
    · exact List.mem_append_right _ (List.mem_cons_of_mem _ hc)
  · intro pre c post e
    rcases List.append_eq_append_iff.1 e with ⟨B1, e1, e2⟩ | ⟨A1, e1, e2⟩
    · have := h.reads (A ++ r :: B1) c post (by rw [e2]; simp)
      rw [lastOf_drop A B1 r hr] at this
      rw [e1]
      exact this
    · cases A1 with
      | nil =>
        simp at e1 e2
        have := h.reads (A ++ [r]) c post (by rw [← e2]; simp)
        rw [lastOf_drop A [] r hr, List.append_nil] at this
        rw [← e1]
        exact this
      | cons x A1 =>
        simp at e2
        obtain ⟨rfl, rfl⟩ := e2
        exact h.reads pre c (A1 ++ r :: B) (by rw [e1]; simp)

theorem getD_range (n p : Nat) (h : p < n) : (List.range n).getD p 0 = p := by simp [List.getD, h]
theorem oat_range (ms : List OCall) (p : Nat) (h : p < ms.length) : oat ms (List.range ms.length) p = at_ ms p := by
  unfold oat; rw [getD_range _ _ h]
theorem lastV_range (ms : List OCall) (lba : Int) : ∀ p, p ≤ ms.length → lastV ms (List.range ms.length) lba p = lastOf (ms.take p) lba
  | 0, _ => rfl
  | p + 1, h => by
    have e : ms.take (p + 1) = ms.take p ++ [at_ ms p] := by
      rw [List.take_add_one]
      simp [at_, List.getD, show p < ms.length by omega]
    unfold lastV
    rw [oat_range ms p (by omega), lastV_range ms lba p (by omega), e, lastOf_snoc]
theorem Ser.right {ms : List OCall} (h : Ser ms) : Right ms (List.range ms.length) := by
  intro p hp
  rw [List.length_range] at hp
  have e : at_ ms p = ms[p] := by simp [at_, List.getD, hp]
  refine ⟨fun k hk => ?_, ?_⟩
  · rw [oat_range ms p hp, oat_range ms k (by omega)]
    have := List.pairwise_iff_getElem.1 h.pair k p (by omega) hp hk
    have e2 : at_ ms k = ms[k] := by simp [at_, List.getD, show k < ms.length by omega]
    rw [e, e2]
    omega
  · rw [oat_range ms p hp, lastV_range ms _ p (by omega)]
    refine h.reads (ms.take p) (at_ ms p) (ms.drop (p + 1)) ?_
    rw [e, ← List.drop_eq_getElem_cons hp, List.take_append_drop]
theorem Ser.found {ms : List OCall} (h : Ser ms) (h10 : ms.length ≤ 10) : fault ms = 0 ∧ ∃ r, first ms ms.length start = some r ∧ Full ms r ∧ Right ms r := by
  have hf : fault ms = 0 := by
    unfold fault
    rw [if_neg (by omega)]
    refine faultL_zero fun i hi => ?_
    have e : at_ ms i = ms[i] := by simp [at_, List.getD, hi]
    rw [e]
    exact h.each _ (List.getElem_mem hi)
  exact ⟨hf, search_finds hf (ord := List.range ms.length) ⟨List.length_range, List.nodup_range, fun x hx => List.mem_range.1 hx⟩ h.right⟩
/-- the two calls that the law begins with -/
def two : List OCall := [⟨1, 2, true, 0, 7⟩, ⟨1, 2, false, 0, 7⟩]
theorem two_fault : fault two = 0 := by decide
theorem two_first : first two two.length start = some [0, 1] := by decide
end Ord
end Go.Proofs.Ytnjcmhpifdaheaa
