/- Calls that begin earlier and end later still have an order. -/
import Derived.Test.YtnjcmhpifdaheaaOrderCheck
namespace Go.Proofs.Ytnjcmhpifdaheaa
open Go.RowKit
set_option linter.unusedVariables false
namespace Ord

/-- ms: the calls cs, each begun no later and ended no earlier -/
structure Wider (cs ms : List OCall) : Prop where
  len : ms.length = cs.length
  fr0 : ∀ i, i < cs.length → 0 ≤ (at_ ms i).fr
  fr : ∀ i, i < cs.length → (at_ ms i).fr ≤ (at_ cs i).fr
  to_ : ∀ i, i < cs.length → (at_ cs i).to_ ≤ (at_ ms i).to_
  wr : ∀ i, i < cs.length → (at_ ms i).wr = (at_ cs i).wr
  lba : ∀ i, i < cs.length → (at_ ms i).lba = (at_ cs i).lba
  val : ∀ i, i < cs.length → (at_ ms i).val = (at_ cs i).val

theorem faultL_zero {cs : List OCall} (h : ∀ i, i < cs.length → ¬ badNum (at_ cs i) ∧ (at_ cs i).fr < (at_ cs i).to_) : faultL cs = 0 := by
  have : ∀ j, j ≤ cs.length → faultL (cs.drop (cs.length - j)) = 0 := by
    intro j
    induction j with
    | zero => intro _; rw [Nat.sub_zero, List.drop_length]; rfl
    | succ j ih =>
      intro hj
      rw [faultL_drop cs (cs.length - (j + 1)) (by omega)]
      have := h (cs.length - (j + 1)) (by omega)
      rw [if_neg this.1, if_neg (by omega), show cs.length - (j + 1) + 1 = cs.length - j by omega]
      exact ih (by omega)
  have := this cs.length (Nat.le_refl _)
  simpa using this
theorem faultL_each {cs : List OCall} (h : faultL cs = 0) (i : Nat) (hi : i < cs.length) : ¬ badNum (at_ cs i) ∧ (at_ cs i).fr < (at_ cs i).to_ := by
  have e : at_ cs i = cs[i] := by simp [at_, List.getD, hi]
  rw [e]
  exact faultL_ok cs h _ (List.getElem_mem hi)

theorem Wider.faultless {cs ms : List OCall} (h : Wider cs ms) (hf : fault cs = 0) : fault ms = 0 := by
  have h10 := (fault_ok hf).1
  unfold Ord.fault at hf ⊢
  rw [if_neg (by omega)] at hf
  rw [h.len, if_neg (by omega)]
  refine faultL_zero fun i hi => ?_
  rw [h.len] at hi
  obtain ⟨h1, h2⟩ := faultL_each hf i hi
  have a1 := h.fr0 i hi
  have a2 := h.fr i hi
  have a3 := h.to_ i hi
  have a4 := h.lba i hi
  have a5 := h.val i hi
  unfold badNum at h1 ⊢
  omega

theorem lastV_congr {cs ms : List OCall} {ord : List Nat} (lba : Int) (h : ∀ p, p < ord.length → (oat ms ord p).wr = (oat cs ord p).wr ∧ (oat ms ord p).lba = (oat cs ord p).lba ∧ (oat ms ord p).val = (oat cs ord p).val) : ∀ p, p ≤ ord.length → lastV ms ord lba p = lastV cs ord lba p
  | 0, _ => rfl
  | p + 1, hp => by
    unfold lastV
    obtain ⟨h1, h2, h3⟩ := h p (by omega)
    rw [h1, h2, h3, lastV_congr lba h p (by omega)]

theorem Wider.right {cs ms : List OCall} (h : Wider cs ms) {ord : List Nat} (hl : ∀ x ∈ ord, x < cs.length) (hr : Right cs ord) : Right ms ord := by
  have hi : ∀ p, p < ord.length → ord.getD p 0 < cs.length := fun p hp => hl _ (by simp [List.getD, hp])
  intro p hp
  obtain ⟨h1, h2⟩ := hr p hp
  refine ⟨fun k hk => ?_, ?_⟩
  · have a1 := h1 k hk
    have a2 := h.to_ _ (hi p hp)
    have a3 := h.fr _ (hi k (by omega))
    unfold oat at a1 ⊢
    omega
  · have e1 : (oat ms ord p).wr = (oat cs ord p).wr := h.wr _ (hi p hp)
    have e2 : (oat ms ord p).lba = (oat cs ord p).lba := h.lba _ (hi p hp)
    have e3 : (oat ms ord p).val = (oat cs ord p).val := h.val _ (hi p hp)
    rw [e1, e2, e3, lastV_congr (cs := cs) (ms := ms) _ (fun q hq => ⟨h.wr _ (hi q hq), h.lba _ (hi q hq), h.val _ (hi q hq)⟩) p (by omega)]
    exact h2

/-- where there is a right order, the search finds one that is right -/
theorem search_finds {cs : List OCall} (hf : fault cs = 0) {ord : List Nat} (ho : Full cs ord) (hr : Right cs ord) : ∃ r, first cs cs.length start = some r ∧ Full cs r ∧ Right cs r := by
  obtain ⟨h10, hpos⟩ := fault_ok hf
  obtain ⟨r, h⟩ := find_some h10 hpos ho hr
  exact ⟨r, h, find_right h10 h⟩
theorem Wider.found {cs ms : List OCall} (h : Wider cs ms) (hf : fault cs = 0) {r : List Nat} (hr : first cs cs.length start = some r) : ∃ r', first ms ms.length start = some r' ∧ Full ms r' ∧ Right ms r' := by
  obtain ⟨hfull, hright⟩ := find_right (fault_ok hf).1 hr
  refine search_finds (h.faultless hf) (ord := r) ⟨by rw [h.len]; exact hfull.len, hfull.nodup, fun x hx => by rw [h.len]; exact hfull.lt x hx⟩ (h.right hfull.lt hright)
theorem Wider.refl {cs : List OCall} (hf : fault cs = 0) : Wider cs cs := by
  have h10 := (fault_ok hf).1
  unfold Ord.fault at hf
  rw [if_neg (by omega)] at hf
  refine ⟨rfl, fun i hi => ?_, fun _ _ => Int.le_refl _, fun _ _ => Int.le_refl _, fun _ _ => rfl, fun _ _ => rfl, fun _ _ => rfl⟩
  have := (faultL_each hf i hi).1
  unfold badNum at this
  omega
theorem at_set (ms : List OCall) (p : Nat) (c : OCall) (hp : p < ms.length) (i : Nat) : at_ (ms.set p c) i = if i = p then c else at_ ms i := by
  by_cases e : i = p
  · subst e
    simp [at_, List.getD, hp]
  · rw [if_neg e]
    unfold at_
    rw [List.getD_eq_getElem?_getD, List.getD_eq_getElem?_getD, List.getElem?_set, if_neg (fun q => e q.symm)]
theorem Wider.set {cs ms : List OCall} (h : Wider cs ms) {p : Nat} (hp : p < cs.length) {c : OCall} (h0 : 0 ≤ c.fr) (h1 : c.fr ≤ (at_ ms p).fr) (h2 : (at_ ms p).to_ ≤ c.to_) (h3 : c.wr = (at_ ms p).wr) (h4 : c.lba = (at_ ms p).lba) (h5 : c.val = (at_ ms p).val) : Wider cs (ms.set p c) := by
  have hpm : p < ms.length := by rw [h.len]; exact hp
  refine ⟨by simp [h.len], ?_, ?_, ?_, ?_, ?_, ?_⟩ <;> intro i hi <;> rw [at_set ms p c hpm] <;> split
  · exact h0
  · exact h.fr0 i hi
  · rename_i e; subst e; have := h.fr i hi; omega
  · exact h.fr i hi
  · rename_i e; subst e; have := h.to_ i hi; omega
  · exact h.to_ i hi
  · rename_i e; subst e; rw [h3]; exact h.wr i hi
  · exact h.wr i hi
  · rename_i e; subst e; rw [h4]; exact h.lba i hi
  · exact h.lba i hi
  · rename_i e; subst e; rw [h5]; exact h.val i hi
  · exact h.val i hi
end Ord
end Go.Proofs.Ytnjcmhpifdaheaa
