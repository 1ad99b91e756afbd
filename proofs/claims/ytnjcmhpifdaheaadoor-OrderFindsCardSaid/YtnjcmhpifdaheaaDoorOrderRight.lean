/- What the search finds is a right order; and where there is one, it finds one. -/
import Derived.Test.YtnjcmhpifdaheaaDoorOrderLaw
namespace Go.Proofs.YtnjcmhpifdaheaaDoor
set_option linter.unusedVariables false
namespace Ord

/-- the call at place p of an order -/
def oat (cs : List OCall) (ord : List Nat) (p : Nat) : OCall := at_ cs (ord.getD p 0)

/-- what stands in a block behind the first p of an order -/
def lastV (cs : List OCall) (ord : List Nat) (lba : Int) : Nat → Int
  | 0 => 0
  | p + 1 => if (oat cs ord p).wr && decide ((oat cs ord p).lba = lba) then (oat cs ord p).val else lastV cs ord lba p

def RightAt (cs : List OCall) (ord : List Nat) (p : Nat) : Prop :=
  (∀ k, k < p → ¬ (oat cs ord p).to_ ≤ (oat cs ord k).fr) ∧ ((oat cs ord p).wr = true ∨ lastV cs ord (oat cs ord p).lba p = (oat cs ord p).val)

def Right (cs : List OCall) (ord : List Nat) : Prop := ∀ p, p < ord.length → RightAt cs ord p

def who (cs : List OCall) (ord : List Nat) : OSt := ord.foldl (next cs) ⟨0, List.replicate 10 0⟩

inductive Good (cs : List OCall) : List Nat → Prop
  | nil : Good cs []
  | snoc (ord : List Nat) (i : Nat) (h : Good cs ord) (hi : i < cs.length) (ho : ok cs (who cs ord) i = true) : Good cs (ord ++ [i])

theorem who_snoc (cs : List OCall) (ord : List Nat) (i : Nat) : who cs (ord ++ [i]) = next cs (who cs ord) i := by
  simp [who, List.foldl_append]

theorem oat_left (cs : List OCall) (ord r : List Nat) (p : Nat) (h : p < ord.length) : oat cs (ord ++ r) p = oat cs ord p := by
  unfold oat
  rw [List.getD_eq_getElem?_getD, List.getD_eq_getElem?_getD, List.getElem?_append_left h]
theorem oat_snoc (cs : List OCall) (ord : List Nat) (i : Nat) : oat cs (ord ++ [i]) ord.length = at_ cs i := by
  unfold oat
  simp [List.getD]
theorem lastV_left (cs : List OCall) (ord r : List Nat) (lba : Int) : ∀ p, p ≤ ord.length → lastV cs (ord ++ r) lba p = lastV cs ord lba p
  | 0, _ => rfl
  | p + 1, h => by
    unfold lastV
    rw [oat_left cs ord r p (by omega), lastV_left cs ord r lba p (by omega)]

theorem right_snoc (cs : List OCall) (ord : List Nat) (i : Nat) : Right cs (ord ++ [i]) ↔ Right cs ord ∧ (∀ k, k < ord.length → ¬ (at_ cs i).to_ ≤ (oat cs ord k).fr) ∧ ((at_ cs i).wr = true ∨ lastV cs ord (at_ cs i).lba ord.length = (at_ cs i).val) := by
  have hlen : (ord ++ [i]).length = ord.length + 1 := by simp
  constructor
  · intro h
    refine ⟨fun p hp => ?_, ?_⟩
    · have := h p (by omega)
      unfold RightAt at this ⊢
      rw [oat_left cs ord [i] p hp, lastV_left cs ord [i] _ p (by omega)] at this
      refine ⟨fun k hk => ?_, this.2⟩
      have h2 := this.1 k hk
      rw [oat_left cs ord [i] k (by omega)] at h2
      exact h2
    · have := h ord.length (by omega)
      unfold RightAt at this
      rw [oat_snoc, lastV_left cs ord [i] _ _ (Nat.le_refl _)] at this
      refine ⟨fun k hk => ?_, this.2⟩
      have h2 := this.1 k hk
      rw [oat_left cs ord [i] k hk] at h2
      exact h2
  · rintro ⟨h1, h2, h3⟩ p hp
    rw [hlen] at hp
    unfold RightAt
    by_cases hq : p < ord.length
    · rw [oat_left cs ord [i] p hq, lastV_left cs ord [i] _ p (by omega)]
      refine ⟨fun k hk => ?_, (h1 p hq).2⟩
      rw [oat_left cs ord [i] k (by omega)]
      exact (h1 p hq).1 k hk
    · obtain rfl : p = ord.length := by omega
      rw [oat_snoc, lastV_left cs ord [i] _ _ (Nat.le_refl _)]
      refine ⟨fun k hk => ?_, h3⟩
      rw [oat_left cs ord [i] k hk]
      exact h2 k hk

/-! the state of an order -/
theorem who_bit (cs : List OCall) (ord : List Nat) (j : Nat) : (who cs ord).done.testBit j = decide (j ∈ ord) := by
  have : ∀ (l : List Nat) (s : OSt), (l.foldl (next cs) s).done.testBit j = (s.done.testBit j || decide (j ∈ l)) := by
    intro l
    induction l with
    | nil => intro s; simp
    | cons i r ih =>
      intro s
      rw [List.foldl_cons, ih, next_bit]
      simp [Bool.or_assoc]
  unfold who
  rw [this]
  simp

theorem who_len (cs : List OCall) (ord : List Nat) : (who cs ord).last.length = 10 := by
  have : ∀ (l : List Nat) (s : OSt), (l.foldl (next cs) s).last.length = s.last.length := by
    intro l
    induction l with
    | nil => intro s; rfl
    | cons i r ih =>
      intro s
      rw [List.foldl_cons, ih]
      unfold next
      dsimp only
      split <;> simp
  unfold who
  rw [this]
  simp

theorem name_lt (cs : List OCall) (i : Nat) (h : i < cs.length) : nameOf cs i < cs.length := by
  unfold nameOf
  refine List.findIdx_lt_length_of_exists ⟨cs[i], List.getElem_mem h, ?_⟩
  simp [at_, List.getD, h]
theorem name_lba (cs : List OCall) (i : Nat) (h : i < cs.length) : (at_ cs (nameOf cs i)).lba = (at_ cs i).lba := by
  have hl := name_lt cs i h
  have := List.findIdx_getElem (xs := cs) (p := fun c => decide (c.lba = (at_ cs i).lba)) (w := (show cs.findIdx (fun c => decide (c.lba = (at_ cs i).lba)) < cs.length from hl))
  have e : at_ cs (nameOf cs i) = cs[nameOf cs i] := by simp [at_, List.getD, hl]
  rw [e]
  exact of_decide_eq_true this
theorem name_same (cs : List OCall) (i j : Nat) (hi : i < cs.length) (hj : j < cs.length) : nameOf cs i = nameOf cs j ↔ (at_ cs i).lba = (at_ cs j).lba := by
  constructor
  · intro h
    rw [← name_lba cs i hi, h, name_lba cs j hj]
  · intro h
    unfold nameOf
    rw [h]

theorem cur_next (cs : List OCall) (s : OSt) (i j : Nat) (hi : i < cs.length) (hj : j < cs.length) (hn : cs.length ≤ s.last.length) :
    cur cs (next cs s i) j = if (at_ cs i).wr && decide ((at_ cs i).lba = (at_ cs j).lba) then (at_ cs i).val else cur cs s j := by
  unfold cur next
  dsimp only
  by_cases hw : (at_ cs i).wr = true
  · simp only [hw, if_true, Bool.true_and, decide_eq_true_eq]
    have hl := name_lt cs i hi
    by_cases hs : (at_ cs i).lba = (at_ cs j).lba
    · have e := (name_same cs i j hi hj).2 hs
      simp [hs, ← e, List.getD, show nameOf cs i < s.last.length by omega]
    · have e : ¬ nameOf cs i = nameOf cs j := fun q => hs ((name_same cs i j hi hj).1 q)
      have e2 : (s.last.set (nameOf cs i) (i + 1)).getD (nameOf cs j) 0 = s.last.getD (nameOf cs j) 0 := by
        rw [List.getD_eq_getElem?_getD, List.getD_eq_getElem?_getD, List.getElem?_set, if_neg e]
      rw [e2, if_neg hs]
  · simp [hw]

theorem cur_who (cs : List OCall) (hn : cs.length ≤ 10) (j : Nat) (hj : j < cs.length) {ord : List Nat} (h : Good cs ord) : cur cs (who cs ord) j = lastV cs ord (at_ cs j).lba ord.length := by
  induction h with
  | nil =>
    have e : (List.replicate 10 0).getD (nameOf cs j) 0 = 0 := by
      unfold List.getD
      rw [List.getElem?_replicate]
      split <;> rfl
    unfold cur
    rw [show (who cs []).last = List.replicate 10 0 from rfl, e]
    rfl
  | snoc ord i hg hi ho ih =>
    rw [who_snoc, cur_next cs _ i j hi hj (by rw [who_len]; exact hn), ih]
    rw [show (ord ++ [i]).length = ord.length + 1 by simp, lastV, oat_snoc, lastV_left cs ord [i] _ _ (Nat.le_refl _)]

theorem ok_iff (cs : List OCall) (hn : cs.length ≤ 10) {ord : List Nat} (h : Good cs ord) (i : Nat) (hi : i < cs.length) :
    ok cs (who cs ord) i = true ↔ i ∉ ord ∧ (∀ k, k < cs.length → (at_ cs k).to_ ≤ (at_ cs i).fr → k ∈ ord) ∧ ((at_ cs i).wr = true ∨ lastV cs ord (at_ cs i).lba ord.length = (at_ cs i).val) := by
  unfold ok
  simp only [who_bit, cur_who cs hn i hi h]
  simp [and_assoc]
  intro _ _
  constructor
  · intro h1 k hk ht
    exact (h1 k hk).resolve_left (by omega)
  · intro h1 k hk
    by_cases ht : (at_ cs k).to_ ≤ (at_ cs i).fr
    · exact .inr (h1 k hk ht)
    · exact .inl (by omega)

theorem Good.nodup {cs : List OCall} (hn : cs.length ≤ 10) {ord : List Nat} (h : Good cs ord) : ord.Nodup ∧ ∀ x ∈ ord, x < cs.length := by
  induction h with
  | nil => simp
  | snoc ord i hg hi ho ih =>
    have hx := ((ok_iff cs hn hg i hi).1 ho).1
    refine ⟨List.nodup_append.2 ⟨ih.1, by simp, ?_⟩, ?_⟩
    · intro a ha b hb e
      simp at hb
      subst hb e
      exact hx ha
    · intro x hm
      rcases List.mem_append.1 hm with hm | hm
      · exact ih.2 x hm
      · simp at hm; subst hm; exact hi

/-- what is good so far: at each place, what had to be ahead of it -/
theorem Good.ahead {cs : List OCall} (hn : cs.length ≤ 10) {ord : List Nat} (h : Good cs ord) : ∀ p, p < ord.length → ∀ k, k < cs.length → (at_ cs k).to_ ≤ (oat cs ord p).fr → k ∈ ord.take p := by
  induction h with
  | nil => intro p hp; exact absurd hp (Nat.not_lt_zero _)
  | snoc ord i hg hi ho ih =>
    intro p hp k hk ht
    rw [List.length_append] at hp
    simp at hp
    by_cases hq : p < ord.length
    · rw [oat_left cs ord [i] p hq] at ht
      rw [List.take_append_of_le_length (by omega)]
      exact ih p hq k hk ht
    · obtain rfl : p = ord.length := by omega
      rw [oat_snoc] at ht
      have := ((ok_iff cs hn hg i hi).1 ho).2.1 k hk ht
      simpa using this

theorem Good.right {cs : List OCall} (hn : cs.length ≤ 10) {ord : List Nat} (h : Good cs ord) : Right cs ord := by
  induction h with
  | nil => intro p hp; exact absurd hp (Nat.not_lt_zero _)
  | snoc ord i hg hi ho ih =>
    have hk := (ok_iff cs hn hg i hi).1 ho
    refine (right_snoc cs ord i).2 ⟨ih, fun k hkl ht => ?_, hk.2.2⟩
    have := hg.ahead hn k hkl i hi ht
    exact hk.1 (List.mem_of_mem_take this)

theorem good_prefix {cs : List OCall} : ∀ {l : List Nat}, Good cs l → ∀ ord i, l = ord ++ [i] → Good cs ord ∧ i < cs.length ∧ ok cs (who cs ord) i = true := by
  intro l h
  cases h with
  | nil => intro ord i e; simp at e
  | snoc ord' i' h hi ho =>
    intro ord i e
    have := List.append_inj' e rfl
    obtain ⟨rfl, e2⟩ := this
    simp at e2
    subst e2
    exact ⟨h, hi, ho⟩
theorem good_head {cs : List OCall} : ∀ (r ord : List Nat) (i : Nat), Good cs (ord ++ i :: r) → Good cs ord ∧ i < cs.length ∧ ok cs (who cs ord) i = true := by
  intro r
  induction hr : r.length generalizing r with
  | zero =>
    intro ord i h
    obtain rfl := List.eq_nil_of_length_eq_zero hr
    exact good_prefix h ord i rfl
  | succ n ih =>
    intro ord i h
    have hne : r ≠ [] := fun e => by simp [e] at hr
    obtain ⟨r', x, rfl⟩ : ∃ r' x, r = r' ++ [x] := ⟨r.dropLast, r.getLast hne, (List.dropLast_concat_getLast hne).symm⟩
    have := good_prefix h (ord ++ i :: r') x (by simp)
    exact ih r' (by simpa using hr) ord i this.1

/-! what is found -/
theorem first_good {cs : List OCall} : ∀ (k : Nat) (ord r : List Nat), Good cs ord → first cs k (who cs ord) = some r → Good cs (ord ++ r) ∧ r.length = k := by
  intro k
  induction k with
  | zero =>
    intro ord r h hf
    simp [first] at hf
    subst hf
    simpa using h
  | succ k ih =>
    intro ord r h hf
    unfold first at hf
    obtain ⟨l1, i, l2, hm, hfi, _⟩ := List.findSome?_eq_some_iff.1 hf
    have hi : i < cs.length := by
      have : i ∈ List.range cs.length := by rw [hm]; simp
      exact List.mem_range.1 this
    split at hfi
    · rename_i ho
      obtain ⟨r', hr', rfl⟩ := Option.map_eq_some_iff.1 hfi
      rw [← who_snoc] at hr'
      have := ih (ord ++ [i]) r' (.snoc ord i h hi ho) hr'
      exact ⟨by simpa using this.1, by simp [this.2]⟩
    · cases hfi

theorem first_some {cs : List OCall} : ∀ (k : Nat) (ord r : List Nat), Good cs (ord ++ r) → r.length = k → first cs k (who cs ord) ≠ none := by
  intro k
  induction k with
  | zero => intro ord r _ _; simp [first]
  | succ k ih =>
    intro ord r h hl hn
    match r, hl with
    | i :: r', hl =>
      obtain ⟨hg, hi, ho⟩ := good_head r' ord i h
      unfold first at hn
      have := List.findSome?_eq_none_iff.1 hn i (List.mem_range.2 hi)
      simp only [ho, if_true, Option.map_eq_none_iff] at this
      rw [← who_snoc] at this
      exact ih (ord ++ [i]) r' (by simpa using h) (by simpa using hl) this

/-- a list of all calls, each once -/
structure Full (cs : List OCall) (ord : List Nat) : Prop where
  len : ord.length = cs.length
  nodup : ord.Nodup
  lt : ∀ x ∈ ord, x < cs.length

theorem Full.mem {cs : List OCall} {ord : List Nat} (h : Full cs ord) {k : Nat} (hk : k < cs.length) : k ∈ ord := by
  refine Classical.byContradiction fun hno => ?_
  have hnd : (k :: ord).Nodup := List.nodup_cons.2 ⟨hno, h.nodup⟩
  have hs : (k :: ord) ⊆ List.range cs.length := fun x hx => by
    rcases List.mem_cons.1 hx with rfl | hx
    · exact List.mem_range.2 hk
    · exact List.mem_range.2 (h.lt x hx)
  have := hnd.length_le_of_subset hs
  simp [h.len] at this
  omega

theorem oat_mem {cs : List OCall} {ord : List Nat} {k : Nat} (h : k ∈ ord) : ∃ q, q < ord.length ∧ ord.getD q 0 = k := by
  obtain ⟨q, hq, e⟩ := List.getElem_of_mem h
  exact ⟨q, hq, by simp [List.getD, hq, e]⟩

theorem good_of_right {cs : List OCall} (hn : cs.length ≤ 10) (hv : ∀ i, i < cs.length → (at_ cs i).fr < (at_ cs i).to_) {full : List Nat} (hf : Full cs full) (hr : Right cs full) : ∀ p, p ≤ full.length → Good cs (full.take p)
  | 0, _ => by simpa using Good.nil
  | p + 1, hp => by
    have ih := good_of_right hn hv hf hr p (by omega)
    have e : full.take (p + 1) = full.take p ++ [full.getD p 0] := by
      rw [List.take_add_one]
      simp [List.getD, show p < full.length by omega]
    have hmem : full.getD p 0 ∈ full := by
      simp [List.getD, show p < full.length by omega]
    have hi := hf.lt _ hmem
    have hlen : (full.take p).length = p := by simp; omega
    have eo : oat cs full p = at_ cs (full.getD p 0) := rfl
    rw [e]
    refine .snoc _ _ ih hi ((ok_iff cs hn ih _ hi).2 ⟨?_, ?_, ?_⟩)
    · intro hm
      obtain ⟨q, hq, e2⟩ := List.getElem_of_mem hm
      rw [hlen] at hq
      rw [List.getElem_take] at e2
      have : full[q] = full[p] := by rw [e2]; simp [List.getD, show p < full.length by omega]
      have hpw := List.pairwise_iff_getElem.1 hf.nodup q p (by omega) (by omega) hq
      exact hpw this
    · intro k hk ht
      obtain ⟨q, hq, e2⟩ := oat_mem (cs := cs) (hf.mem hk)
      by_cases h1 : q < p
      · have : (full.take p)[q]'(by rw [hlen]; exact h1) = k := by
          rw [List.getElem_take, ← e2]; simp [List.getD, hq]
        rw [← this]
        exact List.getElem_mem _
      · by_cases h2 : q = p
        · subst h2
          rw [e2] at ht
          have := hv k hk
          omega
        · have := (hr q hq).1 p (by omega)
          unfold oat at this
          rw [e2] at this
          exact absurd ht this
    · have h3 := (hr p (by omega)).2
      rw [eo] at h3
      rw [hlen]
      have : lastV cs full (at_ cs (full.getD p 0)).lba p = lastV cs (full.take p) (at_ cs (full.getD p 0)).lba p := by
        have e3 := lastV_left cs (full.take p) (full.drop p) (at_ cs (full.getD p 0)).lba p (by rw [hlen]; exact Nat.le_refl _)
        rw [List.take_append_drop] at e3
        exact e3
      rw [this] at h3
      exact h3

/-- where there is a right order, one is found; and what is found is one -/
theorem find_some {cs : List OCall} (hn : cs.length ≤ 10) (hv : ∀ i, i < cs.length → (at_ cs i).fr < (at_ cs i).to_) {full : List Nat} (hf : Full cs full) (hr : Right cs full) : ∃ r, first cs cs.length (who cs []) = some r := by
  have hg := good_of_right hn hv hf hr full.length (Nat.le_refl _)
  rw [List.take_length] at hg
  cases h : first cs cs.length (who cs []) with
  | some r => exact ⟨r, rfl⟩
  | none => exact absurd h (first_some cs.length [] full (by simpa using hg) hf.len)
theorem find_right {cs : List OCall} (hn : cs.length ≤ 10) {r : List Nat} (h : first cs cs.length (who cs []) = some r) : Full cs r ∧ Right cs r := by
  have hg := first_good cs.length [] r .nil h
  have h1 : Good cs r := by simpa using hg.1
  exact ⟨⟨hg.2, (h1.nodup hn).1, (h1.nodup hn).2⟩, h1.right hn⟩
end Ord
end Go.Proofs.YtnjcmhpifdaheaaDoor
