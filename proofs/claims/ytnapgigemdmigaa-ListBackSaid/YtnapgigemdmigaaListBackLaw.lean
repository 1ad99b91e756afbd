/- Plain: what is scattered into pages that are no two one is gathered again. -/
import Derived.Test.YtnapgigemdmigaaListBuilt
import Derived.Test.YtnapgigemdmigaaSegRow
import Derived.Test.YtnapgigemdmigaaScatter
namespace Go.Proofs.Ytnapgigemdmigaa
set_option linter.unusedVariables false

/-- no two of the segments have a byte in common -/
def Apart (L : Nat) (segs : List (Int × Int)) : Prop := segs.Pairwise (fun s t => s.1 + s.2 ≤ t.1 ∨ t.1 + t.2 ≤ s.1)
theorem splice_read_other (bs xs : List Int) (p q n : Nat) (hp : p + xs.length ≤ bs.length) (hq : q + n ≤ bs.length) (h : q + n ≤ p ∨ p + xs.length ≤ q) : ((splice bs p xs).drop q).take n = (bs.drop q).take n := by
  apply List.ext_getElem?
  intro i
  unfold splice
  simp only [List.getElem?_take, List.getElem?_drop, List.getElem?_append, List.length_take, Nat.min_eq_left (show p ≤ bs.length by omega)]
  by_cases hi : i < n
  · rw [if_pos hi, if_pos hi]
    by_cases h1 : q + i < p
    · rw [if_pos h1, if_pos h1]
    · rw [if_neg h1, if_neg (show ¬ q + i - p < xs.length by omega)]
      congr 1; omega
  · rw [if_neg hi, if_neg hi]
theorem splice_read_here (bs xs : List Int) (p : Nat) (hp : p + xs.length ≤ bs.length) : ((splice bs p xs).drop p).take xs.length = xs := by
  have := splice_part bs xs p 0 xs.length hp (by omega)
  rw [Nat.add_zero] at this
  rw [this]; simp

/-- what lies apart from all segments stays -/
theorem scatMem_other : ∀ (segs : List (Int × Int)) (bs ys : List Int) (q n : Nat), (∀ s ∈ segs, memFits bs.length s.1 s.2 = true) → scatRun segs ys.length = some 0 → q + n ≤ bs.length → (∀ s ∈ segs, s.1 + s.2 ≤ q ∨ (q : Int) + n ≤ s.1) →
    (scatMem bs segs ys).length = bs.length ∧ ((scatMem bs segs ys).drop q).take n = (bs.drop q).take n
  | [], bs, ys, q, n, _, _, _, _ => ⟨rfl, rfl⟩
  | s :: t, bs, ys, q, n, hf, hr, hq, ha => by
    have hs := (memFits_iff _ _ _).1 (hf s (List.mem_cons_self ..))
    rw [scatRun] at hr
    split at hr
    · cases hr
    · next hn =>
      have hmax : max s.2 0 = s.2 := by omega
      rw [hmax] at hr hn
      have hl : (ys.take s.2.toNat).length = s.2.toNat := by simp; omega
      have hsl : (splice bs s.1.toNat (ys.take s.2.toNat)).length = bs.length := length_splice _ _ _ (by omega)
      have ih := scatMem_other t (splice bs s.1.toNat (ys.take s.2.toNat)) (ys.drop s.2.toNat) q n (fun x hx => by rw [hsl]; exact hf x (List.mem_cons_of_mem _ hx)) (by
        rw [List.length_drop, show ((ys.length - s.2.toNat : Nat) : Int) = ys.length - s.2 by omega]; exact hr) (by omega) (fun x hx => ha x (List.mem_cons_of_mem _ hx))
      rw [scatMem]
      refine ⟨by rw [ih.1, hsl], ?_⟩
      rw [ih.2]
      have := ha s (List.mem_cons_self ..)
      exact splice_read_other bs _ _ q n (by omega) hq (by omega)
theorem gather_scat : ∀ (segs : List (Int × Int)) (bs ys acc : List Int), (∀ s ∈ segs, memFits bs.length s.1 s.2 = true) → Apart bs.length segs → scatRun segs ys.length = some 0 →
    gatherRes (scatMem bs segs ys) segs acc = some (acc ++ ys) ∧ (scatMem bs segs ys).length = bs.length
  | [], bs, ys, acc, _, _, hr => by
    have : ys.length = 0 := by simp [scatRun] at hr; simpa using hr
    rw [List.eq_nil_of_length_eq_zero this]
    simp [gatherRes, scatMem]
  | s :: t, bs, ys, acc, hf, ha, hr => by
    have hs := (memFits_iff _ _ _).1 (hf s (List.mem_cons_self ..))
    have hr' := hr
    rw [scatRun] at hr
    split at hr
    · cases hr
    · next hn =>
      have hmax : max s.2 0 = s.2 := by omega
      rw [hmax] at hr hn
      have hl : (ys.take s.2.toNat).length = s.2.toNat := by simp; omega
      have hsl : (splice bs s.1.toNat (ys.take s.2.toNat)).length = bs.length := length_splice _ _ _ (by omega)
      have hrt : scatRun t ((ys.drop s.2.toNat).length : Int) = some 0 := by
        rw [List.length_drop, show ((ys.length - s.2.toNat : Nat) : Int) = ys.length - s.2 by omega]; exact hr
      have hft : ∀ x ∈ t, memFits (splice bs s.1.toNat (ys.take s.2.toNat)).length x.1 x.2 = true := fun x hx => by rw [hsl]; exact hf x (List.mem_cons_of_mem _ hx)
      obtain ⟨ha1, ha2⟩ := List.pairwise_cons.1 ha
      have hoth := scatMem_other t (splice bs s.1.toNat (ys.take s.2.toNat)) (ys.drop s.2.toNat) s.1.toNat s.2.toNat hft hrt (by omega) (fun x hx => by have := ha1 x hx; omega)
      have ih := gather_scat t (splice bs s.1.toNat (ys.take s.2.toNat)) (ys.drop s.2.toNat) (acc ++ ys.take s.2.toNat) hft (by rw [hsl]; exact ha2) hrt
      rw [scatMem]
      refine ⟨?_, by rw [ih.2, hsl]⟩
      rw [gatherRes, if_pos (by rw [hoth.1, hsl]; exact hf s (List.mem_cons_self ..)), hoth.2]
      have hh := splice_read_here bs (ys.take s.2.toNat) s.1.toNat (by omega)
      rw [hl] at hh
      rw [hh, ih.1, List.append_assoc, List.take_append_drop]
theorem scatRun_sum : ∀ (segs : List (Int × Int)) (left : Int), (∀ s ∈ segs, 0 ≤ s.2) → segSum segs = left → scatRun segs left = some 0
  | [], left, _, h => by simp [segSum] at h; simp [scatRun]; omega
  | s :: t, left, h0, h => by
    have hs := h0 s (List.mem_cons_self ..)
    have hss : segSum (s :: t) = s.2 + segSum t := by simp [segSum]
    have ht : 0 ≤ segSum t := by
      have : ∀ (l : List (Int × Int)), (∀ s ∈ l, 0 ≤ s.2) → 0 ≤ segSum l := by
        intro l
        induction l with
        | nil => intro _; simp [segSum]
        | cons a l ih =>
          intro hl
          have h1 := hl a (List.mem_cons_self ..)
          have h2 := ih (fun x hx => hl x (List.mem_cons_of_mem _ hx))
          have : segSum (a :: l) = a.2 + segSum l := by simp [segSum]
          omega
      exact this t (fun x hx => h0 x (List.mem_cons_of_mem _ hx))
    rw [scatRun, if_neg (by omega), show max s.2 0 = s.2 by omega]
    exact scatRun_sum t _ (fun x hx => h0 x (List.mem_cons_of_mem _ hx)) (by omega)

/-- the segments of the pages that were built -/
def builtSegs (pages : List Int) (offset long : Int) : List (Int × Int) :=
  match pages with
  | [] => []
  | x :: t => (x + offset, min (64 - offset) long) :: segsOf t (long - min (64 - offset) long)
theorem segsOf_length (t : List Int) : ∀ left, (segsOf t left).length = t.length := by
  induction t with
  | nil => intro _; rfl
  | cons x t ih => intro left; simp [segsOf, ih]
theorem segsOf_fst (t : List Int) : ∀ left, (segsOf t left).map (·.1) = t := by
  induction t with
  | nil => intro _; rfl
  | cons x t ih => intro left; simp [segsOf, ih]
theorem builtSegs_length (pages : List Int) (offset long : Int) : (builtSegs pages offset long).length = pages.length := by
  cases pages with
  | nil => rfl
  | cons x t => simp [builtSegs, segsOf_length]
theorem builtSegs_at (pages : List Int) (offset long : Int) (i : Nat) (h : i < pages.length) : ((builtSegs pages offset long).getD i (0, 0)).1 = pages.getD i 0 + if i = 0 then offset else 0 := by
  cases pages with
  | nil => simp at h
  | cons x t =>
    cases i with
    | zero => simp [builtSegs]
    | succ i =>
      have hi : i < t.length := by simpa using h
      have hl : i < (segsOf t (long - min (64 - offset) long)).length := by rw [segsOf_length]; exact hi
      have e := congrArg (fun l => l[i]?) (segsOf_fst t (long - min (64 - offset) long))
      simp only [List.getElem?_map, List.getElem?_eq_getElem hl, List.getElem?_eq_getElem hi, Option.map_some, Option.some.injEq] at e
      simp [builtSegs, List.getD, hl, hi, e]
theorem builtSegs_apart (L : Nat) (pages : List Int) (offset long : Int) (o0 : 0 ≤ offset) (o1 : offset ≤ 60) (hp : ∀ x ∈ pages, pageOk x = true) (hs : ∀ s ∈ builtSegs pages offset long, segOk L s)
    (hd : ∀ i j, i < j → j < pages.length → pages.getD i 0 ≠ pages.getD j 0) : Apart L (builtSegs pages offset long) := by
  have hl := builtSegs_length pages offset long
  refine List.pairwise_iff_getElem.2 fun i j hi hj hij => ?_
  have key : ∀ k, (hk : k < (builtSegs pages offset long).length) → ∃ q : Int, pages.getD k 0 = 64 * q ∧ 64 * q ≤ (builtSegs pages offset long)[k].1 ∧ (builtSegs pages offset long)[k].1 + (builtSegs pages offset long)[k].2 ≤ 64 * q + 64 := fun k hk => by
    have h1 := builtSegs_at pages offset long k (by omega)
    have h2 := hs _ (List.getElem_mem hk)
    have h3 := (pageOk_iff _).1 (hp (pages.getD k 0) (by simp [List.getD, show k < pages.length by omega]))
    have e : (builtSegs pages offset long).getD k (0, 0) = (builtSegs pages offset long)[k] := by simp [List.getD, hk]
    rw [e] at h1
    obtain ⟨_, h4, h5⟩ := h2
    generalize (builtSegs pages offset long)[k] = s at *
    refine ⟨pages.getD k 0 / 64, by omega, ?_, ?_⟩
    · split at h1 <;> omega
    · split at h1 <;> omega
  obtain ⟨q1, a1, a2, a3⟩ := key i hi
  obtain ⟨q2, b1, b2, b3⟩ := key j hj
  have hne := hd i j hij (by omega)
  omega
end Go.Proofs.Ytnapgigemdmigaa
