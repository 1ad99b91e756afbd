/- Plain: the segments that a list of a command's data tells. -/
import Derived.Test.YtnapgigemdmigaaDoorFits
namespace Go.Proofs.YtnapgigemdmigaaDoor

/-- the list goes on from 'at_', so many bytes are left: an error's number (0: none), and the segments -/
def listRun (bs : List Int) : Nat → Int → Int → List (Int × Int) → Int × List (Int × Int)
  | 0, _, left, segs => if left ≤ 0 then (0, segs) else (1, [])
  | f + 1, at_, left, segs =>
    if left ≤ 0 then (0, segs) else
    match numRd bs at_ with
    | none => (1, [])
    | some x =>
      if pageOk x = false then (2, []) else
      if at_ % 64 = 56 ∧ 64 < left then listRun bs f x left segs else
      if memFits bs.length x (min 64 left) then listRun bs f (at_ + 8) (left - min 64 left) (segs ++ [(x, min 64 left)]) else (1, [])
/-- how often the list can go on at most -/
def listMost (at_ left : Int) : Nat := (2 * left).toNat + (if at_ % 64 = 56 then 1 else 0)

def walkRes (bs : List Int) (first second long : Int) : Int × List (Int × Int) :=
  if long < 1 ∨ 2048 < long then (1, []) else
  if first % 4 ≠ 0 then (2, []) else
  if first < 0 then (1, []) else
  if memFits bs.length first (min (64 - first % 64) long) = false then (1, []) else
  if long - min (64 - first % 64) long ≤ 0 then (0, [(first, min (64 - first % 64) long)]) else
  if long - min (64 - first % 64) long ≤ 64 then
    (if pageOk second = false then (2, []) else
     if memFits bs.length second (long - min (64 - first % 64) long) then (0, [(first, min (64 - first % 64) long), (second, long - min (64 - first % 64) long)]) else (1, [])) else
  if second < 0 ∨ second % 8 ≠ 0 then (2, []) else
  listRun bs (listMost second (long - min (64 - first % 64) long)) second (long - min (64 - first % 64) long) [(first, min (64 - first % 64) long)]

/-- a segment that lies in the memory and in one page -/
def segOk (L : Nat) (s : Int × Int) : Prop := memFits L s.1 s.2 = true ∧ 1 ≤ s.2 ∧ s.1 / 64 = (s.1 + s.2 - 1) / 64
def segSum (l : List (Int × Int)) : Int := (l.map (·.2)).sum

theorem segSum_append (a b : List (Int × Int)) : segSum (a ++ b) = segSum a + segSum b := by simp [segSum]
theorem memFits_iff (L : Nat) (p n : Int) : memFits L p n = true ↔ 0 ≤ p ∧ 0 ≤ n ∧ n ≤ L ∧ p ≤ L - n := by unfold memFits; simp
theorem pageOk_iff (x : Int) : pageOk x = true ↔ 0 ≤ x ∧ x % 64 = 0 := by unfold pageOk; simp

/-- the list's own segments: those ahead, and pages -/
theorem listRun_ok (bs : List Int) : ∀ (f : Nat) (at_ left : Int) (segs out : List (Int × Int)), 0 ≤ left → listRun bs f at_ left segs = (0, out) →
    ∃ more, out = segs ++ more ∧ (∀ s ∈ more, segOk bs.length s ∧ s.1 % 64 = 0 ∧ s.2 ≤ 64) ∧ segSum more = left := by
  intro f
  induction f with
  | zero =>
    intro at_ left segs out h0 h
    unfold listRun at h
    split at h
    · cases h; exact ⟨[], by simp, by simp, by simp [segSum]; omega⟩
    · cases h
  | succ f ih =>
    intro at_ left segs out h0 h
    unfold listRun at h
    split at h
    · cases h; exact ⟨[], by simp, by simp, by simp [segSum]; omega⟩
    · split at h
      · cases h
      · next x hx =>
        split at h
        · cases h
        · next hp =>
          have hp' : pageOk x = true := by simpa using hp
          rw [pageOk_iff] at hp'
          split at h
          · exact ih _ _ _ _ h0 h
          · split at h
            · next hf =>
              obtain ⟨more, e1, e2, e3⟩ := ih _ _ _ _ (by omega) h
              refine ⟨(x, min 64 left) :: more, by simp [e1], ?_, ?_⟩
              · intro s hs
                rcases List.mem_cons.1 hs with rfl | hs
                · exact ⟨⟨hf, by simp; omega, by simp; omega⟩, hp'.2, by simp; omega⟩
                · exact e2 s hs
              · have : segSum ((x, min 64 left) :: more) = min 64 left + segSum more := by simp [segSum]
                rw [this, e3]; omega
            · cases h
/-- what Walk tells: segments in the memory and in a page each, together so long; the first begins at first, the others at a page's begin -/
theorem walkRes_ok (bs : List Int) (first second long : Int) (out : List (Int × Int)) (h : walkRes bs first second long = (0, out)) :
    1 ≤ long ∧ long ≤ 2048 ∧ (∀ s ∈ out, segOk bs.length s) ∧ segSum out = long ∧ ∃ n more, out = (first, n) :: more ∧ ∀ s ∈ more, s.1 % 64 = 0 := by
  unfold walkRes at h
  split at h; · cases h
  split at h; · cases h
  split at h; · cases h
  split at h; · cases h
  next h1 h2 h3 h4 =>
  have h4' : memFits bs.length first (min (64 - first % 64) long) = true := by simpa using h4
  generalize hn : min (64 - first % 64) long = n at *
  have hs : segOk bs.length (first, n) := ⟨h4', by simp; omega, by simp; omega⟩
  refine ⟨by omega, by omega, ?_⟩
  split at h
  · cases h
    exact ⟨by simpa using hs, by simp [segSum]; omega, n, [], rfl, by simp⟩
  · split at h
    · split at h; · cases h
      next hp =>
      have hp' : pageOk second = true := by simpa using hp
      rw [pageOk_iff] at hp'
      split at h
      · next hf =>
        cases h
        refine ⟨?_, by simp [segSum]; omega, n, _, rfl, by simp; omega⟩
        intro s hs'
        simp only [List.mem_cons, List.not_mem_nil, or_false] at hs'
        rcases hs' with rfl | rfl
        · exact hs
        · exact ⟨hf, by simp; omega, by simp; omega⟩
      · cases h
    · split at h; · cases h
      obtain ⟨more, rfl, e2, e3⟩ := listRun_ok bs _ _ _ _ _ (by omega) h
      refine ⟨?_, by rw [segSum_append, e3]; simp [segSum]; omega, n, more, by simp, fun s hs' => (e2 s hs').2.1⟩
      intro s hs'
      rcases List.mem_append.1 hs' with hs' | hs'
      · simp at hs'; subst hs'; exact hs
      · exact (e2 s hs').1
end Go.Proofs.YtnapgigemdmigaaDoor
