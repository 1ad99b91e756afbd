/- Segments of the call's own, read; and that those in the memory are gathered. -/
import Derived.Test.YtnapgigemdmigaaDoorGather
import Derived.Test.YtnapgigemdmigaaDoorWalkFn
import Derived.Laws.OwnMore
namespace Go.Proofs.YtnapgigemdmigaaDoor
open Go.RowKit Go.WideShapes
set_option linter.unusedVariables false

theorem segCells_at (segs : List (Int × Int)) (i : Nat) (h : i < segs.length) : (segCells segs)[i * 2]? = some (.int .i64 (segs.getD i (0, 0)).1) ∧ (segCells segs)[i * 2 + 1]? = some (.int .i64 (segs.getD i (0, 0)).2) := by
  induction segs generalizing i with
  | nil => simp at h
  | cons s t ih =>
    have e : segCells (s :: t) = .int .i64 s.1 :: .int .i64 s.2 :: segCells t := rfl
    rw [e]
    cases i with
    | zero => simp [List.getD]
    | succ i =>
      have := ih i (by simpa using h)
      rw [show (i + 1) * 2 = i * 2 + 1 + 1 by omega]
      simpa using this
theorem segRd_own {w : World} {base g n cap : Nat} {segs : List (Int × Int)} (h : w.ownsRow base 43 2 (.slice (some ⟨g, 0, none⟩) n cap) n (segCells segs)) (hn : segs.length = n) : SegRd w (some ⟨g, 0, none⟩) segs := by
  refine .inr ⟨g, 0, rfl, (h.lt g rfl).2, fun i hi => ?_⟩
  have := segCells_at segs i hi
  rw [Nat.zero_add, h.cellAt (i * 2) (by omega), h.cellAt (i * 2 + 1) (by omega)]
  exact this
/-- an own row's value: a slice that reads as the segments -/
theorem segRd_any {w : World} {base : Nat} {v : Value} {segs : List (Int × Int)} (h : w.ownsRow base 43 2 v segs.length (segCells segs)) : ∃ a c, v = .slice a segs.length c ∧ SegRd w a segs := by
  by_cases h0 : segs.length = 0
  · obtain ⟨_, ⟨rfl, _⟩ | ⟨g, cap, cur, rfl, _⟩⟩ := h
    · exact ⟨none, 0, by rw [h0], .inl h0⟩
    · exact ⟨_, cap, rfl, .inl h0⟩
  · obtain ⟨g, cap, rfl, _⟩ := own_form h (by omega)
    exact ⟨_, cap, rfl, segRd_own h rfl⟩
theorem gatherRes_ok (bs : List Int) : ∀ (segs : List (Int × Int)) (acc : List Int), (∀ s ∈ segs, memFits bs.length s.1 s.2 = true) → ∃ ds, gatherRes bs segs acc = some ds ∧ (ds.length : Int) = acc.length + segSum segs
  | [], acc, _ => ⟨acc, rfl, by simp [segSum]⟩
  | s :: t, acc, h => by
    have hs := h s (List.mem_cons_self ..)
    have hf := (memFits_iff _ _ _).1 hs
    obtain ⟨ds, e, hl⟩ := gatherRes_ok bs t (acc ++ (bs.drop s.1.toNat).take s.2.toNat) (fun x hx => h x (List.mem_cons_of_mem _ hx))
    refine ⟨ds, by rw [gatherRes, if_pos hs]; exact e, ?_⟩
    rw [hl]
    have : segSum (s :: t) = s.2 + segSum t := by simp [segSum]
    rw [this]
    simp only [List.length_append, List.length_take, List.length_drop]
    omega
theorem walk_any (b mb : Nat) (bs : List Int) (first second long : Int) (w : World) (hm : MemAt w b mb bs) (f0 : -9223372036854775808 ≤ first) (f1 : first ≤ 9223372036854775807) (s0 : -9223372036854775808 ≤ second) (s1 : second ≤ 9223372036854775807) (l0 : -9223372036854775808 ≤ long) (l1 : long ≤ 9223372036854775807) :
    Calls Tryd.prog 28 #[.pointer (some ⟨b, 0, none⟩), .int .i64 first, .int .i64 second, .int .i64 long] w (WalkEnd (walkRes bs first second long) w) := by
  by_cases h : long < 1 ∨ 2048 < long ∨ first % 4 ≠ 0 ∨ first < 0
  · exact walk_early b mb bs first second long w f0 f1 l0 l1 h
  · exact walk_late b mb bs first second long w hm f1 s0 s1 (by omega) (by omega) (by omega) (by omega)
theorem segOk_long {L : Nat} {segs : List (Int × Int)} (h : ∀ s ∈ segs, segOk L s) : (segs.length : Int) ≤ segSum segs := by
  induction segs with
  | nil => simp [segSum]
  | cons s t ih =>
    have := ih (fun x hx => h x (List.mem_cons_of_mem _ hx))
    have h1 := (h s (List.mem_cons_self ..)).2.1
    have : segSum (s :: t) = s.2 + segSum t := by simp [segSum]
    rw [this]; simp only [List.length_cons]; omega
theorem segSum_take (segs : List (Int × Int)) (k : Nat) (h : k < segs.length) : segSum (segs.take (k + 1)) = segSum (segs.take k) + (segs.getD k (0, 0)).2 := by
  rw [List.take_succ_eq_append_getElem h, segSum_append]
  simp [segSum, List.getD, h]
theorem segSum_bd {L : Nat} {segs : List (Int × Int)} (h : ∀ s ∈ segs, segOk L s) (k : Nat) : 0 ≤ segSum (segs.take k) ∧ segSum (segs.take k) ≤ segSum segs := by
  have h1 : segSum segs = segSum (segs.take k) + segSum (segs.drop k) := by rw [← segSum_append, List.take_append_drop]
  have h2 := segOk_long (L := L) (segs := segs.take k) (fun s hs => h s (List.mem_of_mem_take hs))
  have h3 := segOk_long (L := L) (segs := segs.drop k) (fun s hs => h s (List.mem_of_mem_drop hs))
  omega
end Go.Proofs.YtnapgigemdmigaaDoor
