/- A slice of calls that came in, opened. -/
import Derived.Test.YtnjcmhpifdaheaaDoorOpsGen
import Derived.Test.YtnjcmhpifdaheaaDoorOrderCallsRd
namespace Go.Proofs.YtnjcmhpifdaheaaDoor
open Go.ChangeShapes Go.WideShapes Go.Deep Go.RowKit Go.ChangeAt
set_option linter.unusedVariables false

theorem call_field_bool {H : Type} {enc : TypeId × Value → H} {P : Program} {w : World} {base : Nat} {spare : Nat → Bool} {held : Bool} {n : Nat} {cs : List Value} {xs : List (DataW H × List MemPlace)} {fs : Array Field}
    (hlen : xs.length = fs.size) (hg : ∀ (i : Nat) (f : Field), fs[i]? = some f → DataW.trod enc P w base spare held n f.type ((cs.drop f.offset).take (P.cellsOf f.type)) = xs[i]?)
    {i : Nat} {f : Field} (hf : fs[i]? = some f) (ht : P.underlying f.type = some .bool) (hc : P.cellsOf f.type = 1) : ∃ z : Bool, cs[f.offset]? = some (.bool z) := by
  have h := hg i f hf
  have hi : i < xs.length := by rw [hlen]; exact (Array.getElem?_eq_some_iff.1 hf).1
  rw [hc, List.getElem?_eq_getElem hi] at h
  obtain ⟨z, e, _⟩ := DataW.trod_bool ht h
  exact ⟨z, take_one e⟩

theorem pickCalls {P : Nat → OCall → Prop} {n : Nat} (h : ∀ i, i < n → ∃ c, P i c) : ∃ cs : List OCall, cs.length = n ∧ ∀ i, i < n → P i (Ord.at_ cs i) := by
  classical
  refine ⟨(List.range n).map fun i => if h' : ∃ c, P i c then h'.choose else default, by simp, fun i hi => ?_⟩
  have e : Ord.at_ ((List.range n).map fun i => if h' : ∃ c, P i c then h'.choose else default) i = if h' : ∃ c, P i c then h'.choose else default := by
    simp [Ord.at_, List.getD, hi]
  rw [e, dif_pos (h i hi)]
  exact (h i hi).choose_spec

set_option maxRecDepth 100000 in
set_option maxHeartbeats 1000000 in
theorem calls_of {H : Type} {enc : TypeId × Value → H} {W : World} {base : Nat} {v : Value} {d : DataW H} {p : List MemPlace} {ts : List TypeId} {ds : List (DataW H)} {j : Nat}
    (hv : Value.okWide Tryd.prog W .any base 22 v)
    (h : DataW.Trod enc Tryd.prog W 0 (fun _ => true) true 22 v d p)
    (hs : (DataW.weightsEach Tryd.prog ts ds).all (· ≤ reachBytes) = true) (hj : ts[j]? = some 22) (hd : ds[j]? = some d) : ∃ a len cap cs, v = .slice a len cap ∧ IsCallRow W a len cap cs := by
  have hC : Tryd.prog.cellsOf 39 = 5 := by kernel_rfl
  have hb : Tryd.prog.bytesOf 39 = 40 := by kernel_rfl
  have h1 : Tryd.prog.cellsOf 3 = 1 := by kernel_rfl
  have h2 : Tryd.prog.cellsOf 4 = 1 := by kernel_rfl
  obtain ⟨a, len, cap, rfl⟩ := okWide_slice Tryd.underlying22 hv
  obtain ⟨fuel, hf⟩ := h
  rcases open_slice Tryd.underlying22 hf with ⟨hcs, _⟩ | ⟨x, l, c, m, n, D, Pl, hcs, _, hl, hm, hmm, hx, hi⟩
  · simp [Value.cells] at hcs
    obtain ⟨rfl, rfl, rfl⟩ := hcs
    exact ⟨_, _, _, [], rfl, rfl, by omega, by omega, fun _ => ⟨rfl, rfl⟩, .inl rfl⟩
  · simp [Value.cells] at hcs
    obtain ⟨rfl, rfl, rfl⟩ := hcs
    simp only [if_true] at hmm
    subst hmm
    simp only [Prod.mk.injEq] at hx
    obtain ⟨rfl, _⟩ := hx
    have hr := sized_slice hs hj hd Tryd.underlying22
    rw [hb] at hr
    simp only [List.length_map, List.length_range, reachBytes] at hr
    have key : ∀ i, i < len → ∃ c : OCall, Ord.CallWf c ∧ ∀ q u, (Ord.callCells c)[q]? = some u → W.cell? (x.add (i * 5 + q)) = some u := by
      intro i hil
      obtain ⟨cs', hc, ht⟩ := hi i (by omega)
      rw [hC] at hc
      obtain ⟨_, hcl, hat⟩ := World.cells?_some hc
      obtain ⟨xs, n', _, _, _, hlen, hg⟩ := DataW.trod_struct Tryd.underlying39 ht
      obtain ⟨z0, e0, w0⟩ := field_int hlen hg (i := 0) rfl Tryd.underlying3 h1
      obtain ⟨z1, e1, w1⟩ := field_int hlen hg (i := 1) rfl Tryd.underlying3 h1
      obtain ⟨z2, e2⟩ := call_field_bool hlen hg (i := 2) rfl Tryd.underlying4 h2
      obtain ⟨z3, e3, w3⟩ := field_int hlen hg (i := 3) rfl Tryd.underlying3 h1
      obtain ⟨z4, e4, w4⟩ := field_int hlen hg (i := 4) rfl Tryd.underlying3 h1
      refine ⟨⟨z0, z1, z2, z3, z4⟩, ⟨w0, w1, w3, w4⟩, fun q u hu => ?_⟩
      have hq : q < 5 := by
        have := (List.getElem?_eq_some_iff.1 hu).1
        simpa [Ord.callCells] using this
      rw [← Go.Deep.add_add, hat q (by omega), ← hu]
      rcases (by omega : q = 0 ∨ q = 1 ∨ q = 2 ∨ q = 3 ∨ q = 4) with rfl | rfl | rfl | rfl | rfl
      · exact e0
      · exact e1
      · exact e2
      · exact e3
      · exact e4
    obtain ⟨cs, hcl, hcs⟩ := pickCalls key
    refine ⟨_, _, _, cs, rfl, hcl, by omega, hl, (fun q => by cases q), ?_⟩
    by_cases hl0 : len = 0
    · exact .inl (by omega)
    · refine .inr ?_
      obtain ⟨b, off, spot⟩ := x
      have c0 := (hcs 0 (by omega)).2 0 (.int .i64 (Ord.at_ cs 0).fr) rfl
      have hspot : spot = none := by simpa [Addr.add] using World.cell?_spot c0
      subst hspot
      refine ⟨b, off, rfl, by have := cell_lt c0; simpa [Addr.add] using this, fun i hi q u hu => ?_, fun i hi => (hcs i (by omega)).1⟩
      have := (hcs i (by omega)).2 q u hu
      rw [add_plain, ← Nat.add_assoc] at this
      exact this
end Go.Proofs.YtnjcmhpifdaheaaDoor
