/- A slice of structs of two integers that came in, opened. -/
import Derived.Test.YtnjcmhpifdaheaaDoorFrame
import Derived.Test.YtnjcmhpifdaheaaDoorOpsRd
import Derived.Deep.Slices
import Derived.Deep.Fields
namespace Go.Proofs.YtnjcmhpifdaheaaDoor
open Go.ChangeShapes Go.WideShapes Go.Deep Go.RowKit Go.ChangeAt
set_option linter.unusedVariables false

theorem take_one {α : Type} {l : List α} {j : Nat} {v : α} (h : (l.drop j).take 1 = [v]) : l[j]? = some v := by
  have e : ((l.drop j).take 1)[0]? = some v := by rw [h]; rfl
  simpa using e

theorem pick2 {P : Nat → Nat → Int → Prop} {C : Nat → Nat → Prop} (h : ∀ i q, C i q → ∃ z, P i q z) : ∃ Z : Nat → Nat → Int, ∀ i q, C i q → P i q (Z i q) := by
  classical
  exact ⟨fun i q => if h' : ∃ z, P i q z then h'.choose else 0, fun i q c => by simp only [dif_pos (h i q c)]; exact (h i q c).choose_spec⟩

/-- one field of a struct whose cells read: an integer -/
theorem field_int {H : Type} {enc : TypeId × Value → H} {P : Program} {w : World} {base : Nat} {spare : Nat → Bool} {held : Bool} {n : Nat} {cs : List Value} {xs : List (DataW H × List MemPlace)} {fs : Array Field}
    (hlen : xs.length = fs.size) (hg : ∀ (i : Nat) (f : Field), fs[i]? = some f → DataW.trod enc P w base spare held n f.type ((cs.drop f.offset).take (P.cellsOf f.type)) = xs[i]?)
    {i : Nat} {f : Field} {k : IntKind} (hf : fs[i]? = some f) (ht : P.underlying f.type = some (.int k)) (hc : P.cellsOf f.type = 1) : ∃ z : Int, cs[f.offset]? = some (.int k z) ∧ (Lit.int k z).wf = true := by
  have h := hg i f hf
  have hi : i < xs.length := by rw [hlen]; exact (Array.getElem?_eq_some_iff.1 hf).1
  rw [hc, List.getElem?_eq_getElem hi] at h
  obtain ⟨z, e, _, wz⟩ := DataW.trod_int ht h
  exact ⟨z, take_one e, wz⟩

set_option maxRecDepth 100000 in
theorem pairs_of {H : Type} {enc : TypeId × Value → H} {W : World} {base : Nat} {T e : TypeId} {f0 f1 : Field} {v : Value} {d : DataW H} {p : List MemPlace} {ts : List TypeId} {ds : List (DataW H)} {j : Nat}
    (hT : Tryd.prog.underlying T = some (.slice e)) (he : Tryd.prog.underlying e = some (.struct #[f0, f1])) (h0 : Tryd.prog.underlying f0.type = some (.int .i64)) (h1 : Tryd.prog.underlying f1.type = some (.int .i64))
    (o0 : f0.offset = 0) (o1 : f1.offset = 1) (k0 : Tryd.prog.cellsOf f0.type = 1) (k1 : Tryd.prog.cellsOf f1.type = 1)
    (hC : Tryd.prog.cellsOf e = 2) (hb : Tryd.prog.bytesOf e = 16) (hv : Value.okWide Tryd.prog W .any base T v)
    (h : DataW.Trod enc Tryd.prog W 0 (fun _ => true) true T v d p)
    (hs : (DataW.weightsEach Tryd.prog ts ds).all (· ≤ reachBytes) = true) (hj : ts[j]? = some T) (hd : ds[j]? = some d) : ∃ a len cap z, v = .slice a len cap ∧ IsPairs W a len z := by
  obtain ⟨a, len, cap, rfl⟩ := okWide_slice hT hv
  obtain ⟨fuel, hf⟩ := h
  rcases open_slice hT hf with ⟨hcs, _⟩ | ⟨x, l, c, m, n, D, Pl, hcs, _, hl, hm, hmm, hx, hi⟩
  · simp [Value.cells] at hcs
    obtain ⟨rfl, rfl, rfl⟩ := hcs
    exact ⟨_, _, _, fun _ _ => 0, rfl, .inl rfl⟩
  · simp [Value.cells] at hcs
    obtain ⟨rfl, rfl, rfl⟩ := hcs
    simp only [if_true] at hmm
    subst hmm
    simp only [Prod.mk.injEq] at hx
    obtain ⟨rfl, _⟩ := hx
    have hr := sized_slice hs hj hd hT
    rw [hb] at hr
    simp only [List.length_map, List.length_range, reachBytes] at hr
    have key : ∀ i q, i < m → q < 2 → ∃ z : Int, W.cell? (x.add (i * 2 + q)) = some (.int .i64 z) ∧ (Lit.int .i64 z).wf = true := by
      intro i q him hq
      obtain ⟨cs', hc, ht⟩ := hi i him
      rw [hC] at hc
      obtain ⟨_, hcl, hat⟩ := World.cells?_some hc
      obtain ⟨xs, n', _, _, _, hlen, hg⟩ := DataW.trod_struct he ht
      rcases (by omega : q = 0 ∨ q = 1) with rfl | rfl
      · obtain ⟨z, e1, wz⟩ := field_int hlen hg (i := 0) (f := f0) rfl h0 k0
        rw [o0] at e1
        exact ⟨z, by rw [← Go.Deep.add_add, hat 0 (by omega)]; exact e1, wz⟩
      · obtain ⟨z, e1, wz⟩ := field_int hlen hg (i := 1) (f := f1) rfl h1 k1
        rw [o1] at e1
        exact ⟨z, by rw [← Go.Deep.add_add, hat 1 (by omega)]; exact e1, wz⟩
    obtain ⟨Z, hZ⟩ := pick2 (C := fun i q => i < m ∧ q < 2) (fun i q h => key i q h.1 h.2)
    refine ⟨_, _, _, Z, rfl, ?_⟩
    by_cases hl0 : len = 0
    · exact .inl hl0
    · refine .inr ?_
      obtain ⟨b, off, spot⟩ := x
      have c0 := (hZ 0 0 ⟨by omega, by omega⟩).1
      have hspot : spot = none := by simpa [Addr.add] using World.cell?_spot c0
      subst hspot
      refine ⟨b, off, rfl, by omega, by have := cell_lt c0; simpa [Addr.add] using this, fun i q hi hq => ?_, fun i q hi hq => (hZ i q ⟨by omega, hq⟩).2⟩
      have := (hZ i q ⟨by omega, hq⟩).1
      rw [add_plain, ← Nat.add_assoc] at this
      exact this

end Go.Proofs.YtnjcmhpifdaheaaDoor
