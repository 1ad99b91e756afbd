/- A slice of rows of Booleans that came in ([][]bool). -/
import Derived.Test.YtkehhfgoikbciaaDoorFrame
import Derived.Deep.Slices
namespace Go.Proofs.YtkehhfgoikbciaaDoor
open Go.ChangeShapes Go.WideShapes Go.Deep Go.RowKit Go.ChangeAt
set_option linter.unusedVariables false

/-- element i is the slice A i of L i Booleans B i -/
def IsBRows (w : World) (a : Option Addr) (len : Nat) (A : Nat → Option Addr) (L C : Nat → Nat) (B : Nat → Nat → Bool) : Prop :=
  len = 0 ∨ ∃ b off, a = some ⟨b, off, none⟩ ∧ len * 24 ≤ 140737488351232 ∧ b < w.heap.size ∧ ∀ i, i < len → w.cell? ⟨b, off + i, none⟩ = some (.slice (A i) (L i) (C i)) ∧ L i ≤ maxLen ∧
    (L i = 0 ∨ ∃ b' off', A i = some ⟨b', off', none⟩ ∧ b' < w.heap.size ∧ ∀ j, j < L i → w.cell? ⟨b', off' + j, none⟩ = some (.bool (B i j)))

set_option maxRecDepth 100000 in
theorem brows_of {H : Type} {enc : TypeId × Value → H} {W : World} {base : Nat} {v : Value} {d : DataW H} {p : List MemPlace} {ts : List TypeId} {ds : List (DataW H)}
    (hv : Value.okWide Tryd.prog W .any base 22 v) (h : DataW.Trod enc Tryd.prog W 0 (fun _ => true) true 22 v d p)
    (hs : (DataW.weightsEach Tryd.prog ts ds).all (· ≤ reachBytes) = true) {j : Nat} (hj : ts[j]? = some 22) (hd : ds[j]? = some d) :
    ∃ a len cap A L C B, v = .slice a len cap ∧ IsBRows W a len A L C B := by
  classical
  have hT : Tryd.prog.underlying 22 = some (.slice 33) := Tryd.underlying22
  have hE : Tryd.prog.underlying 33 = some (.slice 4) := Tryd.underlying33
  obtain ⟨a, len, cap, rfl⟩ := okWide_slice hT hv
  obtain ⟨fuel, hf⟩ := h
  rcases open_slice1 hT (by kernel_rfl) hf with ⟨hcs, _⟩ | ⟨x, l, c, m, n, V, D, Pl, hcs, _, hl, hm, hmm, hx, hr⟩
  · simp [Value.cells] at hcs
    obtain ⟨rfl, rfl, rfl⟩ := hcs
    exact ⟨_, _, _, fun _ => none, fun _ => 0, fun _ => 0, fun _ _ => false, rfl, .inl rfl⟩
  · simp [Value.cells] at hcs
    obtain ⟨rfl, rfl, rfl⟩ := hcs
    simp only [if_true] at hmm
    subst hmm
    simp only [Prod.mk.injEq] at hx
    obtain ⟨rfl, _⟩ := hx
    have hw := sized_slice hs hj hd hT
    have hb : Tryd.prog.bytesOf 33 = 24 := by kernel_rfl
    rw [hb] at hw
    simp only [List.length_map, List.length_range, reachBytes] at hw
    have key : ∀ i, i < m → ∃ (A : Option Addr) (L C : Nat) (B : Nat → Bool), W.cell? (x.add i) = some (.slice A L C) ∧ L ≤ maxLen ∧ (L = 0 ∨ ∃ b' off', A = some ⟨b', off', none⟩ ∧ b' < W.heap.size ∧ ∀ j, j < L → W.cell? ⟨b', off' + j, none⟩ = some (.bool (B j))) := by
      intro i hi
      obtain ⟨hc, ht⟩ := hr i hi
      rcases open_slice1 hE (by kernel_rfl) ht with ⟨hcs, _⟩ | ⟨x', l', c', m', n', V', D', Pl', hcs, _, hl', hm', hmm', hx', hr'⟩
      · have hv' : V i = .slice none 0 0 := by simpa using hcs
        rw [hv'] at hc
        exact ⟨_, _, _, fun _ => false, hc, Nat.zero_le _, .inl rfl⟩
      · have hv' : V i = .slice (some x') l' c' := by simpa using hcs
        rw [hv'] at hc
        simp only [if_true] at hmm'
        subst hmm'
        have hB : ∀ j, j < m' → ∃ bb, W.cell? (x'.add j) = some (.bool bb) := fun j hj => by
          obtain ⟨h1, h2⟩ := hr' j hj
          obtain ⟨bb, h3, _⟩ := DataW.trod_bool Tryd.underlying4 h2
          have : V' j = .bool bb := by simpa using h3
          exact ⟨bb, by rw [← this]; exact h1⟩
        refine ⟨_, _, _, fun j => if h : ∃ bb, W.cell? (x'.add j) = some (.bool bb) then h.choose else false, hc, by omega, ?_⟩
        by_cases hz : l' = 0
        · exact .inl hz
        · refine .inr ?_
          obtain ⟨b', off', spot'⟩ := x'
          obtain ⟨_, c1⟩ := hB 0 (by omega)
          have hspot' : spot' = none := by simpa [Addr.add] using World.cell?_spot c1
          subst hspot'
          refine ⟨b', off', rfl, by have := cell_lt c1; simpa [Addr.add] using this, fun q hq => ?_⟩
          have h3 := hB q (by omega)
          simp only [dif_pos h3]
          rw [← WideShapes.add_plain]
          exact h3.choose_spec
    by_cases hl0 : len = 0
    · exact ⟨_, _, _, fun _ => none, fun _ => 0, fun _ => 0, fun _ _ => false, rfl, .inl hl0⟩
    · refine ⟨_, _, _, fun i => if h : i < m then (key i h).choose else none, fun i => if h : i < m then (key i h).choose_spec.choose else 0, fun i => if h : i < m then (key i h).choose_spec.choose_spec.choose else 0,
        fun i => if h : i < m then (key i h).choose_spec.choose_spec.choose_spec.choose else fun _ => false, rfl, .inr ?_⟩
      obtain ⟨b, off, spot⟩ := x
      have c0 := (hr 0 (by omega)).1
      have hspot : spot = none := by simpa [Addr.add] using World.cell?_spot c0
      subst hspot
      refine ⟨b, off, rfl, by omega, by have := cell_lt c0; simpa [Addr.add] using this, fun i hi => ?_⟩
      have hi' : i < m := by omega
      simp only [dif_pos hi']
      have h4 := (key i hi').choose_spec.choose_spec.choose_spec.choose_spec
      rw [← WideShapes.add_plain]
      exact h4
end Go.Proofs.YtkehhfgoikbciaaDoor
