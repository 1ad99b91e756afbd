/- A slice of MemOps that came in, opened. -/
import Derived.Test.YtnapgigemdmigaaDoorOpsGen
import Derived.Test.YtnapgigemdmigaaDoorMemOpsRd
namespace Go.Proofs.YtnapgigemdmigaaDoor
open Go.ChangeShapes Go.WideShapes Go.Deep Go.RowKit Go.ChangeAt
set_option linter.unusedVariables false

theorem weights_mem_all {H : Type} {P : Program} {e : TypeId} : ∀ {l : List (DataW H)} {d : DataW H}, d ∈ l → ∀ n ∈ d.weights P e, n ∈ DataW.weightsAll P e l
  | d0 :: r, d, hd, n, hn => by
    simp only [DataW.weightsAll, List.mem_append]
    rcases List.mem_cons.1 hd with rfl | hd
    · exact .inl hn
    · exact .inr (weights_mem_all hd n hn)
/-- what each element of a slice among the arguments weighs -/
theorem sized_elem {H : Type} {P : Program} {ts : List TypeId} {ds : List (DataW H)} (h : (DataW.weightsEach P ts ds).all (· ≤ reachBytes) = true) {j : Nat} {t e : TypeId} {elems spare : List (DataW H)} (ht : ts[j]? = some t) (hd : ds[j]? = some (.slice elems spare))
    (hu : P.underlying t = some (.slice e)) {d : DataW H} (hm : d ∈ elems) : (d.weights P e).all (· ≤ reachBytes) = true := by
  refine List.all_eq_true.2 fun n hn => ?_
  refine List.all_eq_true.1 h n (DataW.weights_mem_each ht hd n ?_)
  simp only [DataW.weights, hu, List.mem_cons, List.mem_append]
  exact .inr (.inl (weights_mem_all hm n hn))

theorem pickOps {P : Nat → (Nat → Int) → Option Addr → Nat → Nat → List Int → Prop} {C : Nat → Prop} (h : ∀ i, C i → ∃ z A L K Z, P i z A L K Z) :
    ∃ (z : Nat → Nat → Int) (A : Nat → Option Addr) (L K : Nat → Nat) (Z : Nat → List Int), ∀ i, C i → P i (z i) (A i) (L i) (K i) (Z i) := by
  classical
  have h' : ∀ i, ∃ q : (Nat → Int) × Option Addr × Nat × Nat × List Int, C i → P i q.1 q.2.1 q.2.2.1 q.2.2.2.1 q.2.2.2.2 := fun i => by
    by_cases hc : C i
    · obtain ⟨z, A, L, K, Z, hp⟩ := h i hc
      exact ⟨(z, A, L, K, Z), fun _ => hp⟩
    · exact ⟨(fun _ => 0, none, 0, 0, []), fun q => absurd q hc⟩
  exact ⟨fun i => (h' i).choose.1, fun i => (h' i).choose.2.1, fun i => (h' i).choose.2.2.1, fun i => (h' i).choose.2.2.2.1, fun i => (h' i).choose.2.2.2.2, fun i hc => (h' i).choose_spec hc⟩

set_option maxRecDepth 100000 in
set_option maxHeartbeats 1000000 in
theorem ops4_of {H : Type} {enc : TypeId × Value → H} {W : World} {base : Nat} {T e : TypeId} {f0 f1 f2 f3 : Field} {v : Value} {d : DataW H} {p : List MemPlace} {ts : List TypeId} {ds : List (DataW H)} {j : Nat}
    (hT : Tryd.prog.underlying T = some (.slice e)) (he : Tryd.prog.underlying e = some (.struct #[f0, f1, f2, f3])) (h0 : Tryd.prog.underlying f0.type = some (.int .i64)) (h1 : Tryd.prog.underlying f1.type = some (.int .i64)) (h2 : Tryd.prog.underlying f2.type = some (.int .i64))
    (h3 : f3.type = 30) (o0 : f0.offset = 0) (o1 : f1.offset = 1) (o2 : f2.offset = 2) (o3 : f3.offset = 3) (k0 : Tryd.prog.cellsOf f0.type = 1) (k1 : Tryd.prog.cellsOf f1.type = 1) (k2 : Tryd.prog.cellsOf f2.type = 1) (k3 : Tryd.prog.cellsOf f3.type = 1)
    (hC : Tryd.prog.cellsOf e = 4) (hb : Tryd.prog.bytesOf e = 48) (hu : Tryd.prog.cellsOf 5 = 1) (hub : Tryd.prog.bytesOf 5 = 1) (hv : Value.okWide Tryd.prog W .any base T v)
    (h : DataW.Trod enc Tryd.prog W 0 (fun _ => true) true T v d p)
    (hs : (DataW.weightsEach Tryd.prog ts ds).all (· ≤ reachBytes) = true) (hj : ts[j]? = some T) (hd : ds[j]? = some d) : ∃ a len cap z A L C Z, v = .slice a len cap ∧ IsMemOps W a len z A L C Z := by
  obtain ⟨a, len, cap, rfl⟩ := okWide_slice hT hv
  obtain ⟨fuel, hf⟩ := h
  rcases open_slice hT hf with ⟨hcs, _⟩ | ⟨x, l, c, m, n, D, Pl, hcs, _, hl, hm, hmm, hx, hi⟩
  · simp [Value.cells] at hcs
    obtain ⟨rfl, rfl, rfl⟩ := hcs
    exact ⟨_, _, _, fun _ _ => 0, fun _ => none, fun _ => 0, fun _ => 0, fun _ => [], rfl, .inl rfl⟩
  · simp [Value.cells] at hcs
    obtain ⟨rfl, rfl, rfl⟩ := hcs
    simp only [if_true] at hmm
    subst hmm
    simp only [Prod.mk.injEq] at hx
    obtain ⟨rfl, _⟩ := hx
    have hr := sized_slice hs hj hd hT
    rw [hb] at hr
    simp only [List.length_map, List.length_range, reachBytes] at hr
    have key : ∀ i, i < len → ∃ (z : Nat → Int) (A : Option Addr) (L K : Nat) (Z : List Int), (∀ q, q < 3 → W.cell? (x.add (i * 4 + q)) = some (.int .i64 (z q)) ∧ (Lit.int .i64 (z q)).wf = true) ∧ W.cell? (x.add (i * 4 + 3)) = some (.slice A L K) ∧ IsRow .u8 1 W A L K Z := by
      intro i hil
      obtain ⟨cs', hc, ht⟩ := hi i (by omega)
      rw [hC] at hc
      obtain ⟨_, hcl, hat⟩ := World.cells?_some hc
      have hsz := sized_elem hs hj hd hT (d := D i) (List.mem_map.2 ⟨i, List.mem_range.2 hil, rfl⟩)
      obtain ⟨xs, n', _, hxe, _, hlen, hg⟩ := DataW.trod_struct he ht
      have hD : D i = .agg (xs.map (·.1)) := by
        have := congrArg Prod.fst hxe
        simpa using this
      rw [hD] at hsz
      simp only [DataW.weights, he] at hsz
      obtain ⟨z0, e0, w0⟩ := field_int hlen hg (i := 0) (f := f0) rfl h0 k0
      obtain ⟨z1, e1, w1⟩ := field_int hlen hg (i := 1) (f := f1) rfl h1 k1
      obtain ⟨z2, e2, w2⟩ := field_int hlen hg (i := 2) (f := f2) rfl h2 k2
      rw [o0] at e0
      rw [o1] at e1
      rw [o2] at e2
      have g3 := hg 3 f3 rfl
      have hx3 : 3 < xs.length := by rw [hlen]; simp
      rw [k3, o3, h3, List.getElem?_eq_getElem hx3] at g3
      have hsl : ∃ A L K, (cs'.drop 3).take 1 = [.slice A L K] := by
        rcases open_ints Tryd.underlying30 Tryd.underlying5 hu g3 with ⟨q, _⟩ | ⟨A, L, K, _, q, _⟩
        · exact ⟨_, _, _, q⟩
        · exact ⟨_, _, _, q⟩
      obtain ⟨A, L, K, hsl⟩ := hsl
      rw [hsl] at g3
      have e3 := take_one hsl
      obtain ⟨Z, hZ⟩ := row_of (k := .u8) (sz := 1) (a := A) (len := L) (cap := K) (p := (xs[3]).2) (d := (xs[3]).1) (j := 3) Tryd.underlying30 Tryd.underlying5 hu hub ⟨n', by simpa [Value.cells] using g3⟩ hsz (by simp [h3]) (by simp [hx3])
      refine ⟨fun q => if q = 0 then z0 else if q = 1 then z1 else z2, A, L, K, Z, ?_, ?_, hZ⟩
      · intro q hq
        rcases (by omega : q = 0 ∨ q = 1 ∨ q = 2) with rfl | rfl | rfl
        · exact ⟨by rw [← Go.Deep.add_add, hat 0 (by omega)]; exact e0, w0⟩
        · exact ⟨by rw [← Go.Deep.add_add, hat 1 (by omega)]; exact e1, w1⟩
        · exact ⟨by rw [← Go.Deep.add_add, hat 2 (by omega)]; exact e2, w2⟩
      · rw [← Go.Deep.add_add, hat 3 (by omega)]; exact e3
    obtain ⟨z, A, L, K, Z, hZ⟩ := pickOps (C := fun i => i < len) (fun i h => key i h)
    refine ⟨_, _, _, z, A, L, K, Z, rfl, ?_⟩
    by_cases hl0 : len = 0
    · exact .inl hl0
    · refine .inr ?_
      obtain ⟨b, off, spot⟩ := x
      have c0 := ((hZ 0 (by omega)).1 0 (by omega)).1
      have hspot : spot = none := by simpa [Addr.add] using World.cell?_spot c0
      subst hspot
      refine ⟨b, off, rfl, by omega, by have := cell_lt c0; simpa [Addr.add] using this, fun i hi => ?_⟩
      obtain ⟨g1, g2, g3⟩ := hZ i hi
      refine ⟨fun q hq => ?_, ?_, g3⟩
      · have := g1 q hq
        rw [add_plain, ← Nat.add_assoc] at this
        exact this
      · rw [add_plain, ← Nat.add_assoc] at g2
        exact g2

set_option maxRecDepth 100000 in
theorem memOps_of {H : Type} {enc : TypeId × Value → H} {W : World} {base : Nat} {v : Value} {d : DataW H} {p : List MemPlace} {ts : List TypeId} {ds : List (DataW H)}
    (hv : Value.okWide Tryd.prog W .any base 22 v) (h : DataW.Trod enc Tryd.prog W 0 (fun _ => true) true 22 v d p)
    (hs : (DataW.weightsEach Tryd.prog ts ds).all (· ≤ reachBytes) = true) {j : Nat} (hj : ts[j]? = some 22) (hd : ds[j]? = some d) : ∃ a len cap z A L C Z, v = .slice a len cap ∧ IsMemOps W a len z A L C Z :=
  ops4_of Tryd.underlying22 Tryd.underlying33 Tryd.underlying3 Tryd.underlying3 Tryd.underlying3 rfl rfl rfl rfl rfl (by kernel_rfl) (by kernel_rfl) (by kernel_rfl) (by kernel_rfl) (by kernel_rfl) (by kernel_rfl) (by kernel_rfl) (by kernel_rfl) hv h hs hj hd
end Go.Proofs.YtnapgigemdmigaaDoor
