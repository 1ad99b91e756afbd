/- A slice of the call's own that may begin anywhere in its block ('l = l[1:]'), one element appended. -/
import Derived.Test.YtkehhfgoikbciaaDoorBase2
import Derived.ArgAppend
import Derived.Laws.AppendOwn
import Derived.WideShapes
namespace Go.Proofs.YtkehhfgoikbciaaDoor
open Go.RowKit
set_option linter.unusedVariables false

/-- v is a slice with the elements xs (one cell each), in a block from base on, not frozen, or nil -/
def OwnSl (w : World) (base : Nat) (e : TypeId) (v : Value) (xs : List Value) : Prop :=
  (v = .slice none 0 0 ∧ xs = []) ∨
  ∃ g off cap cur, v = .slice (some ⟨g, off, none⟩) xs.length cap ∧ base ≤ g ∧ Blk w g cur e ∧ xs.length ≤ cap ∧ off + cap ≤ cur.size ∧ ∀ i, i < xs.length → cur[off + i]? = xs[i]?

theorem OwnSl.nil (w : World) (base : Nat) (e : TypeId) : OwnSl w base e (.slice none 0 0) [] := .inl ⟨rfl, rfl⟩
theorem OwnSl.keep {w w' : World} {base : Nat} {e : TypeId} {v : Value} {xs : List Value} {S : Nat → Prop} (h : OwnSl w base e v xs) (hk : Keep S w w') (hS : ∀ k, S k → k < base) : OwnSl w' base e v xs := by
  rcases h with h | ⟨g, off, cap, cur, rfl, h1, h2, h3⟩
  · exact .inl h
  · exact .inr ⟨g, off, cap, cur, rfl, h1, hk.blk h2 (fun q => by have := hS g q; omega), h3⟩
theorem OwnSl.below {w w' : World} {base : Nat} {e : TypeId} {v : Value} {xs : List Value} (h : OwnSl w base e v xs) (hb : Below w.heap.size w w') : OwnSl w' base e v xs :=
  h.keep (S := fun _ => False) (Keep.ofBelow hb (fun k h1 h2 => absurd h1 (by omega))) (fun k h => h.elim)
/-- the slice, laid open -/
theorem OwnSl.form {w : World} {base : Nat} {e : TypeId} {v : Value} {xs : List Value} (h : OwnSl w base e v xs) : ∃ av cv, v = .slice av xs.length cv ∧ (0 < xs.length → ∃ g off, av = some ⟨g, off, none⟩ ∧ ∀ i, i < xs.length → w.cell? ⟨g, off + i, none⟩ = xs[i]?) := by
  rcases h with ⟨rfl, rfl⟩ | ⟨g, off, cap, cur, rfl, h1, h2, h3, h4, h5⟩
  · exact ⟨none, 0, rfl, fun h => by simp at h⟩
  · exact ⟨_, cap, rfl, fun _ => ⟨g, off, rfl, fun i hi => by rw [h2.cell]; exact h5 i hi⟩⟩
/-- 'l[1:]' -/
theorem OwnSl.tail {w : World} {base : Nat} {e : TypeId} {av : Option Addr} {cv : Nat} {x : Value} {xs : List Value} (h : OwnSl w base e (.slice av (xs.length + 1) cv) (x :: xs)) :
    ∃ g off, av = some ⟨g, off, none⟩ ∧ xs.length + 1 ≤ cv ∧ w.cell? ⟨g, off, none⟩ = some x ∧ OwnSl w base e (.slice (if cv = 1 then some ⟨g, off, none⟩ else some ⟨g, off + 1, none⟩) xs.length (cv - 1)) xs := by
  rcases h with ⟨_, h⟩ | ⟨g, off, cap, cur, hv, h1, h2, h3, h4, h5⟩
  · cases h
  · simp only [Value.slice.injEq] at hv
    obtain ⟨rfl, _, rfl⟩ := hv
    have hx := h5 0 (by simp)
    simp only [Nat.add_zero, List.getElem?_cons_zero] at hx
    refine ⟨g, off, rfl, by simpa using h3, by rw [h2.cell]; exact hx, ?_⟩
    simp only [List.length_cons] at h3
    by_cases hc : cv = 1
    · rw [if_pos hc]
      exact .inr ⟨g, off, cv - 1, cur, rfl, h1, h2, by omega, by omega, fun i hi => by omega⟩
    · rw [if_neg hc]
      refine .inr ⟨g, off + 1, cv - 1, cur, rfl, h1, h2, by omega, by omega, fun i hi => ?_⟩
      have := h5 (i + 1) (by simp; omega)
      rw [show off + 1 + i = off + (i + 1) by omega]
      simpa using this

theorem blk_setCells {w : World} {g : Nat} {cur : Array Value} {e : TypeId} (h : Blk w g cur e) (k : Nat) (u : Value) : Blk (w.setCells g k [u]) g (cur.setIfInBounds k u) e := by
  show Blk ((w.setCell ⟨g, k, none⟩ u)) g _ e
  exact h.set k u

/-- append of one element that lies in a block of its own -/
theorem wpList_append_sl {P : Program} (w : World) {ops : Array Oper} {rest : List Oper} {o : Oper} {a : Act} {Q : Exit → Act → World → Prop} (hgd : o.guard = none) (s x : Operand) (t : TypeId)
    (ho : o.op = .call { callee := .builtin .append, args := #[s, x], argTypes := #[t, t] })
    (base : Nat) (e : TypeId) (i : TypeInfo) (z : Value) (bytes : Nat) (ht : P.underlying t = some (.slice e)) (hi : P.info? e = some i) (hz : i.zero = some z)
    (hsize : i.size = 1) (hby : i.bytes = bytes) (hzs : z.cells.size = 1)
    (v : Value) (xs : List Value) (hs : a.eval s = v) (hown : OwnSl w base e v xs)
    (ad : Addr) (c : Nat) (u : Value) (hx : a.eval x = .slice (some ad) 1 c) (hu : w.cell? ad = some u) (h1 : u.oneCell' = true)
    (h63 : xs.length + 1 ≤ maxLen) (hbytes : (xs.length + 1) * bytes ≤ 140737488355328) (hbase : base ≤ w.heap.size)
    (h : ∀ v' w', OwnSl w' base e v' (xs ++ [u]) → Below base w w' → wpList P ops Q rest (a.put o.dst v') w') : wpList P ops Q (o :: rest) a w := by
  have hnews : ∀ j y, [u][j]? = some y → w.cell? (ad.add j) = some y := fun j y hj => by
    match j, hj with
    | 0, hj => simp at hj; subst hj; simpa [Addr.add] using hu
  have key : ∃ v' w', (Builtin.append_ #[t, t] o.type #[v, .slice (some ad) 1 c]).run P w = .ok v' w' ∧ OwnSl w' base e v' (xs ++ [u]) ∧ Below base w w' := by
    rcases hown with ⟨rfl, rfl⟩ | ⟨g, off, cap, cur, rfl, g1, g2, g3, g4, g5⟩
    · obtain ⟨v', w', hrun, ho', hg, _⟩ := run_append_own (P := P) w base t o.type e i z 1 bytes ht hi hz hsize hby hzs (by omega) (.slice none 0 0) 0 [] (World.ownsRow_nil _ _ _ _) ad 1 c [u] rfl hnews (by simpa using h1) (by simpa using h63) (by simpa using hbytes) hbase
      refine ⟨v', w', hrun, ?_, (Below.refl _ w).grown hg hbase (fun k hk => by cases hk)⟩
      obtain ⟨_, ⟨_, h0⟩ | ⟨g, cap, cur, rfl, q1, q2, q3, q4, q5, q6⟩⟩ := ho'
      · omega
      · refine .inr ⟨g, 0, cap, cur, rfl, q1, q2, q3, by omega, fun i hi => ?_⟩
        simp only [List.nil_append, List.length_singleton] at hi q6 ⊢
        have e2 : (cur.toList.take ((0 + 1) * 1))[i]? = ([u] : List Value)[i]? := by rw [q6]
        rw [Nat.zero_add]
        simpa [List.getElem?_take, hi] using e2
    · by_cases hroom : xs.length + 1 ≤ cap
      · have hin : off + xs.length < cur.size := by omega
        have hrun := run_append_room_cells (P := P) (w := w) t o.type e i ht hi g off xs.length cap ad 1 c [u] (by simp [hsize]) hnews (by simpa using h1) hroom
          (fun j hj => by simp at hj; subst hj; rw [g2.cell]; simp [hsize, hin]) (fun j hj => g2.free _)
        refine ⟨_, _, hrun, .inr ⟨g, off, cap, cur.setIfInBounds (off + xs.length * i.size) u, by simp, g1, blk_setCells g2 _ u, by simpa using hroom, by simpa using g4, fun j hj => ?_⟩, ?_⟩
        · rw [hsize, Nat.mul_one]
          simp only [List.length_append, List.length_singleton] at hj
          by_cases ej : j = xs.length
          · subst ej; simp [hin]
          · have hj2 : j < xs.length := by omega
            rw [Array.getElem?_setIfInBounds_ne (by omega), g5 j hj2, List.getElem?_append_left hj2]
        · exact (Below.refl _ w).setCell (p := ⟨g, _, none⟩) g1 u
      · have holds : ∀ j y, xs[j]? = some y → w.cell? ((⟨g, off, none⟩ : Addr).add j) = some y := fun j y hj => by
          have hjl : j < xs.length := (List.getElem?_eq_some_iff.1 hj).1
          rw [WideShapes.add_plain, g2.cell, g5 j hjl, hj]
        obtain ⟨v', w', hrun, ho', hg⟩ := run_append_arg_grows (P := P) (w := w) t o.type e i z 1 bytes ht hi hz hsize hby hzs (by omega) ⟨g, off, none⟩ xs.length cap xs (by simp) holds ad 1 c [u] rfl hnews (by omega) h63 hbytes
        refine ⟨v', w', hrun, ?_, (Below.refl _ w).grown hg hbase (fun k hk => by cases hk)⟩
        obtain ⟨_, ⟨_, h0⟩ | ⟨g', cap', cur', rfl, q1, q2, q3, q4, q5, q6⟩⟩ := ho'
        · omega
        · refine .inr ⟨g', 0, cap', cur', by simp, by omega, q2, by simpa using q3, by omega, fun i hi => ?_⟩
          rw [Nat.zero_add]
          have e2 : (cur'.toList.take ((xs.length + 1) * 1))[i]? = (xs ++ [u])[i]? := by rw [q6]
          simp only [List.length_append, List.length_singleton] at hi
          simpa [List.getElem?_take, hi] using e2
  obtain ⟨v', w', hrun, r1, r2⟩ := key
  refine wpList_plain hgd fun K hK' => ?_
  unfold Oper.wp
  simp [execOp, ho, resolve, invoke, builtin, hs, hx, hrun, Result.andThen]
  exact hK' _ _ (h v' w' r1 r2)
end Go.Proofs.YtkehhfgoikbciaaDoor
