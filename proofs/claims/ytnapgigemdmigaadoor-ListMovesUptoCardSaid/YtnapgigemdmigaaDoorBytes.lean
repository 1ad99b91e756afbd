/- Bytes of an argument, bytes of the call's own, memories: small laws. -/
import Derived.Test.YtnapgigemdmigaaDoorMemW
import Derived.Test.YtnapgigemdmigaaDoorBytesEq
import Derived.Test.YtnapgigemdmigaaDoorRd
import Derived.WalkSmall
namespace Go.Proofs.YtnapgigemdmigaaDoor
open Go.RowKit Go.WideShapes
set_option linter.unusedVariables false

/-- where it is written elsewhere, what was written here is there -/
theorem splice_apart (bs xs ys : List Int) (a b : Nat) (ha : a + xs.length ≤ bs.length) (hb : b + ys.length ≤ bs.length) (h : b ≥ a + xs.length ∨ b + ys.length ≤ a) :
    ((splice (splice bs a xs) b ys).drop a).take xs.length = xs := by
  apply List.ext_getElem?
  intro i
  unfold splice
  simp only [List.getElem?_take, List.getElem?_drop, List.getElem?_append, List.length_take, List.length_append, List.length_drop, Nat.min_eq_left (show a ≤ bs.length by omega)]
  by_cases hi : i < xs.length
  · rw [if_pos hi]
    rcases h with h | h
    · rw [if_pos (by omega), if_pos (by omega), if_neg (by omega), if_pos (by omega)]; congr 1; omega
    · rw [if_neg (by omega), if_neg (by omega), if_neg (by omega), if_pos (by omega)]; congr 1; omega
  · rw [if_neg hi, List.getElem?_eq_none (by omega)]
theorem splice_here (bs xs : List Int) (a : Nat) (ha : a + xs.length ≤ bs.length) : ((splice bs a xs).drop a).take xs.length = xs := by
  unfold splice
  have e : (bs.take a).length = a := by simp; omega
  rw [List.drop_append_of_le_length (by omega), List.drop_of_length_le (by omega)]
  simp

/-- an argument's bytes, at whatever later world -/
theorem IsRow.bytes {w : World} {a : Option Addr} {len cap : Nat} {zs : List Int} (h : IsRow .u8 1 w a len cap zs) :
    ∃ xs : List Int, xs.length = len ∧ len ≤ 140737488351232 ∧ (∀ x ∈ xs, 0 ≤ x ∧ x ≤ 255) ∧ ∀ w', Below w.heap.size w w' → RdB w' a xs := by
  by_cases hl : 0 < len
  · obtain ⟨b, off, rfl, h1, h2, h3, h4, h5, h6⟩ := h.at hl
    refine ⟨zs.take len, by simp; omega, by omega, ?_, fun w' hw => .inr ⟨b, off, rfl, fun i hi => ?_⟩⟩
    · intro x hx
      obtain ⟨i, hi, e⟩ := List.mem_iff_getElem.1 hx
      have hi' : i < len := by simp at hi; omega
      have := h6 i (by omega)
      have e2 : zs.getD i 0 = x := by
        rw [← e]; simp [List.getD, List.getElem?_eq_getElem (show i < zs.length by omega)]
      rw [e2] at this
      exact bounds_u8 this
    · have hi' : i < len := by simp at hi; omega
      rw [h5 w' hw i (by omega)]
      simp [List.getD, hi']
  · exact ⟨[], by simp; omega, by omega, by simp, fun _ _ => .inl rfl⟩
theorem RdB.cells {w : World} {a : Option Addr} {xs : List Int} (h : RdB w a xs) : xs.length = 0 ∨ ∃ ad, a = some ad ∧ ∀ i, i < xs.length → w.cell? (ad.add i) = some (.int .u8 (xs.getD i 0)) := by
  rcases h with h | ⟨b, off, h1, h2⟩
  · exact .inl h
  · exact .inr ⟨_, h1, fun i hi => by rw [add_plain]; exact h2 i hi⟩
theorem MemAt.below {w w' : World} {b mb : Nat} {bs : List Int} (h : MemAt w b mb bs) (hb : Below w.heap.size w w') : MemAt w' b mb bs :=
  have hk : Keep (fun _ => False) w w' := Keep.ofBelow hb (fun k h1 h2 => absurd h1 (by omega))
  ⟨hk.blk h.head (fun h => h), hk.blk h.body (fun h => h), h.apart, h.most, h.byte⟩
theorem MemAt.drewN {w : World} {b mb : Nat} {bs : List Int} (h : MemAt w b mb bs) (k : Nat) : MemAt (w.drewN k) b mb bs := ⟨h.head, h.body, h.apart, h.most, h.byte⟩
theorem RdB.own {w : World} {base g n cap : Nat} {xs : List Int} (h : w.ownsRow base 5 1 (.slice (some ⟨g, 0, none⟩) n cap) n (xs.map (Value.int .u8))) (hn : xs.length = n) : RdB w (some ⟨g, 0, none⟩) xs := by
  refine .inr ⟨g, 0, rfl, fun i hi => ?_⟩
  rw [Nat.zero_add, h.cellAt i (by omega)]
  simp [List.getD, List.getElem?_eq_getElem hi]

end Go.Proofs.YtnapgigemdmigaaDoor
