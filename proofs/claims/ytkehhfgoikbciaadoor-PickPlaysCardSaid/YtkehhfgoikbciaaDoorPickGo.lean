/- pick: one contract for a turn that comes; the closed fact that the laws ask first. -/
import Derived.Test.YtkehhfgoikbciaaDoorPickNew
import Derived.Test.YtkehhfgoikbciaaDoorIRowsRd
namespace Go.Proofs.YtkehhfgoikbciaaDoor
open Go.RowKit Go.Shelf
set_option linter.unusedVariables false

/-- one turn: from (k, c) to (j, c') -/
def NextStep (z ws : Nat → Int) (n k : Nat) (c : Int) (j : Nat) (c' : Int) : Prop :=
  (0 < z k ∧ 0 < c ∧ j = k ∧ c' = c - 1) ∨ ((z k = 0 ∨ c = 0) ∧ IsTurn z n k j ∧ c' = ws j - 1)
theorem IsTurn.lt {z : Nat → Int} {n k j : Nat} (h : IsTurn z n k j) : j < n := by
  obtain ⟨i, hi, rfl, _⟩ := h
  exact Nat.mod_lt _ (by omega)
theorem IsTurn.pos {z : Nat → Int} {n k j : Nat} (h : IsTurn z n k j) : 0 < z j := by
  obtain ⟨i, hi, _, h, _⟩ := h
  exact h
theorem NextStep.fit {z ws : Nat → Int} {n k : Nat} {c : Int} {j : Nat} {c' : Int} (h : NextStep z ws n k c j c') (hf : PickFit n ws k c) : PickFit n ws j c' ∧ 0 < z j := by
  obtain ⟨f1, f2, f3, f4, f5, f6⟩ := hf
  rcases h with ⟨h1, h2, rfl, rfl⟩ | ⟨h1, h2, rfl⟩
  · exact ⟨⟨f1, f2, f3, f4, by omega, by omega⟩, h1⟩
  · have := f3 j h2.lt
    exact ⟨⟨f1, f2, f3, h2.lt, by omega, by omega⟩, h2.pos⟩
def GoPost (b g cap n : Nat) (ws z : Nat → Int) (k : Nat) (c : Int) (w : World) (e : Ending) (w' : World) : Prop :=
  ∃ (j : Nat) (c' : Int), NextStep z ws n k c j c' ∧ e = .returned (.tuple #[.int .i64 j, .nilIface]) ∧ PickAt w' b g cap n ws j c' ∧ Keep (· = b) w w'
theorem next_go (b g cap n : Nat) (ws : Nat → Int) (k : Nat) (c : Int) (bz off zc : Nat) (z : Nat → Int) (w : World) (hp : PickAt w b g cap n ws k c) (hf : PickFit n ws k c) (hz : WaitsAt w b bz off n z)
    (hz0 : ∀ i, i < n → 0 ≤ z i) (hpos : ∃ i, i < n ∧ 0 < z i) :
    Calls Tryd.prog 57 #[.pointer (some ⟨b, 0, none⟩), .slice (some ⟨bz, off, none⟩) n zc] w (GoPost b g cap n ws z k c w) := by
  have h1 := hz0 k hf.kn
  have h2 := hf.c0
  by_cases h : z k = 0 ∨ c = 0
  · refine (next_turn b g cap n ws k c bz off zc z w hp hf hz hz0 hpos h).mono ?_
    rintro e w' ⟨j, hj, rfl, hp', hk⟩
    exact ⟨j, _, .inr ⟨h, hj, rfl⟩, rfl, hp', hk⟩
  · have a1 : 0 < z k := by have : z k ≠ 0 := fun e => h (.inl e); omega
    have a2 : 0 < c := by have : c ≠ 0 := fun e => h (.inr e); omega
    refine (next_stay b g cap n ws k c bz off zc z w hp hf hz hz0 a1 a2).mono ?_
    rintro e w' ⟨rfl, hp', hk⟩
    exact ⟨k, _, .inl ⟨a1, a2, rfl, rfl⟩, rfl, hp', hk⟩

/-- the turn that comes, or an error; whatever waits is handed in -/
def AnyPost (b g cap n : Nat) (ws z : Nat → Int) (m k : Nat) (c : Int) (w : World) (e : Ending) (w' : World) : Prop :=
  (∃ code : Int, (m ≠ n ∧ code = 2 ∨ m = n ∧ (∃ i, i < n ∧ z i < 0) ∧ code = 1 ∨ m = n ∧ (∀ i, i < n → z i = 0) ∧ code = 4) ∧ e = .returned (.tuple #[.int .i64 0, .iface 29 (.int .i64 code)]) ∧ PickAt w' b g cap n ws k c ∧ Keep (· = b) w w') ∨
  (m = n ∧ (∀ i, i < n → 0 ≤ z i) ∧ GoPost b g cap n ws z k c w e w')
theorem PickAt.below {w w' : World} {b g cap n : Nat} {ws : Nat → Int} {k : Nat} {c : Int} (h : PickAt w b g cap n ws k c) (hb : Below w.heap.size w w') : PickAt w' b g cap n ws k c := h.keep hb h.blk.lt h.lt
theorem Keep.ofNew {S : Nat → Prop} {a w : World} (h : Below a.heap.size a w) : Keep S a w := Keep.ofBelow h (fun k h1 h2 => by omega)
theorem next_any (b g cap n : Nat) (ws : Nat → Int) (k : Nat) (c : Int) (a : Option Addr) (m mc : Nat) (z : Nat → Int) (w : World) (hp : PickAt w b g cap n ws k c) (hf : PickFit n ws k c) (hz : RowAt w a m z)
    (hne : 0 < m → ∀ x, a = some x → x.block ≠ b) :
    Calls Tryd.prog 57 #[.pointer (some ⟨b, 0, none⟩), .slice a m mc] w (AnyPost b g cap n ws z m k c w) := by
  by_cases hmn : m = n
  · subst hmn
    obtain ⟨_, _, h | ⟨bz, off, rfl, hlt, hc⟩⟩ := hz
    · have := hf.n0; omega
    · have hW : WaitsAt w b bz off m z := ⟨hne hf.n0 _ rfl, hlt, hc⟩
      by_cases hbad : ∃ i, i < m ∧ z i < 0
      · refine (next_range b g cap m ws k c bz off mc z w hp hf hW hbad).mono ?_
        rintro e w' ⟨rfl, hb⟩
        exact .inl ⟨1, .inr (.inl ⟨rfl, hbad, rfl⟩), rfl, hp.below hb, Keep.ofNew hb⟩
      · have h0 : ∀ i, i < m → 0 ≤ z i := fun i hi => by
          by_cases q : z i < 0
          · exact absurd ⟨i, hi, q⟩ hbad
          · omega
        by_cases hpos : ∃ i, i < m ∧ 0 < z i
        · exact (next_go b g cap m ws k c bz off mc z w hp hf hW h0 hpos).mono fun e w' h => .inr ⟨rfl, h0, h⟩
        · have h1 : ∀ i, i < m → z i = 0 := fun i hi => by
            have := h0 i hi
            by_cases q : 0 < z i
            · exact absurd ⟨i, hi, q⟩ hpos
            · omega
          refine (next_none b g cap m ws k c bz off mc z w hp hf hW h1).mono ?_
          rintro e w' ⟨rfl, hb⟩
          exact .inl ⟨4, .inr (.inr ⟨rfl, h1, rfl⟩), rfl, hp.below hb, Keep.ofNew hb⟩
  · have hm : m ≤ 9223372036854775807 := by have := hz.1; unfold maxLen at this; omega
    refine (next_shape b g cap n ws k c a m mc w hp hf.n8 hm hmn).mono ?_
    rintro e w' ⟨rfl, hb⟩
    exact .inl ⟨2, .inl ⟨hmn, rfl⟩, rfl, hp.below hb, Keep.ofNew hb⟩

/-- New, whatever is handed in -/
def NewAny (n : Nat) (z : Nat → Int) (w : World) (e : Ending) (w' : World) : Prop :=
  (∃ code : Int, (n = 0 ∧ code = 2 ∨ 8 < n ∧ code = 3 ∨ 0 < n ∧ n ≤ 8 ∧ (∃ i, i < n ∧ (z i < 1 ∨ 16 < z i)) ∧ code = 1) ∧ e = .returned (.tuple #[.pointer none, .iface 29 (.int .i64 code)]) ∧ w = w') ∨ NewPost n z w e w'
theorem new_any (a : Option Addr) (n c : Nat) (z : Nat → Int) (w : World) (hz : RowAt w a n z) : Calls Tryd.prog 55 #[.slice a n c] w (NewAny n z w) := by
  have hm : n ≤ 9223372036854775807 := by have := hz.1; unfold maxLen at this; omega
  by_cases h0 : n = 0
  · subst h0
    refine (new_none a c w).mono ?_
    rintro e w' ⟨rfl, rfl⟩
    exact .inl ⟨2, .inl ⟨rfl, rfl⟩, rfl, rfl⟩
  by_cases h8 : 8 < n
  · refine (new_full a n c w h8 hm).mono ?_
    rintro e w' ⟨rfl, rfl⟩
    exact .inl ⟨3, .inr (.inl ⟨h8, rfl⟩), rfl, rfl⟩
  obtain ⟨_, _, h | ⟨b, off, rfl, hlt, hc⟩⟩ := hz
  · omega
  by_cases hbad : ∃ i, i < n ∧ (z i < 1 ∨ 16 < z i)
  · refine (new_range b off n c z w (by omega) (by omega) hc hbad).mono ?_
    rintro e w' ⟨rfl, rfl⟩
    exact .inl ⟨1, .inr (.inr ⟨by omega, by omega, hbad, rfl⟩), rfl, rfl⟩
  · refine (new_ok b off n c z w (by omega) (by omega) hc (fun i hi => ?_)).mono fun e w' h => .inr h
    by_cases q : z i < 1 ∨ 16 < z i
    · exact absurd ⟨i, hi, q⟩ hbad
    · omega

theorem WaitsAt.kept {w w' : World} {b bz off n : Nat} {z : Nat → Int} (h : WaitsAt w b bz off n z) (hk : Keep (· = b) w w') : WaitsAt w' b bz off n z :=
  ⟨h.ne, Nat.lt_of_lt_of_le h.lt hk.size, fun i hi => (hk.cell (p := ⟨bz, off + i, none⟩) h.lt h.ne).trans (h.cell i hi)⟩
/-- the row [x, y] that a builder of slices laid in a new block -/
theorem two_row {w : World} {B b : Nat} {x y : Int} (h : Blk w B #[.int .i64 x, .int .i64 y] 3) (hne : B ≠ b) : WaitsAt w b B 0 2 (fun i => if i = 0 then x else y) :=
  ⟨hne, h.lt, fun i hi => by
    rw [Nat.zero_add, h.cell]
    rcases (by omega : i = 0 ∨ i = 1) with rfl | rfl <;> rfl⟩

end Go.Proofs.YtkehhfgoikbciaaDoor
