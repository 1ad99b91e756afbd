/- pick: Picker.Next, all its ways. -/
import Derived.Test.YtkehhfgoikbciaaDoorPickTurn
namespace Go.Proofs.YtkehhfgoikbciaaDoor
open Go.RowKit Go.Shelf
set_option linter.unusedVariables false

theorem next_turn (b g cap n : Nat) (ws : Nat → Int) (k : Nat) (c : Int) (bz off zc : Nat) (z : Nat → Int) (w : World) (hp : PickAt w b g cap n ws k c) (hf : PickFit n ws k c) (hz : WaitsAt w b bz off n z)
    (hz0 : ∀ i, i < n → 0 ≤ z i) (hpos : ∃ i, i < n ∧ 0 < z i) (hturn : z k = 0 ∨ c = 0) :
    Calls Tryd.prog 57 #[.pointer (some ⟨b, 0, none⟩), .slice (some ⟨bz, off, none⟩) n zc] w (TurnPost b g cap n ws z k w) := by
  by_cases h : z k = 0
  · exact next_turn_a b g cap n ws k c bz off zc z w hp hf hz hz0 hpos h
  · exact next_turn_b b g cap n ws k c bz off zc z w hp hf hz hz0 hpos h (hturn.resolve_left h)

def StayPost (b g cap n : Nat) (ws : Nat → Int) (k : Nat) (c : Int) (w : World) (e : Ending) (w' : World) : Prop :=
  e = .returned (.tuple #[.int .i64 k, .nilIface]) ∧ PickAt w' b g cap n ws k (c - 1) ∧ Keep (· = b) w w'

set_option maxRecDepth 100000 in
set_option maxHeartbeats 2000000 in
theorem next_stay (b g cap n : Nat) (ws : Nat → Int) (k : Nat) (c : Int) (bz off zc : Nat) (z : Nat → Int) (w : World) (hp : PickAt w b g cap n ws k c) (hf : PickFit n ws k c) (hz : WaitsAt w b bz off n z)
    (hz0 : ∀ i, i < n → 0 ≤ z i) (hk : 0 < z k) (hc : 0 < c) :
    Calls Tryd.prog 57 #[.pointer (some ⟨b, 0, none⟩), .slice (some ⟨bz, off, none⟩) n zc] w (StayPost b g cap n ws k c w) := by
  obtain ⟨f1, f2, f3, f4, f5, f6⟩ := hf
  have HN := Lib.hid (fun q => NX.start w b g cap n ws k c bz off zc z hp hz q)
  have hb1 := hp.blk.cell 0
  simp only [List.getElem?_toArray, List.getElem?_cons_zero] at hb1
  have hblt := hp.blk.lt
  clear hz hp f3
  go_enter Tryd.func57, Tryd.ntmps57
  go_wp2_with fail
  go_quiet (fail)
  have HN1 := Lib.hid (HN.out nq)
  have x1 := HN1.out.x1
  have x2 := HN1.out.x2
  clear HN hb1
  generalize World.drewN _ nq = W1 at *
  go_wp2_with fail
  refine (min_row bz off n zc z _ f1 (by omega) HN1.out.z.cell).mono ?_
  rintro e w' ⟨m1, hm1, rfl, rfl⟩
  have t1 : decide (m1 < 0) = false := by
    obtain ⟨i, hi, rfl⟩ := hm1.2
    simpa using hz0 i hi
  clear hm1
  go_wp2_with fail
  refine (max_row bz off n zc z _ f1 (by omega) HN1.out.z.cell).mono ?_
  rintro e w' ⟨m2, hm2, rfl, rfl⟩
  have t2 : (m2 == 0) = false := by
    have := hm2.1 k f4
    simp; omega
  clear hm2
  go_wp2_with fail
  have hzk := HN1.out.z.cell k f4
  have hb0 := HN1.out.b0
  have hb1 := HN1.out.b1
  have hb2 := HN1.out.b2
  have t3 : (z k == 0) = false := by simp; omega
  have t4 : (c == 0) = false := by simp; omega
  go_quiet (fail)
  have HN2 := Lib.hid (HN1.out.drewN nq)
  have hfr : ∀ i, (World.drewN W1 nq).frozen? ⟨b, i, none⟩ = false := HN2.out.p.blk.free
  have hq2 := hfr 2
  have hwb : w.heap.size ≠ b := fun e => by
    have := HN2.out.x1
    rw [e] at this
    have h0 := HN2.out.b0
    rw [h0] at this
    cases this
  clear hzk hb0 hb1 hb2 x1 x2 t1 t2 HN1 hfr
  have x1 := HN2.out.x1
  have hb1 := HN2.out.b1
  have hb2 := HN2.out.b2
  generalize World.drewN _ nq = W2 at *
  go_wp2
  go_ret2
  refine ⟨rfl, HN2.out.p.setC (c - 1), ?_⟩
  exact (Keep.ofBelow (S := (· = b)) HN2.out.bel (fun k' h1 h2 => by omega)).setCell (.inl rfl) _

theorem next_shape (b g cap n : Nat) (ws : Nat → Int) (k : Nat) (c : Int) (a : Option Addr) (m mc : Nat) (w : World) (hp : PickAt w b g cap n ws k c) (hn : n ≤ 8) (hm : m ≤ 9223372036854775807) (hne : m ≠ n) :
    Calls Tryd.prog 57 #[.pointer (some ⟨b, 0, none⟩), .slice a m mc] w fun e w' => e = .returned (.tuple #[.int .i64 0, .iface 29 (.int .i64 2)]) ∧ Below w.heap.size w w' := by
  have hb1 := hp.blk.cell 0
  simp only [List.getElem?_toArray, List.getElem?_cons_zero] at hb1
  have hd : ((m : Int) == (n : Int)) = false := by simp; omega
  have hd2 : ((m : Int) != (n : Int)) = true := by simp; omega
  have hd3 : (m == n) = false := by simp; omega
  have hd4 : (m != n) = true := by simp; omega
  have hbB : b < w.heap.size := hp.blk.lt
  clear hp
  go_enter Tryd.func57, Tryd.ntmps57
  go_wp2_with fail
  go_quiet (fail)
  go_wp2
  go_ret2
  exact ⟨rfl, Below.drewN' (((Below.refl _ _).alloc (Nat.le_refl _) _).alloc (by simp) _) nq⟩

theorem next_range (b g cap n : Nat) (ws : Nat → Int) (k : Nat) (c : Int) (bz off zc : Nat) (z : Nat → Int) (w : World) (hp : PickAt w b g cap n ws k c) (hf : PickFit n ws k c) (hz : WaitsAt w b bz off n z)
    (hbad : ∃ i, i < n ∧ z i < 0) :
    Calls Tryd.prog 57 #[.pointer (some ⟨b, 0, none⟩), .slice (some ⟨bz, off, none⟩) n zc] w fun e w' => e = .returned (.tuple #[.int .i64 0, .iface 29 (.int .i64 1)]) ∧ Below w.heap.size w w' := by
  obtain ⟨f1, f2, f3, f4, f5, f6⟩ := hf
  have HN := Lib.hid (fun q => NX.start w b g cap n ws k c bz off zc z hp hz q)
  have hb1 := hp.blk.cell 0
  simp only [List.getElem?_toArray, List.getElem?_cons_zero] at hb1
  have hblt := hp.blk.lt
  clear hz hp f3
  go_enter Tryd.func57, Tryd.ntmps57
  go_wp2_with fail
  go_quiet (fail)
  have HN1 := Lib.hid (HN.out nq)
  have x1 := HN1.out.x1
  have x2 := HN1.out.x2
  clear HN hb1
  generalize World.drewN _ nq = W1 at *
  go_wp2_with fail
  refine (min_row bz off n zc z _ f1 (by omega) HN1.out.z.cell).mono ?_
  rintro e w' ⟨m1, hm1, rfl, rfl⟩
  have t1 : decide (m1 < 0) = true := by
    obtain ⟨i, hi, hi2⟩ := hbad
    have := hm1.1 i hi
    simp; omega
  clear hm1
  go_wp2
  go_ret2
  exact ⟨rfl, HN1.out.bel⟩

theorem next_none (b g cap n : Nat) (ws : Nat → Int) (k : Nat) (c : Int) (bz off zc : Nat) (z : Nat → Int) (w : World) (hp : PickAt w b g cap n ws k c) (hf : PickFit n ws k c) (hz : WaitsAt w b bz off n z)
    (hz0 : ∀ i, i < n → z i = 0) :
    Calls Tryd.prog 57 #[.pointer (some ⟨b, 0, none⟩), .slice (some ⟨bz, off, none⟩) n zc] w fun e w' => e = .returned (.tuple #[.int .i64 0, .iface 29 (.int .i64 4)]) ∧ Below w.heap.size w w' := by
  obtain ⟨f1, f2, f3, f4, f5, f6⟩ := hf
  have HN := Lib.hid (fun q => NX.start w b g cap n ws k c bz off zc z hp hz q)
  have hb1 := hp.blk.cell 0
  simp only [List.getElem?_toArray, List.getElem?_cons_zero] at hb1
  have hblt := hp.blk.lt
  clear hz hp f3
  go_enter Tryd.func57, Tryd.ntmps57
  go_wp2_with fail
  go_quiet (fail)
  have HN1 := Lib.hid (HN.out nq)
  have x1 := HN1.out.x1
  have x2 := HN1.out.x2
  clear HN hb1
  generalize World.drewN _ nq = W1 at *
  go_wp2_with fail
  refine (min_row bz off n zc z _ f1 (by omega) HN1.out.z.cell).mono ?_
  rintro e w' ⟨m1, hm1, rfl, rfl⟩
  have t1 : decide (m1 < 0) = false := by
    obtain ⟨i, hi, rfl⟩ := hm1.2
    have := hz0 i hi
    simp; omega
  clear hm1
  go_wp2_with fail
  refine (max_row bz off n zc z _ f1 (by omega) HN1.out.z.cell).mono ?_
  rintro e w' ⟨m2, hm2, rfl, rfl⟩
  have t2 : (m2 == 0) = true := by
    obtain ⟨i, hi, rfl⟩ := hm2.2
    have := hz0 i hi
    simp; omega
  clear hm2
  go_wp2
  go_ret2
  exact ⟨rfl, HN1.out.bel⟩
end Go.Proofs.YtkehhfgoikbciaaDoor
