/- Contracts of ring.Ring: New, Push, Pop, Len, Ends. -/
import Derived.Test.YtkehhfgoikbciaaDoorBase2
import Derived.Test.YtkehhfgoikbciaaDoorProg
import Derived.Test.YtkehhfgoikbciaaDoorPick
import Derived.Deep.OwnRows
import Derived.StillTailTactics
import Derived.Lib.Hide
namespace Go.Proofs.YtkehhfgoikbciaaDoor
open Go.RowKit Go.WideShapes
set_option linter.unusedVariables false

def rgErr (k : Int) : Value := .iface 29 (.int .i64 k)
/-- A ring's cells: its slots, head, tail. -/
def ringCells (sb n h t : Nat) : Array Value := #[.slice (some ⟨sb, 0, none⟩) n n, .int .i64 h, .int .i64 t]

theorem rfits_any (n : Int) (w : World) :
    Calls Tryd.prog 69 #[.int .i64 n] w fun e w' => e = .returned (.bool (decide (2 ≤ n) && decide (n ≤ 16))) ∧ w = w' := by
  by_cases h1 : 2 ≤ n
  · by_cases h2 : n ≤ 16
    · go_enter Tryd.func69, Tryd.ntmps69
      go_wp2
      go_ret
      exact ⟨ret_bool (by simp; omega), rfl⟩
    · go_enter Tryd.func69, Tryd.ntmps69
      go_wp2
      go_ret
      exact ⟨ret_bool (by simp; omega), rfl⟩
  · go_enter Tryd.func69, Tryd.ntmps69
    go_wp2
    go_ret
    exact ⟨ret_bool (by simp; omega), rfl⟩

theorem ring_new_bad (n : Int) (w : World) (h : n < 2 ∨ 16 < n) :
    Calls Tryd.prog 27 #[.int .i64 n] w fun e w' => e = .returned (.tuple #[.pointer none, rgErr 1]) ∧ w = w' := by
  have hb : (decide (2 ≤ n) && decide (n ≤ 16)) = false := by simp; omega
  have Hb := Lib.hid hb
  clear hb h
  go_enter Tryd.func27, Tryd.ntmps27
  go_wp2_with fail
  refine (rfits_any n _).mono ?_
  rw [Hb.out]
  rintro e w' ⟨rfl, rfl⟩
  go_wp2
  go_ret2
  exact ⟨rfl, rfl⟩

/-- A ring of n slots at block b whose head stands at h, and in which the numbers l lie. -/
structure RingAt (w : World) (b sb n h : Nat) (l : List Int) : Prop where
  head : Blk w b (ringCells sb n h ((h + l.length) % n)) 146
  body : ∃ sl : List Int, Blk w sb (sl.map (Value.int .i64)).toArray 3 ∧ sl.length = n ∧ ∀ i, i < l.length → sl.getD ((h + i) % n) 0 = l.getD i 0
  apart : b ≠ sb
  few : l.length ≤ n - 1
  hn : h < n
  n2 : 2 ≤ n
  n16 : n ≤ 16

theorem madeCells_int (n : Nat) : madeCells #[.int .i64 0] n = ((List.replicate n (0 : Int)).map (Value.int .i64)).toArray := by
  apply Array.toList_inj.1
  rw [toList_madeCells_one]
  simp

theorem ring_new_ok (n : Nat) (w : World) (h2 : 2 ≤ n) (h16 : n ≤ 16) :
    Calls Tryd.prog 27 #[.int .i64 n] w fun e w' => e = .returned (.tuple #[.pointer (some ⟨w.heap.size + 1, 0, none⟩), .nilIface]) ∧
      RingAt w' (w.heap.size + 1) w.heap.size n 0 [] ∧ Below w.heap.size w w' := by
  have hb : (decide (2 ≤ (n : Int)) && decide ((n : Int) ≤ 16)) = true := by simp; omega
  have Hb := Lib.hid hb
  clear hb
  have hmk := fun (w : World) => run_make_row' (P := Tryd.prog) 30 3 (.int .i64 0) 8 Tryd.underlying30 (by kernel_rfl) rfl .i64 .i64 n (by omega) (by omega) w
  go_enter Tryd.func27, Tryd.ntmps27
  go_wp2_with fail
  refine (rfits_any n _).mono ?_
  rw [Hb.out]
  rintro e w' ⟨rfl, rfl⟩
  go_wp2
  go_ret2
  refine ⟨rfl, ⟨?_, ⟨List.replicate n 0, ?_, by simp, by simp⟩, by omega, by simp, by omega, h2, h16⟩, ((Below.refl _ _).alloc (Nat.le_refl _) _).alloc (by simp) _⟩
  · have e := Blk.new (w.alloc (.cells (madeCells #[.int .i64 0] n) 3)) (ringCells w.heap.size n 0 0) 146
    unfold ringCells at e ⊢
    simpa using e
  · exact ((Blk.new w (madeCells #[.int .i64 0] n) 3).of (madeCells_int n)).alloc _

theorem ring_after (b sb n h t : Nat) (k : Nat) (w : World) (hb : Blk w b (ringCells sb n h t) 146) (h0 : 0 < n) (hn : n ≤ 16) (hk : k ≤ 16) :
    Calls Tryd.prog 76 #[.pointer (some ⟨b, 0, none⟩), .int .i64 k] w fun e w' => e = .returned (.int .i64 ((k + 1) % n : Nat)) ∧ w' = w := by
  have c0 : w.cell? ⟨b, 0, none⟩ = some (.slice (some ⟨sb, 0, none⟩) n n) := hb.cell 0
  have hz : ((n : Int) == 0) = false := by simp; omega
  clear hb
  go_enter Tryd.func76, Tryd.ntmps76
  go_wp2
  go_ret
  exact ⟨ret_int (by simp), rfl⟩

set_option maxHeartbeats 1000000 in
theorem ring_full (b sb n h t : Nat) (w : World) (hb : Blk w b (ringCells sb n h t) 146) (h0 : 0 < n) (hn : n ≤ 16) (ht : t < n) (hh : h < n) :
    Calls Tryd.prog 75 #[.pointer (some ⟨b, 0, none⟩)] w fun e w' => e = .returned (.bool (decide ((t + 1) % n = h))) ∧ ∃ q, w' = w.drewN q := by
  have c1 : w.cell? ⟨b, 1, none⟩ = some (.int .i64 h) := hb.cell 1
  have c2 : w.cell? ⟨b, 2, none⟩ = some (.int .i64 t) := hb.cell 2
  have Hb := Lib.hid hb
  clear hb
  go_enter Tryd.func75, Tryd.ntmps75
  go_wp2
  go_quiet ((go_at_call 76; exact Calls.quiet_of_same (ring_after b sb n h t t _ (Hb.out.drewN _) h0 hn (by omega))))
  go_wp2
  go_ret
  refine ⟨ret_bool ?_, _, rfl⟩
  have e : ((t : Int) + 1) % (n : Int) = (((t + 1) % n : Nat) : Int) := by simp
  rw [Bool.eq_iff_iff]
  simp only [e, beq_iff_eq, decide_eq_true_eq]
  omega
end Go.Proofs.YtkehhfgoikbciaaDoor
