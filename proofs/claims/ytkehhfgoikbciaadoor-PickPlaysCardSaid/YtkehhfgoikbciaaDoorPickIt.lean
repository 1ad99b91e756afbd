/- pick: the iterator of Picker.from: it hands out (k + 1 + i) % n for i = 0, 1, .., n - 1. -/
import Derived.RangeFuncNested
import Derived.RangeFuncBound
import Derived.RangeFuncCalls
import Derived.RangeFuncLeaves
import Derived.RangeFuncFrom
import Derived.Shelf.Abstract
import Derived.Shelf.RegionOpen
import Derived.WalkKit
import Derived.OwnWalkIn
import Derived.TacticsInMore
import Derived.LoopNIn
import Derived.LoopIn
import Derived.Lib.Hide
import Derived.Test.YtkehhfgoikbciaaDoorBase
import Derived.Test.YtkehhfgoikbciaaDoorProg
namespace Go.Proofs.YtkehhfgoikbciaaDoor
open Go.RowKit Go.Shelf
attribute [local go_sem] Oper.semAt_some
set_option linter.unusedVariables false

/-- what comes in round i -/
def cyc (k n i : Nat) : Nat := (k + 1 + i) % n
def cycF (k n : Nat) (h : 0 < n) (i : Nat) : Fin n := ⟨cyc k n i, Nat.mod_lt _ h⟩
/-- what has come when j rounds are over -/
def cycs (k n : Nat) (h : 0 < n) (j : Nat) : List (Fin n) := (List.range j).map (cycF k n h)
theorem cycs_succ (k n : Nat) (h : 0 < n) (j : Nat) : cycs k n h (j + 1) = cycs k n h j ++ [cycF k n h j] := by simp [cycs, List.range_succ]
theorem cycs_length (k n : Nat) (h : 0 < n) (j : Nat) : (cycs k n h j).length = j := by simp [cycs]
theorem cyc_cast (k n i : Nat) : ((cyc k n i : Nat) : Int) = ((k : Int) + 1 + (i : Int)) % (n : Int) := by
  simp [cyc]
def encF {n : Nat} (x : Fin n) : Array Value := #[.int .i64 (x.val : Int)]
theorem encF_cyc (k n : Nat) (h : 0 < n) (i : Nat) : encF (cycF k n h i) = #[.int .i64 (((k : Int) + 1 + (i : Int)) % (n : Int))] := by
  unfold encF cycF
  rw [← cyc_cast]

/-- what a round has told: it goes on, or not -/
def Told {n : Nat} (J Jx : List (Fin n) → World → Prop) (n₀ : Nat) (W : World) (xs : List (Fin n)) (t : Bool) (W' : World) : Prop := (t = true ∧ J xs W' ∧ Below n₀ W W') ∨ (t = false ∧ Jx xs W')
theorem told_of {n : Nat} {J Jx : List (Fin n) → World → Prop} {n₀ : Nat} {W : World} {xs : List (Fin n)} (e : Ending) (W' : World) (h : (e = .returned (.bool true) ∧ J xs W' ∧ Below n₀ W W') ∨ (e = .returned (.bool false) ∧ Jx xs W')) :
    ∃ t : Bool, e = .returned (.bool t) ∧ Told J Jx n₀ W xs t W' := by
  rcases h with ⟨rfl, h1, h2⟩ | ⟨rfl, h⟩
  · exact ⟨true, rfl, .inl ⟨rfl, h1, h2⟩⟩
  · exact ⟨false, rfl, .inr ⟨rfl, h⟩⟩

set_option maxRecDepth 100000 in
set_option maxHeartbeats 1000000 in
theorem from_stops (m : Nat) (hm : 1 ≤ m) (B1 B2 b n₀ : Nat) (ga : Option Addr) (n cap k : Nat) (w : World)
    (h1 : B1 < n₀) (h2 : B2 < n₀) (h3 : b < n₀) (hn₀ : n₀ ≤ w.heap.size) (hn : 0 < n) (hn1 : n ≤ 1000000000) (hk : k < n)
    (c1 : w.cell? ⟨B1, 0, none⟩ = some (.pointer (some ⟨b, 0, none⟩))) (c2 : w.cell? ⟨B2, 0, none⟩ = some (.int .i64 k)) (c3 : w.cell? ⟨b, 0, none⟩ = some (.slice ga n cap)) :
    SeqStopsK Fence.wide m Tryd.prog 105 #[.pointer (some ⟨B1, 0, none⟩), .pointer (some ⟨B2, 0, none⟩)] (encF (n := n)) (Below n₀)
      (fun xs => xs = cycs k n hn n) (fun xs => ∃ j, j < n ∧ xs = cycs k n hn (j + 1)) n w := fun l J Jx W hW hJ hJx hY h0 => by
  refine callsIn_of_wp Tryd.func105 rfl trivial ?_ rfl
  simp only [Tryd.ntmps105, List.size_toArray, List.length_cons, List.length_nil, Nat.reduceAdd, Nat.reduceSub, Array.replicate_succ, Array.replicate_zero, List.push_toArray, List.append_toArray, List.nil_append, List.cons_append]
  have hW0 : Below n₀ w W := hW.mono hn₀
  have d1 : W.cell? ⟨B1, 0, none⟩ = some (.pointer (some ⟨b, 0, none⟩)) := by rw [hW0.cell (p := ⟨B1, 0, none⟩) h1]; exact c1
  have d2 : W.cell? ⟨B2, 0, none⟩ = some (.int .i64 k) := by rw [hW0.cell (p := ⟨B2, 0, none⟩) h2]; exact c2
  have d3 : W.cell? ⟨b, 0, none⟩ = some (.slice ga n cap) := by rw [hW0.cell (p := ⟨b, 0, none⟩) h3]; exact c3
  clear c1 c2 c3 hW
  gi_wp2
  gi_loopw [10] (fun i wr => ∃ j : Nat, j ≤ n ∧ i = .int .i64 j ∧ J (cycs k n hn j) wr ∧ Below n₀ W wr) (fun i _ => n - (intOf i).toNat)
  case atStart => exact ⟨0, Nat.zero_le _, rfl, by simpa [cycs] using h0, Below.refl _ _⟩
  case round =>
    obtain ⟨j, hj, rfl, hJs, hB⟩ := hrel
    have e1 : wr.cell? ⟨B1, 0, none⟩ = some (.pointer (some ⟨b, 0, none⟩)) := by rw [hB.cell (p := ⟨B1, 0, none⟩) h1]; exact d1
    have e2 : wr.cell? ⟨B2, 0, none⟩ = some (.int .i64 k) := by rw [hB.cell (p := ⟨B2, 0, none⟩) h2]; exact d2
    have e3 : wr.cell? ⟨b, 0, none⟩ = some (.slice ga n cap) := by rw [hB.cell (p := ⟨b, 0, none⟩) h3]; exact d3
    have HB := Lib.hid hB
    have HJ := Lib.hid hJs
    clear d1 d2 d3 hW0 hB hJs
    by_cases hlt : j < n
    · have hr := encF_cyc k n hn j
      obtain ⟨fn, tmps, assign, body, hy, hR⟩ := hY (cycs k n hn j) (cycF k n hn j) wr.drew (hJ _ wr wr.drew none HJ.out ⟨rfl, rfl, rfl, Nat.le_refl _, fun _ _ _ => rfl⟩ (fun _ e => by cases e)) (by rw [cycs_length]; exact hlt)
      rw [hr] at hy
      clear hr
      have hmx : Tryd.prog.follows .mixedOrders = true := by kernel_rfl
      gi_wp2
      gi_region_with_o (refine (hR.mono told_of).mono ?_; rintro e W3 ⟨t, rfl, ht⟩)
      all_goals
        obtain (⟨rfl, hJ3, hk3⟩ | ⟨rfl, hJx3⟩) := ht
        · gi_wp2
          go_roundw
          case rel => exact ⟨j + 1, by omega, by go_num, by rw [cycs_succ]; exact hJ3, HB.out.drew.trans hk3⟩
          case measure => simp [intOf]; omega
        · gi_wp2
          refine bodyPost_ret (results_none rfl _ _ _) rfl ?_
          exact ⟨⟨_, rfl⟩, .inr ⟨_, ⟨j, hlt, rfl⟩, by rw [cycs_succ]; exact hJx3⟩⟩
    · obtain rfl : j = n := by omega
      gi_wp2
      go_end0
      exact ⟨⟨_, rfl⟩, .inl ⟨_, rfl, HJ.out⟩⟩
end Go.Proofs.YtkehhfgoikbciaaDoor
