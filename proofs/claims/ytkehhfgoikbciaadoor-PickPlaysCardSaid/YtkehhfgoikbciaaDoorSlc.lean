/- slices.Min, slices.Max of a row of integers that is not empty. -/
import Derived.Test.YtkehhfgoikbciaaDoorBase
import Derived.Test.YtkehhfgoikbciaaDoorProg
import Derived.Lib.Hide
import Derived.LoopTactic
import Derived.WalkLawsBesides
namespace Go.Proofs.YtkehhfgoikbciaaDoor
open Go.RowKit

def IsMin (z : Nat → Int) (n : Nat) (m : Int) : Prop := (∀ i, i < n → m ≤ z i) ∧ ∃ i, i < n ∧ m = z i
def IsMax (z : Nat → Int) (n : Nat) (m : Int) : Prop := (∀ i, i < n → z i ≤ m) ∧ ∃ i, i < n ∧ m = z i
theorem IsMin.snoc {z : Nat → Int} {n : Nat} {m : Int} (h : IsMin z n m) : IsMin z (n + 1) (min m (z n)) := by
  obtain ⟨h1, i, hi, rfl⟩ := h
  refine ⟨fun j hj => ?_, ?_⟩
  · by_cases e : j = n
    · subst e; omega
    · have := h1 j (by omega); omega
  · by_cases q : z i ≤ z n
    · exact ⟨i, by omega, by omega⟩
    · exact ⟨n, by omega, by omega⟩
theorem IsMax.snoc {z : Nat → Int} {n : Nat} {m : Int} (h : IsMax z n m) : IsMax z (n + 1) (max m (z n)) := by
  obtain ⟨h1, i, hi, rfl⟩ := h
  refine ⟨fun j hj => ?_, ?_⟩
  · by_cases e : j = n
    · subst e; omega
    · have := h1 j (by omega); omega
  · by_cases q : z n ≤ z i
    · exact ⟨i, by omega, by omega⟩
    · exact ⟨n, by omega, by omega⟩
def MinPost (z : Nat → Int) (n : Nat) (w : World) (e : Ending) (w' : World) : Prop := ∃ m, IsMin z n m ∧ e = .returned (.int .i64 m) ∧ w = w'
def MaxPost (z : Nat → Int) (n : Nat) (w : World) (e : Ending) (w' : World) : Prop := ∃ m, IsMax z n m ∧ e = .returned (.int .i64 m) ∧ w = w'

set_option maxHeartbeats 1000000 in
theorem min_row (b off n cap : Nat) (z : Nat → Int) (w : World) (hn : 0 < n) (hm : n ≤ 1000000000000000000) (hc : ∀ i, i < n → w.cell? ⟨b, off + i, none⟩ = some (.int .i64 (z i))) :
    Calls Tryd.prog 91 #[.slice (some ⟨b, off, none⟩) n cap] w (MinPost z n w) := by
  have c0 := hc 0 hn
  rw [Nat.add_zero] at c0
  have H0 := Lib.hid hc
  clear hc
  go_enter Tryd.func91, Tryd.ntmps91
  go_wp2
  clear c0
  go_loop [3, 4] (fun m i => ∃ (k : Nat) (v : Int), 1 ≤ k ∧ k ≤ n ∧ i = .int .i64 k ∧ m = .int .i64 v ∧ IsMin z k v) (fun _ i => n - (intOf i).toNat)
  case atStart => exact ⟨1, z 0, by omega, by omega, rfl, rfl, fun i hi => by obtain rfl : i = 0 := by omega
                                                                              exact Int.le_refl _, 0, by omega, rfl⟩
  case round =>
    obtain ⟨k, v, hk0, hk, rfl, rfl, hv⟩ := hrel
    by_cases hlt : k < n
    · have hck := H0.out k hlt
      go_wp2
      go_round
      case rel => exact ⟨k + 1, min v (z k), by omega, by omega, by go_num, by first | rfl | (congr 1; omega), hv.snoc⟩
      case measure => simp [intOf]; omega
    · obtain rfl : k = n := by omega
      go_wp2
      go_ret
      exact ⟨v, hv, rfl, rfl⟩

set_option maxHeartbeats 1000000 in
theorem max_row (b off n cap : Nat) (z : Nat → Int) (w : World) (hn : 0 < n) (hm : n ≤ 1000000000000000000) (hc : ∀ i, i < n → w.cell? ⟨b, off + i, none⟩ = some (.int .i64 (z i))) :
    Calls Tryd.prog 92 #[.slice (some ⟨b, off, none⟩) n cap] w (MaxPost z n w) := by
  have c0 := hc 0 hn
  rw [Nat.add_zero] at c0
  have H0 := Lib.hid hc
  clear hc
  go_enter Tryd.func92, Tryd.ntmps92
  go_wp2
  clear c0
  go_loop [3, 4] (fun m i => ∃ (k : Nat) (v : Int), 1 ≤ k ∧ k ≤ n ∧ i = .int .i64 k ∧ m = .int .i64 v ∧ IsMax z k v) (fun _ i => n - (intOf i).toNat)
  case atStart => exact ⟨1, z 0, by omega, by omega, rfl, rfl, fun i hi => by obtain rfl : i = 0 := by omega
                                                                              exact Int.le_refl _, 0, by omega, rfl⟩
  case round =>
    obtain ⟨k, v, hk0, hk, rfl, rfl, hv⟩ := hrel
    by_cases hlt : k < n
    · have hck := H0.out k hlt
      go_wp2
      go_round
      case rel => exact ⟨k + 1, max v (z k), by omega, by omega, by go_num, by first | rfl | (congr 1; omega), hv.snoc⟩
      case measure => simp [intOf]; omega
    · obtain rfl : k = n := by omega
      go_wp2
      go_ret
      exact ⟨v, hv, rfl, rfl⟩
end Go.Proofs.YtkehhfgoikbciaaDoor
