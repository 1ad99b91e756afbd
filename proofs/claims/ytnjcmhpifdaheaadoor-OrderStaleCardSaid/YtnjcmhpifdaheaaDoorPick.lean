/- granarysame.Pick: a number below n out of any number. -/
import Derived.Test.YtnjcmhpifdaheaaDoorBase
import Derived.Test.YtnjcmhpifdaheaaDoorProg
namespace Go.Proofs.YtnjcmhpifdaheaaDoor
open Go.RowKit

theorem ret_int {k : IntKind} {a b : Int} (h : a = b) : Ending.returned (.int k a) = .returned (.int k b) := by rw [h]
theorem ret_bool {a b : Bool} (h : a = b) : Ending.returned (.bool a) = .returned (.bool b) := by rw [h]

/-- what Pick tells -/
def pickOf (x n : Int) : Int := (if x < 0 then -(x + 1) else x) % n
theorem pickOf_0 (x n : Int) (h : 0 < n) : 0 ≤ pickOf x n := Int.emod_nonneg _ (by omega)
theorem pickOf_lt (x n : Int) (h : 0 < n) : pickOf x n < n := Int.emod_lt_of_pos _ h

theorem pick_any (x n : Int) (w : World) (h0 : -9223372036854775808 ≤ x) (h1 : x ≤ 9223372036854775807) (hn : 0 < n) (hn1 : n ≤ 9223372036854775807) :
    Calls Tryd.prog 12 #[.int .i64 x, .int .i64 n] w fun e w' => e = .returned (.int .i64 (pickOf x n)) ∧ w = w' := by
  have hz : ((n : Int) == 0) = false := by simp; omega
  by_cases hx : x < 0
  · have a1 : 0 ≤ -(x + 1) := by omega
    have a2 : -(x + 1) ≤ 9223372036854775807 := by omega
    have a3 : -9223372036854775808 ≤ x + 1 := by omega
    have e : pickOf x n = (-(x + 1)) % n := by unfold pickOf; rw [if_pos hx]
    rw [e]; clear e
    go_enter Tryd.func12, Tryd.ntmps12
    go_wp2
    go_ret
    exact ⟨ret_int (by rw [← Int.neg_tmod, Int.tmod_eq_emod_of_nonneg a1]), rfl⟩
  · have e : pickOf x n = x % n := by unfold pickOf; rw [if_neg hx]
    rw [e]; clear e
    have hx' : 0 ≤ x := by omega
    go_enter Tryd.func12, Tryd.ntmps12
    go_wp2
    go_ret
    exact ⟨rfl, rfl⟩
end Go.Proofs.YtnjcmhpifdaheaaDoor
