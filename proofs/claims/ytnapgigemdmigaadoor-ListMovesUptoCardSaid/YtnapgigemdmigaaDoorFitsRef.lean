/- granaryref2.Fits. -/
import Derived.Test.YtnapgigemdmigaaDoorFits
import Derived.Test.YtnapgigemdmigaaDoorPick
import Derived.IntWalk
namespace Go.Proofs.YtnapgigemdmigaaDoor
open Go.RowKit
set_option linter.unusedVariables false

set_option maxHeartbeats 1000000 in
theorem ref_fits (size : Nat) (x n : Int) (w : World) (hs : size ≤ 16384) (x0 : -9223372036854775808 ≤ x) (x1 : x ≤ 9223372036854775807) (n0 : -9223372036854775808 ≤ n) (n1 : n ≤ 9223372036854775807) :
    Calls Tryd.prog 16 #[.int .i64 size, .int .i64 x, .int .i64 n] w fun e w' => e = .returned (.bool (memFits size x n)) ∧ w = w' := by
  by_cases c1 : 0 ≤ x
  · by_cases c2 : 0 ≤ n
    · by_cases c3 : n ≤ size
      · have hw : IntKind.i64.wrap ((size : Int) - n) = (size : Int) - n := IntWalk.i64_in _ (by omega)
        go_enter Tryd.func16, Tryd.ntmps16
        go_wp2
        go_ret
        refine ⟨ret_bool ?_, rfl⟩
        unfold memFits
        rw [Bool.eq_iff_iff]; simp; omega
      · go_enter Tryd.func16, Tryd.ntmps16
        go_wp2
        go_ret
        refine ⟨ret_bool ?_, rfl⟩
        unfold memFits
        rw [Bool.eq_iff_iff]; simp; omega
    · go_enter Tryd.func16, Tryd.ntmps16
      go_wp2
      go_ret
      refine ⟨ret_bool ?_, rfl⟩
      unfold memFits
      rw [Bool.eq_iff_iff]; simp; omega
  · go_enter Tryd.func16, Tryd.ntmps16
    go_wp2
    go_ret
    refine ⟨ret_bool ?_, rfl⟩
    unfold memFits
    rw [Bool.eq_iff_iff]; simp; omega
end Go.Proofs.YtnapgigemdmigaaDoor
