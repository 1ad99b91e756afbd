/- Contracts of package cmd. -/
import Derived.Test.YtkehhfgoikbciaaDoorBase2
import Derived.Test.YtkehhfgoikbciaaDoorProg
import Derived.Test.YtkehhfgoikbciaaDoorLeNum
import Derived.Test.YtkehhfgoikbciaaDoorPick
import Derived.Deep.OwnRows
import Derived.StillTailTactics
namespace Go.Proofs.YtkehhfgoikbciaaDoor
open Go.RowKit Go.WideShapes
set_option linter.unusedVariables false

def cmdErr (k : Int) : Value := .iface 29 (.int .i64 k)

/-- the greatest number of a field of L bytes -/
def limOf (L : Nat) : Int := if L = 8 then 4611686018427387904 else 256 ^ L - 1
def fits (L : Nat) (x : Int) : Bool := decide (0 ≤ x ∧ x ≤ limOf L)

set_option maxHeartbeats 2000000 in
theorem cmd_within (p L : Nat) (x : Int) (w : World) (hL : L = 1 ∨ L = 2 ∨ L = 4 ∨ L = 8) (x0 : -9223372036854775808 ≤ x) (x1 : x ≤ 9223372036854775807) :
    Calls Tryd.prog 103 #[.agg #[.int .i64 p, .int .i64 L], .int .i64 x] w fun e w' => e = .returned (.bool (fits L x)) ∧ Below w.heap.size w w' := by
  by_cases h0 : 0 ≤ x
  · rcases hL with rfl | rfl | rfl | rfl
    · go_enter Tryd.func103, Tryd.ntmps103
      go_wp2
      go_ret
      refine ⟨ret_bool ?_, (Below.refl _ _).alloc (Nat.le_refl _) _⟩
      unfold fits limOf
      rw [Bool.eq_iff_iff]
      simp
      omega
    · go_enter Tryd.func103, Tryd.ntmps103
      go_wp2
      go_ret
      refine ⟨ret_bool ?_, (Below.refl _ _).alloc (Nat.le_refl _) _⟩
      unfold fits limOf
      rw [Bool.eq_iff_iff]
      simp
      omega
    · go_enter Tryd.func103, Tryd.ntmps103
      go_wp2
      go_ret
      refine ⟨ret_bool ?_, (Below.refl _ _).alloc (Nat.le_refl _) _⟩
      unfold fits limOf
      rw [Bool.eq_iff_iff]
      simp
      omega
    · go_enter Tryd.func103, Tryd.ntmps103
      go_wp2
      all_goals (go_ret; refine ⟨ret_bool ?_, (Below.refl _ _).alloc (Nat.le_refl _) _⟩)
      all_goals (unfold fits limOf; simp; omega)
  · go_enter Tryd.func103, Tryd.ntmps103
    go_wp2
    go_ret
    refine ⟨ret_bool ?_, (Below.refl _ _).alloc (Nat.le_refl _) _⟩
    unfold fits; simp; omega

end Go.Proofs.YtkehhfgoikbciaaDoor
