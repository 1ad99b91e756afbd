/- granaryref2's CommandFault, Eight, CommandOf. -/
import Derived.Test.YtkehhfgoikbciaaDoorCmdE
import Derived.Test.YtkehhfgoikbciaaDoorTold
namespace Go.Proofs.YtkehhfgoikbciaaDoor
open Go.RowKit Go.WideShapes
set_option linter.unusedVariables false

def cmdFits (x0 x1 x2 x3 x4 x5 : Int) : Prop := (0 ≤ x0 ∧ x0 ≤ 255) ∧ (0 ≤ x1 ∧ x1 ≤ 65535) ∧ (0 ≤ x3 ∧ x3 ≤ 4294967295) ∧ (0 ≤ x2 ∧ x2 ≤ 4611686018427387904) ∧ (0 ≤ x4 ∧ x4 ≤ 4611686018427387904) ∧ (0 ≤ x5 ∧ x5 ≤ 4611686018427387904)
theorem cmdFits_iff (x0 x1 x2 x3 x4 x5 : Int) : cmdFits x0 x1 x2 x3 x4 x5 ↔ allFit cmdFld (cmdNum x0 x1 x2 x3 x4 x5) 6 := by
  constructor
  · rintro ⟨h0, h1, h3, h2, h4, h5⟩
    exact six (by simp [fits, limOf, cmdFld, cmdNum]; omega) (by simp [fits, limOf, cmdFld, cmdNum]; omega) (by simp [fits, limOf, cmdFld, cmdNum]; omega) (by simp [fits, limOf, cmdFld, cmdNum]; omega) (by simp [fits, limOf, cmdFld, cmdNum]; omega) (by simp [fits, limOf, cmdFld, cmdNum]; omega)
  · intro h
    have h0 := h 0 (by omega)
    have h1 := h 1 (by omega)
    have h2 := h 2 (by omega)
    have h3 := h 3 (by omega)
    have h4 := h 4 (by omega)
    have h5 := h 5 (by omega)
    simp [fits, limOf, cmdFld, cmdNum] at h0 h1 h2 h3 h4 h5
    unfold cmdFits
    omega

set_option maxRecDepth 100000 in
set_option maxHeartbeats 4000000 in
theorem command_fault (x0 x1 x2 x3 x4 x5 : Int) (w : World) (b0 : I64 x0) (b1 : I64 x1) (b2 : I64 x2) (b3 : I64 x3) (b4 : I64 x4) (b5 : I64 x5) :
    Calls Tryd.prog 37 #[cmdV x0 x1 x2 x3 x4 x5] w fun e w' => (cmdFits x0 x1 x2 x3 x4 x5 ∧ e = .returned (.int .i64 0) ∨ ¬ cmdFits x0 x1 x2 x3 x4 x5 ∧ e = .returned (.int .i64 1)) ∧ Below w.heap.size w w' := by
  unfold cmdV
  go_enter Tryd.func37, Tryd.ntmps37
  go_wp2
  all_goals go_ret
  all_goals (refine ⟨?_, (Below.refl _ _).alloc (Nat.le_refl _) _⟩; unfold cmdFits)
  all_goals first | (left; refine ⟨?_, rfl⟩; omega) | (right; refine ⟨?_, rfl⟩; omega) | skip
end Go.Proofs.YtkehhfgoikbciaaDoor
