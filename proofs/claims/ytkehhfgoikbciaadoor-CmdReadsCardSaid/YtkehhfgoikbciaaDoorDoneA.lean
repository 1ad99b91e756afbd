/- cmd.completion: the fields of a completion, and where each stands. -/
import Derived.Test.YtkehhfgoikbciaaDoorBase2
import Derived.Test.YtkehhfgoikbciaaDoorProg
import Derived.Test.YtkehhfgoikbciaaDoorLeNum
import Derived.Test.YtkehhfgoikbciaaDoorPick
import Derived.Deep.OwnRows
import Derived.StillTailTactics
import Derived.Laws.CopyOwn
namespace Go.Proofs.YtkehhfgoikbciaaDoor
open Go.RowKit Go.WideShapes
set_option linter.unusedVariables false

/-- the fields of a completion, by the cells of the block where it lies -/
def doneCells (b : Nat) : Array Value := #[.int .i64 0, .int .i64 2, .pointer (some ⟨b, 0, none⟩), .int .i64 2, .int .i64 2, .pointer (some ⟨b, 1, none⟩), .int .i64 4, .int .i64 2, .pointer (some ⟨b, 2, none⟩),
  .int .i64 6, .int .i64 1, .pointer (some ⟨b, 3, none⟩)]
def zeroPairs4 : Array Value := #[.int .i64 0, .int .i64 0, .pointer none, .int .i64 0, .int .i64 0, .pointer none, .int .i64 0, .int .i64 0, .pointer none, .int .i64 0, .int .i64 0, .pointer none]
set_option maxRecDepth 100000 in
set_option maxHeartbeats 4000000 in
theorem cmd_completion (b : Nat) (w : World) (hlt : b < w.heap.size) :
    Calls Tryd.prog 82 #[.pointer (some ⟨b, 0, none⟩)] w fun e w' => e = .returned (.agg (doneCells b)) ∧ Below w.heap.size w w' := by
  go_enter Tryd.func82, Tryd.ntmps82
  go_wp2
  refine wp_still_tail 21 (by kernel_rfl) (by kernel_rfl) ?_
  intro W hW
  have hB : Below w.heap.size w W := by subst hW; exact ((Below.refl _ _).alloc (Nat.le_refl _) _).drew
  have hc : Blk W w.heap.size zeroPairs4 166 := by subst hW; exact (Blk.new _ _ _).drew
  clear hW
  simp only [List.take_succ_cons, List.take_zero, List.drop_succ_cons, List.drop_zero]
  iterate 21 still_step
  refine wpStill_nil ?_
  refine wpList_store_row rfl 166 (.tmp 2) (.tmp 23) rfl w.heap.size (doneCells b) rfl rfl 166 zeroPairs4 hc (by kernel_rfl) rfl (by simp [doneCells, Value.oneCell']) ?_
  have hB2 : Below w.heap.size w (W.setRow w.heap.size (doneCells b)) := below_setRow hB (Nat.le_refl _) _
  have hc2 := setRow_heap W w.heap.size zeroPairs4 (doneCells b) 166 (0, 0) hc
  generalize W.setRow w.heap.size (doneCells b) = W2 at hB2 hc2 ⊢
  have HB2 := Lib.hid hB2
  have Hc2 := Lib.hid hc2
  clear hB hc hB2 hc2
  go_wp2
  exact bodyPost_ret (v := .agg (doneCells b)) (results_cell_row (p := 2) (ty := 166) rfl _ _ w.heap.size 166 (doneCells b) (0, 0) _ rfl Hc2.out Tryd.underlying166 rfl (by kernel_rfl)) rfl ⟨rfl, HB2.out⟩
end Go.Proofs.YtkehhfgoikbciaaDoor
