/- cmd.command: the fields of a command, and where each stands. -/
import Derived.Test.YtkehhfgoikbciaaDoorBase2
import Derived.Test.YtkehhfgoikbciaaDoorProg
import Derived.Test.YtkehhfgoikbciaaDoorLeNum
import Derived.Test.YtkehhfgoikbciaaDoorPick
import Derived.Deep.OwnRows
import Derived.StillTailTactics
import Derived.Laws.CopyOwn
namespace Go.Proofs.YtkehhfgoikbciaaDoor
open Go.RowKit Go.WideShapes
set_option linter.unusedVariables false

/-- the fields of a command, by the cells of the block where it lies -/
def commandCells (b : Nat) : Array Value := #[.int .i64 0, .int .i64 1, .pointer (some ⟨b, 0, none⟩), .int .i64 2, .int .i64 2, .pointer (some ⟨b, 1, none⟩), .int .i64 8, .int .i64 8, .pointer (some ⟨b, 2, none⟩),
  .int .i64 16, .int .i64 4, .pointer (some ⟨b, 3, none⟩), .int .i64 24, .int .i64 8, .pointer (some ⟨b, 4, none⟩), .int .i64 32, .int .i64 8, .pointer (some ⟨b, 5, none⟩)]
def zeroPairs6 : Array Value := #[.int .i64 0, .int .i64 0, .pointer none, .int .i64 0, .int .i64 0, .pointer none, .int .i64 0, .int .i64 0, .pointer none, .int .i64 0, .int .i64 0, .pointer none, .int .i64 0, .int .i64 0, .pointer none, .int .i64 0, .int .i64 0, .pointer none]
set_option maxRecDepth 100000 in
set_option maxHeartbeats 4000000 in
theorem cmd_command (b : Nat) (w : World) (hlt : b < w.heap.size) :
    Calls Tryd.prog 79 #[.pointer (some ⟨b, 0, none⟩)] w fun e w' => e = .returned (.agg (commandCells b)) ∧ Below w.heap.size w w' := by
  go_enter Tryd.func79, Tryd.ntmps79
  go_wp2
  refine wp_still_tail 31 (by kernel_rfl) (by kernel_rfl) ?_
  intro W hW
  have hB : Below w.heap.size w W := by subst hW; exact ((Below.refl _ _).alloc (Nat.le_refl _) _).drew
  have hc : Blk W w.heap.size zeroPairs6 160 := by subst hW; exact (Blk.new _ _ _).drew
  clear hW
  simp only [List.take_succ_cons, List.take_zero, List.drop_succ_cons, List.drop_zero]
  iterate 31 still_step
  refine wpStill_nil ?_
  refine wpList_store_row rfl 160 (.tmp 2) (.tmp 33) rfl w.heap.size (commandCells b) rfl rfl 160 zeroPairs6 hc (by kernel_rfl) rfl (by simp [commandCells, Value.oneCell']) ?_
  have hB2 : Below w.heap.size w (W.setRow w.heap.size (commandCells b)) := below_setRow hB (Nat.le_refl _) _
  have hc2 := setRow_heap W w.heap.size zeroPairs6 (commandCells b) 160 (0, 0) hc
  generalize W.setRow w.heap.size (commandCells b) = W2 at hB2 hc2 ⊢
  have HB2 := Lib.hid hB2
  have Hc2 := Lib.hid hc2
  clear hB hc hB2 hc2
  go_wp2
  exact bodyPost_ret (v := .agg (commandCells b)) (results_cell_row (p := 2) (ty := 160) rfl _ _ w.heap.size 160 (commandCells b) (0, 0) _ rfl Hc2.out Tryd.underlying160 rfl (by kernel_rfl)) rfl ⟨rfl, HB2.out⟩
end Go.Proofs.YtkehhfgoikbciaaDoor
