/- plain.Told and granarysame.Error, of nil and of an Errno. -/
import Derived.Test.YtnjcmhpifdaheaaDoorAs
import Derived.Test.YtnjcmhpifdaheaaDoorBase
import Derived.Lib.Hide
namespace Go.Proofs.YtnjcmhpifdaheaaDoor
open Go.RowKit Go.WideShapes
set_option linter.unusedVariables false

/-- errors.errorType is laid -/
def Laid (w : World) : Prop := w.cell? ⟨0, 0, none⟩ = some (.iface 72 (.agg #[.pointer (some ⟨1, 26, none⟩)]))
theorem Laid.below {B : Nat} {w w' : World} (h : Laid w) (hB : 0 < B) (hb : Below B w w') : Laid w' := by
  unfold Laid at *
  rw [hb.cell (p := ⟨0, 0, none⟩) hB]; exact h
theorem Laid.pos {w : World} (h : Laid w) : 0 < w.heap.size := by
  rcases Nat.eq_zero_or_pos w.heap.size with h0 | h1
  · simp [Laid, World.cell?, h0] at h
  · exact h1
/-- an error of the program's: nil (0), or the Errno k -/
def errV (k : Int) : Value := .iface 23 (.int .i64 k)

set_option maxRecDepth 100000 in
theorem told_nil (w : World) : Calls Tryd.prog 14 #[.nilIface] w fun e w' => e = .returned (.int .i64 0) ∧ w = w' := by
  go_enter Tryd.func14, Tryd.ntmps14
  go_wp2
  go_ret
  exact ⟨rfl, rfl⟩

set_option maxRecDepth 100000 in
set_option maxHeartbeats 2000000 in
theorem told_hit (k : Int) (w : World) (hg : Laid w) : Calls Tryd.prog 14 #[errV k] w fun e w' => e = .returned (.int .i64 k) ∧ Below w.heap.size w w' := by
  have hpos := hg.pos
  have hl : Laid (w.alloc (.cells #[.int .i64 0] 23)) := hg.below hpos ((Below.refl _ _).alloc (Nat.le_refl _) _)
  have Hl := Lib.hid hl
  clear hl hg
  unfold errV
  go_enter Tryd.func14, Tryd.ntmps14
  go_wp2_with fail
  refine (as_hit k ⟨w.heap.size, 0, none⟩ (.int .i64 0) _ Hl.out (by simp) (by simp)).mono ?_
  rintro e w' ⟨rfl, hw'⟩
  have hc : w'.cell? ⟨w.heap.size, 0, none⟩ = some (.int .i64 k) := by
    subst hw'
    exact (((((Blk.new w #[.int .i64 0] 23).alloc _).alloc _).alloc _).alloc _ |>.set 0 (.int .i64 k)).cell 0
  have hb : Below w.heap.size w w' := by
    subst hw'
    repeat (first | with_reducible exact Below.refl _ _ | (with_reducible refine Below.alloc ?_ (by simp; omega) _) | (with_reducible refine Below.alloc ?_ (by simp) _) | (with_reducible refine Below.setCell ?_ (by simp) _))
  have Hb := Lib.hid hb
  clear hw' hb
  go_wp2
  go_ret
  exact ⟨rfl, Hb.out⟩

set_option maxRecDepth 100000 in
theorem error_nil (x : Int) (w : World) : Calls Tryd.prog 8 #[.nilIface, .int .i64 x] w fun e w' => e = .returned (.bool (0 == x)) ∧ w = w' := by
  go_enter Tryd.func8, Tryd.ntmps8
  go_wp2_with fail
  refine (told_nil _).mono ?_
  rintro e w' ⟨rfl, rfl⟩
  go_wp2
  go_ret
  exact ⟨rfl, rfl⟩

set_option maxRecDepth 100000 in
theorem error_hit (k x : Int) (w : World) (hg : Laid w) : Calls Tryd.prog 8 #[errV k, .int .i64 x] w fun e w' => e = .returned (.bool (k == x)) ∧ Below w.heap.size w w' := by
  have H := Lib.hid (told_hit k w hg)
  unfold errV at H ⊢
  go_enter Tryd.func8, Tryd.ntmps8
  go_wp2_with fail
  refine H.out.mono ?_
  rintro e w' ⟨rfl, hw'⟩
  go_wp2
  go_ret
  exact ⟨rfl, hw'⟩
end Go.Proofs.YtnjcmhpifdaheaaDoor
