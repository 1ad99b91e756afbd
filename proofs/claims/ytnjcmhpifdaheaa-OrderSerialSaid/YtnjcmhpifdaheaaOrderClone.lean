/- Contract of maps.Clone at map[int]int: a new block that reads alike. -/
import Derived.Test.YtnjcmhpifdaheaaOrderEnv
import Derived.Shelf.SlMaps.Clone
namespace Go.Proofs.Ytnjcmhpifdaheaa
open Go.RowKit
set_option linter.unusedVariables false

set_option maxHeartbeats 2000000 in
theorem clone_lays (b : Nat) (es : Array MapEntry) (clock : Nat) (w : World) (hb : w.heap[b]? = some (.map es clock)) :
    Calls Try.prog 10 #[.map (some b)] w fun e w' => e = .returned (.map (some w.heap.size)) ∧ w' = w.alloc (.map es clock) := by
  have hq := fun w => run_eql_map_nil_sl (P := Try.prog) w 41 _ _ (some b) Try.underlying41
  go_enter Try.func10, Try.ntmps10
  go_wp2
  rw [run_callFunc_extern Try.func11 (by kernel_rfl) (by kernel_rfl) (by kernel_rfl) (e := Extern.MapsClone.clone) (by kernel_rfl), run_maps_clone_sl w 41 hb]
  simp only [Result.andThen]
  rw [Oper.upon_value]
  go_wp2
  rw [run_typeAssert_map_sl _ 41 20 _ _ _ Try.underlying41]
  simp only [Result.andThen]
  rw [Oper.upon_value]
  go_wp2
  go_ret
  exact ⟨rfl, rfl⟩

theorem clone_owns (b n : Nat) (D : Ord.MapD) (w : World) (hown : w.ownsMap Try.prog 3 (plainElem Try.prog 3) b n D) :
    Calls Try.prog 10 #[.map (some b)] w fun e w' => e = .returned (.map (some w.heap.size)) ∧ w'.ownsMap Try.prog 3 (plainElem Try.prog 3) w.heap.size n D ∧ Below w.heap.size w w' ∧ w'.heap.size = w.heap.size + 1 := by
  obtain ⟨es, clock, hb, F, hs, hD⟩ := hown
  refine (clone_lays b es clock w hb).mono fun e w' ⟨he, hw⟩ => ?_
  subst hw
  exact ⟨he, ⟨es, clock, (MapKept.heap_alloc w _).1, F, hs, hD⟩, (Below.refl _ w).alloc (Nat.le_refl _) _, by simp⟩
end Go.Proofs.Ytnjcmhpifdaheaa
