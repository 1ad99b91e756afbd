/- granaryref1.Ints on two slices of the same integers: true. -/
import Derived.Test.YtnjcmhpifdaheaaDoorBase
import Derived.Test.YtnjcmhpifdaheaaDoorProg
import Derived.Lib.Hide
namespace Go.Proofs.YtnjcmhpifdaheaaDoor
open Go.RowKit
set_option linter.unusedVariables false

/-- a slice of integers, read: its cells one by one -/
def RdI (w : World) (a : Option Addr) (xs : List Int) : Prop := xs.length = 0 ∨ ∃ b off, a = some ⟨b, off, none⟩ ∧ ∀ i, i < xs.length → w.cell? ⟨b, off + i, none⟩ = some (.int .i64 (xs.getD i 0))
theorem RdI.of_cells {w w' : World} {a : Option Addr} {xs : List Int} (h : RdI w a xs) (hc : ∀ p v, w.cell? p = some v → w'.cell? p = some v) : RdI w' a xs := by
  rcases h with h | ⟨b, off, h1, h2⟩
  · exact .inl h
  · exact .inr ⟨b, off, h1, fun i hi => hc _ _ (h2 i hi)⟩

set_option maxHeartbeats 1000000 in
theorem ints_same (a a' : Option Addr) (c c' : Nat) (xs : List Int) (w : World) (h : RdI w a xs) (h' : RdI w a' xs) (hl : xs.length ≤ 4000000000000000000) :
    Calls Tryd.prog 11 #[.slice a xs.length c, .slice a' xs.length c'] w fun e w' => e = .returned (.bool true) ∧ ∃ k, w' = w.drewN k := by
  by_cases h0 : xs.length = 0
  · have e : ((xs.length : Nat) : Int) = 0 := by omega
    generalize xs.length = n at *
    subst h0
    clear h h' e
    go_enter Tryd.func11, Tryd.ntmps11
    go_wp2
    go_loop [5] (fun i => i = .int .i64 0) (fun i => 0)
    case atStart => rfl
    case round =>
      subst hrel
      go_wp2
      go_ret
      exact ⟨rfl, 0, rfl⟩
  · obtain ⟨b, off, rfl, hc⟩ := h.resolve_left h0
    obtain ⟨b', off', rfl, hc'⟩ := h'.resolve_left h0
    generalize hn : xs.length = n at *
    have Hc := Lib.hid hc
    have Hc' := Lib.hid hc'
    clear h h' hc hc' hn
    go_enter Tryd.func11, Tryd.ntmps11
    go_wp2
    go_loopw [5] (fun i wr => ∃ k q : Nat, k ≤ n ∧ i = .int .i64 k ∧ wr = w.drewN q) (fun i _ => n - (intOf i).toNat)
    case atStart => exact ⟨0, 0, Nat.zero_le _, rfl, rfl⟩
    case round =>
      obtain ⟨k, q, hk, rfl, rfl⟩ := hrel
      by_cases hlt : k < n
      · have c1 := Hc.out k hlt
        have c2 := Hc'.out k hlt
        generalize xs.getD k 0 = v at c1 c2
        go_wp2
        go_quiet (fail)
        go_wp2
        go_roundw
        case rel => exact ⟨k + 1, _, by omega, by go_num, rfl⟩
        case measure => simp [intOf]; omega
      · obtain rfl : k = n := by omega
        go_wp2
        go_ret
        exact ⟨rfl, _, rfl⟩
end Go.Proofs.YtnjcmhpifdaheaaDoor
