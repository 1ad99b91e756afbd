/-
  DERIVED. GIVEN WITH THE SEED: THE CARDS: each row of YtnjcmhpifdaheaaDoorRows.lean that lists a variable, with what it lists TIED to the program's text (the seventh form; the later family's looks); each row that meets fmt, with fmt's text TOLD by the authors' own Lean function (tested against real Go, not proved from fmt's source: count such statements apart). THE CARD IS WHAT COUNTS. Prove the row's statement (the work); the ties are given (YtnjcmhpifdaheaaDoorTie.lean); close each card by the builder's one call (the guide's Derived/Test/ToyasCard.lean, 'card_holds'). Laid BY PROGRAM, IN A SANDBOX (cutbox-door.mjs). By AI agents, Wed Nov 11 2026. No macro, syntax, notation, axiom, sorry.
-/
import Derived.Test.YtnjcmhpifdaheaaDoorRows
import GoSem.ClaimSeven
namespace Go.Proofs.YtnjcmhpifdaheaaDoor
namespace Rows

/-- THE TIED CARD OF 'granarylaw4.OrderFinds'. -/
def orderFindsCard : Claim7 := { stood := { row := orderFindsRow, standIns := [], harness := (true, "e4fd296b4ec5c6ead1d5f02635bdbd0e03adc35ac94203e8f073e53baea2031e"), looks := true }, kinds := [], alts := [], laidByText := true, laidKinds := [.handle], laidTests := true, laidLooks := .later }
def OrderFindsCardSaid : Prop := Claim7.holds Tryd.pinned (.plain (OpenSpec.ofChange orderFindsSpec)) orderFindsCard

/-- THE TIED CARD OF 'granarylaw4.OrderStale'. -/
def orderStaleCard : Claim7 := { stood := { row := orderStaleRow, standIns := [], harness := (true, "e4fd296b4ec5c6ead1d5f02635bdbd0e03adc35ac94203e8f073e53baea2031e"), looks := true }, kinds := [], alts := [], laidByText := true, laidKinds := [.handle], laidTests := true, laidLooks := .later }
def OrderStaleCardSaid : Prop := Claim7.holds Tryd.pinned (.plain (OpenSpec.ofChange orderStaleSpec)) orderStaleCard

/-- THE SECOND FORM's CARD OF 'granarylaw4.OrderFinds'. -/
def orderFindsUptoCard : Claim7 := { stood := { row := orderFindsUptoRow, standIns := [], harness := (true, "e4fd296b4ec5c6ead1d5f02635bdbd0e03adc35ac94203e8f073e53baea2031e"), looks := true }, kinds := [], alts := [], laidByText := true, laidKinds := [.handle], laidTests := true, laidLooks := .later }
def OrderFindsUptoCardSaid : Prop := Claim7.holds Tryd.pinned (.plain (OpenSpec.upto orderFindsSpec)) orderFindsUptoCard

/-- THE SECOND FORM's CARD OF 'granarylaw4.OrderStale'. -/
def orderStaleUptoCard : Claim7 := { stood := { row := orderStaleUptoRow, standIns := [], harness := (true, "e4fd296b4ec5c6ead1d5f02635bdbd0e03adc35ac94203e8f073e53baea2031e"), looks := true }, kinds := [], alts := [], laidByText := true, laidKinds := [.handle], laidTests := true, laidLooks := .later }
def OrderStaleUptoCardSaid : Prop := Claim7.holds Tryd.pinned (.plain (OpenSpec.upto orderStaleSpec)) orderStaleUptoCard
end Rows
end Go.Proofs.YtnjcmhpifdaheaaDoor
