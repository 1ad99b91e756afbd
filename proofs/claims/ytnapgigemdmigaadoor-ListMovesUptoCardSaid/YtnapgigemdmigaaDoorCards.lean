/-
  DERIVED. GIVEN WITH THE SEED: THE CARDS: each row of YtnapgigemdmigaaDoorRows.lean that lists a variable, with what it lists TIED to the program's text (the seventh form; the later family's looks); each row that meets fmt, with fmt's text TOLD by the authors' own Lean function (tested against real Go, not proved from fmt's source: count such statements apart). THE CARD IS WHAT COUNTS. Prove the row's statement (the work); the ties are given (YtnapgigemdmigaaDoorTie.lean); close each card by the builder's one call (the guide's Derived/Test/ToyasCard.lean, 'card_holds'). Laid BY PROGRAM, IN A SANDBOX (cutbox-door.mjs). By AI agents, Wed Nov 11 2026. No macro, syntax, notation, axiom, sorry.
-/
import Derived.Test.YtnapgigemdmigaaDoorRows
import GoSem.ClaimSeven
namespace Go.Proofs.YtnapgigemdmigaaDoor
namespace Rows

/-- THE TIED CARD OF 'granarylaw3.MemPlays'. -/
def memPlaysCard : Claim7 := { stood := { row := memPlaysRow, standIns := [], harness := (true, "0abeeaf802f71b58a57e55168a29a34c56d3ebc3b9a36d42abee2767488a502c"), looks := true }, kinds := [], alts := [], laidByText := true, laidKinds := [.handle], laidTests := true, laidLooks := .later }
def MemPlaysCardSaid : Prop := Claim7.holds Tryd.pinned (.plain (OpenSpec.ofChange memPlaysSpec)) memPlaysCard

/-- THE TIED CARD OF 'granarylaw3.ListMoves'. -/
def listMovesCard : Claim7 := { stood := { row := listMovesRow, standIns := [], harness := (true, "0abeeaf802f71b58a57e55168a29a34c56d3ebc3b9a36d42abee2767488a502c"), looks := true }, kinds := [], alts := [], laidByText := true, laidKinds := [.handle], laidTests := true, laidLooks := .later }
def ListMovesCardSaid : Prop := Claim7.holds Tryd.pinned (.plain (OpenSpec.ofChange listMovesSpec)) listMovesCard

/-- THE TIED CARD OF 'granarylaw4.OrderFinds'. -/
def orderFindsCard : Claim7 := { stood := { row := orderFindsRow, standIns := [], harness := (true, "0abeeaf802f71b58a57e55168a29a34c56d3ebc3b9a36d42abee2767488a502c"), looks := true }, kinds := [], alts := [], laidByText := true, laidKinds := [.handle], laidTests := true, laidLooks := .later }
def OrderFindsCardSaid : Prop := Claim7.holds Tryd.pinned (.plain (OpenSpec.ofChange orderFindsSpec)) orderFindsCard

/-- THE TIED CARD OF 'granarylaw4.OrderStale'. -/
def orderStaleCard : Claim7 := { stood := { row := orderStaleRow, standIns := [], harness := (true, "0abeeaf802f71b58a57e55168a29a34c56d3ebc3b9a36d42abee2767488a502c"), looks := true }, kinds := [], alts := [], laidByText := true, laidKinds := [.handle], laidTests := true, laidLooks := .later }
def OrderStaleCardSaid : Prop := Claim7.holds Tryd.pinned (.plain (OpenSpec.ofChange orderStaleSpec)) orderStaleCard

/-- THE TIED CARD OF 'granarylaw3.ListBuilds'. -/
def listBuildsCard : Claim7 := { stood := { row := listBuildsRow, standIns := [], harness := (true, "0abeeaf802f71b58a57e55168a29a34c56d3ebc3b9a36d42abee2767488a502c"), looks := true }, kinds := [], alts := [], laidByText := true, laidKinds := [.handle], laidTests := true, laidLooks := .later }
def ListBuildsCardSaid : Prop := Claim7.holds Tryd.pinned (.plain (OpenSpec.ofChange listBuildsSpec)) listBuildsCard

/-- THE TIED CARD OF 'granarylaw3.ListWalks'. -/
def listWalksCard : Claim7 := { stood := { row := listWalksRow, standIns := [], harness := (true, "0abeeaf802f71b58a57e55168a29a34c56d3ebc3b9a36d42abee2767488a502c"), looks := true }, kinds := [], alts := [], laidByText := true, laidKinds := [.handle], laidTests := true, laidLooks := .later }
def ListWalksCardSaid : Prop := Claim7.holds Tryd.pinned (.plain (OpenSpec.ofChange listWalksSpec)) listWalksCard

/-- THE SECOND FORM's CARD OF 'granarylaw3.MemPlays'. -/
def memPlaysUptoCard : Claim7 := { stood := { row := memPlaysUptoRow, standIns := [], harness := (true, "0abeeaf802f71b58a57e55168a29a34c56d3ebc3b9a36d42abee2767488a502c"), looks := true }, kinds := [], alts := [], laidByText := true, laidKinds := [.handle], laidTests := true, laidLooks := .later }
def MemPlaysUptoCardSaid : Prop := Claim7.holds Tryd.pinned (.plain (OpenSpec.upto memPlaysSpec)) memPlaysUptoCard

/-- THE SECOND FORM's CARD OF 'granarylaw3.ListMoves'. -/
def listMovesUptoCard : Claim7 := { stood := { row := listMovesUptoRow, standIns := [], harness := (true, "0abeeaf802f71b58a57e55168a29a34c56d3ebc3b9a36d42abee2767488a502c"), looks := true }, kinds := [], alts := [], laidByText := true, laidKinds := [.handle], laidTests := true, laidLooks := .later }
def ListMovesUptoCardSaid : Prop := Claim7.holds Tryd.pinned (.plain (OpenSpec.upto listMovesSpec)) listMovesUptoCard

/-- THE SECOND FORM's CARD OF 'granarylaw4.OrderFinds'. -/
def orderFindsUptoCard : Claim7 := { stood := { row := orderFindsUptoRow, standIns := [], harness := (true, "0abeeaf802f71b58a57e55168a29a34c56d3ebc3b9a36d42abee2767488a502c"), looks := true }, kinds := [], alts := [], laidByText := true, laidKinds := [.handle], laidTests := true, laidLooks := .later }
def OrderFindsUptoCardSaid : Prop := Claim7.holds Tryd.pinned (.plain (OpenSpec.upto orderFindsSpec)) orderFindsUptoCard

/-- THE SECOND FORM's CARD OF 'granarylaw4.OrderStale'. -/
def orderStaleUptoCard : Claim7 := { stood := { row := orderStaleUptoRow, standIns := [], harness := (true, "0abeeaf802f71b58a57e55168a29a34c56d3ebc3b9a36d42abee2767488a502c"), looks := true }, kinds := [], alts := [], laidByText := true, laidKinds := [.handle], laidTests := true, laidLooks := .later }
def OrderStaleUptoCardSaid : Prop := Claim7.holds Tryd.pinned (.plain (OpenSpec.upto orderStaleSpec)) orderStaleUptoCard

/-- THE SECOND FORM's CARD OF 'granarylaw3.ListBuilds'. -/
def listBuildsUptoCard : Claim7 := { stood := { row := listBuildsUptoRow, standIns := [], harness := (true, "0abeeaf802f71b58a57e55168a29a34c56d3ebc3b9a36d42abee2767488a502c"), looks := true }, kinds := [], alts := [], laidByText := true, laidKinds := [.handle], laidTests := true, laidLooks := .later }
def ListBuildsUptoCardSaid : Prop := Claim7.holds Tryd.pinned (.plain (OpenSpec.upto listBuildsSpec)) listBuildsUptoCard

/-- THE SECOND FORM's CARD OF 'granarylaw3.ListWalks'. -/
def listWalksUptoCard : Claim7 := { stood := { row := listWalksUptoRow, standIns := [], harness := (true, "0abeeaf802f71b58a57e55168a29a34c56d3ebc3b9a36d42abee2767488a502c"), looks := true }, kinds := [], alts := [], laidByText := true, laidKinds := [.handle], laidTests := true, laidLooks := .later }
def ListWalksUptoCardSaid : Prop := Claim7.holds Tryd.pinned (.plain (OpenSpec.upto listWalksSpec)) listWalksUptoCard
end Rows
end Go.Proofs.YtnapgigemdmigaaDoor
