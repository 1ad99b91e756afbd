/-
  DERIVED. GIVEN WITH THE SEED: THE CARDS: each row of YtkehhfgoikbciaaDoorRows.lean that lists a variable, with what it lists TIED to the program's text (the seventh form; the later family's looks); each row that meets fmt, with fmt's text TOLD by the authors' own Lean function (tested against real Go, not proved from fmt's source: count such statements apart). THE CARD IS WHAT COUNTS. Prove the row's statement (the work); the ties are given (YtkehhfgoikbciaaDoorTie.lean); close each card by the builder's one call (the guide's Derived/Test/ToyasCard.lean, 'card_holds'). Laid BY PROGRAM, IN A SANDBOX (cutbox-door.mjs). By AI agents, Wed Nov 11 2026. No macro, syntax, notation, axiom, sorry.
-/
import Derived.Test.YtkehhfgoikbciaaDoorRows
import GoSem.ClaimSeven
namespace Go.Proofs.YtkehhfgoikbciaaDoor
namespace Rows

/-- THE TIED CARD OF 'granarylaw3.RingSees'. -/
def ringSeesCard : Claim7 := { stood := { row := ringSeesRow, standIns := [], harness := (true, "b371f500003ef77c7e5f5fe5e1eb2996ccae8d1f797a3d09ae04d99f5283e476"), looks := true }, kinds := [], alts := [], laidByText := true, laidKinds := [.handle], laidTests := true, laidLooks := .later }
def RingSeesCardSaid : Prop := Claim7.holds Tryd.pinned (.plain (OpenSpec.ofChange ringSeesSpec)) ringSeesCard

/-- THE TIED CARD OF 'granarylaw3.BellPlays'. -/
def bellPlaysCard : Claim7 := { stood := { row := bellPlaysRow, standIns := [], harness := (true, "b371f500003ef77c7e5f5fe5e1eb2996ccae8d1f797a3d09ae04d99f5283e476"), looks := true }, kinds := [], alts := [], laidByText := true, laidKinds := [.handle], laidTests := true, laidLooks := .later }
def BellPlaysCardSaid : Prop := Claim7.holds Tryd.pinned (.plain (OpenSpec.ofChange bellPlaysSpec)) bellPlaysCard

/-- THE TIED CARD OF 'granarylaw3.RingRoom'. -/
def ringRoomCard : Claim7 := { stood := { row := ringRoomRow, standIns := [], harness := (true, "b371f500003ef77c7e5f5fe5e1eb2996ccae8d1f797a3d09ae04d99f5283e476"), looks := true }, kinds := [], alts := [], laidByText := true, laidKinds := [.handle], laidTests := true, laidLooks := .later }
def RingRoomCardSaid : Prop := Claim7.holds Tryd.pinned (.plain (OpenSpec.ofChange ringRoomSpec)) ringRoomCard

/-- THE TIED CARD OF 'granarylaw3.RingPlays'. -/
def ringPlaysCard : Claim7 := { stood := { row := ringPlaysRow, standIns := [], harness := (true, "b371f500003ef77c7e5f5fe5e1eb2996ccae8d1f797a3d09ae04d99f5283e476"), looks := true }, kinds := [], alts := [], laidByText := true, laidKinds := [.handle], laidTests := true, laidLooks := .later }
def RingPlaysCardSaid : Prop := Claim7.holds Tryd.pinned (.plain (OpenSpec.ofChange ringPlaysSpec)) ringPlaysCard

/-- THE TIED CARD OF 'granarylaw3.RingPosts'. -/
def ringPostsCard : Claim7 := { stood := { row := ringPostsRow, standIns := [], harness := (true, "b371f500003ef77c7e5f5fe5e1eb2996ccae8d1f797a3d09ae04d99f5283e476"), looks := true }, kinds := [], alts := [], laidByText := true, laidKinds := [.handle], laidTests := true, laidLooks := .later }
def RingPostsCardSaid : Prop := Claim7.holds Tryd.pinned (.plain (OpenSpec.ofChange ringPostsSpec)) ringPostsCard

/-- THE TIED CARD OF 'granarylaw3.CmdWrites'. -/
def cmdWritesCard : Claim7 := { stood := { row := cmdWritesRow, standIns := [], harness := (true, "b371f500003ef77c7e5f5fe5e1eb2996ccae8d1f797a3d09ae04d99f5283e476"), looks := true }, kinds := [], alts := [], laidByText := true, laidKinds := [.handle], laidTests := true, laidLooks := .later }
def CmdWritesCardSaid : Prop := Claim7.holds Tryd.pinned (.plain (OpenSpec.ofChange cmdWritesSpec)) cmdWritesCard

/-- THE TIED CARD OF 'granarylaw3.CmdReads'. -/
def cmdReadsCard : Claim7 := { stood := { row := cmdReadsRow, standIns := [], harness := (true, "b371f500003ef77c7e5f5fe5e1eb2996ccae8d1f797a3d09ae04d99f5283e476"), looks := true }, kinds := [], alts := [], laidByText := true, laidKinds := [.handle], laidTests := true, laidLooks := .later }
def CmdReadsCardSaid : Prop := Claim7.holds Tryd.pinned (.plain (OpenSpec.ofChange cmdReadsSpec)) cmdReadsCard

/-- THE TIED CARD OF 'granarylaw3.MemPlays'. -/
def memPlaysCard : Claim7 := { stood := { row := memPlaysRow, standIns := [], harness := (true, "b371f500003ef77c7e5f5fe5e1eb2996ccae8d1f797a3d09ae04d99f5283e476"), looks := true }, kinds := [], alts := [], laidByText := true, laidKinds := [.handle], laidTests := true, laidLooks := .later }
def MemPlaysCardSaid : Prop := Claim7.holds Tryd.pinned (.plain (OpenSpec.ofChange memPlaysSpec)) memPlaysCard

/-- THE TIED CARD OF 'granarylaw3.ListMoves'. -/
def listMovesCard : Claim7 := { stood := { row := listMovesRow, standIns := [], harness := (true, "b371f500003ef77c7e5f5fe5e1eb2996ccae8d1f797a3d09ae04d99f5283e476"), looks := true }, kinds := [], alts := [], laidByText := true, laidKinds := [.handle], laidTests := true, laidLooks := .later }
def ListMovesCardSaid : Prop := Claim7.holds Tryd.pinned (.plain (OpenSpec.ofChange listMovesSpec)) listMovesCard

/-- THE TIED CARD OF 'granarylaw3.PickPlays'. -/
def pickPlaysCard : Claim7 := { stood := { row := pickPlaysRow, standIns := [], harness := (true, "b371f500003ef77c7e5f5fe5e1eb2996ccae8d1f797a3d09ae04d99f5283e476"), looks := true }, kinds := [], alts := [], laidByText := true, laidKinds := [.handle], laidTests := true, laidLooks := .later }
def PickPlaysCardSaid : Prop := Claim7.holds Tryd.pinned (.plain (OpenSpec.ofChange pickPlaysSpec)) pickPlaysCard

/-- THE TIED CARD OF 'granarylaw4.OrderFinds'. -/
def orderFindsCard : Claim7 := { stood := { row := orderFindsRow, standIns := [], harness := (true, "b371f500003ef77c7e5f5fe5e1eb2996ccae8d1f797a3d09ae04d99f5283e476"), looks := true }, kinds := [], alts := [], laidByText := true, laidKinds := [.handle], laidTests := true, laidLooks := .later }
def OrderFindsCardSaid : Prop := Claim7.holds Tryd.pinned (.plain (OpenSpec.ofChange orderFindsSpec)) orderFindsCard

/-- THE TIED CARD OF 'granarylaw4.OrderStale'. -/
def orderStaleCard : Claim7 := { stood := { row := orderStaleRow, standIns := [], harness := (true, "b371f500003ef77c7e5f5fe5e1eb2996ccae8d1f797a3d09ae04d99f5283e476"), looks := true }, kinds := [], alts := [], laidByText := true, laidKinds := [.handle], laidTests := true, laidLooks := .later }
def OrderStaleCardSaid : Prop := Claim7.holds Tryd.pinned (.plain (OpenSpec.ofChange orderStaleSpec)) orderStaleCard

/-- THE TIED CARD OF 'granarylaw3.ListBuilds'. -/
def listBuildsCard : Claim7 := { stood := { row := listBuildsRow, standIns := [], harness := (true, "b371f500003ef77c7e5f5fe5e1eb2996ccae8d1f797a3d09ae04d99f5283e476"), looks := true }, kinds := [], alts := [], laidByText := true, laidKinds := [.handle], laidTests := true, laidLooks := .later }
def ListBuildsCardSaid : Prop := Claim7.holds Tryd.pinned (.plain (OpenSpec.ofChange listBuildsSpec)) listBuildsCard

/-- THE TIED CARD OF 'granarylaw3.ListWalks'. -/
def listWalksCard : Claim7 := { stood := { row := listWalksRow, standIns := [], harness := (true, "b371f500003ef77c7e5f5fe5e1eb2996ccae8d1f797a3d09ae04d99f5283e476"), looks := true }, kinds := [], alts := [], laidByText := true, laidKinds := [.handle], laidTests := true, laidLooks := .later }
def ListWalksCardSaid : Prop := Claim7.holds Tryd.pinned (.plain (OpenSpec.ofChange listWalksSpec)) listWalksCard

/-- THE SECOND FORM's CARD OF 'granarylaw3.RingSees'. -/
def ringSeesUptoCard : Claim7 := { stood := { row := ringSeesUptoRow, standIns := [], harness := (true, "b371f500003ef77c7e5f5fe5e1eb2996ccae8d1f797a3d09ae04d99f5283e476"), looks := true }, kinds := [], alts := [], laidByText := true, laidKinds := [.handle], laidTests := true, laidLooks := .later }
def RingSeesUptoCardSaid : Prop := Claim7.holds Tryd.pinned (.plain (OpenSpec.upto ringSeesSpec)) ringSeesUptoCard

/-- THE SECOND FORM's CARD OF 'granarylaw3.BellPlays'. -/
def bellPlaysUptoCard : Claim7 := { stood := { row := bellPlaysUptoRow, standIns := [], harness := (true, "b371f500003ef77c7e5f5fe5e1eb2996ccae8d1f797a3d09ae04d99f5283e476"), looks := true }, kinds := [], alts := [], laidByText := true, laidKinds := [.handle], laidTests := true, laidLooks := .later }
def BellPlaysUptoCardSaid : Prop := Claim7.holds Tryd.pinned (.plain (OpenSpec.upto bellPlaysSpec)) bellPlaysUptoCard

/-- THE SECOND FORM's CARD OF 'granarylaw3.RingRoom'. -/
def ringRoomUptoCard : Claim7 := { stood := { row := ringRoomUptoRow, standIns := [], harness := (true, "b371f500003ef77c7e5f5fe5e1eb2996ccae8d1f797a3d09ae04d99f5283e476"), looks := true }, kinds := [], alts := [], laidByText := true, laidKinds := [.handle], laidTests := true, laidLooks := .later }
def RingRoomUptoCardSaid : Prop := Claim7.holds Tryd.pinned (.plain (OpenSpec.upto ringRoomSpec)) ringRoomUptoCard

/-- THE SECOND FORM's CARD OF 'granarylaw3.RingPlays'. -/
def ringPlaysUptoCard : Claim7 := { stood := { row := ringPlaysUptoRow, standIns := [], harness := (true, "b371f500003ef77c7e5f5fe5e1eb2996ccae8d1f797a3d09ae04d99f5283e476"), looks := true }, kinds := [], alts := [], laidByText := true, laidKinds := [.handle], laidTests := true, laidLooks := .later }
def RingPlaysUptoCardSaid : Prop := Claim7.holds Tryd.pinned (.plain (OpenSpec.upto ringPlaysSpec)) ringPlaysUptoCard

/-- THE SECOND FORM's CARD OF 'granarylaw3.RingPosts'. -/
def ringPostsUptoCard : Claim7 := { stood := { row := ringPostsUptoRow, standIns := [], harness := (true, "b371f500003ef77c7e5f5fe5e1eb2996ccae8d1f797a3d09ae04d99f5283e476"), looks := true }, kinds := [], alts := [], laidByText := true, laidKinds := [.handle], laidTests := true, laidLooks := .later }
def RingPostsUptoCardSaid : Prop := Claim7.holds Tryd.pinned (.plain (OpenSpec.upto ringPostsSpec)) ringPostsUptoCard

/-- THE SECOND FORM's CARD OF 'granarylaw3.CmdWrites'. -/
def cmdWritesUptoCard : Claim7 := { stood := { row := cmdWritesUptoRow, standIns := [], harness := (true, "b371f500003ef77c7e5f5fe5e1eb2996ccae8d1f797a3d09ae04d99f5283e476"), looks := true }, kinds := [], alts := [], laidByText := true, laidKinds := [.handle], laidTests := true, laidLooks := .later }
def CmdWritesUptoCardSaid : Prop := Claim7.holds Tryd.pinned (.plain (OpenSpec.upto cmdWritesSpec)) cmdWritesUptoCard

/-- THE SECOND FORM's CARD OF 'granarylaw3.CmdReads'. -/
def cmdReadsUptoCard : Claim7 := { stood := { row := cmdReadsUptoRow, standIns := [], harness := (true, "b371f500003ef77c7e5f5fe5e1eb2996ccae8d1f797a3d09ae04d99f5283e476"), looks := true }, kinds := [], alts := [], laidByText := true, laidKinds := [.handle], laidTests := true, laidLooks := .later }
def CmdReadsUptoCardSaid : Prop := Claim7.holds Tryd.pinned (.plain (OpenSpec.upto cmdReadsSpec)) cmdReadsUptoCard

/-- THE SECOND FORM's CARD OF 'granarylaw3.MemPlays'. -/
def memPlaysUptoCard : Claim7 := { stood := { row := memPlaysUptoRow, standIns := [], harness := (true, "b371f500003ef77c7e5f5fe5e1eb2996ccae8d1f797a3d09ae04d99f5283e476"), looks := true }, kinds := [], alts := [], laidByText := true, laidKinds := [.handle], laidTests := true, laidLooks := .later }
def MemPlaysUptoCardSaid : Prop := Claim7.holds Tryd.pinned (.plain (OpenSpec.upto memPlaysSpec)) memPlaysUptoCard

/-- THE SECOND FORM's CARD OF 'granarylaw3.ListMoves'. -/
def listMovesUptoCard : Claim7 := { stood := { row := listMovesUptoRow, standIns := [], harness := (true, "b371f500003ef77c7e5f5fe5e1eb2996ccae8d1f797a3d09ae04d99f5283e476"), looks := true }, kinds := [], alts := [], laidByText := true, laidKinds := [.handle], laidTests := true, laidLooks := .later }
def ListMovesUptoCardSaid : Prop := Claim7.holds Tryd.pinned (.plain (OpenSpec.upto listMovesSpec)) listMovesUptoCard

/-- THE SECOND FORM's CARD OF 'granarylaw3.PickPlays'. -/
def pickPlaysUptoCard : Claim7 := { stood := { row := pickPlaysUptoRow, standIns := [], harness := (true, "b371f500003ef77c7e5f5fe5e1eb2996ccae8d1f797a3d09ae04d99f5283e476"), looks := true }, kinds := [], alts := [], laidByText := true, laidKinds := [.handle], laidTests := true, laidLooks := .later }
def PickPlaysUptoCardSaid : Prop := Claim7.holds Tryd.pinned (.plain (OpenSpec.upto pickPlaysSpec)) pickPlaysUptoCard

/-- THE SECOND FORM's CARD OF 'granarylaw4.OrderFinds'. -/
def orderFindsUptoCard : Claim7 := { stood := { row := orderFindsUptoRow, standIns := [], harness := (true, "b371f500003ef77c7e5f5fe5e1eb2996ccae8d1f797a3d09ae04d99f5283e476"), looks := true }, kinds := [], alts := [], laidByText := true, laidKinds := [.handle], laidTests := true, laidLooks := .later }
def OrderFindsUptoCardSaid : Prop := Claim7.holds Tryd.pinned (.plain (OpenSpec.upto orderFindsSpec)) orderFindsUptoCard

/-- THE SECOND FORM's CARD OF 'granarylaw4.OrderStale'. -/
def orderStaleUptoCard : Claim7 := { stood := { row := orderStaleUptoRow, standIns := [], harness := (true, "b371f500003ef77c7e5f5fe5e1eb2996ccae8d1f797a3d09ae04d99f5283e476"), looks := true }, kinds := [], alts := [], laidByText := true, laidKinds := [.handle], laidTests := true, laidLooks := .later }
def OrderStaleUptoCardSaid : Prop := Claim7.holds Tryd.pinned (.plain (OpenSpec.upto orderStaleSpec)) orderStaleUptoCard

/-- THE SECOND FORM's CARD OF 'granarylaw3.ListBuilds'. -/
def listBuildsUptoCard : Claim7 := { stood := { row := listBuildsUptoRow, standIns := [], harness := (true, "b371f500003ef77c7e5f5fe5e1eb2996ccae8d1f797a3d09ae04d99f5283e476"), looks := true }, kinds := [], alts := [], laidByText := true, laidKinds := [.handle], laidTests := true, laidLooks := .later }
def ListBuildsUptoCardSaid : Prop := Claim7.holds Tryd.pinned (.plain (OpenSpec.upto listBuildsSpec)) listBuildsUptoCard

/-- THE SECOND FORM's CARD OF 'granarylaw3.ListWalks'. -/
def listWalksUptoCard : Claim7 := { stood := { row := listWalksUptoRow, standIns := [], harness := (true, "b371f500003ef77c7e5f5fe5e1eb2996ccae8d1f797a3d09ae04d99f5283e476"), looks := true }, kinds := [], alts := [], laidByText := true, laidKinds := [.handle], laidTests := true, laidLooks := .later }
def ListWalksUptoCardSaid : Prop := Claim7.holds Tryd.pinned (.plain (OpenSpec.upto listWalksSpec)) listWalksUptoCard
end Rows
end Go.Proofs.YtkehhfgoikbciaaDoor
