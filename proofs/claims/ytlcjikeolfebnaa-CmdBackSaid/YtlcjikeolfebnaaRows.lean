/-
  No cell of these rows narrows 'for every input' (looked for: loops, veiled, ifaces, maps, wideKeys, modest, calm, conditions, laid).
  DERIVED. THE GIVEN ROWS OF THIS SEAT. 12 by the template 'for every input the law returns true; each argument reads behind the call as it read before'; 0 by the template 'total and deterministic' (their statements: YtlcjikeolfebnaaTotals.lean).
  GIVEN WITH THE SEED: the statements are not yours to turn. If you find one false, say at which input.
  Laid BY PROGRAM, IN A SANDBOX (cutbox-rows.mjs): the forced cells as the released guide's own fill.sh prints them over the translation 9a3122fc2831ddb5… (all of the seat's roots in one cut). By AI agents, Wed Nov 11 2026. No macro, syntax, notation, axiom, sorry.
-/
import Derived.Test.YtlcjikeolfebnaaChecked
import GoSem.Claim
import GoSem.ClaimJoined
import GoSem.ClaimMapViews
import Derived.JoinedTies
import Derived.KernelRfl
namespace Go.Proofs.Ytlcjikeolfebnaa
/- THE CELL 'sum', in the pinned program and in every row, IS THE sha256 OF THE DUMP (.gsa) THAT YtlcjikeolfebnaaProg.lean LOADS. Nothing in Lean hashes anything: it is a label: what it is worth is what the hold of that sum in a sandbox is worth. -/
noncomputable def Try.pinned : Pinned := { name := "ytlcjikeolfebnaa", sum := "9a3122fc2831ddb5526b51d7fa61f621df0e90affb34256ee44bc5c9e963b3c5", checked := Try.checked }
namespace Rows
def none {H : Type} : Left H := { results := [], args := [] }

/-- 'granarylaw3.BellGroups': WHATEVER THE INPUT: true; the input reads as it did. -/
def bellGroupsSpec : ChangeSpec := { name := "bellGroups", fn := fun _ => fun
  | [d1, d2, d3] => { results := [.lit (.bool true)], args := [d1, d2, d3] }
  | _ => none }
def bellGroupsRow : OpenClaim := { program := "ytlcjikeolfebnaa", sum := "9a3122fc2831ddb5526b51d7fa61f621df0e90affb34256ee44bc5c9e963b3c5", func := "granary/granarylaw3.BellGroups", spec := "bellGroups", unfollowed := true, recurses := true, plainKeys := false, apart := false }
def BellGroupsSaid : Prop := bellGroupsRow.holds Try.pinned (OpenSpec.ofChange bellGroupsSpec)

/-- ITS FALSE NEIGHBOUR: 'it returns false'. Refute it at one input. -/
def bellGroupsWrong : ChangeSpec := { name := "bellGroups", fn := fun _ => fun
  | [d1, d2, d3] => { results := [.lit (.bool false)], args := [d1, d2, d3] }
  | _ => none }
def BellGroupsWrongFalsely : Prop := bellGroupsRow.holds Try.pinned (OpenSpec.ofChange bellGroupsWrong)

/-- 'granarylaw3.BellTells': WHATEVER THE INPUT: true; the input reads as it did. -/
def bellTellsSpec : ChangeSpec := { name := "bellTells", fn := fun _ => fun
  | [d1, d2, d3] => { results := [.lit (.bool true)], args := [d1, d2, d3] }
  | _ => none }
def bellTellsRow : OpenClaim := { program := "ytlcjikeolfebnaa", sum := "9a3122fc2831ddb5526b51d7fa61f621df0e90affb34256ee44bc5c9e963b3c5", func := "granary/granarylaw3.BellTells", spec := "bellTells", unfollowed := true, recurses := true, plainKeys := false, apart := false }
def BellTellsSaid : Prop := bellTellsRow.holds Try.pinned (OpenSpec.ofChange bellTellsSpec)

/-- ITS FALSE NEIGHBOUR: 'it returns false'. Refute it at one input. -/
def bellTellsWrong : ChangeSpec := { name := "bellTells", fn := fun _ => fun
  | [d1, d2, d3] => { results := [.lit (.bool false)], args := [d1, d2, d3] }
  | _ => none }
def BellTellsWrongFalsely : Prop := bellTellsRow.holds Try.pinned (OpenSpec.ofChange bellTellsWrong)

/-- 'granarylaw3.MemApart': WHATEVER THE INPUT: true; the input reads as it did. -/
def memApartSpec : ChangeSpec := { name := "memApart", fn := fun _ => fun
  | [d1, d2, d3, d4, d5] => { results := [.lit (.bool true)], args := [d1, d2, d3, d4, d5] }
  | _ => none }
def memApartRow : OpenClaim := { program := "ytlcjikeolfebnaa", sum := "9a3122fc2831ddb5526b51d7fa61f621df0e90affb34256ee44bc5c9e963b3c5", func := "granary/granarylaw3.MemApart", spec := "memApart", plainKeys := false, apart := false }
def MemApartSaid : Prop := memApartRow.holds Try.pinned (OpenSpec.ofChange memApartSpec)

/-- ITS FALSE NEIGHBOUR: 'it returns false'. Refute it at one input. -/
def memApartWrong : ChangeSpec := { name := "memApart", fn := fun _ => fun
  | [d1, d2, d3, d4, d5] => { results := [.lit (.bool false)], args := [d1, d2, d3, d4, d5] }
  | _ => none }
def MemApartWrongFalsely : Prop := memApartRow.holds Try.pinned (OpenSpec.ofChange memApartWrong)

/-- 'granarylaw3.MemNumbers': WHATEVER THE INPUT: true; the input reads as it did. -/
def memNumbersSpec : ChangeSpec := { name := "memNumbers", fn := fun _ => fun
  | [d1, d2, d3] => { results := [.lit (.bool true)], args := [d1, d2, d3] }
  | _ => none }
def memNumbersRow : OpenClaim := { program := "ytlcjikeolfebnaa", sum := "9a3122fc2831ddb5526b51d7fa61f621df0e90affb34256ee44bc5c9e963b3c5", func := "granary/granarylaw3.MemNumbers", spec := "memNumbers", plainKeys := false, apart := false }
def MemNumbersSaid : Prop := memNumbersRow.holds Try.pinned (OpenSpec.ofChange memNumbersSpec)

/-- ITS FALSE NEIGHBOUR: 'it returns false'. Refute it at one input. -/
def memNumbersWrong : ChangeSpec := { name := "memNumbers", fn := fun _ => fun
  | [d1, d2, d3] => { results := [.lit (.bool false)], args := [d1, d2, d3] }
  | _ => none }
def MemNumbersWrongFalsely : Prop := memNumbersRow.holds Try.pinned (OpenSpec.ofChange memNumbersWrong)

/-- 'granarylaw3.CmdLoose': WHATEVER THE INPUT: true; the input reads as it did. -/
def cmdLooseSpec : ChangeSpec := { name := "cmdLoose", fn := fun _ => fun
  | [d1, d2] => { results := [.lit (.bool true)], args := [d1, d2] }
  | _ => none }
def cmdLooseRow : OpenClaim := { program := "ytlcjikeolfebnaa", sum := "9a3122fc2831ddb5526b51d7fa61f621df0e90affb34256ee44bc5c9e963b3c5", func := "granary/granarylaw3.CmdLoose", spec := "cmdLoose", plainKeys := false, apart := false }
def CmdLooseSaid : Prop := cmdLooseRow.holds Try.pinned (OpenSpec.ofChange cmdLooseSpec)

/-- ITS FALSE NEIGHBOUR: 'it returns false'. Refute it at one input. -/
def cmdLooseWrong : ChangeSpec := { name := "cmdLoose", fn := fun _ => fun
  | [d1, d2] => { results := [.lit (.bool false)], args := [d1, d2] }
  | _ => none }
def CmdLooseWrongFalsely : Prop := cmdLooseRow.holds Try.pinned (OpenSpec.ofChange cmdLooseWrong)

/-- 'granarylaw3.RingOnce': WHATEVER THE INPUT: true; the input reads as it did. -/
def ringOnceSpec : ChangeSpec := { name := "ringOnce", fn := fun _ => fun
  | [d1, d2] => { results := [.lit (.bool true)], args := [d1, d2] }
  | _ => none }
def ringOnceRow : OpenClaim := { program := "ytlcjikeolfebnaa", sum := "9a3122fc2831ddb5526b51d7fa61f621df0e90affb34256ee44bc5c9e963b3c5", func := "granary/granarylaw3.RingOnce", spec := "ringOnce", plainKeys := false, apart := false }
def RingOnceSaid : Prop := ringOnceRow.holds Try.pinned (OpenSpec.ofChange ringOnceSpec)

/-- ITS FALSE NEIGHBOUR: 'it returns false'. Refute it at one input. -/
def ringOnceWrong : ChangeSpec := { name := "ringOnce", fn := fun _ => fun
  | [d1, d2] => { results := [.lit (.bool false)], args := [d1, d2] }
  | _ => none }
def RingOnceWrongFalsely : Prop := ringOnceRow.holds Try.pinned (OpenSpec.ofChange ringOnceWrong)

/-- 'granarylaw3.CmdBack': WHATEVER THE INPUT: true; the input reads as it did. -/
def cmdBackSpec : ChangeSpec := { name := "cmdBack", fn := fun _ => fun
  | [d1, d2] => { results := [.lit (.bool true)], args := [d1, d2] }
  | _ => none }
def cmdBackRow : OpenClaim := { program := "ytlcjikeolfebnaa", sum := "9a3122fc2831ddb5526b51d7fa61f621df0e90affb34256ee44bc5c9e963b3c5", func := "granary/granarylaw3.CmdBack", spec := "cmdBack", plainKeys := false, apart := false }
def CmdBackSaid : Prop := cmdBackRow.holds Try.pinned (OpenSpec.ofChange cmdBackSpec)

/-- ITS FALSE NEIGHBOUR: 'it returns false'. Refute it at one input. -/
def cmdBackWrong : ChangeSpec := { name := "cmdBack", fn := fun _ => fun
  | [d1, d2] => { results := [.lit (.bool false)], args := [d1, d2] }
  | _ => none }
def CmdBackWrongFalsely : Prop := cmdBackRow.holds Try.pinned (OpenSpec.ofChange cmdBackWrong)

/-- 'granarylaw3.PickFair': WHATEVER THE INPUT: true; the input reads as it did. -/
def pickFairSpec : ChangeSpec := { name := "pickFair", fn := fun _ => fun
  | [d1, d2, d3] => { results := [.lit (.bool true)], args := [d1, d2, d3] }
  | _ => none }
def pickFairRow : OpenClaim := { program := "ytlcjikeolfebnaa", sum := "9a3122fc2831ddb5526b51d7fa61f621df0e90affb34256ee44bc5c9e963b3c5", func := "granary/granarylaw3.PickFair", spec := "pickFair", unfollowed := true, recurses := true, plainKeys := false, apart := false }
def PickFairSaid : Prop := pickFairRow.holds Try.pinned (OpenSpec.ofChange pickFairSpec)

/-- ITS FALSE NEIGHBOUR: 'it returns false'. Refute it at one input. -/
def pickFairWrong : ChangeSpec := { name := "pickFair", fn := fun _ => fun
  | [d1, d2, d3] => { results := [.lit (.bool false)], args := [d1, d2, d3] }
  | _ => none }
def PickFairWrongFalsely : Prop := pickFairRow.holds Try.pinned (OpenSpec.ofChange pickFairWrong)

/-- 'granarylaw3.PickShares': WHATEVER THE INPUT: true; the input reads as it did. -/
def pickSharesSpec : ChangeSpec := { name := "pickShares", fn := fun _ => fun
  | [d1, d2] => { results := [.lit (.bool true)], args := [d1, d2] }
  | _ => none }
def pickSharesRow : OpenClaim := { program := "ytlcjikeolfebnaa", sum := "9a3122fc2831ddb5526b51d7fa61f621df0e90affb34256ee44bc5c9e963b3c5", func := "granary/granarylaw3.PickShares", spec := "pickShares", unfollowed := true, recurses := true, plainKeys := false, apart := false }
def PickSharesSaid : Prop := pickSharesRow.holds Try.pinned (OpenSpec.ofChange pickSharesSpec)

/-- ITS FALSE NEIGHBOUR: 'it returns false'. Refute it at one input. -/
def pickSharesWrong : ChangeSpec := { name := "pickShares", fn := fun _ => fun
  | [d1, d2] => { results := [.lit (.bool false)], args := [d1, d2] }
  | _ => none }
def PickSharesWrongFalsely : Prop := pickSharesRow.holds Try.pinned (OpenSpec.ofChange pickSharesWrong)

/-- 'granarylaw3.PickWaits': WHATEVER THE INPUT: true; the input reads as it did. -/
def pickWaitsSpec : ChangeSpec := { name := "pickWaits", fn := fun _ => fun
  | [d1, d2, d3] => { results := [.lit (.bool true)], args := [d1, d2, d3] }
  | _ => none }
def pickWaitsRow : OpenClaim := { program := "ytlcjikeolfebnaa", sum := "9a3122fc2831ddb5526b51d7fa61f621df0e90affb34256ee44bc5c9e963b3c5", func := "granary/granarylaw3.PickWaits", spec := "pickWaits", unfollowed := true, recurses := true, plainKeys := false, apart := false }
def PickWaitsSaid : Prop := pickWaitsRow.holds Try.pinned (OpenSpec.ofChange pickWaitsSpec)

/-- ITS FALSE NEIGHBOUR: 'it returns false'. Refute it at one input. -/
def pickWaitsWrong : ChangeSpec := { name := "pickWaits", fn := fun _ => fun
  | [d1, d2, d3] => { results := [.lit (.bool false)], args := [d1, d2, d3] }
  | _ => none }
def PickWaitsWrongFalsely : Prop := pickWaitsRow.holds Try.pinned (OpenSpec.ofChange pickWaitsWrong)

/-- 'granarylaw4.OrderSerial': WHATEVER THE INPUT: true; the input reads as it did. -/
def orderSerialSpec : ChangeSpec := { name := "orderSerial", fn := fun _ => fun
  | [d1, d2, d3] => { results := [.lit (.bool true)], args := [d1, d2, d3] }
  | _ => none }
def orderSerialRow : OpenClaim := { program := "ytlcjikeolfebnaa", sum := "9a3122fc2831ddb5526b51d7fa61f621df0e90affb34256ee44bc5c9e963b3c5", func := "granary/granarylaw4.OrderSerial", spec := "orderSerial", inPlace := ["maps.clone"], recurses := true, plainKeys := false, apart := false }
def OrderSerialSaid : Prop := orderSerialRow.holds Try.pinned (OpenSpec.ofChange orderSerialSpec)

/-- ITS FALSE NEIGHBOUR: 'it returns false'. Refute it at one input. -/
def orderSerialWrong : ChangeSpec := { name := "orderSerial", fn := fun _ => fun
  | [d1, d2, d3] => { results := [.lit (.bool false)], args := [d1, d2, d3] }
  | _ => none }
def OrderSerialWrongFalsely : Prop := orderSerialRow.holds Try.pinned (OpenSpec.ofChange orderSerialWrong)

/-- 'granarylaw4.OrderWider': WHATEVER THE INPUT: true; the input reads as it did. -/
def orderWiderSpec : ChangeSpec := { name := "orderWider", fn := fun _ => fun
  | [d1, d2, d3] => { results := [.lit (.bool true)], args := [d1, d2, d3] }
  | _ => none }
def orderWiderRow : OpenClaim := { program := "ytlcjikeolfebnaa", sum := "9a3122fc2831ddb5526b51d7fa61f621df0e90affb34256ee44bc5c9e963b3c5", func := "granary/granarylaw4.OrderWider", spec := "orderWider", inPlace := ["maps.clone"], recurses := true, plainKeys := false, apart := false }
def OrderWiderSaid : Prop := orderWiderRow.holds Try.pinned (OpenSpec.ofChange orderWiderSpec)

/-- ITS FALSE NEIGHBOUR: 'it returns false'. Refute it at one input. -/
def orderWiderWrong : ChangeSpec := { name := "orderWider", fn := fun _ => fun
  | [d1, d2, d3] => { results := [.lit (.bool false)], args := [d1, d2, d3] }
  | _ => none }
def OrderWiderWrongFalsely : Prop := orderWiderRow.holds Try.pinned (OpenSpec.ofChange orderWiderWrong)

/- THE SECOND FORM. 'bulk': how many values and letters a reading holds, each counted each time it is reached (what is shared counts as often as it is met; a slice's spare places count too). A statement '..UptoSaid' is the law's where the arguments, and the package variables that the reading takes, are together of bulk at most 1048576: NARROWER than '..Said'. Prove '..Said' where nothing that the law and all that it calls make is longer than what came in: it says more and counts as full. Else prove '..UptoSaid'. A law counts once. -/
mutual
def uptoBulk {H : Type} : DataW H → Nat
  | .lit (.string bytes) => bytes.length + 1
  | .lit _ => 1
  | .nil => 1
  | .ptr d => uptoBulk d + 1
  | .slice elems spare => uptoBulkAll elems + uptoBulkAll spare + 1
  | .agg parts => uptoBulkAll parts + 1
  | .iface _ d => uptoBulk d + 1
  | .map entries => uptoBulkEntries entries + 1
  | .held _ => 1
def uptoBulkAll {H : Type} : List (DataW H) → Nat
  | [] => 0
  | d :: r => uptoBulk d + uptoBulkAll r
def uptoBulkEntries {H : Type} : List (Lit × DataW H) → Nat
  | [] => 0
  | x :: r => uptoBulkEntry x + uptoBulkEntries r
def uptoBulkEntry {H : Type} : Lit × DataW H → Nat
  | (.string bytes, d) => bytes.length + uptoBulk d + 1
  | (_, d) => uptoBulk d + 1
 end
def uptoSmall : (H : Type) → List (DataW H) → Bool := fun _ ds => decide (uptoBulkAll ds ≤ 1048576)
def OpenSpec.upto (s : _root_.Go.ChangeSpec) : _root_.Go.OpenSpec := { _root_.Go.OpenSpec.ofChange s with cond := some uptoSmall }

/-- 'granarylaw3.BellGroups', WHERE WHAT IT READS IS OF BULK AT MOST 1048576: true; the input reads as it did. -/
def bellGroupsUptoRow : OpenClaim := { program := "ytlcjikeolfebnaa", sum := "9a3122fc2831ddb5526b51d7fa61f621df0e90affb34256ee44bc5c9e963b3c5", func := "granary/granarylaw3.BellGroups", spec := "bellGroups", unfollowed := true, recurses := true, plainKeys := false, apart := false, narrowed := true }
def BellGroupsUptoSaid : Prop := bellGroupsUptoRow.holds Try.pinned (OpenSpec.upto bellGroupsSpec)

/-- 'granarylaw3.BellTells', WHERE WHAT IT READS IS OF BULK AT MOST 1048576: true; the input reads as it did. -/
def bellTellsUptoRow : OpenClaim := { program := "ytlcjikeolfebnaa", sum := "9a3122fc2831ddb5526b51d7fa61f621df0e90affb34256ee44bc5c9e963b3c5", func := "granary/granarylaw3.BellTells", spec := "bellTells", unfollowed := true, recurses := true, plainKeys := false, apart := false, narrowed := true }
def BellTellsUptoSaid : Prop := bellTellsUptoRow.holds Try.pinned (OpenSpec.upto bellTellsSpec)

/-- 'granarylaw3.MemApart', WHERE WHAT IT READS IS OF BULK AT MOST 1048576: true; the input reads as it did. -/
def memApartUptoRow : OpenClaim := { program := "ytlcjikeolfebnaa", sum := "9a3122fc2831ddb5526b51d7fa61f621df0e90affb34256ee44bc5c9e963b3c5", func := "granary/granarylaw3.MemApart", spec := "memApart", plainKeys := false, apart := false, narrowed := true }
def MemApartUptoSaid : Prop := memApartUptoRow.holds Try.pinned (OpenSpec.upto memApartSpec)

/-- 'granarylaw3.MemNumbers', WHERE WHAT IT READS IS OF BULK AT MOST 1048576: true; the input reads as it did. -/
def memNumbersUptoRow : OpenClaim := { program := "ytlcjikeolfebnaa", sum := "9a3122fc2831ddb5526b51d7fa61f621df0e90affb34256ee44bc5c9e963b3c5", func := "granary/granarylaw3.MemNumbers", spec := "memNumbers", plainKeys := false, apart := false, narrowed := true }
def MemNumbersUptoSaid : Prop := memNumbersUptoRow.holds Try.pinned (OpenSpec.upto memNumbersSpec)

/-- 'granarylaw3.CmdLoose', WHERE WHAT IT READS IS OF BULK AT MOST 1048576: true; the input reads as it did. -/
def cmdLooseUptoRow : OpenClaim := { program := "ytlcjikeolfebnaa", sum := "9a3122fc2831ddb5526b51d7fa61f621df0e90affb34256ee44bc5c9e963b3c5", func := "granary/granarylaw3.CmdLoose", spec := "cmdLoose", plainKeys := false, apart := false, narrowed := true }
def CmdLooseUptoSaid : Prop := cmdLooseUptoRow.holds Try.pinned (OpenSpec.upto cmdLooseSpec)

/-- 'granarylaw3.RingOnce', WHERE WHAT IT READS IS OF BULK AT MOST 1048576: true; the input reads as it did. -/
def ringOnceUptoRow : OpenClaim := { program := "ytlcjikeolfebnaa", sum := "9a3122fc2831ddb5526b51d7fa61f621df0e90affb34256ee44bc5c9e963b3c5", func := "granary/granarylaw3.RingOnce", spec := "ringOnce", plainKeys := false, apart := false, narrowed := true }
def RingOnceUptoSaid : Prop := ringOnceUptoRow.holds Try.pinned (OpenSpec.upto ringOnceSpec)

/-- 'granarylaw3.CmdBack', WHERE WHAT IT READS IS OF BULK AT MOST 1048576: true; the input reads as it did. -/
def cmdBackUptoRow : OpenClaim := { program := "ytlcjikeolfebnaa", sum := "9a3122fc2831ddb5526b51d7fa61f621df0e90affb34256ee44bc5c9e963b3c5", func := "granary/granarylaw3.CmdBack", spec := "cmdBack", plainKeys := false, apart := false, narrowed := true }
def CmdBackUptoSaid : Prop := cmdBackUptoRow.holds Try.pinned (OpenSpec.upto cmdBackSpec)

/-- 'granarylaw3.PickFair', WHERE WHAT IT READS IS OF BULK AT MOST 1048576: true; the input reads as it did. -/
def pickFairUptoRow : OpenClaim := { program := "ytlcjikeolfebnaa", sum := "9a3122fc2831ddb5526b51d7fa61f621df0e90affb34256ee44bc5c9e963b3c5", func := "granary/granarylaw3.PickFair", spec := "pickFair", unfollowed := true, recurses := true, plainKeys := false, apart := false, narrowed := true }
def PickFairUptoSaid : Prop := pickFairUptoRow.holds Try.pinned (OpenSpec.upto pickFairSpec)

/-- 'granarylaw3.PickShares', WHERE WHAT IT READS IS OF BULK AT MOST 1048576: true; the input reads as it did. -/
def pickSharesUptoRow : OpenClaim := { program := "ytlcjikeolfebnaa", sum := "9a3122fc2831ddb5526b51d7fa61f621df0e90affb34256ee44bc5c9e963b3c5", func := "granary/granarylaw3.PickShares", spec := "pickShares", unfollowed := true, recurses := true, plainKeys := false, apart := false, narrowed := true }
def PickSharesUptoSaid : Prop := pickSharesUptoRow.holds Try.pinned (OpenSpec.upto pickSharesSpec)

/-- 'granarylaw3.PickWaits', WHERE WHAT IT READS IS OF BULK AT MOST 1048576: true; the input reads as it did. -/
def pickWaitsUptoRow : OpenClaim := { program := "ytlcjikeolfebnaa", sum := "9a3122fc2831ddb5526b51d7fa61f621df0e90affb34256ee44bc5c9e963b3c5", func := "granary/granarylaw3.PickWaits", spec := "pickWaits", unfollowed := true, recurses := true, plainKeys := false, apart := false, narrowed := true }
def PickWaitsUptoSaid : Prop := pickWaitsUptoRow.holds Try.pinned (OpenSpec.upto pickWaitsSpec)

/-- 'granarylaw4.OrderSerial', WHERE WHAT IT READS IS OF BULK AT MOST 1048576: true; the input reads as it did. -/
def orderSerialUptoRow : OpenClaim := { program := "ytlcjikeolfebnaa", sum := "9a3122fc2831ddb5526b51d7fa61f621df0e90affb34256ee44bc5c9e963b3c5", func := "granary/granarylaw4.OrderSerial", spec := "orderSerial", inPlace := ["maps.clone"], recurses := true, plainKeys := false, apart := false, narrowed := true }
def OrderSerialUptoSaid : Prop := orderSerialUptoRow.holds Try.pinned (OpenSpec.upto orderSerialSpec)

/-- 'granarylaw4.OrderWider', WHERE WHAT IT READS IS OF BULK AT MOST 1048576: true; the input reads as it did. -/
def orderWiderUptoRow : OpenClaim := { program := "ytlcjikeolfebnaa", sum := "9a3122fc2831ddb5526b51d7fa61f621df0e90affb34256ee44bc5c9e963b3c5", func := "granary/granarylaw4.OrderWider", spec := "orderWider", inPlace := ["maps.clone"], recurses := true, plainKeys := false, apart := false, narrowed := true }
def OrderWiderUptoSaid : Prop := orderWiderUptoRow.holds Try.pinned (OpenSpec.upto orderWiderSpec)

end Rows
end Go.Proofs.Ytlcjikeolfebnaa
