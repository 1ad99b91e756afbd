/-
  No cell of these rows narrows 'for every input' (looked for: loops, veiled, ifaces, maps, wideKeys, modest, calm, conditions, laid).
  DERIVED. THE GIVEN ROWS OF THIS SEAT. 2 by the template 'for every input the law returns true; each argument reads behind the call as it read before'; 0 by the template 'total and deterministic' (their statements: YtnjcmhpifdaheaaTotals.lean).
  GIVEN WITH THE SEED: the statements are not yours to turn. If you find one false, say at which input.
  Laid BY PROGRAM, IN A SANDBOX (cutbox-rows.mjs): the forced cells as the released guide's own fill.sh prints them over the translation 6f1aace74f1b8c27… (all of the seat's roots in one cut). By AI agents, Wed Nov 11 2026. No macro, syntax, notation, axiom, sorry.
-/
import Derived.Test.YtnjcmhpifdaheaaChecked
import GoSem.Claim
import GoSem.ClaimJoined
import GoSem.ClaimMapViews
import Derived.JoinedTies
import Derived.KernelRfl
namespace Go.Proofs.Ytnjcmhpifdaheaa
/- THE CELL 'sum', in the pinned program and in every row, IS THE sha256 OF THE DUMP (.gsa) THAT YtnjcmhpifdaheaaProg.lean LOADS. Nothing in Lean hashes anything: it is a label: what it is worth is what the hold of that sum in a sandbox is worth. -/
noncomputable def Try.pinned : Pinned := { name := "ytnjcmhpifdaheaa", sum := "6f1aace74f1b8c2720090ec26597241bc126027896d18d17511a4f7bacab43ae", checked := Try.checked }
namespace Rows
def none {H : Type} : Left H := { results := [], args := [] }

/-- 'granarylaw4.OrderSerial': WHATEVER THE INPUT: true; the input reads as it did. -/
def orderSerialSpec : ChangeSpec := { name := "orderSerial", fn := fun _ => fun
  | [d1, d2, d3] => { results := [.lit (.bool true)], args := [d1, d2, d3] }
  | _ => none }
def orderSerialRow : OpenClaim := { program := "ytnjcmhpifdaheaa", sum := "6f1aace74f1b8c2720090ec26597241bc126027896d18d17511a4f7bacab43ae", func := "granary/granarylaw4.OrderSerial", spec := "orderSerial", inPlace := ["maps.clone"], recurses := true, plainKeys := false, apart := false }
def OrderSerialSaid : Prop := orderSerialRow.holds Try.pinned (OpenSpec.ofChange orderSerialSpec)

/-- ITS FALSE NEIGHBOUR: 'it returns false'. Refute it at one input. -/
def orderSerialWrong : ChangeSpec := { name := "orderSerial", fn := fun _ => fun
  | [d1, d2, d3] => { results := [.lit (.bool false)], args := [d1, d2, d3] }
  | _ => none }
def OrderSerialWrongFalsely : Prop := orderSerialRow.holds Try.pinned (OpenSpec.ofChange orderSerialWrong)

/-- 'granarylaw4.OrderWider': WHATEVER THE INPUT: true; the input reads as it did. -/
def orderWiderSpec : ChangeSpec := { name := "orderWider", fn := fun _ => fun
  | [d1, d2, d3] => { results := [.lit (.bool true)], args := [d1, d2, d3] }
  | _ => none }
def orderWiderRow : OpenClaim := { program := "ytnjcmhpifdaheaa", sum := "6f1aace74f1b8c2720090ec26597241bc126027896d18d17511a4f7bacab43ae", func := "granary/granarylaw4.OrderWider", spec := "orderWider", inPlace := ["maps.clone"], recurses := true, plainKeys := false, apart := false }
def OrderWiderSaid : Prop := orderWiderRow.holds Try.pinned (OpenSpec.ofChange orderWiderSpec)

/-- ITS FALSE NEIGHBOUR: 'it returns false'. Refute it at one input. -/
def orderWiderWrong : ChangeSpec := { name := "orderWider", fn := fun _ => fun
  | [d1, d2, d3] => { results := [.lit (.bool false)], args := [d1, d2, d3] }
  | _ => none }
def OrderWiderWrongFalsely : Prop := orderWiderRow.holds Try.pinned (OpenSpec.ofChange orderWiderWrong)

/- THE SECOND FORM. 'bulk': how many values and letters a reading holds, each counted each time it is reached (what is shared counts as often as it is met; a slice's spare places count too). A statement '..UptoSaid' is the law's where the arguments, and the package variables that the reading takes, are together of bulk at most 1048576: NARROWER than '..Said'. Prove '..Said' where nothing that the law and all that it calls make is longer than what came in: it says more and counts as full. Else prove '..UptoSaid'. A law counts once. -/
mutual
def uptoBulk {H : Type} : DataW H → Nat
  | .lit (.string bytes) => bytes.length + 1
  | .lit _ => 1
  | .nil => 1
  | .ptr d => uptoBulk d + 1
  | .slice elems spare => uptoBulkAll elems + uptoBulkAll spare + 1
  | .agg parts => uptoBulkAll parts + 1
  | .iface _ d => uptoBulk d + 1
  | .map entries => uptoBulkEntries entries + 1
  | .held _ => 1
def uptoBulkAll {H : Type} : List (DataW H) → Nat
  | [] => 0
  | d :: r => uptoBulk d + uptoBulkAll r
def uptoBulkEntries {H : Type} : List (Lit × DataW H) → Nat
  | [] => 0
  | x :: r => uptoBulkEntry x + uptoBulkEntries r
def uptoBulkEntry {H : Type} : Lit × DataW H → Nat
  | (.string bytes, d) => bytes.length + uptoBulk d + 1
  | (_, d) => uptoBulk d + 1
 end
def uptoSmall : (H : Type) → List (DataW H) → Bool := fun _ ds => decide (uptoBulkAll ds ≤ 1048576)
def OpenSpec.upto (s : _root_.Go.ChangeSpec) : _root_.Go.OpenSpec := { _root_.Go.OpenSpec.ofChange s with cond := some uptoSmall }

/-- 'granarylaw4.OrderSerial', WHERE WHAT IT READS IS OF BULK AT MOST 1048576: true; the input reads as it did. -/
def orderSerialUptoRow : OpenClaim := { program := "ytnjcmhpifdaheaa", sum := "6f1aace74f1b8c2720090ec26597241bc126027896d18d17511a4f7bacab43ae", func := "granary/granarylaw4.OrderSerial", spec := "orderSerial", inPlace := ["maps.clone"], recurses := true, plainKeys := false, apart := false, narrowed := true }
def OrderSerialUptoSaid : Prop := orderSerialUptoRow.holds Try.pinned (OpenSpec.upto orderSerialSpec)

/-- 'granarylaw4.OrderWider', WHERE WHAT IT READS IS OF BULK AT MOST 1048576: true; the input reads as it did. -/
def orderWiderUptoRow : OpenClaim := { program := "ytnjcmhpifdaheaa", sum := "6f1aace74f1b8c2720090ec26597241bc126027896d18d17511a4f7bacab43ae", func := "granary/granarylaw4.OrderWider", spec := "orderWider", inPlace := ["maps.clone"], recurses := true, plainKeys := false, apart := false, narrowed := true }
def OrderWiderUptoSaid : Prop := orderWiderUptoRow.holds Try.pinned (OpenSpec.upto orderWiderSpec)

end Rows
end Go.Proofs.Ytnjcmhpifdaheaa
