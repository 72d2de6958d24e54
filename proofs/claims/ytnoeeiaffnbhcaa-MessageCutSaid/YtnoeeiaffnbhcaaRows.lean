/-
  No cell of these rows narrows 'for every input' (looked for: loops, veiled, ifaces, maps, wideKeys, modest, calm, conditions, laid).
  DERIVED. THE GIVEN ROWS OF THIS SEAT. 7 by the template 'for every input the law returns true; each argument reads behind the call as it read before'; 0 by the template 'total and deterministic' (their statements: YtnoeeiaffnbhcaaTotals.lean).
  GIVEN WITH THE SEED: the statements are not yours to turn. If you find one false, say at which input.
  Laid BY PROGRAM, IN A SANDBOX (cutbox-rows.mjs): the forced cells as the released guide's own fill.sh prints them over the translation a75cebf00eade5bc… (all of the seat's roots in one cut). By AI agents, Wed Nov 11 2026. No macro, syntax, notation, axiom, sorry.
-/
import Derived.Test.YtnoeeiaffnbhcaaChecked
import GoSem.Claim
import GoSem.ClaimJoined
import GoSem.ClaimMapViews
import Derived.JoinedTies
import Derived.KernelRfl
namespace Go.Proofs.Ytnoeeiaffnbhcaa
/- THE CELL 'sum', in the pinned program and in every row, IS THE sha256 OF THE DUMP (.gsa) THAT YtnoeeiaffnbhcaaProg.lean LOADS. Nothing in Lean hashes anything: it is a label: what it is worth is what the hold of that sum in a sandbox is worth. -/
noncomputable def Try.pinned : Pinned := { name := "ytnoeeiaffnbhcaa", sum := "a75cebf00eade5bc7d0e681b97ff820e12ee5e7da785de32b908cd62e29911ef", checked := Try.checked }
namespace Rows
def none {H : Type} : Left H := { results := [], args := [] }

/-- 'lodestarlaw06.MessagePuts': WHATEVER THE INPUT: true; the input reads as it did. -/
def messagePutsSpec : ChangeSpec := { name := "messagePuts", fn := fun _ => fun
  | [d] => { results := [.lit (.bool true)], args := [d] }
  | _ => none }
def messagePutsRow : OpenClaim := { program := "ytnoeeiaffnbhcaa", sum := "a75cebf00eade5bc7d0e681b97ff820e12ee5e7da785de32b908cd62e29911ef", func := "lodestar/lodestarlaw06.MessagePuts", spec := "messagePuts", unfollowed := true, recurses := true, apart := false }
def MessagePutsSaid : Prop := messagePutsRow.holds Try.pinned (OpenSpec.ofChange messagePutsSpec)

/-- ITS FALSE NEIGHBOUR: 'it returns false'. Refute it at one input. -/
def messagePutsWrong : ChangeSpec := { name := "messagePuts", fn := fun _ => fun
  | [d] => { results := [.lit (.bool false)], args := [d] }
  | _ => none }
def MessagePutsWrongFalsely : Prop := messagePutsRow.holds Try.pinned (OpenSpec.ofChange messagePutsWrong)

/-- 'lodestarlaw06.MessageGets': WHATEVER THE INPUT: true; the input reads as it did. -/
def messageGetsSpec : ChangeSpec := { name := "messageGets", fn := fun _ => fun
  | [d1, d2] => { results := [.lit (.bool true)], args := [d1, d2] }
  | _ => none }
def messageGetsRow : OpenClaim := { program := "ytnoeeiaffnbhcaa", sum := "a75cebf00eade5bc7d0e681b97ff820e12ee5e7da785de32b908cd62e29911ef", func := "lodestar/lodestarlaw06.MessageGets", spec := "messageGets", unfollowed := true, recurses := true, apart := false }
def MessageGetsSaid : Prop := messageGetsRow.holds Try.pinned (OpenSpec.ofChange messageGetsSpec)

/-- ITS FALSE NEIGHBOUR: 'it returns false'. Refute it at one input. -/
def messageGetsWrong : ChangeSpec := { name := "messageGets", fn := fun _ => fun
  | [d1, d2] => { results := [.lit (.bool false)], args := [d1, d2] }
  | _ => none }
def MessageGetsWrongFalsely : Prop := messageGetsRow.holds Try.pinned (OpenSpec.ofChange messageGetsWrong)

/-- 'lodestarlaw06.MessageCut': WHATEVER THE INPUT: true; the input reads as it did. -/
def messageCutSpec : ChangeSpec := { name := "messageCut", fn := fun _ => fun
  | [d1, d2, d3] => { results := [.lit (.bool true)], args := [d1, d2, d3] }
  | _ => none }
def messageCutRow : OpenClaim := { program := "ytnoeeiaffnbhcaa", sum := "a75cebf00eade5bc7d0e681b97ff820e12ee5e7da785de32b908cd62e29911ef", func := "lodestar/lodestarlaw06.MessageCut", spec := "messageCut", unfollowed := true, recurses := true, apart := false }
def MessageCutSaid : Prop := messageCutRow.holds Try.pinned (OpenSpec.ofChange messageCutSpec)

/-- ITS FALSE NEIGHBOUR: 'it returns false'. Refute it at one input. -/
def messageCutWrong : ChangeSpec := { name := "messageCut", fn := fun _ => fun
  | [d1, d2, d3] => { results := [.lit (.bool false)], args := [d1, d2, d3] }
  | _ => none }
def MessageCutWrongFalsely : Prop := messageCutRow.holds Try.pinned (OpenSpec.ofChange messageCutWrong)

/-- 'lodestarlaw06.MessageKinds': WHATEVER THE INPUT: true; the input reads as it did. -/
def messageKindsSpec : ChangeSpec := { name := "messageKinds", fn := fun _ => fun
  | [d1, d2] => { results := [.lit (.bool true)], args := [d1, d2] }
  | _ => none }
def messageKindsRow : OpenClaim := { program := "ytnoeeiaffnbhcaa", sum := "a75cebf00eade5bc7d0e681b97ff820e12ee5e7da785de32b908cd62e29911ef", func := "lodestar/lodestarlaw06.MessageKinds", spec := "messageKinds", unfollowed := true, recurses := true, apart := false }
def MessageKindsSaid : Prop := messageKindsRow.holds Try.pinned (OpenSpec.ofChange messageKindsSpec)

/-- ITS FALSE NEIGHBOUR: 'it returns false'. Refute it at one input. -/
def messageKindsWrong : ChangeSpec := { name := "messageKinds", fn := fun _ => fun
  | [d1, d2] => { results := [.lit (.bool false)], args := [d1, d2] }
  | _ => none }
def MessageKindsWrongFalsely : Prop := messageKindsRow.holds Try.pinned (OpenSpec.ofChange messageKindsWrong)

/-- 'lodestarlaw06.MessageFields': WHATEVER THE INPUT: true; the input reads as it did. -/
def messageFieldsSpec : ChangeSpec := { name := "messageFields", fn := fun _ => fun
  | [d1, d2] => { results := [.lit (.bool true)], args := [d1, d2] }
  | _ => none }
def messageFieldsRow : OpenClaim := { program := "ytnoeeiaffnbhcaa", sum := "a75cebf00eade5bc7d0e681b97ff820e12ee5e7da785de32b908cd62e29911ef", func := "lodestar/lodestarlaw06.MessageFields", spec := "messageFields", unfollowed := true, recurses := true, apart := false }
def MessageFieldsSaid : Prop := messageFieldsRow.holds Try.pinned (OpenSpec.ofChange messageFieldsSpec)

/-- ITS FALSE NEIGHBOUR: 'it returns false'. Refute it at one input. -/
def messageFieldsWrong : ChangeSpec := { name := "messageFields", fn := fun _ => fun
  | [d1, d2] => { results := [.lit (.bool false)], args := [d1, d2] }
  | _ => none }
def MessageFieldsWrongFalsely : Prop := messageFieldsRow.holds Try.pinned (OpenSpec.ofChange messageFieldsWrong)

/-- 'lodestarlaw06.MessageOwn': WHATEVER THE INPUT: true; the input reads as it did. -/
def messageOwnSpec : ChangeSpec := { name := "messageOwn", fn := fun _ => fun
  | [d] => { results := [.lit (.bool true)], args := [d] }
  | _ => none }
def messageOwnRow : OpenClaim := { program := "ytnoeeiaffnbhcaa", sum := "a75cebf00eade5bc7d0e681b97ff820e12ee5e7da785de32b908cd62e29911ef", func := "lodestar/lodestarlaw06.MessageOwn", spec := "messageOwn", unfollowed := true, recurses := true, apart := false }
def MessageOwnSaid : Prop := messageOwnRow.holds Try.pinned (OpenSpec.ofChange messageOwnSpec)

/-- ITS FALSE NEIGHBOUR: 'it returns false'. Refute it at one input. -/
def messageOwnWrong : ChangeSpec := { name := "messageOwn", fn := fun _ => fun
  | [d] => { results := [.lit (.bool false)], args := [d] }
  | _ => none }
def MessageOwnWrongFalsely : Prop := messageOwnRow.holds Try.pinned (OpenSpec.ofChange messageOwnWrong)

/-- 'lodestarlaw06.MessageChanges': WHATEVER THE INPUT: true; the input reads as it did. -/
def messageChangesSpec : ChangeSpec := { name := "messageChanges", fn := fun _ => fun
  | [d1, d2] => { results := [.lit (.bool true)], args := [d1, d2] }
  | _ => none }
def messageChangesRow : OpenClaim := { program := "ytnoeeiaffnbhcaa", sum := "a75cebf00eade5bc7d0e681b97ff820e12ee5e7da785de32b908cd62e29911ef", func := "lodestar/lodestarlaw06.MessageChanges", spec := "messageChanges", unfollowed := true, recurses := true, apart := false }
def MessageChangesSaid : Prop := messageChangesRow.holds Try.pinned (OpenSpec.ofChange messageChangesSpec)

/-- ITS FALSE NEIGHBOUR: 'it returns false'. Refute it at one input. -/
def messageChangesWrong : ChangeSpec := { name := "messageChanges", fn := fun _ => fun
  | [d1, d2] => { results := [.lit (.bool false)], args := [d1, d2] }
  | _ => none }
def MessageChangesWrongFalsely : Prop := messageChangesRow.holds Try.pinned (OpenSpec.ofChange messageChangesWrong)

/- THE SECOND FORM. 'bulk': how many values and letters a reading holds, each counted each time it is reached (what is shared counts as often as it is met; a slice's spare places count too). A statement '..UptoSaid' is the law's where the arguments, and the package variables that the reading takes, are together of bulk at most 1048576: NARROWER than '..Said'. Prove '..Said' where nothing that the law and all that it calls make is longer than what came in: it says more and counts as full. Else prove '..UptoSaid'. A law counts once. -/
mutual
def uptoBulk {H : Type} : DataW H → Nat
  | .lit (.string bytes) => bytes.length + 1
  | .lit _ => 1
  | .nil => 1
  | .ptr d => uptoBulk d + 1
  | .slice elems spare => uptoBulkAll elems + uptoBulkAll spare + 1
  | .agg parts => uptoBulkAll parts + 1
  | .iface _ d => uptoBulk d + 1
  | .map entries => uptoBulkEntries entries + 1
  | .held _ => 1
def uptoBulkAll {H : Type} : List (DataW H) → Nat
  | [] => 0
  | d :: r => uptoBulk d + uptoBulkAll r
def uptoBulkEntries {H : Type} : List (Lit × DataW H) → Nat
  | [] => 0
  | x :: r => uptoBulkEntry x + uptoBulkEntries r
def uptoBulkEntry {H : Type} : Lit × DataW H → Nat
  | (.string bytes, d) => bytes.length + uptoBulk d + 1
  | (_, d) => uptoBulk d + 1
 end
def uptoSmall : (H : Type) → List (DataW H) → Bool := fun _ ds => decide (uptoBulkAll ds ≤ 1048576)
def OpenSpec.upto (s : _root_.Go.ChangeSpec) : _root_.Go.OpenSpec := { _root_.Go.OpenSpec.ofChange s with cond := some uptoSmall }

/-- 'lodestarlaw06.MessagePuts', WHERE WHAT IT READS IS OF BULK AT MOST 1048576: true; the input reads as it did. -/
def messagePutsUptoRow : OpenClaim := { program := "ytnoeeiaffnbhcaa", sum := "a75cebf00eade5bc7d0e681b97ff820e12ee5e7da785de32b908cd62e29911ef", func := "lodestar/lodestarlaw06.MessagePuts", spec := "messagePuts", unfollowed := true, recurses := true, apart := false, narrowed := true }
def MessagePutsUptoSaid : Prop := messagePutsUptoRow.holds Try.pinned (OpenSpec.upto messagePutsSpec)

/-- 'lodestarlaw06.MessageGets', WHERE WHAT IT READS IS OF BULK AT MOST 1048576: true; the input reads as it did. -/
def messageGetsUptoRow : OpenClaim := { program := "ytnoeeiaffnbhcaa", sum := "a75cebf00eade5bc7d0e681b97ff820e12ee5e7da785de32b908cd62e29911ef", func := "lodestar/lodestarlaw06.MessageGets", spec := "messageGets", unfollowed := true, recurses := true, apart := false, narrowed := true }
def MessageGetsUptoSaid : Prop := messageGetsUptoRow.holds Try.pinned (OpenSpec.upto messageGetsSpec)

/-- 'lodestarlaw06.MessageCut', WHERE WHAT IT READS IS OF BULK AT MOST 1048576: true; the input reads as it did. -/
def messageCutUptoRow : OpenClaim := { program := "ytnoeeiaffnbhcaa", sum := "a75cebf00eade5bc7d0e681b97ff820e12ee5e7da785de32b908cd62e29911ef", func := "lodestar/lodestarlaw06.MessageCut", spec := "messageCut", unfollowed := true, recurses := true, apart := false, narrowed := true }
def MessageCutUptoSaid : Prop := messageCutUptoRow.holds Try.pinned (OpenSpec.upto messageCutSpec)

/-- 'lodestarlaw06.MessageKinds', WHERE WHAT IT READS IS OF BULK AT MOST 1048576: true; the input reads as it did. -/
def messageKindsUptoRow : OpenClaim := { program := "ytnoeeiaffnbhcaa", sum := "a75cebf00eade5bc7d0e681b97ff820e12ee5e7da785de32b908cd62e29911ef", func := "lodestar/lodestarlaw06.MessageKinds", spec := "messageKinds", unfollowed := true, recurses := true, apart := false, narrowed := true }
def MessageKindsUptoSaid : Prop := messageKindsUptoRow.holds Try.pinned (OpenSpec.upto messageKindsSpec)

/-- 'lodestarlaw06.MessageFields', WHERE WHAT IT READS IS OF BULK AT MOST 1048576: true; the input reads as it did. -/
def messageFieldsUptoRow : OpenClaim := { program := "ytnoeeiaffnbhcaa", sum := "a75cebf00eade5bc7d0e681b97ff820e12ee5e7da785de32b908cd62e29911ef", func := "lodestar/lodestarlaw06.MessageFields", spec := "messageFields", unfollowed := true, recurses := true, apart := false, narrowed := true }
def MessageFieldsUptoSaid : Prop := messageFieldsUptoRow.holds Try.pinned (OpenSpec.upto messageFieldsSpec)

/-- 'lodestarlaw06.MessageOwn', WHERE WHAT IT READS IS OF BULK AT MOST 1048576: true; the input reads as it did. -/
def messageOwnUptoRow : OpenClaim := { program := "ytnoeeiaffnbhcaa", sum := "a75cebf00eade5bc7d0e681b97ff820e12ee5e7da785de32b908cd62e29911ef", func := "lodestar/lodestarlaw06.MessageOwn", spec := "messageOwn", unfollowed := true, recurses := true, apart := false, narrowed := true }
def MessageOwnUptoSaid : Prop := messageOwnUptoRow.holds Try.pinned (OpenSpec.upto messageOwnSpec)

/-- 'lodestarlaw06.MessageChanges', WHERE WHAT IT READS IS OF BULK AT MOST 1048576: true; the input reads as it did. -/
def messageChangesUptoRow : OpenClaim := { program := "ytnoeeiaffnbhcaa", sum := "a75cebf00eade5bc7d0e681b97ff820e12ee5e7da785de32b908cd62e29911ef", func := "lodestar/lodestarlaw06.MessageChanges", spec := "messageChanges", unfollowed := true, recurses := true, apart := false, narrowed := true }
def MessageChangesUptoSaid : Prop := messageChangesUptoRow.holds Try.pinned (OpenSpec.upto messageChangesSpec)

end Rows
end Go.Proofs.Ytnoeeiaffnbhcaa
