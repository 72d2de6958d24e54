/-
  No cell of these rows narrows 'for every input' (looked for: loops, veiled, ifaces, maps, wideKeys, modest, calm, conditions, laid).
  DERIVED. THE GIVEN ROWS OF THIS SEAT. 5 by the template 'for every input the law returns true; each argument reads behind the call as it read before'; 0 by the template 'total and deterministic' (their statements: YtdnlnaeonhbfiaaTotals.lean).
  GIVEN WITH THE SEED: the statements are not yours to turn. If you find one false, say at which input.
  Laid BY PROGRAM, IN A SANDBOX (cutbox-rows.mjs): the forced cells as the released guide's own fill.sh prints them over the translation 8418a875e7b4afa8… (all of the seat's roots in one cut). By AI agents, Wed Nov 11 2026. No macro, syntax, notation, axiom, sorry.
-/
import Derived.Test.YtdnlnaeonhbfiaaChecked
import GoSem.Claim
import GoSem.ClaimJoined
import GoSem.ClaimMapViews
import Derived.JoinedTies
import Derived.KernelRfl
namespace Go.Proofs.Ytdnlnaeonhbfiaa
/- THE CELL 'sum', in the pinned program and in every row, IS THE sha256 OF THE DUMP (.gsa) THAT YtdnlnaeonhbfiaaProg.lean LOADS. Nothing in Lean hashes anything: it is a label: what it is worth is what the hold of that sum in a sandbox is worth. -/
noncomputable def Try.pinned : Pinned := { name := "ytdnlnaeonhbfiaa", sum := "8418a875e7b4afa889df3cad39cb32e0e3b2e55f9c84181cca7baad79e6e90ca", checked := Try.checked }
namespace Rows
def none {H : Type} : Left H := { results := [], args := [] }

/-- 'lodestarlaw13.StageRoom': WHATEVER THE INPUT: true; the input reads as it did. -/
def stageRoomSpec : ChangeSpec := { name := "stageRoom", fn := fun _ => fun
  | [d] => { results := [.lit (.bool true)], args := [d] }
  | _ => none }
def stageRoomRow : OpenClaim := { program := "ytdnlnaeonhbfiaa", sum := "8418a875e7b4afa889df3cad39cb32e0e3b2e55f9c84181cca7baad79e6e90ca", func := "lodestar/lodestarlaw13.StageRoom", spec := "stageRoom", unfollowed := true, recurses := true, apart := false }
def StageRoomSaid : Prop := stageRoomRow.holds Try.pinned (OpenSpec.ofChange stageRoomSpec)

/-- ITS FALSE NEIGHBOUR: 'it returns false'. Refute it at one input. -/
def stageRoomWrong : ChangeSpec := { name := "stageRoom", fn := fun _ => fun
  | [d] => { results := [.lit (.bool false)], args := [d] }
  | _ => none }
def StageRoomWrongFalsely : Prop := stageRoomRow.holds Try.pinned (OpenSpec.ofChange stageRoomWrong)

/-- 'lodestarlaw13.StageNew': WHATEVER THE INPUT: true; the input reads as it did. -/
def stageNewSpec : ChangeSpec := { name := "stageNew", fn := fun _ => fun
  | [d] => { results := [.lit (.bool true)], args := [d] }
  | _ => none }
def stageNewRow : OpenClaim := { program := "ytdnlnaeonhbfiaa", sum := "8418a875e7b4afa889df3cad39cb32e0e3b2e55f9c84181cca7baad79e6e90ca", func := "lodestar/lodestarlaw13.StageNew", spec := "stageNew", unfollowed := true, recurses := true, apart := false }
def StageNewSaid : Prop := stageNewRow.holds Try.pinned (OpenSpec.ofChange stageNewSpec)

/-- ITS FALSE NEIGHBOUR: 'it returns false'. Refute it at one input. -/
def stageNewWrong : ChangeSpec := { name := "stageNew", fn := fun _ => fun
  | [d] => { results := [.lit (.bool false)], args := [d] }
  | _ => none }
def StageNewWrongFalsely : Prop := stageNewRow.holds Try.pinned (OpenSpec.ofChange stageNewWrong)

/-- 'lodestarlaw13.StagePlays': WHATEVER THE INPUT: true; the input reads as it did. -/
def stagePlaysSpec : ChangeSpec := { name := "stagePlays", fn := fun _ => fun
  | [d] => { results := [.lit (.bool true)], args := [d] }
  | _ => none }
def stagePlaysRow : OpenClaim := { program := "ytdnlnaeonhbfiaa", sum := "8418a875e7b4afa889df3cad39cb32e0e3b2e55f9c84181cca7baad79e6e90ca", func := "lodestar/lodestarlaw13.StagePlays", spec := "stagePlays", unfollowed := true, recurses := true, apart := false }
def StagePlaysSaid : Prop := stagePlaysRow.holds Try.pinned (OpenSpec.ofChange stagePlaysSpec)

/-- ITS FALSE NEIGHBOUR: 'it returns false'. Refute it at one input. -/
def stagePlaysWrong : ChangeSpec := { name := "stagePlays", fn := fun _ => fun
  | [d] => { results := [.lit (.bool false)], args := [d] }
  | _ => none }
def StagePlaysWrongFalsely : Prop := stagePlaysRow.holds Try.pinned (OpenSpec.ofChange stagePlaysWrong)

/-- 'lodestarlaw13.StageApart': WHATEVER THE INPUT: true; the input reads as it did. -/
def stageApartSpec : ChangeSpec := { name := "stageApart", fn := fun _ => fun
  | [d1, d2, d3, d4, d5] => { results := [.lit (.bool true)], args := [d1, d2, d3, d4, d5] }
  | _ => none }
def stageApartRow : OpenClaim := { program := "ytdnlnaeonhbfiaa", sum := "8418a875e7b4afa889df3cad39cb32e0e3b2e55f9c84181cca7baad79e6e90ca", func := "lodestar/lodestarlaw13.StageApart", spec := "stageApart", unfollowed := true, recurses := true, apart := false }
def StageApartSaid : Prop := stageApartRow.holds Try.pinned (OpenSpec.ofChange stageApartSpec)

/-- ITS FALSE NEIGHBOUR: 'it returns false'. Refute it at one input. -/
def stageApartWrong : ChangeSpec := { name := "stageApart", fn := fun _ => fun
  | [d1, d2, d3, d4, d5] => { results := [.lit (.bool false)], args := [d1, d2, d3, d4, d5] }
  | _ => none }
def StageApartWrongFalsely : Prop := stageApartRow.holds Try.pinned (OpenSpec.ofChange stageApartWrong)

/-- 'lodestarlaw13.StageBack': WHATEVER THE INPUT: true; the input reads as it did. -/
def stageBackSpec : ChangeSpec := { name := "stageBack", fn := fun _ => fun
  | [d1, d2, d3] => { results := [.lit (.bool true)], args := [d1, d2, d3] }
  | _ => none }
def stageBackRow : OpenClaim := { program := "ytdnlnaeonhbfiaa", sum := "8418a875e7b4afa889df3cad39cb32e0e3b2e55f9c84181cca7baad79e6e90ca", func := "lodestar/lodestarlaw13.StageBack", spec := "stageBack", unfollowed := true, recurses := true, apart := false }
def StageBackSaid : Prop := stageBackRow.holds Try.pinned (OpenSpec.ofChange stageBackSpec)

/-- ITS FALSE NEIGHBOUR: 'it returns false'. Refute it at one input. -/
def stageBackWrong : ChangeSpec := { name := "stageBack", fn := fun _ => fun
  | [d1, d2, d3] => { results := [.lit (.bool false)], args := [d1, d2, d3] }
  | _ => none }
def StageBackWrongFalsely : Prop := stageBackRow.holds Try.pinned (OpenSpec.ofChange stageBackWrong)

/- THE SECOND FORM. 'bulk': how many values and letters a reading holds, each counted each time it is reached (what is shared counts as often as it is met; a slice's spare places count too). A statement '..UptoSaid' is the law's where the arguments, and the package variables that the reading takes, are together of bulk at most 1048576: NARROWER than '..Said'. Prove '..Said' where nothing that the law and all that it calls make is longer than what came in: it says more and counts as full. Else prove '..UptoSaid'. A law counts once. -/
mutual
def uptoBulk {H : Type} : DataW H → Nat
  | .lit (.string bytes) => bytes.length + 1
  | .lit _ => 1
  | .nil => 1
  | .ptr d => uptoBulk d + 1
  | .slice elems spare => uptoBulkAll elems + uptoBulkAll spare + 1
  | .agg parts => uptoBulkAll parts + 1
  | .iface _ d => uptoBulk d + 1
  | .map entries => uptoBulkEntries entries + 1
  | .held _ => 1
def uptoBulkAll {H : Type} : List (DataW H) → Nat
  | [] => 0
  | d :: r => uptoBulk d + uptoBulkAll r
def uptoBulkEntries {H : Type} : List (Lit × DataW H) → Nat
  | [] => 0
  | x :: r => uptoBulkEntry x + uptoBulkEntries r
def uptoBulkEntry {H : Type} : Lit × DataW H → Nat
  | (.string bytes, d) => bytes.length + uptoBulk d + 1
  | (_, d) => uptoBulk d + 1
 end
def uptoSmall : (H : Type) → List (DataW H) → Bool := fun _ ds => decide (uptoBulkAll ds ≤ 1048576)
def OpenSpec.upto (s : _root_.Go.ChangeSpec) : _root_.Go.OpenSpec := { _root_.Go.OpenSpec.ofChange s with cond := some uptoSmall }

/-- 'lodestarlaw13.StageRoom', WHERE WHAT IT READS IS OF BULK AT MOST 1048576: true; the input reads as it did. -/
def stageRoomUptoRow : OpenClaim := { program := "ytdnlnaeonhbfiaa", sum := "8418a875e7b4afa889df3cad39cb32e0e3b2e55f9c84181cca7baad79e6e90ca", func := "lodestar/lodestarlaw13.StageRoom", spec := "stageRoom", unfollowed := true, recurses := true, apart := false, narrowed := true }
def StageRoomUptoSaid : Prop := stageRoomUptoRow.holds Try.pinned (OpenSpec.upto stageRoomSpec)

/-- 'lodestarlaw13.StageNew', WHERE WHAT IT READS IS OF BULK AT MOST 1048576: true; the input reads as it did. -/
def stageNewUptoRow : OpenClaim := { program := "ytdnlnaeonhbfiaa", sum := "8418a875e7b4afa889df3cad39cb32e0e3b2e55f9c84181cca7baad79e6e90ca", func := "lodestar/lodestarlaw13.StageNew", spec := "stageNew", unfollowed := true, recurses := true, apart := false, narrowed := true }
def StageNewUptoSaid : Prop := stageNewUptoRow.holds Try.pinned (OpenSpec.upto stageNewSpec)

/-- 'lodestarlaw13.StagePlays', WHERE WHAT IT READS IS OF BULK AT MOST 1048576: true; the input reads as it did. -/
def stagePlaysUptoRow : OpenClaim := { program := "ytdnlnaeonhbfiaa", sum := "8418a875e7b4afa889df3cad39cb32e0e3b2e55f9c84181cca7baad79e6e90ca", func := "lodestar/lodestarlaw13.StagePlays", spec := "stagePlays", unfollowed := true, recurses := true, apart := false, narrowed := true }
def StagePlaysUptoSaid : Prop := stagePlaysUptoRow.holds Try.pinned (OpenSpec.upto stagePlaysSpec)

/-- 'lodestarlaw13.StageApart', WHERE WHAT IT READS IS OF BULK AT MOST 1048576: true; the input reads as it did. -/
def stageApartUptoRow : OpenClaim := { program := "ytdnlnaeonhbfiaa", sum := "8418a875e7b4afa889df3cad39cb32e0e3b2e55f9c84181cca7baad79e6e90ca", func := "lodestar/lodestarlaw13.StageApart", spec := "stageApart", unfollowed := true, recurses := true, apart := false, narrowed := true }
def StageApartUptoSaid : Prop := stageApartUptoRow.holds Try.pinned (OpenSpec.upto stageApartSpec)

/-- 'lodestarlaw13.StageBack', WHERE WHAT IT READS IS OF BULK AT MOST 1048576: true; the input reads as it did. -/
def stageBackUptoRow : OpenClaim := { program := "ytdnlnaeonhbfiaa", sum := "8418a875e7b4afa889df3cad39cb32e0e3b2e55f9c84181cca7baad79e6e90ca", func := "lodestar/lodestarlaw13.StageBack", spec := "stageBack", unfollowed := true, recurses := true, apart := false, narrowed := true }
def StageBackUptoSaid : Prop := stageBackUptoRow.holds Try.pinned (OpenSpec.upto stageBackSpec)

end Rows
end Go.Proofs.Ytdnlnaeonhbfiaa
