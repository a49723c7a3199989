/-
  No cell of these rows narrows 'for every input' (looked for: loops, veiled, ifaces, maps, wideKeys, modest, calm, conditions, laid).
  DERIVED. THE GIVEN ROWS OF THIS SEAT. 13 by the template 'for every input the law returns true; each argument reads behind the call as it read before'; 0 by the template 'total and deterministic' (their statements: YtplhfbkejngioaaTotals.lean).
  GIVEN WITH THE SEED: the statements are not yours to turn. If you find one false, say at which input.
  Laid BY PROGRAM, IN A SANDBOX (cutbox-rows.mjs): the forced cells as the released guide's own fill.sh prints them over the translation 0db1787a84dd2467… (all of the seat's roots in one cut). By AI agents, Wed Nov 11 2026. No macro, syntax, notation, axiom, sorry.
-/
import Derived.Test.YtplhfbkejngioaaChecked
import GoSem.Claim
import GoSem.ClaimJoined
import GoSem.ClaimMapViews
import Derived.JoinedTies
import Derived.KernelRfl
namespace Go.Proofs.Ytplhfbkejngioaa
/- THE CELL 'sum', in the pinned program and in every row, IS THE sha256 OF THE DUMP (.gsa) THAT YtplhfbkejngioaaProg.lean LOADS. Nothing in Lean hashes anything: it is a label: what it is worth is what the hold of that sum in a sandbox is worth. -/
noncomputable def Try.pinned : Pinned := { name := "ytplhfbkejngioaa", sum := "0db1787a84dd2467e4fc08753319ff658c37c99f40e0b52f5487cb198c1869a5", checked := Try.checked }
namespace Rows
def none {H : Type} : Left H := { results := [], args := [] }

/-- 'tickinglaw01.CoverUnions': WHATEVER THE INPUT: true; the input reads as it did. -/
def coverUnionsSpec : ChangeSpec := { name := "coverUnions", fn := fun _ => fun
  | [d] => { results := [.lit (.bool true)], args := [d] }
  | _ => none }
def coverUnionsRow : OpenClaim := { program := "ytplhfbkejngioaa", sum := "0db1787a84dd2467e4fc08753319ff658c37c99f40e0b52f5487cb198c1869a5", func := "ticking/tickinglaw01.CoverUnions", spec := "coverUnions", unfollowed := true, recurses := true, apart := false }
def CoverUnionsSaid : Prop := coverUnionsRow.holds Try.pinned (OpenSpec.ofChange coverUnionsSpec)

/-- ITS FALSE NEIGHBOUR: 'it returns false'. Refute it at one input. -/
def coverUnionsWrong : ChangeSpec := { name := "coverUnions", fn := fun _ => fun
  | [d] => { results := [.lit (.bool false)], args := [d] }
  | _ => none }
def CoverUnionsWrongFalsely : Prop := coverUnionsRow.holds Try.pinned (OpenSpec.ofChange coverUnionsWrong)

/-- 'tickinglaw01.CoverMoves': WHATEVER THE INPUT: true; the input reads as it did. -/
def coverMovesSpec : ChangeSpec := { name := "coverMoves", fn := fun _ => fun
  | [d1, d2] => { results := [.lit (.bool true)], args := [d1, d2] }
  | _ => none }
def coverMovesRow : OpenClaim := { program := "ytplhfbkejngioaa", sum := "0db1787a84dd2467e4fc08753319ff658c37c99f40e0b52f5487cb198c1869a5", func := "ticking/tickinglaw01.CoverMoves", spec := "coverMoves", unfollowed := true, recurses := true, apart := false }
def CoverMovesSaid : Prop := coverMovesRow.holds Try.pinned (OpenSpec.ofChange coverMovesSpec)

/-- ITS FALSE NEIGHBOUR: 'it returns false'. Refute it at one input. -/
def coverMovesWrong : ChangeSpec := { name := "coverMoves", fn := fun _ => fun
  | [d1, d2] => { results := [.lit (.bool false)], args := [d1, d2] }
  | _ => none }
def CoverMovesWrongFalsely : Prop := coverMovesRow.holds Try.pinned (OpenSpec.ofChange coverMovesWrong)

/-- 'tickinglaw01.CoverSums': WHATEVER THE INPUT: true; the input reads as it did. -/
def coverSumsSpec : ChangeSpec := { name := "coverSums", fn := fun _ => fun
  | [d1, d2] => { results := [.lit (.bool true)], args := [d1, d2] }
  | _ => none }
def coverSumsRow : OpenClaim := { program := "ytplhfbkejngioaa", sum := "0db1787a84dd2467e4fc08753319ff658c37c99f40e0b52f5487cb198c1869a5", func := "ticking/tickinglaw01.CoverSums", spec := "coverSums", unfollowed := true, recurses := true, apart := false }
def CoverSumsSaid : Prop := coverSumsRow.holds Try.pinned (OpenSpec.ofChange coverSumsSpec)

/-- ITS FALSE NEIGHBOUR: 'it returns false'. Refute it at one input. -/
def coverSumsWrong : ChangeSpec := { name := "coverSums", fn := fun _ => fun
  | [d1, d2] => { results := [.lit (.bool false)], args := [d1, d2] }
  | _ => none }
def CoverSumsWrongFalsely : Prop := coverSumsRow.holds Try.pinned (OpenSpec.ofChange coverSumsWrong)

/-- 'tickinglaw01.CoverGrid': WHATEVER THE INPUT: true; the input reads as it did. -/
def coverGridSpec : ChangeSpec := { name := "coverGrid", fn := fun _ => fun
  | [d] => { results := [.lit (.bool true)], args := [d] }
  | _ => none }
def coverGridRow : OpenClaim := { program := "ytplhfbkejngioaa", sum := "0db1787a84dd2467e4fc08753319ff658c37c99f40e0b52f5487cb198c1869a5", func := "ticking/tickinglaw01.CoverGrid", spec := "coverGrid", unfollowed := true, recurses := true, apart := false }
def CoverGridSaid : Prop := coverGridRow.holds Try.pinned (OpenSpec.ofChange coverGridSpec)

/-- ITS FALSE NEIGHBOUR: 'it returns false'. Refute it at one input. -/
def coverGridWrong : ChangeSpec := { name := "coverGrid", fn := fun _ => fun
  | [d] => { results := [.lit (.bool false)], args := [d] }
  | _ => none }
def CoverGridWrongFalsely : Prop := coverGridRow.holds Try.pinned (OpenSpec.ofChange coverGridWrong)

/-- 'tickinglaw01.CoverSides': WHATEVER THE INPUT: true; the input reads as it did. -/
def coverSidesSpec : ChangeSpec := { name := "coverSides", fn := fun _ => fun
  | [d1, d2] => { results := [.lit (.bool true)], args := [d1, d2] }
  | _ => none }
def coverSidesRow : OpenClaim := { program := "ytplhfbkejngioaa", sum := "0db1787a84dd2467e4fc08753319ff658c37c99f40e0b52f5487cb198c1869a5", func := "ticking/tickinglaw01.CoverSides", spec := "coverSides", unfollowed := true, recurses := true, apart := false }
def CoverSidesSaid : Prop := coverSidesRow.holds Try.pinned (OpenSpec.ofChange coverSidesSpec)

/-- ITS FALSE NEIGHBOUR: 'it returns false'. Refute it at one input. -/
def coverSidesWrong : ChangeSpec := { name := "coverSides", fn := fun _ => fun
  | [d1, d2] => { results := [.lit (.bool false)], args := [d1, d2] }
  | _ => none }
def CoverSidesWrongFalsely : Prop := coverSidesRow.holds Try.pinned (OpenSpec.ofChange coverSidesWrong)

/-- 'tickinglaw01.CoverLeast': WHATEVER THE INPUT: true; the input reads as it did. -/
def coverLeastSpec : ChangeSpec := { name := "coverLeast", fn := fun _ => fun
  | [d1, d2, d3] => { results := [.lit (.bool true)], args := [d1, d2, d3] }
  | _ => none }
def coverLeastRow : OpenClaim := { program := "ytplhfbkejngioaa", sum := "0db1787a84dd2467e4fc08753319ff658c37c99f40e0b52f5487cb198c1869a5", func := "ticking/tickinglaw01.CoverLeast", spec := "coverLeast", unfollowed := true, recurses := true, apart := false }
def CoverLeastSaid : Prop := coverLeastRow.holds Try.pinned (OpenSpec.ofChange coverLeastSpec)

/-- ITS FALSE NEIGHBOUR: 'it returns false'. Refute it at one input. -/
def coverLeastWrong : ChangeSpec := { name := "coverLeast", fn := fun _ => fun
  | [d1, d2, d3] => { results := [.lit (.bool false)], args := [d1, d2, d3] }
  | _ => none }
def CoverLeastWrongFalsely : Prop := coverLeastRow.holds Try.pinned (OpenSpec.ofChange coverLeastWrong)

/-- 'tickinglaw01.CoverCircles': WHATEVER THE INPUT: true; the input reads as it did. -/
def coverCirclesSpec : ChangeSpec := { name := "coverCircles", fn := fun _ => fun
  | [d] => { results := [.lit (.bool true)], args := [d] }
  | _ => none }
def coverCirclesRow : OpenClaim := { program := "ytplhfbkejngioaa", sum := "0db1787a84dd2467e4fc08753319ff658c37c99f40e0b52f5487cb198c1869a5", func := "ticking/tickinglaw01.CoverCircles", spec := "coverCircles", unfollowed := true, recurses := true, apart := false }
def CoverCirclesSaid : Prop := coverCirclesRow.holds Try.pinned (OpenSpec.ofChange coverCirclesSpec)

/-- ITS FALSE NEIGHBOUR: 'it returns false'. Refute it at one input. -/
def coverCirclesWrong : ChangeSpec := { name := "coverCircles", fn := fun _ => fun
  | [d] => { results := [.lit (.bool false)], args := [d] }
  | _ => none }
def CoverCirclesWrongFalsely : Prop := coverCirclesRow.holds Try.pinned (OpenSpec.ofChange coverCirclesWrong)

/-- 'tickinglaw01.CoverChecks': WHATEVER THE INPUT: true; the input reads as it did. -/
def coverChecksSpec : ChangeSpec := { name := "coverChecks", fn := fun _ => fun
  | [d1, d2, d3] => { results := [.lit (.bool true)], args := [d1, d2, d3] }
  | _ => none }
def coverChecksRow : OpenClaim := { program := "ytplhfbkejngioaa", sum := "0db1787a84dd2467e4fc08753319ff658c37c99f40e0b52f5487cb198c1869a5", func := "ticking/tickinglaw01.CoverChecks", spec := "coverChecks", unfollowed := true, recurses := true, apart := false }
def CoverChecksSaid : Prop := coverChecksRow.holds Try.pinned (OpenSpec.ofChange coverChecksSpec)

/-- ITS FALSE NEIGHBOUR: 'it returns false'. Refute it at one input. -/
def coverChecksWrong : ChangeSpec := { name := "coverChecks", fn := fun _ => fun
  | [d1, d2, d3] => { results := [.lit (.bool false)], args := [d1, d2, d3] }
  | _ => none }
def CoverChecksWrongFalsely : Prop := coverChecksRow.holds Try.pinned (OpenSpec.ofChange coverChecksWrong)

/-- 'tickinglaw01.CoverMeets': WHATEVER THE INPUT: true; the input reads as it did. -/
def coverMeetsSpec : ChangeSpec := { name := "coverMeets", fn := fun _ => fun
  | [d] => { results := [.lit (.bool true)], args := [d] }
  | _ => none }
def coverMeetsRow : OpenClaim := { program := "ytplhfbkejngioaa", sum := "0db1787a84dd2467e4fc08753319ff658c37c99f40e0b52f5487cb198c1869a5", func := "ticking/tickinglaw01.CoverMeets", spec := "coverMeets", unfollowed := true, recurses := true, apart := false }
def CoverMeetsSaid : Prop := coverMeetsRow.holds Try.pinned (OpenSpec.ofChange coverMeetsSpec)

/-- ITS FALSE NEIGHBOUR: 'it returns false'. Refute it at one input. -/
def coverMeetsWrong : ChangeSpec := { name := "coverMeets", fn := fun _ => fun
  | [d] => { results := [.lit (.bool false)], args := [d] }
  | _ => none }
def CoverMeetsWrongFalsely : Prop := coverMeetsRow.holds Try.pinned (OpenSpec.ofChange coverMeetsWrong)

/-- 'tickinglaw01.CoverPairs': WHATEVER THE INPUT: true; the input reads as it did. -/
def coverPairsSpec : ChangeSpec := { name := "coverPairs", fn := fun _ => fun
  | [d] => { results := [.lit (.bool true)], args := [d] }
  | _ => none }
def coverPairsRow : OpenClaim := { program := "ytplhfbkejngioaa", sum := "0db1787a84dd2467e4fc08753319ff658c37c99f40e0b52f5487cb198c1869a5", func := "ticking/tickinglaw01.CoverPairs", spec := "coverPairs", unfollowed := true, recurses := true, apart := false }
def CoverPairsSaid : Prop := coverPairsRow.holds Try.pinned (OpenSpec.ofChange coverPairsSpec)

/-- ITS FALSE NEIGHBOUR: 'it returns false'. Refute it at one input. -/
def coverPairsWrong : ChangeSpec := { name := "coverPairs", fn := fun _ => fun
  | [d] => { results := [.lit (.bool false)], args := [d] }
  | _ => none }
def CoverPairsWrongFalsely : Prop := coverPairsRow.holds Try.pinned (OpenSpec.ofChange coverPairsWrong)

/-- 'tickinglaw01.CoverTiles': WHATEVER THE INPUT: true; the input reads as it did. -/
def coverTilesSpec : ChangeSpec := { name := "coverTiles", fn := fun _ => fun
  | [d1, d2] => { results := [.lit (.bool true)], args := [d1, d2] }
  | _ => none }
def coverTilesRow : OpenClaim := { program := "ytplhfbkejngioaa", sum := "0db1787a84dd2467e4fc08753319ff658c37c99f40e0b52f5487cb198c1869a5", func := "ticking/tickinglaw01.CoverTiles", spec := "coverTiles", unfollowed := true, recurses := true, apart := false }
def CoverTilesSaid : Prop := coverTilesRow.holds Try.pinned (OpenSpec.ofChange coverTilesSpec)

/-- ITS FALSE NEIGHBOUR: 'it returns false'. Refute it at one input. -/
def coverTilesWrong : ChangeSpec := { name := "coverTiles", fn := fun _ => fun
  | [d1, d2] => { results := [.lit (.bool false)], args := [d1, d2] }
  | _ => none }
def CoverTilesWrongFalsely : Prop := coverTilesRow.holds Try.pinned (OpenSpec.ofChange coverTilesWrong)

/-- 'tickinglaw01.CoverOwn': WHATEVER THE INPUT: true; the input reads as it did. -/
def coverOwnSpec : ChangeSpec := { name := "coverOwn", fn := fun _ => fun
  | [d1, d2] => { results := [.lit (.bool true)], args := [d1, d2] }
  | _ => none }
def coverOwnRow : OpenClaim := { program := "ytplhfbkejngioaa", sum := "0db1787a84dd2467e4fc08753319ff658c37c99f40e0b52f5487cb198c1869a5", func := "ticking/tickinglaw01.CoverOwn", spec := "coverOwn", unfollowed := true, recurses := true, apart := false }
def CoverOwnSaid : Prop := coverOwnRow.holds Try.pinned (OpenSpec.ofChange coverOwnSpec)

/-- ITS FALSE NEIGHBOUR: 'it returns false'. Refute it at one input. -/
def coverOwnWrong : ChangeSpec := { name := "coverOwn", fn := fun _ => fun
  | [d1, d2] => { results := [.lit (.bool false)], args := [d1, d2] }
  | _ => none }
def CoverOwnWrongFalsely : Prop := coverOwnRow.holds Try.pinned (OpenSpec.ofChange coverOwnWrong)

/-- 'tickinglaw01.CoverDivides': WHATEVER THE INPUT: true; the input reads as it did. -/
def coverDividesSpec : ChangeSpec := { name := "coverDivides", fn := fun _ => fun
  | [d] => { results := [.lit (.bool true)], args := [d] }
  | _ => none }
def coverDividesRow : OpenClaim := { program := "ytplhfbkejngioaa", sum := "0db1787a84dd2467e4fc08753319ff658c37c99f40e0b52f5487cb198c1869a5", func := "ticking/tickinglaw01.CoverDivides", spec := "coverDivides", unfollowed := true, recurses := true, apart := false }
def CoverDividesSaid : Prop := coverDividesRow.holds Try.pinned (OpenSpec.ofChange coverDividesSpec)

/-- ITS FALSE NEIGHBOUR: 'it returns false'. Refute it at one input. -/
def coverDividesWrong : ChangeSpec := { name := "coverDivides", fn := fun _ => fun
  | [d] => { results := [.lit (.bool false)], args := [d] }
  | _ => none }
def CoverDividesWrongFalsely : Prop := coverDividesRow.holds Try.pinned (OpenSpec.ofChange coverDividesWrong)

/- THE SECOND FORM. 'bulk': how many values and letters a reading holds, each counted each time it is reached (what is shared counts as often as it is met; a slice's spare places count too). A statement '..UptoSaid' is the law's where the arguments, and the package variables that the reading takes, are together of bulk at most 1048576: NARROWER than '..Said'. Prove '..Said' where nothing that the law and all that it calls make is longer than what came in: it says more and counts as full. Else prove '..UptoSaid'. A law counts once. -/
mutual
def uptoBulk {H : Type} : DataW H → Nat
  | .lit (.string bytes) => bytes.length + 1
  | .lit _ => 1
  | .nil => 1
  | .ptr d => uptoBulk d + 1
  | .slice elems spare => uptoBulkAll elems + uptoBulkAll spare + 1
  | .agg parts => uptoBulkAll parts + 1
  | .iface _ d => uptoBulk d + 1
  | .map entries => uptoBulkEntries entries + 1
  | .held _ => 1
def uptoBulkAll {H : Type} : List (DataW H) → Nat
  | [] => 0
  | d :: r => uptoBulk d + uptoBulkAll r
def uptoBulkEntries {H : Type} : List (Lit × DataW H) → Nat
  | [] => 0
  | x :: r => uptoBulkEntry x + uptoBulkEntries r
def uptoBulkEntry {H : Type} : Lit × DataW H → Nat
  | (.string bytes, d) => bytes.length + uptoBulk d + 1
  | (_, d) => uptoBulk d + 1
 end
def uptoSmall : (H : Type) → List (DataW H) → Bool := fun _ ds => decide (uptoBulkAll ds ≤ 1048576)
def OpenSpec.upto (s : _root_.Go.ChangeSpec) : _root_.Go.OpenSpec := { _root_.Go.OpenSpec.ofChange s with cond := some uptoSmall }

/-- 'tickinglaw01.CoverUnions', WHERE WHAT IT READS IS OF BULK AT MOST 1048576: true; the input reads as it did. -/
def coverUnionsUptoRow : OpenClaim := { program := "ytplhfbkejngioaa", sum := "0db1787a84dd2467e4fc08753319ff658c37c99f40e0b52f5487cb198c1869a5", func := "ticking/tickinglaw01.CoverUnions", spec := "coverUnions", unfollowed := true, recurses := true, apart := false, narrowed := true }
def CoverUnionsUptoSaid : Prop := coverUnionsUptoRow.holds Try.pinned (OpenSpec.upto coverUnionsSpec)

/-- 'tickinglaw01.CoverMoves', WHERE WHAT IT READS IS OF BULK AT MOST 1048576: true; the input reads as it did. -/
def coverMovesUptoRow : OpenClaim := { program := "ytplhfbkejngioaa", sum := "0db1787a84dd2467e4fc08753319ff658c37c99f40e0b52f5487cb198c1869a5", func := "ticking/tickinglaw01.CoverMoves", spec := "coverMoves", unfollowed := true, recurses := true, apart := false, narrowed := true }
def CoverMovesUptoSaid : Prop := coverMovesUptoRow.holds Try.pinned (OpenSpec.upto coverMovesSpec)

/-- 'tickinglaw01.CoverSums', WHERE WHAT IT READS IS OF BULK AT MOST 1048576: true; the input reads as it did. -/
def coverSumsUptoRow : OpenClaim := { program := "ytplhfbkejngioaa", sum := "0db1787a84dd2467e4fc08753319ff658c37c99f40e0b52f5487cb198c1869a5", func := "ticking/tickinglaw01.CoverSums", spec := "coverSums", unfollowed := true, recurses := true, apart := false, narrowed := true }
def CoverSumsUptoSaid : Prop := coverSumsUptoRow.holds Try.pinned (OpenSpec.upto coverSumsSpec)

/-- 'tickinglaw01.CoverGrid', WHERE WHAT IT READS IS OF BULK AT MOST 1048576: true; the input reads as it did. -/
def coverGridUptoRow : OpenClaim := { program := "ytplhfbkejngioaa", sum := "0db1787a84dd2467e4fc08753319ff658c37c99f40e0b52f5487cb198c1869a5", func := "ticking/tickinglaw01.CoverGrid", spec := "coverGrid", unfollowed := true, recurses := true, apart := false, narrowed := true }
def CoverGridUptoSaid : Prop := coverGridUptoRow.holds Try.pinned (OpenSpec.upto coverGridSpec)

/-- 'tickinglaw01.CoverSides', WHERE WHAT IT READS IS OF BULK AT MOST 1048576: true; the input reads as it did. -/
def coverSidesUptoRow : OpenClaim := { program := "ytplhfbkejngioaa", sum := "0db1787a84dd2467e4fc08753319ff658c37c99f40e0b52f5487cb198c1869a5", func := "ticking/tickinglaw01.CoverSides", spec := "coverSides", unfollowed := true, recurses := true, apart := false, narrowed := true }
def CoverSidesUptoSaid : Prop := coverSidesUptoRow.holds Try.pinned (OpenSpec.upto coverSidesSpec)

/-- 'tickinglaw01.CoverLeast', WHERE WHAT IT READS IS OF BULK AT MOST 1048576: true; the input reads as it did. -/
def coverLeastUptoRow : OpenClaim := { program := "ytplhfbkejngioaa", sum := "0db1787a84dd2467e4fc08753319ff658c37c99f40e0b52f5487cb198c1869a5", func := "ticking/tickinglaw01.CoverLeast", spec := "coverLeast", unfollowed := true, recurses := true, apart := false, narrowed := true }
def CoverLeastUptoSaid : Prop := coverLeastUptoRow.holds Try.pinned (OpenSpec.upto coverLeastSpec)

/-- 'tickinglaw01.CoverCircles', WHERE WHAT IT READS IS OF BULK AT MOST 1048576: true; the input reads as it did. -/
def coverCirclesUptoRow : OpenClaim := { program := "ytplhfbkejngioaa", sum := "0db1787a84dd2467e4fc08753319ff658c37c99f40e0b52f5487cb198c1869a5", func := "ticking/tickinglaw01.CoverCircles", spec := "coverCircles", unfollowed := true, recurses := true, apart := false, narrowed := true }
def CoverCirclesUptoSaid : Prop := coverCirclesUptoRow.holds Try.pinned (OpenSpec.upto coverCirclesSpec)

/-- 'tickinglaw01.CoverChecks', WHERE WHAT IT READS IS OF BULK AT MOST 1048576: true; the input reads as it did. -/
def coverChecksUptoRow : OpenClaim := { program := "ytplhfbkejngioaa", sum := "0db1787a84dd2467e4fc08753319ff658c37c99f40e0b52f5487cb198c1869a5", func := "ticking/tickinglaw01.CoverChecks", spec := "coverChecks", unfollowed := true, recurses := true, apart := false, narrowed := true }
def CoverChecksUptoSaid : Prop := coverChecksUptoRow.holds Try.pinned (OpenSpec.upto coverChecksSpec)

/-- 'tickinglaw01.CoverMeets', WHERE WHAT IT READS IS OF BULK AT MOST 1048576: true; the input reads as it did. -/
def coverMeetsUptoRow : OpenClaim := { program := "ytplhfbkejngioaa", sum := "0db1787a84dd2467e4fc08753319ff658c37c99f40e0b52f5487cb198c1869a5", func := "ticking/tickinglaw01.CoverMeets", spec := "coverMeets", unfollowed := true, recurses := true, apart := false, narrowed := true }
def CoverMeetsUptoSaid : Prop := coverMeetsUptoRow.holds Try.pinned (OpenSpec.upto coverMeetsSpec)

/-- 'tickinglaw01.CoverPairs', WHERE WHAT IT READS IS OF BULK AT MOST 1048576: true; the input reads as it did. -/
def coverPairsUptoRow : OpenClaim := { program := "ytplhfbkejngioaa", sum := "0db1787a84dd2467e4fc08753319ff658c37c99f40e0b52f5487cb198c1869a5", func := "ticking/tickinglaw01.CoverPairs", spec := "coverPairs", unfollowed := true, recurses := true, apart := false, narrowed := true }
def CoverPairsUptoSaid : Prop := coverPairsUptoRow.holds Try.pinned (OpenSpec.upto coverPairsSpec)

/-- 'tickinglaw01.CoverTiles', WHERE WHAT IT READS IS OF BULK AT MOST 1048576: true; the input reads as it did. -/
def coverTilesUptoRow : OpenClaim := { program := "ytplhfbkejngioaa", sum := "0db1787a84dd2467e4fc08753319ff658c37c99f40e0b52f5487cb198c1869a5", func := "ticking/tickinglaw01.CoverTiles", spec := "coverTiles", unfollowed := true, recurses := true, apart := false, narrowed := true }
def CoverTilesUptoSaid : Prop := coverTilesUptoRow.holds Try.pinned (OpenSpec.upto coverTilesSpec)

/-- 'tickinglaw01.CoverOwn', WHERE WHAT IT READS IS OF BULK AT MOST 1048576: true; the input reads as it did. -/
def coverOwnUptoRow : OpenClaim := { program := "ytplhfbkejngioaa", sum := "0db1787a84dd2467e4fc08753319ff658c37c99f40e0b52f5487cb198c1869a5", func := "ticking/tickinglaw01.CoverOwn", spec := "coverOwn", unfollowed := true, recurses := true, apart := false, narrowed := true }
def CoverOwnUptoSaid : Prop := coverOwnUptoRow.holds Try.pinned (OpenSpec.upto coverOwnSpec)

/-- 'tickinglaw01.CoverDivides', WHERE WHAT IT READS IS OF BULK AT MOST 1048576: true; the input reads as it did. -/
def coverDividesUptoRow : OpenClaim := { program := "ytplhfbkejngioaa", sum := "0db1787a84dd2467e4fc08753319ff658c37c99f40e0b52f5487cb198c1869a5", func := "ticking/tickinglaw01.CoverDivides", spec := "coverDivides", unfollowed := true, recurses := true, apart := false, narrowed := true }
def CoverDividesUptoSaid : Prop := coverDividesUptoRow.holds Try.pinned (OpenSpec.upto coverDividesSpec)

end Rows
end Go.Proofs.Ytplhfbkejngioaa
