/-
  No cell of these rows narrows 'for every input' (looked for: loops, veiled, ifaces, maps, wideKeys, modest, calm, conditions, laid).
  DERIVED. THE GIVEN ROWS OF THIS SEAT. 12 by the template 'for every input the law returns true; each argument reads behind the call as it read before'; 0 by the template 'total and deterministic' (their statements: YtcploeijeedmdaaTotals.lean).
  GIVEN WITH THE SEED: the statements are not yours to turn. If you find one false, say at which input.
  Laid BY PROGRAM, IN A SANDBOX (cutbox-rows.mjs): the forced cells as the released guide's own fill.sh prints them over the translation 6b63f10bff422555… (all of the seat's roots in one cut). By AI agents, Wed Nov 11 2026. No macro, syntax, notation, axiom, sorry.
-/
import Derived.Test.YtcploeijeedmdaaChecked
import GoSem.Claim
import GoSem.ClaimJoined
import GoSem.ClaimMapViews
import Derived.JoinedTies
import Derived.KernelRfl
namespace Go.Proofs.Ytcploeijeedmdaa
/- THE CELL 'sum', in the pinned program and in every row, IS THE sha256 OF THE DUMP (.gsa) THAT YtcploeijeedmdaaProg.lean LOADS. Nothing in Lean hashes anything: it is a label: what it is worth is what the hold of that sum in a sandbox is worth. -/
noncomputable def Try.pinned : Pinned := { name := "ytcploeijeedmdaa", sum := "6b63f10bff422555d7e49c8a375cabf0de8318605dc6339d45ecfd076e13db2a", checked := Try.checked }
namespace Rows
def none {H : Type} : Left H := { results := [], args := [] }

/-- 'tickinglaw09.ScoresTrees': WHATEVER THE INPUT: true; the input reads as it did. -/
def scoresTreesSpec : ChangeSpec := { name := "scoresTrees", fn := fun _ => fun
  | [d1, d2] => { results := [.lit (.bool true)], args := [d1, d2] }
  | _ => none }
def scoresTreesRow : OpenClaim := { program := "ytcploeijeedmdaa", sum := "6b63f10bff422555d7e49c8a375cabf0de8318605dc6339d45ecfd076e13db2a", func := "ticking/tickinglaw09.ScoresTrees", spec := "scoresTrees", inPlace := ["internal/abi.NoEscape", "internal/bytealg.MakeNoZero"], unfollowed := true, recurses := true, plainKeys := false, apart := false }
def ScoresTreesSaid : Prop := scoresTreesRow.holds Try.pinned (OpenSpec.ofChange scoresTreesSpec)

/-- ITS FALSE NEIGHBOUR: 'it returns false'. Refute it at one input. -/
def scoresTreesWrong : ChangeSpec := { name := "scoresTrees", fn := fun _ => fun
  | [d1, d2] => { results := [.lit (.bool false)], args := [d1, d2] }
  | _ => none }
def ScoresTreesWrongFalsely : Prop := scoresTreesRow.holds Try.pinned (OpenSpec.ofChange scoresTreesWrong)

/-- 'tickinglaw09.ScoresKings': WHATEVER THE INPUT: true; the input reads as it did. -/
def scoresKingsSpec : ChangeSpec := { name := "scoresKings", fn := fun _ => fun
  | [d1, d2] => { results := [.lit (.bool true)], args := [d1, d2] }
  | _ => none }
def scoresKingsRow : OpenClaim := { program := "ytcploeijeedmdaa", sum := "6b63f10bff422555d7e49c8a375cabf0de8318605dc6339d45ecfd076e13db2a", func := "ticking/tickinglaw09.ScoresKings", spec := "scoresKings", inPlace := ["internal/abi.NoEscape", "internal/bytealg.MakeNoZero"], unfollowed := true, recurses := true, plainKeys := false, apart := false }
def ScoresKingsSaid : Prop := scoresKingsRow.holds Try.pinned (OpenSpec.ofChange scoresKingsSpec)

/-- ITS FALSE NEIGHBOUR: 'it returns false'. Refute it at one input. -/
def scoresKingsWrong : ChangeSpec := { name := "scoresKings", fn := fun _ => fun
  | [d1, d2] => { results := [.lit (.bool false)], args := [d1, d2] }
  | _ => none }
def ScoresKingsWrongFalsely : Prop := scoresKingsRow.holds Try.pinned (OpenSpec.ofChange scoresKingsWrong)

/-- 'tickinglaw09.ScoresCounts': WHATEVER THE INPUT: true; the input reads as it did. -/
def scoresCountsSpec : ChangeSpec := { name := "scoresCounts", fn := fun _ => fun
  | [d1, d2] => { results := [.lit (.bool true)], args := [d1, d2] }
  | _ => none }
def scoresCountsRow : OpenClaim := { program := "ytcploeijeedmdaa", sum := "6b63f10bff422555d7e49c8a375cabf0de8318605dc6339d45ecfd076e13db2a", func := "ticking/tickinglaw09.ScoresCounts", spec := "scoresCounts", inPlace := ["internal/abi.NoEscape", "internal/bytealg.MakeNoZero"], unfollowed := true, recurses := true, plainKeys := false, apart := false }
def ScoresCountsSaid : Prop := scoresCountsRow.holds Try.pinned (OpenSpec.ofChange scoresCountsSpec)

/-- ITS FALSE NEIGHBOUR: 'it returns false'. Refute it at one input. -/
def scoresCountsWrong : ChangeSpec := { name := "scoresCounts", fn := fun _ => fun
  | [d1, d2] => { results := [.lit (.bool false)], args := [d1, d2] }
  | _ => none }
def ScoresCountsWrongFalsely : Prop := scoresCountsRow.holds Try.pinned (OpenSpec.ofChange scoresCountsWrong)

/-- 'tickinglaw09.ScoresGraphic': WHATEVER THE INPUT: true; the input reads as it did. -/
def scoresGraphicSpec : ChangeSpec := { name := "scoresGraphic", fn := fun _ => fun
  | [d] => { results := [.lit (.bool true)], args := [d] }
  | _ => none }
def scoresGraphicRow : OpenClaim := { program := "ytcploeijeedmdaa", sum := "6b63f10bff422555d7e49c8a375cabf0de8318605dc6339d45ecfd076e13db2a", func := "ticking/tickinglaw09.ScoresGraphic", spec := "scoresGraphic", inPlace := ["internal/abi.NoEscape", "internal/bytealg.MakeNoZero"], unfollowed := true, recurses := true, plainKeys := false, apart := false }
def ScoresGraphicSaid : Prop := scoresGraphicRow.holds Try.pinned (OpenSpec.ofChange scoresGraphicSpec)

/-- ITS FALSE NEIGHBOUR: 'it returns false'. Refute it at one input. -/
def scoresGraphicWrong : ChangeSpec := { name := "scoresGraphic", fn := fun _ => fun
  | [d] => { results := [.lit (.bool false)], args := [d] }
  | _ => none }
def ScoresGraphicWrongFalsely : Prop := scoresGraphicRow.holds Try.pinned (OpenSpec.ofChange scoresGraphicWrong)

/-- 'tickinglaw09.ScoresGraphChecks': WHATEVER THE INPUT: true; the input reads as it did. -/
def scoresGraphChecksSpec : ChangeSpec := { name := "scoresGraphChecks", fn := fun _ => fun
  | [d1, d2, d3] => { results := [.lit (.bool true)], args := [d1, d2, d3] }
  | _ => none }
def scoresGraphChecksRow : OpenClaim := { program := "ytcploeijeedmdaa", sum := "6b63f10bff422555d7e49c8a375cabf0de8318605dc6339d45ecfd076e13db2a", func := "ticking/tickinglaw09.ScoresGraphChecks", spec := "scoresGraphChecks", inPlace := ["internal/abi.NoEscape", "internal/bytealg.MakeNoZero"], unfollowed := true, recurses := true, plainKeys := false, apart := false }
def ScoresGraphChecksSaid : Prop := scoresGraphChecksRow.holds Try.pinned (OpenSpec.ofChange scoresGraphChecksSpec)

/-- ITS FALSE NEIGHBOUR: 'it returns false'. Refute it at one input. -/
def scoresGraphChecksWrong : ChangeSpec := { name := "scoresGraphChecks", fn := fun _ => fun
  | [d1, d2, d3] => { results := [.lit (.bool false)], args := [d1, d2, d3] }
  | _ => none }
def ScoresGraphChecksWrongFalsely : Prop := scoresGraphChecksRow.holds Try.pinned (OpenSpec.ofChange scoresGraphChecksWrong)

/-- 'tickinglaw09.ScoresRealized': WHATEVER THE INPUT: true; the input reads as it did. -/
def scoresRealizedSpec : ChangeSpec := { name := "scoresRealized", fn := fun _ => fun
  | [d1, d2] => { results := [.lit (.bool true)], args := [d1, d2] }
  | _ => none }
def scoresRealizedRow : OpenClaim := { program := "ytcploeijeedmdaa", sum := "6b63f10bff422555d7e49c8a375cabf0de8318605dc6339d45ecfd076e13db2a", func := "ticking/tickinglaw09.ScoresRealized", spec := "scoresRealized", inPlace := ["internal/abi.NoEscape", "internal/bytealg.MakeNoZero"], unfollowed := true, recurses := true, plainKeys := false, apart := false }
def ScoresRealizedSaid : Prop := scoresRealizedRow.holds Try.pinned (OpenSpec.ofChange scoresRealizedSpec)

/-- ITS FALSE NEIGHBOUR: 'it returns false'. Refute it at one input. -/
def scoresRealizedWrong : ChangeSpec := { name := "scoresRealized", fn := fun _ => fun
  | [d1, d2] => { results := [.lit (.bool false)], args := [d1, d2] }
  | _ => none }
def ScoresRealizedWrongFalsely : Prop := scoresRealizedRow.holds Try.pinned (OpenSpec.ofChange scoresRealizedWrong)

/-- 'tickinglaw09.ScoresContestChecks': WHATEVER THE INPUT: true; the input reads as it did. -/
def scoresContestChecksSpec : ChangeSpec := { name := "scoresContestChecks", fn := fun _ => fun
  | [d1, d2, d3] => { results := [.lit (.bool true)], args := [d1, d2, d3] }
  | _ => none }
def scoresContestChecksRow : OpenClaim := { program := "ytcploeijeedmdaa", sum := "6b63f10bff422555d7e49c8a375cabf0de8318605dc6339d45ecfd076e13db2a", func := "ticking/tickinglaw09.ScoresContestChecks", spec := "scoresContestChecks", inPlace := ["internal/abi.NoEscape", "internal/bytealg.MakeNoZero"], unfollowed := true, recurses := true, plainKeys := false, apart := false }
def ScoresContestChecksSaid : Prop := scoresContestChecksRow.holds Try.pinned (OpenSpec.ofChange scoresContestChecksSpec)

/-- ITS FALSE NEIGHBOUR: 'it returns false'. Refute it at one input. -/
def scoresContestChecksWrong : ChangeSpec := { name := "scoresContestChecks", fn := fun _ => fun
  | [d1, d2, d3] => { results := [.lit (.bool false)], args := [d1, d2, d3] }
  | _ => none }
def ScoresContestChecksWrongFalsely : Prop := scoresContestChecksRow.holds Try.pinned (OpenSpec.ofChange scoresContestChecksWrong)

/-- 'tickinglaw09.ScoresOrder': WHATEVER THE INPUT: true; the input reads as it did. -/
def scoresOrderSpec : ChangeSpec := { name := "scoresOrder", fn := fun _ => fun
  | [d1, d2] => { results := [.lit (.bool true)], args := [d1, d2] }
  | _ => none }
def scoresOrderRow : OpenClaim := { program := "ytcploeijeedmdaa", sum := "6b63f10bff422555d7e49c8a375cabf0de8318605dc6339d45ecfd076e13db2a", func := "ticking/tickinglaw09.ScoresOrder", spec := "scoresOrder", inPlace := ["internal/abi.NoEscape", "internal/bytealg.MakeNoZero"], unfollowed := true, recurses := true, plainKeys := false, apart := false }
def ScoresOrderSaid : Prop := scoresOrderRow.holds Try.pinned (OpenSpec.ofChange scoresOrderSpec)

/-- ITS FALSE NEIGHBOUR: 'it returns false'. Refute it at one input. -/
def scoresOrderWrong : ChangeSpec := { name := "scoresOrder", fn := fun _ => fun
  | [d1, d2] => { results := [.lit (.bool false)], args := [d1, d2] }
  | _ => none }
def ScoresOrderWrongFalsely : Prop := scoresOrderRow.holds Try.pinned (OpenSpec.ofChange scoresOrderWrong)

/-- 'tickinglaw09.ScoresCodes': WHATEVER THE INPUT: true; the input reads as it did. -/
def scoresCodesSpec : ChangeSpec := { name := "scoresCodes", fn := fun _ => fun
  | [d1, d2] => { results := [.lit (.bool true)], args := [d1, d2] }
  | _ => none }
def scoresCodesRow : OpenClaim := { program := "ytcploeijeedmdaa", sum := "6b63f10bff422555d7e49c8a375cabf0de8318605dc6339d45ecfd076e13db2a", func := "ticking/tickinglaw09.ScoresCodes", spec := "scoresCodes", inPlace := ["internal/abi.NoEscape", "internal/bytealg.MakeNoZero"], unfollowed := true, recurses := true, plainKeys := false, apart := false }
def ScoresCodesSaid : Prop := scoresCodesRow.holds Try.pinned (OpenSpec.ofChange scoresCodesSpec)

/-- ITS FALSE NEIGHBOUR: 'it returns false'. Refute it at one input. -/
def scoresCodesWrong : ChangeSpec := { name := "scoresCodes", fn := fun _ => fun
  | [d1, d2] => { results := [.lit (.bool false)], args := [d1, d2] }
  | _ => none }
def ScoresCodesWrongFalsely : Prop := scoresCodesRow.holds Try.pinned (OpenSpec.ofChange scoresCodesWrong)

/-- 'tickinglaw09.ScoresShapes': WHATEVER THE INPUT: true; the input reads as it did. -/
def scoresShapesSpec : ChangeSpec := { name := "scoresShapes", fn := fun _ => fun
  | [d1, d2, d3] => { results := [.lit (.bool true)], args := [d1, d2, d3] }
  | _ => none }
def scoresShapesRow : OpenClaim := { program := "ytcploeijeedmdaa", sum := "6b63f10bff422555d7e49c8a375cabf0de8318605dc6339d45ecfd076e13db2a", func := "ticking/tickinglaw09.ScoresShapes", spec := "scoresShapes", inPlace := ["internal/abi.NoEscape", "internal/bytealg.MakeNoZero"], unfollowed := true, recurses := true, plainKeys := false, apart := false }
def ScoresShapesSaid : Prop := scoresShapesRow.holds Try.pinned (OpenSpec.ofChange scoresShapesSpec)

/-- ITS FALSE NEIGHBOUR: 'it returns false'. Refute it at one input. -/
def scoresShapesWrong : ChangeSpec := { name := "scoresShapes", fn := fun _ => fun
  | [d1, d2, d3] => { results := [.lit (.bool false)], args := [d1, d2, d3] }
  | _ => none }
def ScoresShapesWrongFalsely : Prop := scoresShapesRow.holds Try.pinned (OpenSpec.ofChange scoresShapesWrong)

/-- 'tickinglaw09.ScoresPruefer': WHATEVER THE INPUT: true; the input reads as it did. -/
def scoresPrueferSpec : ChangeSpec := { name := "scoresPruefer", fn := fun _ => fun
  | [d1, d2] => { results := [.lit (.bool true)], args := [d1, d2] }
  | _ => none }
def scoresPrueferRow : OpenClaim := { program := "ytcploeijeedmdaa", sum := "6b63f10bff422555d7e49c8a375cabf0de8318605dc6339d45ecfd076e13db2a", func := "ticking/tickinglaw09.ScoresPruefer", spec := "scoresPruefer", inPlace := ["internal/abi.NoEscape", "internal/bytealg.MakeNoZero"], unfollowed := true, recurses := true, plainKeys := false, apart := false }
def ScoresPrueferSaid : Prop := scoresPrueferRow.holds Try.pinned (OpenSpec.ofChange scoresPrueferSpec)

/-- ITS FALSE NEIGHBOUR: 'it returns false'. Refute it at one input. -/
def scoresPrueferWrong : ChangeSpec := { name := "scoresPruefer", fn := fun _ => fun
  | [d1, d2] => { results := [.lit (.bool false)], args := [d1, d2] }
  | _ => none }
def ScoresPrueferWrongFalsely : Prop := scoresPrueferRow.holds Try.pinned (OpenSpec.ofChange scoresPrueferWrong)

/-- 'tickinglaw09.ScoresAll': WHATEVER THE INPUT: true; the input reads as it did. -/
def scoresAllSpec : ChangeSpec := { name := "scoresAll", fn := fun _ => fun
  | [d1, d2] => { results := [.lit (.bool true)], args := [d1, d2] }
  | _ => none }
def scoresAllRow : OpenClaim := { program := "ytcploeijeedmdaa", sum := "6b63f10bff422555d7e49c8a375cabf0de8318605dc6339d45ecfd076e13db2a", func := "ticking/tickinglaw09.ScoresAll", spec := "scoresAll", inPlace := ["internal/abi.NoEscape", "internal/bytealg.MakeNoZero"], unfollowed := true, recurses := true, plainKeys := false, apart := false }
def ScoresAllSaid : Prop := scoresAllRow.holds Try.pinned (OpenSpec.ofChange scoresAllSpec)

/-- ITS FALSE NEIGHBOUR: 'it returns false'. Refute it at one input. -/
def scoresAllWrong : ChangeSpec := { name := "scoresAll", fn := fun _ => fun
  | [d1, d2] => { results := [.lit (.bool false)], args := [d1, d2] }
  | _ => none }
def ScoresAllWrongFalsely : Prop := scoresAllRow.holds Try.pinned (OpenSpec.ofChange scoresAllWrong)

/- THE SECOND FORM. 'bulk': how many values and letters a reading holds, each counted each time it is reached (what is shared counts as often as it is met; a slice's spare places count too). A statement '..UptoSaid' is the law's where the arguments, and the package variables that the reading takes, are together of bulk at most 1048576: NARROWER than '..Said'. Prove '..Said' where nothing that the law and all that it calls make is longer than what came in: it says more and counts as full. Else prove '..UptoSaid'. A law counts once. -/
mutual
def uptoBulk {H : Type} : DataW H → Nat
  | .lit (.string bytes) => bytes.length + 1
  | .lit _ => 1
  | .nil => 1
  | .ptr d => uptoBulk d + 1
  | .slice elems spare => uptoBulkAll elems + uptoBulkAll spare + 1
  | .agg parts => uptoBulkAll parts + 1
  | .iface _ d => uptoBulk d + 1
  | .map entries => uptoBulkEntries entries + 1
  | .held _ => 1
def uptoBulkAll {H : Type} : List (DataW H) → Nat
  | [] => 0
  | d :: r => uptoBulk d + uptoBulkAll r
def uptoBulkEntries {H : Type} : List (Lit × DataW H) → Nat
  | [] => 0
  | x :: r => uptoBulkEntry x + uptoBulkEntries r
def uptoBulkEntry {H : Type} : Lit × DataW H → Nat
  | (.string bytes, d) => bytes.length + uptoBulk d + 1
  | (_, d) => uptoBulk d + 1
 end
def uptoSmall : (H : Type) → List (DataW H) → Bool := fun _ ds => decide (uptoBulkAll ds ≤ 1048576)
def OpenSpec.upto (s : _root_.Go.ChangeSpec) : _root_.Go.OpenSpec := { _root_.Go.OpenSpec.ofChange s with cond := some uptoSmall }

/-- 'tickinglaw09.ScoresTrees', WHERE WHAT IT READS IS OF BULK AT MOST 1048576: true; the input reads as it did. -/
def scoresTreesUptoRow : OpenClaim := { program := "ytcploeijeedmdaa", sum := "6b63f10bff422555d7e49c8a375cabf0de8318605dc6339d45ecfd076e13db2a", func := "ticking/tickinglaw09.ScoresTrees", spec := "scoresTrees", inPlace := ["internal/abi.NoEscape", "internal/bytealg.MakeNoZero"], unfollowed := true, recurses := true, plainKeys := false, apart := false, narrowed := true }
def ScoresTreesUptoSaid : Prop := scoresTreesUptoRow.holds Try.pinned (OpenSpec.upto scoresTreesSpec)

/-- 'tickinglaw09.ScoresKings', WHERE WHAT IT READS IS OF BULK AT MOST 1048576: true; the input reads as it did. -/
def scoresKingsUptoRow : OpenClaim := { program := "ytcploeijeedmdaa", sum := "6b63f10bff422555d7e49c8a375cabf0de8318605dc6339d45ecfd076e13db2a", func := "ticking/tickinglaw09.ScoresKings", spec := "scoresKings", inPlace := ["internal/abi.NoEscape", "internal/bytealg.MakeNoZero"], unfollowed := true, recurses := true, plainKeys := false, apart := false, narrowed := true }
def ScoresKingsUptoSaid : Prop := scoresKingsUptoRow.holds Try.pinned (OpenSpec.upto scoresKingsSpec)

/-- 'tickinglaw09.ScoresCounts', WHERE WHAT IT READS IS OF BULK AT MOST 1048576: true; the input reads as it did. -/
def scoresCountsUptoRow : OpenClaim := { program := "ytcploeijeedmdaa", sum := "6b63f10bff422555d7e49c8a375cabf0de8318605dc6339d45ecfd076e13db2a", func := "ticking/tickinglaw09.ScoresCounts", spec := "scoresCounts", inPlace := ["internal/abi.NoEscape", "internal/bytealg.MakeNoZero"], unfollowed := true, recurses := true, plainKeys := false, apart := false, narrowed := true }
def ScoresCountsUptoSaid : Prop := scoresCountsUptoRow.holds Try.pinned (OpenSpec.upto scoresCountsSpec)

/-- 'tickinglaw09.ScoresGraphic', WHERE WHAT IT READS IS OF BULK AT MOST 1048576: true; the input reads as it did. -/
def scoresGraphicUptoRow : OpenClaim := { program := "ytcploeijeedmdaa", sum := "6b63f10bff422555d7e49c8a375cabf0de8318605dc6339d45ecfd076e13db2a", func := "ticking/tickinglaw09.ScoresGraphic", spec := "scoresGraphic", inPlace := ["internal/abi.NoEscape", "internal/bytealg.MakeNoZero"], unfollowed := true, recurses := true, plainKeys := false, apart := false, narrowed := true }
def ScoresGraphicUptoSaid : Prop := scoresGraphicUptoRow.holds Try.pinned (OpenSpec.upto scoresGraphicSpec)

/-- 'tickinglaw09.ScoresGraphChecks', WHERE WHAT IT READS IS OF BULK AT MOST 1048576: true; the input reads as it did. -/
def scoresGraphChecksUptoRow : OpenClaim := { program := "ytcploeijeedmdaa", sum := "6b63f10bff422555d7e49c8a375cabf0de8318605dc6339d45ecfd076e13db2a", func := "ticking/tickinglaw09.ScoresGraphChecks", spec := "scoresGraphChecks", inPlace := ["internal/abi.NoEscape", "internal/bytealg.MakeNoZero"], unfollowed := true, recurses := true, plainKeys := false, apart := false, narrowed := true }
def ScoresGraphChecksUptoSaid : Prop := scoresGraphChecksUptoRow.holds Try.pinned (OpenSpec.upto scoresGraphChecksSpec)

/-- 'tickinglaw09.ScoresRealized', WHERE WHAT IT READS IS OF BULK AT MOST 1048576: true; the input reads as it did. -/
def scoresRealizedUptoRow : OpenClaim := { program := "ytcploeijeedmdaa", sum := "6b63f10bff422555d7e49c8a375cabf0de8318605dc6339d45ecfd076e13db2a", func := "ticking/tickinglaw09.ScoresRealized", spec := "scoresRealized", inPlace := ["internal/abi.NoEscape", "internal/bytealg.MakeNoZero"], unfollowed := true, recurses := true, plainKeys := false, apart := false, narrowed := true }
def ScoresRealizedUptoSaid : Prop := scoresRealizedUptoRow.holds Try.pinned (OpenSpec.upto scoresRealizedSpec)

/-- 'tickinglaw09.ScoresContestChecks', WHERE WHAT IT READS IS OF BULK AT MOST 1048576: true; the input reads as it did. -/
def scoresContestChecksUptoRow : OpenClaim := { program := "ytcploeijeedmdaa", sum := "6b63f10bff422555d7e49c8a375cabf0de8318605dc6339d45ecfd076e13db2a", func := "ticking/tickinglaw09.ScoresContestChecks", spec := "scoresContestChecks", inPlace := ["internal/abi.NoEscape", "internal/bytealg.MakeNoZero"], unfollowed := true, recurses := true, plainKeys := false, apart := false, narrowed := true }
def ScoresContestChecksUptoSaid : Prop := scoresContestChecksUptoRow.holds Try.pinned (OpenSpec.upto scoresContestChecksSpec)

/-- 'tickinglaw09.ScoresOrder', WHERE WHAT IT READS IS OF BULK AT MOST 1048576: true; the input reads as it did. -/
def scoresOrderUptoRow : OpenClaim := { program := "ytcploeijeedmdaa", sum := "6b63f10bff422555d7e49c8a375cabf0de8318605dc6339d45ecfd076e13db2a", func := "ticking/tickinglaw09.ScoresOrder", spec := "scoresOrder", inPlace := ["internal/abi.NoEscape", "internal/bytealg.MakeNoZero"], unfollowed := true, recurses := true, plainKeys := false, apart := false, narrowed := true }
def ScoresOrderUptoSaid : Prop := scoresOrderUptoRow.holds Try.pinned (OpenSpec.upto scoresOrderSpec)

/-- 'tickinglaw09.ScoresCodes', WHERE WHAT IT READS IS OF BULK AT MOST 1048576: true; the input reads as it did. -/
def scoresCodesUptoRow : OpenClaim := { program := "ytcploeijeedmdaa", sum := "6b63f10bff422555d7e49c8a375cabf0de8318605dc6339d45ecfd076e13db2a", func := "ticking/tickinglaw09.ScoresCodes", spec := "scoresCodes", inPlace := ["internal/abi.NoEscape", "internal/bytealg.MakeNoZero"], unfollowed := true, recurses := true, plainKeys := false, apart := false, narrowed := true }
def ScoresCodesUptoSaid : Prop := scoresCodesUptoRow.holds Try.pinned (OpenSpec.upto scoresCodesSpec)

/-- 'tickinglaw09.ScoresShapes', WHERE WHAT IT READS IS OF BULK AT MOST 1048576: true; the input reads as it did. -/
def scoresShapesUptoRow : OpenClaim := { program := "ytcploeijeedmdaa", sum := "6b63f10bff422555d7e49c8a375cabf0de8318605dc6339d45ecfd076e13db2a", func := "ticking/tickinglaw09.ScoresShapes", spec := "scoresShapes", inPlace := ["internal/abi.NoEscape", "internal/bytealg.MakeNoZero"], unfollowed := true, recurses := true, plainKeys := false, apart := false, narrowed := true }
def ScoresShapesUptoSaid : Prop := scoresShapesUptoRow.holds Try.pinned (OpenSpec.upto scoresShapesSpec)

/-- 'tickinglaw09.ScoresPruefer', WHERE WHAT IT READS IS OF BULK AT MOST 1048576: true; the input reads as it did. -/
def scoresPrueferUptoRow : OpenClaim := { program := "ytcploeijeedmdaa", sum := "6b63f10bff422555d7e49c8a375cabf0de8318605dc6339d45ecfd076e13db2a", func := "ticking/tickinglaw09.ScoresPruefer", spec := "scoresPruefer", inPlace := ["internal/abi.NoEscape", "internal/bytealg.MakeNoZero"], unfollowed := true, recurses := true, plainKeys := false, apart := false, narrowed := true }
def ScoresPrueferUptoSaid : Prop := scoresPrueferUptoRow.holds Try.pinned (OpenSpec.upto scoresPrueferSpec)

/-- 'tickinglaw09.ScoresAll', WHERE WHAT IT READS IS OF BULK AT MOST 1048576: true; the input reads as it did. -/
def scoresAllUptoRow : OpenClaim := { program := "ytcploeijeedmdaa", sum := "6b63f10bff422555d7e49c8a375cabf0de8318605dc6339d45ecfd076e13db2a", func := "ticking/tickinglaw09.ScoresAll", spec := "scoresAll", inPlace := ["internal/abi.NoEscape", "internal/bytealg.MakeNoZero"], unfollowed := true, recurses := true, plainKeys := false, apart := false, narrowed := true }
def ScoresAllUptoSaid : Prop := scoresAllUptoRow.holds Try.pinned (OpenSpec.upto scoresAllSpec)

end Rows
end Go.Proofs.Ytcploeijeedmdaa
