/-
  No cell of these rows narrows 'for every input' (looked for: loops, veiled, ifaces, maps, wideKeys, modest, calm, conditions, laid).
  DERIVED. THE GIVEN ROWS OF THIS SEAT. 15 by the template 'for every input the law returns true; each argument reads behind the call as it read before'; 0 by the template 'total and deterministic' (their statements: YtdiclbgklegelaaTotals.lean).
  GIVEN WITH THE SEED: the statements are not yours to turn. If you find one false, say at which input.
  Laid BY PROGRAM, IN A SANDBOX (cutbox-rows.mjs): the forced cells as the released guide's own fill.sh prints them over the translation 2f7c873a988c724d… (all of the seat's roots in one cut). By AI agents, Wed Nov 11 2026. No macro, syntax, notation, axiom, sorry.
-/
import Derived.Test.YtdiclbgklegelaaChecked
import GoSem.Claim
import GoSem.ClaimJoined
import GoSem.ClaimMapViews
import Derived.JoinedTies
import Derived.KernelRfl
namespace Go.Proofs.Ytdiclbgklegelaa
/- THE CELL 'sum', in the pinned program and in every row, IS THE sha256 OF THE DUMP (.gsa) THAT YtdiclbgklegelaaProg.lean LOADS. Nothing in Lean hashes anything: it is a label: what it is worth is what the hold of that sum in a sandbox is worth. -/
noncomputable def Try.pinned : Pinned := { name := "ytdiclbgklegelaa", sum := "2f7c873a988c724de3282dece1a1db6f4e2c58292bb4113a30698b731595581e", checked := Try.checked }
namespace Rows
def none {H : Type} : Left H := { results := [], args := [] }

/-- 'drifterlaw09.StockAges': WHATEVER THE INPUT: true; the input reads as it did. -/
def stockAgesSpec : ChangeSpec := { name := "stockAges", fn := fun _ => fun
  | [d1, d2] => { results := [.lit (.bool true)], args := [d1, d2] }
  | _ => none }
def stockAgesRow : OpenClaim := { program := "ytdiclbgklegelaa", sum := "2f7c873a988c724de3282dece1a1db6f4e2c58292bb4113a30698b731595581e", func := "drifter/drifterlaw09.StockAges", spec := "stockAges", unfollowed := true, recurses := true, plainKeys := false, apart := false }
def StockAgesSaid : Prop := stockAgesRow.holds Try.pinned (OpenSpec.ofChange stockAgesSpec)

/-- ITS FALSE NEIGHBOUR: 'it returns false'. Refute it at one input. -/
def stockAgesWrong : ChangeSpec := { name := "stockAges", fn := fun _ => fun
  | [d1, d2] => { results := [.lit (.bool false)], args := [d1, d2] }
  | _ => none }
def StockAgesWrongFalsely : Prop := stockAgesRow.holds Try.pinned (OpenSpec.ofChange stockAgesWrong)

/-- 'drifterlaw09.StockShares': WHATEVER THE INPUT: true; the input reads as it did. -/
def stockSharesSpec : ChangeSpec := { name := "stockShares", fn := fun _ => fun
  | [d1, d2] => { results := [.lit (.bool true)], args := [d1, d2] }
  | _ => none }
def stockSharesRow : OpenClaim := { program := "ytdiclbgklegelaa", sum := "2f7c873a988c724de3282dece1a1db6f4e2c58292bb4113a30698b731595581e", func := "drifter/drifterlaw09.StockShares", spec := "stockShares", unfollowed := true, recurses := true, plainKeys := false, apart := false }
def StockSharesSaid : Prop := stockSharesRow.holds Try.pinned (OpenSpec.ofChange stockSharesSpec)

/-- ITS FALSE NEIGHBOUR: 'it returns false'. Refute it at one input. -/
def stockSharesWrong : ChangeSpec := { name := "stockShares", fn := fun _ => fun
  | [d1, d2] => { results := [.lit (.bool false)], args := [d1, d2] }
  | _ => none }
def StockSharesWrongFalsely : Prop := stockSharesRow.holds Try.pinned (OpenSpec.ofChange stockSharesWrong)

/-- 'drifterlaw09.StockPlays': WHATEVER THE INPUT: true; the input reads as it did. -/
def stockPlaysSpec : ChangeSpec := { name := "stockPlays", fn := fun _ => fun
  | [d1, d2, d3] => { results := [.lit (.bool true)], args := [d1, d2, d3] }
  | _ => none }
def stockPlaysRow : OpenClaim := { program := "ytdiclbgklegelaa", sum := "2f7c873a988c724de3282dece1a1db6f4e2c58292bb4113a30698b731595581e", func := "drifter/drifterlaw09.StockPlays", spec := "stockPlays", unfollowed := true, recurses := true, plainKeys := false, apart := false }
def StockPlaysSaid : Prop := stockPlaysRow.holds Try.pinned (OpenSpec.ofChange stockPlaysSpec)

/-- ITS FALSE NEIGHBOUR: 'it returns false'. Refute it at one input. -/
def stockPlaysWrong : ChangeSpec := { name := "stockPlays", fn := fun _ => fun
  | [d1, d2, d3] => { results := [.lit (.bool false)], args := [d1, d2, d3] }
  | _ => none }
def StockPlaysWrongFalsely : Prop := stockPlaysRow.holds Try.pinned (OpenSpec.ofChange stockPlaysWrong)

/-- 'drifterlaw09.StockQuotas': WHATEVER THE INPUT: true; the input reads as it did. -/
def stockQuotasSpec : ChangeSpec := { name := "stockQuotas", fn := fun _ => fun
  | [d1, d2] => { results := [.lit (.bool true)], args := [d1, d2] }
  | _ => none }
def stockQuotasRow : OpenClaim := { program := "ytdiclbgklegelaa", sum := "2f7c873a988c724de3282dece1a1db6f4e2c58292bb4113a30698b731595581e", func := "drifter/drifterlaw09.StockQuotas", spec := "stockQuotas", unfollowed := true, recurses := true, plainKeys := false, apart := false }
def StockQuotasSaid : Prop := stockQuotasRow.holds Try.pinned (OpenSpec.ofChange stockQuotasSpec)

/-- ITS FALSE NEIGHBOUR: 'it returns false'. Refute it at one input. -/
def stockQuotasWrong : ChangeSpec := { name := "stockQuotas", fn := fun _ => fun
  | [d1, d2] => { results := [.lit (.bool false)], args := [d1, d2] }
  | _ => none }
def StockQuotasWrongFalsely : Prop := stockQuotasRow.holds Try.pinned (OpenSpec.ofChange stockQuotasWrong)

/-- 'drifterlaw09.StockCloses': WHATEVER THE INPUT: true; the input reads as it did. -/
def stockClosesSpec : ChangeSpec := { name := "stockCloses", fn := fun _ => fun
  | [d1, d2, d3] => { results := [.lit (.bool true)], args := [d1, d2, d3] }
  | _ => none }
def stockClosesRow : OpenClaim := { program := "ytdiclbgklegelaa", sum := "2f7c873a988c724de3282dece1a1db6f4e2c58292bb4113a30698b731595581e", func := "drifter/drifterlaw09.StockCloses", spec := "stockCloses", unfollowed := true, recurses := true, plainKeys := false, apart := false }
def StockClosesSaid : Prop := stockClosesRow.holds Try.pinned (OpenSpec.ofChange stockClosesSpec)

/-- ITS FALSE NEIGHBOUR: 'it returns false'. Refute it at one input. -/
def stockClosesWrong : ChangeSpec := { name := "stockCloses", fn := fun _ => fun
  | [d1, d2, d3] => { results := [.lit (.bool false)], args := [d1, d2, d3] }
  | _ => none }
def StockClosesWrongFalsely : Prop := stockClosesRow.holds Try.pinned (OpenSpec.ofChange stockClosesWrong)

/-- 'drifterlaw09.StockTruth': WHATEVER THE INPUT: true; the input reads as it did. -/
def stockTruthSpec : ChangeSpec := { name := "stockTruth", fn := fun _ => fun
  | [d1, d2, d3] => { results := [.lit (.bool true)], args := [d1, d2, d3] }
  | _ => none }
def stockTruthRow : OpenClaim := { program := "ytdiclbgklegelaa", sum := "2f7c873a988c724de3282dece1a1db6f4e2c58292bb4113a30698b731595581e", func := "drifter/drifterlaw09.StockTruth", spec := "stockTruth", unfollowed := true, recurses := true, plainKeys := false, apart := false }
def StockTruthSaid : Prop := stockTruthRow.holds Try.pinned (OpenSpec.ofChange stockTruthSpec)

/-- ITS FALSE NEIGHBOUR: 'it returns false'. Refute it at one input. -/
def stockTruthWrong : ChangeSpec := { name := "stockTruth", fn := fun _ => fun
  | [d1, d2, d3] => { results := [.lit (.bool false)], args := [d1, d2, d3] }
  | _ => none }
def StockTruthWrongFalsely : Prop := stockTruthRow.holds Try.pinned (OpenSpec.ofChange stockTruthWrong)

/-- 'drifterlaw09.StockMixed': WHATEVER THE INPUT: true; the input reads as it did. -/
def stockMixedSpec : ChangeSpec := { name := "stockMixed", fn := fun _ => fun
  | [d1, d2] => { results := [.lit (.bool true)], args := [d1, d2] }
  | _ => none }
def stockMixedRow : OpenClaim := { program := "ytdiclbgklegelaa", sum := "2f7c873a988c724de3282dece1a1db6f4e2c58292bb4113a30698b731595581e", func := "drifter/drifterlaw09.StockMixed", spec := "stockMixed", unfollowed := true, recurses := true, plainKeys := false, apart := false }
def StockMixedSaid : Prop := stockMixedRow.holds Try.pinned (OpenSpec.ofChange stockMixedSpec)

/-- ITS FALSE NEIGHBOUR: 'it returns false'. Refute it at one input. -/
def stockMixedWrong : ChangeSpec := { name := "stockMixed", fn := fun _ => fun
  | [d1, d2] => { results := [.lit (.bool false)], args := [d1, d2] }
  | _ => none }
def StockMixedWrongFalsely : Prop := stockMixedRow.holds Try.pinned (OpenSpec.ofChange stockMixedWrong)

/-- 'drifterlaw09.StockSpread': WHATEVER THE INPUT: true; the input reads as it did. -/
def stockSpreadSpec : ChangeSpec := { name := "stockSpread", fn := fun _ => fun
  | [d1, d2, d3] => { results := [.lit (.bool true)], args := [d1, d2, d3] }
  | _ => none }
def stockSpreadRow : OpenClaim := { program := "ytdiclbgklegelaa", sum := "2f7c873a988c724de3282dece1a1db6f4e2c58292bb4113a30698b731595581e", func := "drifter/drifterlaw09.StockSpread", spec := "stockSpread", unfollowed := true, recurses := true, plainKeys := false, apart := false }
def StockSpreadSaid : Prop := stockSpreadRow.holds Try.pinned (OpenSpec.ofChange stockSpreadSpec)

/-- ITS FALSE NEIGHBOUR: 'it returns false'. Refute it at one input. -/
def stockSpreadWrong : ChangeSpec := { name := "stockSpread", fn := fun _ => fun
  | [d1, d2, d3] => { results := [.lit (.bool false)], args := [d1, d2, d3] }
  | _ => none }
def StockSpreadWrongFalsely : Prop := stockSpreadRow.holds Try.pinned (OpenSpec.ofChange stockSpreadWrong)

/-- 'drifterlaw09.StockFalls': WHATEVER THE INPUT: true; the input reads as it did. -/
def stockFallsSpec : ChangeSpec := { name := "stockFalls", fn := fun _ => fun
  | [d1, d2, d3, d4] => { results := [.lit (.bool true)], args := [d1, d2, d3, d4] }
  | _ => none }
def stockFallsRow : OpenClaim := { program := "ytdiclbgklegelaa", sum := "2f7c873a988c724de3282dece1a1db6f4e2c58292bb4113a30698b731595581e", func := "drifter/drifterlaw09.StockFalls", spec := "stockFalls", unfollowed := true, recurses := true, plainKeys := false, apart := false }
def StockFallsSaid : Prop := stockFallsRow.holds Try.pinned (OpenSpec.ofChange stockFallsSpec)

/-- ITS FALSE NEIGHBOUR: 'it returns false'. Refute it at one input. -/
def stockFallsWrong : ChangeSpec := { name := "stockFalls", fn := fun _ => fun
  | [d1, d2, d3, d4] => { results := [.lit (.bool false)], args := [d1, d2, d3, d4] }
  | _ => none }
def StockFallsWrongFalsely : Prop := stockFallsRow.holds Try.pinned (OpenSpec.ofChange stockFallsWrong)

/-- 'drifterlaw09.StockYear': WHATEVER THE INPUT: true; the input reads as it did. -/
def stockYearSpec : ChangeSpec := { name := "stockYear", fn := fun _ => fun
  | [d1, d2] => { results := [.lit (.bool true)], args := [d1, d2] }
  | _ => none }
def stockYearRow : OpenClaim := { program := "ytdiclbgklegelaa", sum := "2f7c873a988c724de3282dece1a1db6f4e2c58292bb4113a30698b731595581e", func := "drifter/drifterlaw09.StockYear", spec := "stockYear", unfollowed := true, recurses := true, plainKeys := false, apart := false }
def StockYearSaid : Prop := stockYearRow.holds Try.pinned (OpenSpec.ofChange stockYearSpec)

/-- ITS FALSE NEIGHBOUR: 'it returns false'. Refute it at one input. -/
def stockYearWrong : ChangeSpec := { name := "stockYear", fn := fun _ => fun
  | [d1, d2] => { results := [.lit (.bool false)], args := [d1, d2] }
  | _ => none }
def StockYearWrongFalsely : Prop := stockYearRow.holds Try.pinned (OpenSpec.ofChange stockYearWrong)

/-- 'drifterlaw09.StockKept': WHATEVER THE INPUT: true; the input reads as it did. -/
def stockKeptSpec : ChangeSpec := { name := "stockKept", fn := fun _ => fun
  | [d1, d2, d3] => { results := [.lit (.bool true)], args := [d1, d2, d3] }
  | _ => none }
def stockKeptRow : OpenClaim := { program := "ytdiclbgklegelaa", sum := "2f7c873a988c724de3282dece1a1db6f4e2c58292bb4113a30698b731595581e", func := "drifter/drifterlaw09.StockKept", spec := "stockKept", unfollowed := true, recurses := true, plainKeys := false, apart := false }
def StockKeptSaid : Prop := stockKeptRow.holds Try.pinned (OpenSpec.ofChange stockKeptSpec)

/-- ITS FALSE NEIGHBOUR: 'it returns false'. Refute it at one input. -/
def stockKeptWrong : ChangeSpec := { name := "stockKept", fn := fun _ => fun
  | [d1, d2, d3] => { results := [.lit (.bool false)], args := [d1, d2, d3] }
  | _ => none }
def StockKeptWrongFalsely : Prop := stockKeptRow.holds Try.pinned (OpenSpec.ofChange stockKeptWrong)

/-- 'drifterlaw09.StockBreaks': WHATEVER THE INPUT: true; the input reads as it did. -/
def stockBreaksSpec : ChangeSpec := { name := "stockBreaks", fn := fun _ => fun
  | [d1, d2, d3] => { results := [.lit (.bool true)], args := [d1, d2, d3] }
  | _ => none }
def stockBreaksRow : OpenClaim := { program := "ytdiclbgklegelaa", sum := "2f7c873a988c724de3282dece1a1db6f4e2c58292bb4113a30698b731595581e", func := "drifter/drifterlaw09.StockBreaks", spec := "stockBreaks", unfollowed := true, recurses := true, plainKeys := false, apart := false }
def StockBreaksSaid : Prop := stockBreaksRow.holds Try.pinned (OpenSpec.ofChange stockBreaksSpec)

/-- ITS FALSE NEIGHBOUR: 'it returns false'. Refute it at one input. -/
def stockBreaksWrong : ChangeSpec := { name := "stockBreaks", fn := fun _ => fun
  | [d1, d2, d3] => { results := [.lit (.bool false)], args := [d1, d2, d3] }
  | _ => none }
def StockBreaksWrongFalsely : Prop := stockBreaksRow.holds Try.pinned (OpenSpec.ofChange stockBreaksWrong)

/-- 'drifterlaw09.StockMore': WHATEVER THE INPUT: true; the input reads as it did. -/
def stockMoreSpec : ChangeSpec := { name := "stockMore", fn := fun _ => fun
  | [d1, d2] => { results := [.lit (.bool true)], args := [d1, d2] }
  | _ => none }
def stockMoreRow : OpenClaim := { program := "ytdiclbgklegelaa", sum := "2f7c873a988c724de3282dece1a1db6f4e2c58292bb4113a30698b731595581e", func := "drifter/drifterlaw09.StockMore", spec := "stockMore", unfollowed := true, recurses := true, plainKeys := false, apart := false }
def StockMoreSaid : Prop := stockMoreRow.holds Try.pinned (OpenSpec.ofChange stockMoreSpec)

/-- ITS FALSE NEIGHBOUR: 'it returns false'. Refute it at one input. -/
def stockMoreWrong : ChangeSpec := { name := "stockMore", fn := fun _ => fun
  | [d1, d2] => { results := [.lit (.bool false)], args := [d1, d2] }
  | _ => none }
def StockMoreWrongFalsely : Prop := stockMoreRow.holds Try.pinned (OpenSpec.ofChange stockMoreWrong)

/-- 'drifterlaw09.StockSpared': WHATEVER THE INPUT: true; the input reads as it did. -/
def stockSparedSpec : ChangeSpec := { name := "stockSpared", fn := fun _ => fun
  | [d1, d2, d3] => { results := [.lit (.bool true)], args := [d1, d2, d3] }
  | _ => none }
def stockSparedRow : OpenClaim := { program := "ytdiclbgklegelaa", sum := "2f7c873a988c724de3282dece1a1db6f4e2c58292bb4113a30698b731595581e", func := "drifter/drifterlaw09.StockSpared", spec := "stockSpared", unfollowed := true, recurses := true, plainKeys := false, apart := false }
def StockSparedSaid : Prop := stockSparedRow.holds Try.pinned (OpenSpec.ofChange stockSparedSpec)

/-- ITS FALSE NEIGHBOUR: 'it returns false'. Refute it at one input. -/
def stockSparedWrong : ChangeSpec := { name := "stockSpared", fn := fun _ => fun
  | [d1, d2, d3] => { results := [.lit (.bool false)], args := [d1, d2, d3] }
  | _ => none }
def StockSparedWrongFalsely : Prop := stockSparedRow.holds Try.pinned (OpenSpec.ofChange stockSparedWrong)

/-- 'drifterlaw09.StockKnown': WHATEVER THE INPUT: true; the input reads as it did. -/
def stockKnownSpec : ChangeSpec := { name := "stockKnown", fn := fun _ => fun
  | [] => { results := [.lit (.bool true)], args := [] }
  | _ => none }
def stockKnownRow : OpenClaim := { program := "ytdiclbgklegelaa", sum := "2f7c873a988c724de3282dece1a1db6f4e2c58292bb4113a30698b731595581e", func := "drifter/drifterlaw09.StockKnown", spec := "stockKnown", unfollowed := true, recurses := true, plainKeys := false, apart := false }
def StockKnownSaid : Prop := stockKnownRow.holds Try.pinned (OpenSpec.ofChange stockKnownSpec)

/-- ITS FALSE NEIGHBOUR: 'it returns false'. Refute it at one input. -/
def stockKnownWrong : ChangeSpec := { name := "stockKnown", fn := fun _ => fun
  | [] => { results := [.lit (.bool false)], args := [] }
  | _ => none }
def StockKnownWrongFalsely : Prop := stockKnownRow.holds Try.pinned (OpenSpec.ofChange stockKnownWrong)

/- THE SECOND FORM. 'bulk': how many values and letters a reading holds, each counted each time it is reached (what is shared counts as often as it is met; a slice's spare places count too). A statement '..UptoSaid' is the law's where the arguments, and the package variables that the reading takes, are together of bulk at most 1048576: NARROWER than '..Said'. Prove '..Said' where nothing that the law and all that it calls make is longer than what came in: it says more and counts as full. Else prove '..UptoSaid'. A law counts once. -/
mutual
def uptoBulk {H : Type} : DataW H → Nat
  | .lit (.string bytes) => bytes.length + 1
  | .lit _ => 1
  | .nil => 1
  | .ptr d => uptoBulk d + 1
  | .slice elems spare => uptoBulkAll elems + uptoBulkAll spare + 1
  | .agg parts => uptoBulkAll parts + 1
  | .iface _ d => uptoBulk d + 1
  | .map entries => uptoBulkEntries entries + 1
  | .held _ => 1
def uptoBulkAll {H : Type} : List (DataW H) → Nat
  | [] => 0
  | d :: r => uptoBulk d + uptoBulkAll r
def uptoBulkEntries {H : Type} : List (Lit × DataW H) → Nat
  | [] => 0
  | x :: r => uptoBulkEntry x + uptoBulkEntries r
def uptoBulkEntry {H : Type} : Lit × DataW H → Nat
  | (.string bytes, d) => bytes.length + uptoBulk d + 1
  | (_, d) => uptoBulk d + 1
 end
def uptoSmall : (H : Type) → List (DataW H) → Bool := fun _ ds => decide (uptoBulkAll ds ≤ 1048576)
def OpenSpec.upto (s : _root_.Go.ChangeSpec) : _root_.Go.OpenSpec := { _root_.Go.OpenSpec.ofChange s with cond := some uptoSmall }

/-- 'drifterlaw09.StockAges', WHERE WHAT IT READS IS OF BULK AT MOST 1048576: true; the input reads as it did. -/
def stockAgesUptoRow : OpenClaim := { program := "ytdiclbgklegelaa", sum := "2f7c873a988c724de3282dece1a1db6f4e2c58292bb4113a30698b731595581e", func := "drifter/drifterlaw09.StockAges", spec := "stockAges", unfollowed := true, recurses := true, plainKeys := false, apart := false, narrowed := true }
def StockAgesUptoSaid : Prop := stockAgesUptoRow.holds Try.pinned (OpenSpec.upto stockAgesSpec)

/-- 'drifterlaw09.StockShares', WHERE WHAT IT READS IS OF BULK AT MOST 1048576: true; the input reads as it did. -/
def stockSharesUptoRow : OpenClaim := { program := "ytdiclbgklegelaa", sum := "2f7c873a988c724de3282dece1a1db6f4e2c58292bb4113a30698b731595581e", func := "drifter/drifterlaw09.StockShares", spec := "stockShares", unfollowed := true, recurses := true, plainKeys := false, apart := false, narrowed := true }
def StockSharesUptoSaid : Prop := stockSharesUptoRow.holds Try.pinned (OpenSpec.upto stockSharesSpec)

/-- 'drifterlaw09.StockPlays', WHERE WHAT IT READS IS OF BULK AT MOST 1048576: true; the input reads as it did. -/
def stockPlaysUptoRow : OpenClaim := { program := "ytdiclbgklegelaa", sum := "2f7c873a988c724de3282dece1a1db6f4e2c58292bb4113a30698b731595581e", func := "drifter/drifterlaw09.StockPlays", spec := "stockPlays", unfollowed := true, recurses := true, plainKeys := false, apart := false, narrowed := true }
def StockPlaysUptoSaid : Prop := stockPlaysUptoRow.holds Try.pinned (OpenSpec.upto stockPlaysSpec)

/-- 'drifterlaw09.StockQuotas', WHERE WHAT IT READS IS OF BULK AT MOST 1048576: true; the input reads as it did. -/
def stockQuotasUptoRow : OpenClaim := { program := "ytdiclbgklegelaa", sum := "2f7c873a988c724de3282dece1a1db6f4e2c58292bb4113a30698b731595581e", func := "drifter/drifterlaw09.StockQuotas", spec := "stockQuotas", unfollowed := true, recurses := true, plainKeys := false, apart := false, narrowed := true }
def StockQuotasUptoSaid : Prop := stockQuotasUptoRow.holds Try.pinned (OpenSpec.upto stockQuotasSpec)

/-- 'drifterlaw09.StockCloses', WHERE WHAT IT READS IS OF BULK AT MOST 1048576: true; the input reads as it did. -/
def stockClosesUptoRow : OpenClaim := { program := "ytdiclbgklegelaa", sum := "2f7c873a988c724de3282dece1a1db6f4e2c58292bb4113a30698b731595581e", func := "drifter/drifterlaw09.StockCloses", spec := "stockCloses", unfollowed := true, recurses := true, plainKeys := false, apart := false, narrowed := true }
def StockClosesUptoSaid : Prop := stockClosesUptoRow.holds Try.pinned (OpenSpec.upto stockClosesSpec)

/-- 'drifterlaw09.StockTruth', WHERE WHAT IT READS IS OF BULK AT MOST 1048576: true; the input reads as it did. -/
def stockTruthUptoRow : OpenClaim := { program := "ytdiclbgklegelaa", sum := "2f7c873a988c724de3282dece1a1db6f4e2c58292bb4113a30698b731595581e", func := "drifter/drifterlaw09.StockTruth", spec := "stockTruth", unfollowed := true, recurses := true, plainKeys := false, apart := false, narrowed := true }
def StockTruthUptoSaid : Prop := stockTruthUptoRow.holds Try.pinned (OpenSpec.upto stockTruthSpec)

/-- 'drifterlaw09.StockMixed', WHERE WHAT IT READS IS OF BULK AT MOST 1048576: true; the input reads as it did. -/
def stockMixedUptoRow : OpenClaim := { program := "ytdiclbgklegelaa", sum := "2f7c873a988c724de3282dece1a1db6f4e2c58292bb4113a30698b731595581e", func := "drifter/drifterlaw09.StockMixed", spec := "stockMixed", unfollowed := true, recurses := true, plainKeys := false, apart := false, narrowed := true }
def StockMixedUptoSaid : Prop := stockMixedUptoRow.holds Try.pinned (OpenSpec.upto stockMixedSpec)

/-- 'drifterlaw09.StockSpread', WHERE WHAT IT READS IS OF BULK AT MOST 1048576: true; the input reads as it did. -/
def stockSpreadUptoRow : OpenClaim := { program := "ytdiclbgklegelaa", sum := "2f7c873a988c724de3282dece1a1db6f4e2c58292bb4113a30698b731595581e", func := "drifter/drifterlaw09.StockSpread", spec := "stockSpread", unfollowed := true, recurses := true, plainKeys := false, apart := false, narrowed := true }
def StockSpreadUptoSaid : Prop := stockSpreadUptoRow.holds Try.pinned (OpenSpec.upto stockSpreadSpec)

/-- 'drifterlaw09.StockFalls', WHERE WHAT IT READS IS OF BULK AT MOST 1048576: true; the input reads as it did. -/
def stockFallsUptoRow : OpenClaim := { program := "ytdiclbgklegelaa", sum := "2f7c873a988c724de3282dece1a1db6f4e2c58292bb4113a30698b731595581e", func := "drifter/drifterlaw09.StockFalls", spec := "stockFalls", unfollowed := true, recurses := true, plainKeys := false, apart := false, narrowed := true }
def StockFallsUptoSaid : Prop := stockFallsUptoRow.holds Try.pinned (OpenSpec.upto stockFallsSpec)

/-- 'drifterlaw09.StockYear', WHERE WHAT IT READS IS OF BULK AT MOST 1048576: true; the input reads as it did. -/
def stockYearUptoRow : OpenClaim := { program := "ytdiclbgklegelaa", sum := "2f7c873a988c724de3282dece1a1db6f4e2c58292bb4113a30698b731595581e", func := "drifter/drifterlaw09.StockYear", spec := "stockYear", unfollowed := true, recurses := true, plainKeys := false, apart := false, narrowed := true }
def StockYearUptoSaid : Prop := stockYearUptoRow.holds Try.pinned (OpenSpec.upto stockYearSpec)

/-- 'drifterlaw09.StockKept', WHERE WHAT IT READS IS OF BULK AT MOST 1048576: true; the input reads as it did. -/
def stockKeptUptoRow : OpenClaim := { program := "ytdiclbgklegelaa", sum := "2f7c873a988c724de3282dece1a1db6f4e2c58292bb4113a30698b731595581e", func := "drifter/drifterlaw09.StockKept", spec := "stockKept", unfollowed := true, recurses := true, plainKeys := false, apart := false, narrowed := true }
def StockKeptUptoSaid : Prop := stockKeptUptoRow.holds Try.pinned (OpenSpec.upto stockKeptSpec)

/-- 'drifterlaw09.StockBreaks', WHERE WHAT IT READS IS OF BULK AT MOST 1048576: true; the input reads as it did. -/
def stockBreaksUptoRow : OpenClaim := { program := "ytdiclbgklegelaa", sum := "2f7c873a988c724de3282dece1a1db6f4e2c58292bb4113a30698b731595581e", func := "drifter/drifterlaw09.StockBreaks", spec := "stockBreaks", unfollowed := true, recurses := true, plainKeys := false, apart := false, narrowed := true }
def StockBreaksUptoSaid : Prop := stockBreaksUptoRow.holds Try.pinned (OpenSpec.upto stockBreaksSpec)

/-- 'drifterlaw09.StockMore', WHERE WHAT IT READS IS OF BULK AT MOST 1048576: true; the input reads as it did. -/
def stockMoreUptoRow : OpenClaim := { program := "ytdiclbgklegelaa", sum := "2f7c873a988c724de3282dece1a1db6f4e2c58292bb4113a30698b731595581e", func := "drifter/drifterlaw09.StockMore", spec := "stockMore", unfollowed := true, recurses := true, plainKeys := false, apart := false, narrowed := true }
def StockMoreUptoSaid : Prop := stockMoreUptoRow.holds Try.pinned (OpenSpec.upto stockMoreSpec)

/-- 'drifterlaw09.StockSpared', WHERE WHAT IT READS IS OF BULK AT MOST 1048576: true; the input reads as it did. -/
def stockSparedUptoRow : OpenClaim := { program := "ytdiclbgklegelaa", sum := "2f7c873a988c724de3282dece1a1db6f4e2c58292bb4113a30698b731595581e", func := "drifter/drifterlaw09.StockSpared", spec := "stockSpared", unfollowed := true, recurses := true, plainKeys := false, apart := false, narrowed := true }
def StockSparedUptoSaid : Prop := stockSparedUptoRow.holds Try.pinned (OpenSpec.upto stockSparedSpec)

/-- 'drifterlaw09.StockKnown', WHERE WHAT IT READS IS OF BULK AT MOST 1048576: true; the input reads as it did. -/
def stockKnownUptoRow : OpenClaim := { program := "ytdiclbgklegelaa", sum := "2f7c873a988c724de3282dece1a1db6f4e2c58292bb4113a30698b731595581e", func := "drifter/drifterlaw09.StockKnown", spec := "stockKnown", unfollowed := true, recurses := true, plainKeys := false, apart := false, narrowed := true }
def StockKnownUptoSaid : Prop := stockKnownUptoRow.holds Try.pinned (OpenSpec.upto stockKnownSpec)

end Rows
end Go.Proofs.Ytdiclbgklegelaa
