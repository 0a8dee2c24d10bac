/-
  No cell of these rows narrows 'for every input' (looked for: loops, veiled, ifaces, maps, wideKeys, modest, calm, conditions, laid).
  DERIVED. THE GIVEN ROWS OF THIS SEAT. 13 by the template 'for every input the law returns true; each argument reads behind the call as it read before'; 0 by the template 'total and deterministic' (their statements: YtohbjneaaahpcaaTotals.lean).
  GIVEN WITH THE SEED: the statements are not yours to turn. If you find one false, say at which input.
  Laid BY PROGRAM, IN A SANDBOX (cutbox-rows.mjs): the forced cells as the released guide's own fill.sh prints them over the translation 0457d5f744b5ec5d… (all of the seat's roots in one cut). By AI agents, Wed Nov 11 2026. No macro, syntax, notation, axiom, sorry.
-/
import Derived.Test.YtohbjneaaahpcaaChecked
import GoSem.Claim
import GoSem.ClaimJoined
import GoSem.ClaimMapViews
import Derived.JoinedTies
import Derived.KernelRfl
namespace Go.Proofs.Ytohbjneaaahpcaa
/- THE CELL 'sum', in the pinned program and in every row, IS THE sha256 OF THE DUMP (.gsa) THAT YtohbjneaaahpcaaProg.lean LOADS. Nothing in Lean hashes anything: it is a label: what it is worth is what the hold of that sum in a sandbox is worth. -/
noncomputable def Try.pinned : Pinned := { name := "ytohbjneaaahpcaa", sum := "0457d5f744b5ec5d0924393c03972108b499462e8b39f62568fdd8fea7f5f44b", checked := Try.checked }
namespace Rows
def none {H : Type} : Left H := { results := [], args := [] }

/-- 'drifterlaw01.ShoalTracks': WHATEVER THE INPUT: true; the input reads as it did. -/
def shoalTracksSpec : ChangeSpec := { name := "shoalTracks", fn := fun _ => fun
  | [d1, d2] => { results := [.lit (.bool true)], args := [d1, d2] }
  | _ => none }
def shoalTracksRow : OpenClaim := { program := "ytohbjneaaahpcaa", sum := "0457d5f744b5ec5d0924393c03972108b499462e8b39f62568fdd8fea7f5f44b", func := "drifter/drifterlaw01.ShoalTracks", spec := "shoalTracks", unfollowed := true, recurses := true, plainKeys := false, apart := false }
def ShoalTracksSaid : Prop := shoalTracksRow.holds Try.pinned (OpenSpec.ofChange shoalTracksSpec)

/-- ITS FALSE NEIGHBOUR: 'it returns false'. Refute it at one input. -/
def shoalTracksWrong : ChangeSpec := { name := "shoalTracks", fn := fun _ => fun
  | [d1, d2] => { results := [.lit (.bool false)], args := [d1, d2] }
  | _ => none }
def ShoalTracksWrongFalsely : Prop := shoalTracksRow.holds Try.pinned (OpenSpec.ofChange shoalTracksWrong)

/-- 'drifterlaw01.ShoalCans': WHATEVER THE INPUT: true; the input reads as it did. -/
def shoalCansSpec : ChangeSpec := { name := "shoalCans", fn := fun _ => fun
  | [d1, d2] => { results := [.lit (.bool true)], args := [d1, d2] }
  | _ => none }
def shoalCansRow : OpenClaim := { program := "ytohbjneaaahpcaa", sum := "0457d5f744b5ec5d0924393c03972108b499462e8b39f62568fdd8fea7f5f44b", func := "drifter/drifterlaw01.ShoalCans", spec := "shoalCans", unfollowed := true, recurses := true, plainKeys := false, apart := false }
def ShoalCansSaid : Prop := shoalCansRow.holds Try.pinned (OpenSpec.ofChange shoalCansSpec)

/-- ITS FALSE NEIGHBOUR: 'it returns false'. Refute it at one input. -/
def shoalCansWrong : ChangeSpec := { name := "shoalCans", fn := fun _ => fun
  | [d1, d2] => { results := [.lit (.bool false)], args := [d1, d2] }
  | _ => none }
def ShoalCansWrongFalsely : Prop := shoalCansRow.holds Try.pinned (OpenSpec.ofChange shoalCansWrong)

/-- 'drifterlaw01.ShoalLies': WHATEVER THE INPUT: true; the input reads as it did. -/
def shoalLiesSpec : ChangeSpec := { name := "shoalLies", fn := fun _ => fun
  | [d] => { results := [.lit (.bool true)], args := [d] }
  | _ => none }
def shoalLiesRow : OpenClaim := { program := "ytohbjneaaahpcaa", sum := "0457d5f744b5ec5d0924393c03972108b499462e8b39f62568fdd8fea7f5f44b", func := "drifter/drifterlaw01.ShoalLies", spec := "shoalLies", unfollowed := true, recurses := true, plainKeys := false, apart := false }
def ShoalLiesSaid : Prop := shoalLiesRow.holds Try.pinned (OpenSpec.ofChange shoalLiesSpec)

/-- ITS FALSE NEIGHBOUR: 'it returns false'. Refute it at one input. -/
def shoalLiesWrong : ChangeSpec := { name := "shoalLies", fn := fun _ => fun
  | [d] => { results := [.lit (.bool false)], args := [d] }
  | _ => none }
def ShoalLiesWrongFalsely : Prop := shoalLiesRow.holds Try.pinned (OpenSpec.ofChange shoalLiesWrong)

/-- 'drifterlaw01.ShoalAsks': WHATEVER THE INPUT: true; the input reads as it did. -/
def shoalAsksSpec : ChangeSpec := { name := "shoalAsks", fn := fun _ => fun
  | [d1, d2, d3] => { results := [.lit (.bool true)], args := [d1, d2, d3] }
  | _ => none }
def shoalAsksRow : OpenClaim := { program := "ytohbjneaaahpcaa", sum := "0457d5f744b5ec5d0924393c03972108b499462e8b39f62568fdd8fea7f5f44b", func := "drifter/drifterlaw01.ShoalAsks", spec := "shoalAsks", unfollowed := true, recurses := true, plainKeys := false, apart := false }
def ShoalAsksSaid : Prop := shoalAsksRow.holds Try.pinned (OpenSpec.ofChange shoalAsksSpec)

/-- ITS FALSE NEIGHBOUR: 'it returns false'. Refute it at one input. -/
def shoalAsksWrong : ChangeSpec := { name := "shoalAsks", fn := fun _ => fun
  | [d1, d2, d3] => { results := [.lit (.bool false)], args := [d1, d2, d3] }
  | _ => none }
def ShoalAsksWrongFalsely : Prop := shoalAsksRow.holds Try.pinned (OpenSpec.ofChange shoalAsksWrong)

/-- 'drifterlaw01.ShoalHolds': WHATEVER THE INPUT: true; the input reads as it did. -/
def shoalHoldsSpec : ChangeSpec := { name := "shoalHolds", fn := fun _ => fun
  | [d1, d2] => { results := [.lit (.bool true)], args := [d1, d2] }
  | _ => none }
def shoalHoldsRow : OpenClaim := { program := "ytohbjneaaahpcaa", sum := "0457d5f744b5ec5d0924393c03972108b499462e8b39f62568fdd8fea7f5f44b", func := "drifter/drifterlaw01.ShoalHolds", spec := "shoalHolds", unfollowed := true, recurses := true, plainKeys := false, apart := false }
def ShoalHoldsSaid : Prop := shoalHoldsRow.holds Try.pinned (OpenSpec.ofChange shoalHoldsSpec)

/-- ITS FALSE NEIGHBOUR: 'it returns false'. Refute it at one input. -/
def shoalHoldsWrong : ChangeSpec := { name := "shoalHolds", fn := fun _ => fun
  | [d1, d2] => { results := [.lit (.bool false)], args := [d1, d2] }
  | _ => none }
def ShoalHoldsWrongFalsely : Prop := shoalHoldsRow.holds Try.pinned (OpenSpec.ofChange shoalHoldsWrong)

/-- 'drifterlaw01.ShoalFirst': WHATEVER THE INPUT: true; the input reads as it did. -/
def shoalFirstSpec : ChangeSpec := { name := "shoalFirst", fn := fun _ => fun
  | [d1, d2] => { results := [.lit (.bool true)], args := [d1, d2] }
  | _ => none }
def shoalFirstRow : OpenClaim := { program := "ytohbjneaaahpcaa", sum := "0457d5f744b5ec5d0924393c03972108b499462e8b39f62568fdd8fea7f5f44b", func := "drifter/drifterlaw01.ShoalFirst", spec := "shoalFirst", unfollowed := true, recurses := true, plainKeys := false, apart := false }
def ShoalFirstSaid : Prop := shoalFirstRow.holds Try.pinned (OpenSpec.ofChange shoalFirstSpec)

/-- ITS FALSE NEIGHBOUR: 'it returns false'. Refute it at one input. -/
def shoalFirstWrong : ChangeSpec := { name := "shoalFirst", fn := fun _ => fun
  | [d1, d2] => { results := [.lit (.bool false)], args := [d1, d2] }
  | _ => none }
def ShoalFirstWrongFalsely : Prop := shoalFirstRow.holds Try.pinned (OpenSpec.ofChange shoalFirstWrong)

/-- 'drifterlaw01.ShoalReached': WHATEVER THE INPUT: true; the input reads as it did. -/
def shoalReachedSpec : ChangeSpec := { name := "shoalReached", fn := fun _ => fun
  | [d1, d2] => { results := [.lit (.bool true)], args := [d1, d2] }
  | _ => none }
def shoalReachedRow : OpenClaim := { program := "ytohbjneaaahpcaa", sum := "0457d5f744b5ec5d0924393c03972108b499462e8b39f62568fdd8fea7f5f44b", func := "drifter/drifterlaw01.ShoalReached", spec := "shoalReached", unfollowed := true, recurses := true, plainKeys := false, apart := false }
def ShoalReachedSaid : Prop := shoalReachedRow.holds Try.pinned (OpenSpec.ofChange shoalReachedSpec)

/-- ITS FALSE NEIGHBOUR: 'it returns false'. Refute it at one input. -/
def shoalReachedWrong : ChangeSpec := { name := "shoalReached", fn := fun _ => fun
  | [d1, d2] => { results := [.lit (.bool false)], args := [d1, d2] }
  | _ => none }
def ShoalReachedWrongFalsely : Prop := shoalReachedRow.holds Try.pinned (OpenSpec.ofChange shoalReachedWrong)

/-- 'drifterlaw01.ShoalMore': WHATEVER THE INPUT: true; the input reads as it did. -/
def shoalMoreSpec : ChangeSpec := { name := "shoalMore", fn := fun _ => fun
  | [d1, d2, d3] => { results := [.lit (.bool true)], args := [d1, d2, d3] }
  | _ => none }
def shoalMoreRow : OpenClaim := { program := "ytohbjneaaahpcaa", sum := "0457d5f744b5ec5d0924393c03972108b499462e8b39f62568fdd8fea7f5f44b", func := "drifter/drifterlaw01.ShoalMore", spec := "shoalMore", unfollowed := true, recurses := true, plainKeys := false, apart := false }
def ShoalMoreSaid : Prop := shoalMoreRow.holds Try.pinned (OpenSpec.ofChange shoalMoreSpec)

/-- ITS FALSE NEIGHBOUR: 'it returns false'. Refute it at one input. -/
def shoalMoreWrong : ChangeSpec := { name := "shoalMore", fn := fun _ => fun
  | [d1, d2, d3] => { results := [.lit (.bool false)], args := [d1, d2, d3] }
  | _ => none }
def ShoalMoreWrongFalsely : Prop := shoalMoreRow.holds Try.pinned (OpenSpec.ofChange shoalMoreWrong)

/-- 'drifterlaw01.ShoalAccused': WHATEVER THE INPUT: true; the input reads as it did. -/
def shoalAccusedSpec : ChangeSpec := { name := "shoalAccused", fn := fun _ => fun
  | [d1, d2, d3] => { results := [.lit (.bool true)], args := [d1, d2, d3] }
  | _ => none }
def shoalAccusedRow : OpenClaim := { program := "ytohbjneaaahpcaa", sum := "0457d5f744b5ec5d0924393c03972108b499462e8b39f62568fdd8fea7f5f44b", func := "drifter/drifterlaw01.ShoalAccused", spec := "shoalAccused", unfollowed := true, recurses := true, plainKeys := false, apart := false }
def ShoalAccusedSaid : Prop := shoalAccusedRow.holds Try.pinned (OpenSpec.ofChange shoalAccusedSpec)

/-- ITS FALSE NEIGHBOUR: 'it returns false'. Refute it at one input. -/
def shoalAccusedWrong : ChangeSpec := { name := "shoalAccused", fn := fun _ => fun
  | [d1, d2, d3] => { results := [.lit (.bool false)], args := [d1, d2, d3] }
  | _ => none }
def ShoalAccusedWrongFalsely : Prop := shoalAccusedRow.holds Try.pinned (OpenSpec.ofChange shoalAccusedWrong)

/-- 'drifterlaw01.ShoalLeft': WHATEVER THE INPUT: true; the input reads as it did. -/
def shoalLeftSpec : ChangeSpec := { name := "shoalLeft", fn := fun _ => fun
  | [d1, d2, d3] => { results := [.lit (.bool true)], args := [d1, d2, d3] }
  | _ => none }
def shoalLeftRow : OpenClaim := { program := "ytohbjneaaahpcaa", sum := "0457d5f744b5ec5d0924393c03972108b499462e8b39f62568fdd8fea7f5f44b", func := "drifter/drifterlaw01.ShoalLeft", spec := "shoalLeft", unfollowed := true, recurses := true, plainKeys := false, apart := false }
def ShoalLeftSaid : Prop := shoalLeftRow.holds Try.pinned (OpenSpec.ofChange shoalLeftSpec)

/-- ITS FALSE NEIGHBOUR: 'it returns false'. Refute it at one input. -/
def shoalLeftWrong : ChangeSpec := { name := "shoalLeft", fn := fun _ => fun
  | [d1, d2, d3] => { results := [.lit (.bool false)], args := [d1, d2, d3] }
  | _ => none }
def ShoalLeftWrongFalsely : Prop := shoalLeftRow.holds Try.pinned (OpenSpec.ofChange shoalLeftWrong)

/-- 'drifterlaw01.ShoalFound': WHATEVER THE INPUT: true; the input reads as it did. -/
def shoalFoundSpec : ChangeSpec := { name := "shoalFound", fn := fun _ => fun
  | [d1, d2, d3] => { results := [.lit (.bool true)], args := [d1, d2, d3] }
  | _ => none }
def shoalFoundRow : OpenClaim := { program := "ytohbjneaaahpcaa", sum := "0457d5f744b5ec5d0924393c03972108b499462e8b39f62568fdd8fea7f5f44b", func := "drifter/drifterlaw01.ShoalFound", spec := "shoalFound", unfollowed := true, recurses := true, plainKeys := false, apart := false }
def ShoalFoundSaid : Prop := shoalFoundRow.holds Try.pinned (OpenSpec.ofChange shoalFoundSpec)

/-- ITS FALSE NEIGHBOUR: 'it returns false'. Refute it at one input. -/
def shoalFoundWrong : ChangeSpec := { name := "shoalFound", fn := fun _ => fun
  | [d1, d2, d3] => { results := [.lit (.bool false)], args := [d1, d2, d3] }
  | _ => none }
def ShoalFoundWrongFalsely : Prop := shoalFoundRow.holds Try.pinned (OpenSpec.ofChange shoalFoundWrong)

/-- 'drifterlaw01.ShoalMirror': WHATEVER THE INPUT: true; the input reads as it did. -/
def shoalMirrorSpec : ChangeSpec := { name := "shoalMirror", fn := fun _ => fun
  | [d1, d2] => { results := [.lit (.bool true)], args := [d1, d2] }
  | _ => none }
def shoalMirrorRow : OpenClaim := { program := "ytohbjneaaahpcaa", sum := "0457d5f744b5ec5d0924393c03972108b499462e8b39f62568fdd8fea7f5f44b", func := "drifter/drifterlaw01.ShoalMirror", spec := "shoalMirror", unfollowed := true, recurses := true, plainKeys := false, apart := false }
def ShoalMirrorSaid : Prop := shoalMirrorRow.holds Try.pinned (OpenSpec.ofChange shoalMirrorSpec)

/-- ITS FALSE NEIGHBOUR: 'it returns false'. Refute it at one input. -/
def shoalMirrorWrong : ChangeSpec := { name := "shoalMirror", fn := fun _ => fun
  | [d1, d2] => { results := [.lit (.bool false)], args := [d1, d2] }
  | _ => none }
def ShoalMirrorWrongFalsely : Prop := shoalMirrorRow.holds Try.pinned (OpenSpec.ofChange shoalMirrorWrong)

/-- 'drifterlaw01.ShoalKnown': WHATEVER THE INPUT: true; the input reads as it did. -/
def shoalKnownSpec : ChangeSpec := { name := "shoalKnown", fn := fun _ => fun
  | [] => { results := [.lit (.bool true)], args := [] }
  | _ => none }
def shoalKnownRow : OpenClaim := { program := "ytohbjneaaahpcaa", sum := "0457d5f744b5ec5d0924393c03972108b499462e8b39f62568fdd8fea7f5f44b", func := "drifter/drifterlaw01.ShoalKnown", spec := "shoalKnown", unfollowed := true, recurses := true, plainKeys := false, apart := false }
def ShoalKnownSaid : Prop := shoalKnownRow.holds Try.pinned (OpenSpec.ofChange shoalKnownSpec)

/-- ITS FALSE NEIGHBOUR: 'it returns false'. Refute it at one input. -/
def shoalKnownWrong : ChangeSpec := { name := "shoalKnown", fn := fun _ => fun
  | [] => { results := [.lit (.bool false)], args := [] }
  | _ => none }
def ShoalKnownWrongFalsely : Prop := shoalKnownRow.holds Try.pinned (OpenSpec.ofChange shoalKnownWrong)

/- THE SECOND FORM. 'bulk': how many values and letters a reading holds, each counted each time it is reached (what is shared counts as often as it is met; a slice's spare places count too). A statement '..UptoSaid' is the law's where the arguments, and the package variables that the reading takes, are together of bulk at most 1048576: NARROWER than '..Said'. Prove '..Said' where nothing that the law and all that it calls make is longer than what came in: it says more and counts as full. Else prove '..UptoSaid'. A law counts once. -/
mutual
def uptoBulk {H : Type} : DataW H → Nat
  | .lit (.string bytes) => bytes.length + 1
  | .lit _ => 1
  | .nil => 1
  | .ptr d => uptoBulk d + 1
  | .slice elems spare => uptoBulkAll elems + uptoBulkAll spare + 1
  | .agg parts => uptoBulkAll parts + 1
  | .iface _ d => uptoBulk d + 1
  | .map entries => uptoBulkEntries entries + 1
  | .held _ => 1
def uptoBulkAll {H : Type} : List (DataW H) → Nat
  | [] => 0
  | d :: r => uptoBulk d + uptoBulkAll r
def uptoBulkEntries {H : Type} : List (Lit × DataW H) → Nat
  | [] => 0
  | x :: r => uptoBulkEntry x + uptoBulkEntries r
def uptoBulkEntry {H : Type} : Lit × DataW H → Nat
  | (.string bytes, d) => bytes.length + uptoBulk d + 1
  | (_, d) => uptoBulk d + 1
 end
def uptoSmall : (H : Type) → List (DataW H) → Bool := fun _ ds => decide (uptoBulkAll ds ≤ 1048576)
def OpenSpec.upto (s : _root_.Go.ChangeSpec) : _root_.Go.OpenSpec := { _root_.Go.OpenSpec.ofChange s with cond := some uptoSmall }

/-- 'drifterlaw01.ShoalTracks', WHERE WHAT IT READS IS OF BULK AT MOST 1048576: true; the input reads as it did. -/
def shoalTracksUptoRow : OpenClaim := { program := "ytohbjneaaahpcaa", sum := "0457d5f744b5ec5d0924393c03972108b499462e8b39f62568fdd8fea7f5f44b", func := "drifter/drifterlaw01.ShoalTracks", spec := "shoalTracks", unfollowed := true, recurses := true, plainKeys := false, apart := false, narrowed := true }
def ShoalTracksUptoSaid : Prop := shoalTracksUptoRow.holds Try.pinned (OpenSpec.upto shoalTracksSpec)

/-- 'drifterlaw01.ShoalCans', WHERE WHAT IT READS IS OF BULK AT MOST 1048576: true; the input reads as it did. -/
def shoalCansUptoRow : OpenClaim := { program := "ytohbjneaaahpcaa", sum := "0457d5f744b5ec5d0924393c03972108b499462e8b39f62568fdd8fea7f5f44b", func := "drifter/drifterlaw01.ShoalCans", spec := "shoalCans", unfollowed := true, recurses := true, plainKeys := false, apart := false, narrowed := true }
def ShoalCansUptoSaid : Prop := shoalCansUptoRow.holds Try.pinned (OpenSpec.upto shoalCansSpec)

/-- 'drifterlaw01.ShoalLies', WHERE WHAT IT READS IS OF BULK AT MOST 1048576: true; the input reads as it did. -/
def shoalLiesUptoRow : OpenClaim := { program := "ytohbjneaaahpcaa", sum := "0457d5f744b5ec5d0924393c03972108b499462e8b39f62568fdd8fea7f5f44b", func := "drifter/drifterlaw01.ShoalLies", spec := "shoalLies", unfollowed := true, recurses := true, plainKeys := false, apart := false, narrowed := true }
def ShoalLiesUptoSaid : Prop := shoalLiesUptoRow.holds Try.pinned (OpenSpec.upto shoalLiesSpec)

/-- 'drifterlaw01.ShoalAsks', WHERE WHAT IT READS IS OF BULK AT MOST 1048576: true; the input reads as it did. -/
def shoalAsksUptoRow : OpenClaim := { program := "ytohbjneaaahpcaa", sum := "0457d5f744b5ec5d0924393c03972108b499462e8b39f62568fdd8fea7f5f44b", func := "drifter/drifterlaw01.ShoalAsks", spec := "shoalAsks", unfollowed := true, recurses := true, plainKeys := false, apart := false, narrowed := true }
def ShoalAsksUptoSaid : Prop := shoalAsksUptoRow.holds Try.pinned (OpenSpec.upto shoalAsksSpec)

/-- 'drifterlaw01.ShoalHolds', WHERE WHAT IT READS IS OF BULK AT MOST 1048576: true; the input reads as it did. -/
def shoalHoldsUptoRow : OpenClaim := { program := "ytohbjneaaahpcaa", sum := "0457d5f744b5ec5d0924393c03972108b499462e8b39f62568fdd8fea7f5f44b", func := "drifter/drifterlaw01.ShoalHolds", spec := "shoalHolds", unfollowed := true, recurses := true, plainKeys := false, apart := false, narrowed := true }
def ShoalHoldsUptoSaid : Prop := shoalHoldsUptoRow.holds Try.pinned (OpenSpec.upto shoalHoldsSpec)

/-- 'drifterlaw01.ShoalFirst', WHERE WHAT IT READS IS OF BULK AT MOST 1048576: true; the input reads as it did. -/
def shoalFirstUptoRow : OpenClaim := { program := "ytohbjneaaahpcaa", sum := "0457d5f744b5ec5d0924393c03972108b499462e8b39f62568fdd8fea7f5f44b", func := "drifter/drifterlaw01.ShoalFirst", spec := "shoalFirst", unfollowed := true, recurses := true, plainKeys := false, apart := false, narrowed := true }
def ShoalFirstUptoSaid : Prop := shoalFirstUptoRow.holds Try.pinned (OpenSpec.upto shoalFirstSpec)

/-- 'drifterlaw01.ShoalReached', WHERE WHAT IT READS IS OF BULK AT MOST 1048576: true; the input reads as it did. -/
def shoalReachedUptoRow : OpenClaim := { program := "ytohbjneaaahpcaa", sum := "0457d5f744b5ec5d0924393c03972108b499462e8b39f62568fdd8fea7f5f44b", func := "drifter/drifterlaw01.ShoalReached", spec := "shoalReached", unfollowed := true, recurses := true, plainKeys := false, apart := false, narrowed := true }
def ShoalReachedUptoSaid : Prop := shoalReachedUptoRow.holds Try.pinned (OpenSpec.upto shoalReachedSpec)

/-- 'drifterlaw01.ShoalMore', WHERE WHAT IT READS IS OF BULK AT MOST 1048576: true; the input reads as it did. -/
def shoalMoreUptoRow : OpenClaim := { program := "ytohbjneaaahpcaa", sum := "0457d5f744b5ec5d0924393c03972108b499462e8b39f62568fdd8fea7f5f44b", func := "drifter/drifterlaw01.ShoalMore", spec := "shoalMore", unfollowed := true, recurses := true, plainKeys := false, apart := false, narrowed := true }
def ShoalMoreUptoSaid : Prop := shoalMoreUptoRow.holds Try.pinned (OpenSpec.upto shoalMoreSpec)

/-- 'drifterlaw01.ShoalAccused', WHERE WHAT IT READS IS OF BULK AT MOST 1048576: true; the input reads as it did. -/
def shoalAccusedUptoRow : OpenClaim := { program := "ytohbjneaaahpcaa", sum := "0457d5f744b5ec5d0924393c03972108b499462e8b39f62568fdd8fea7f5f44b", func := "drifter/drifterlaw01.ShoalAccused", spec := "shoalAccused", unfollowed := true, recurses := true, plainKeys := false, apart := false, narrowed := true }
def ShoalAccusedUptoSaid : Prop := shoalAccusedUptoRow.holds Try.pinned (OpenSpec.upto shoalAccusedSpec)

/-- 'drifterlaw01.ShoalLeft', WHERE WHAT IT READS IS OF BULK AT MOST 1048576: true; the input reads as it did. -/
def shoalLeftUptoRow : OpenClaim := { program := "ytohbjneaaahpcaa", sum := "0457d5f744b5ec5d0924393c03972108b499462e8b39f62568fdd8fea7f5f44b", func := "drifter/drifterlaw01.ShoalLeft", spec := "shoalLeft", unfollowed := true, recurses := true, plainKeys := false, apart := false, narrowed := true }
def ShoalLeftUptoSaid : Prop := shoalLeftUptoRow.holds Try.pinned (OpenSpec.upto shoalLeftSpec)

/-- 'drifterlaw01.ShoalFound', WHERE WHAT IT READS IS OF BULK AT MOST 1048576: true; the input reads as it did. -/
def shoalFoundUptoRow : OpenClaim := { program := "ytohbjneaaahpcaa", sum := "0457d5f744b5ec5d0924393c03972108b499462e8b39f62568fdd8fea7f5f44b", func := "drifter/drifterlaw01.ShoalFound", spec := "shoalFound", unfollowed := true, recurses := true, plainKeys := false, apart := false, narrowed := true }
def ShoalFoundUptoSaid : Prop := shoalFoundUptoRow.holds Try.pinned (OpenSpec.upto shoalFoundSpec)

/-- 'drifterlaw01.ShoalMirror', WHERE WHAT IT READS IS OF BULK AT MOST 1048576: true; the input reads as it did. -/
def shoalMirrorUptoRow : OpenClaim := { program := "ytohbjneaaahpcaa", sum := "0457d5f744b5ec5d0924393c03972108b499462e8b39f62568fdd8fea7f5f44b", func := "drifter/drifterlaw01.ShoalMirror", spec := "shoalMirror", unfollowed := true, recurses := true, plainKeys := false, apart := false, narrowed := true }
def ShoalMirrorUptoSaid : Prop := shoalMirrorUptoRow.holds Try.pinned (OpenSpec.upto shoalMirrorSpec)

/-- 'drifterlaw01.ShoalKnown', WHERE WHAT IT READS IS OF BULK AT MOST 1048576: true; the input reads as it did. -/
def shoalKnownUptoRow : OpenClaim := { program := "ytohbjneaaahpcaa", sum := "0457d5f744b5ec5d0924393c03972108b499462e8b39f62568fdd8fea7f5f44b", func := "drifter/drifterlaw01.ShoalKnown", spec := "shoalKnown", unfollowed := true, recurses := true, plainKeys := false, apart := false, narrowed := true }
def ShoalKnownUptoSaid : Prop := shoalKnownUptoRow.holds Try.pinned (OpenSpec.upto shoalKnownSpec)

end Rows
end Go.Proofs.Ytohbjneaaahpcaa
