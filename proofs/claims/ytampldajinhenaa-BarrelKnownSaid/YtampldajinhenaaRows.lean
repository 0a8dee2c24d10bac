/-
  No cell of these rows narrows 'for every input' (looked for: loops, veiled, ifaces, maps, wideKeys, modest, calm, conditions, laid).
  DERIVED. THE GIVEN ROWS OF THIS SEAT. 13 by the template 'for every input the law returns true; each argument reads behind the call as it read before'; 0 by the template 'total and deterministic' (their statements: YtampldajinhenaaTotals.lean).
  GIVEN WITH THE SEED: the statements are not yours to turn. If you find one false, say at which input.
  Laid BY PROGRAM, IN A SANDBOX (cutbox-rows.mjs): the forced cells as the released guide's own fill.sh prints them over the translation 36c3b437e3bb9775… (all of the seat's roots in one cut). By AI agents, Wed Nov 11 2026. No macro, syntax, notation, axiom, sorry.
-/
import Derived.Test.YtampldajinhenaaChecked
import GoSem.Claim
import GoSem.ClaimJoined
import GoSem.ClaimMapViews
import Derived.JoinedTies
import Derived.KernelRfl
namespace Go.Proofs.Ytampldajinhenaa
/- THE CELL 'sum', in the pinned program and in every row, IS THE sha256 OF THE DUMP (.gsa) THAT YtampldajinhenaaProg.lean LOADS. Nothing in Lean hashes anything: it is a label: what it is worth is what the hold of that sum in a sandbox is worth. -/
noncomputable def Try.pinned : Pinned := { name := "ytampldajinhenaa", sum := "36c3b437e3bb97759bee80d6027ebbda1429aa7a250655ab338b79f04d0d1c21", checked := Try.checked }
namespace Rows
def none {H : Type} : Left H := { results := [], args := [] }

/-- 'drifterlaw06.BarrelSets': WHATEVER THE INPUT: true; the input reads as it did. -/
def barrelSetsSpec : ChangeSpec := { name := "barrelSets", fn := fun _ => fun
  | [d1, d2] => { results := [.lit (.bool true)], args := [d1, d2] }
  | _ => none }
def barrelSetsRow : OpenClaim := { program := "ytampldajinhenaa", sum := "36c3b437e3bb97759bee80d6027ebbda1429aa7a250655ab338b79f04d0d1c21", func := "drifter/drifterlaw06.BarrelSets", spec := "barrelSets", unfollowed := true, recurses := true, plainKeys := false, apart := false }
def BarrelSetsSaid : Prop := barrelSetsRow.holds Try.pinned (OpenSpec.ofChange barrelSetsSpec)

/-- ITS FALSE NEIGHBOUR: 'it returns false'. Refute it at one input. -/
def barrelSetsWrong : ChangeSpec := { name := "barrelSets", fn := fun _ => fun
  | [d1, d2] => { results := [.lit (.bool false)], args := [d1, d2] }
  | _ => none }
def BarrelSetsWrongFalsely : Prop := barrelSetsRow.holds Try.pinned (OpenSpec.ofChange barrelSetsWrong)

/-- 'drifterlaw06.BarrelRuns': WHATEVER THE INPUT: true; the input reads as it did. -/
def barrelRunsSpec : ChangeSpec := { name := "barrelRuns", fn := fun _ => fun
  | [d1, d2, d3] => { results := [.lit (.bool true)], args := [d1, d2, d3] }
  | _ => none }
def barrelRunsRow : OpenClaim := { program := "ytampldajinhenaa", sum := "36c3b437e3bb97759bee80d6027ebbda1429aa7a250655ab338b79f04d0d1c21", func := "drifter/drifterlaw06.BarrelRuns", spec := "barrelRuns", unfollowed := true, recurses := true, plainKeys := false, apart := false }
def BarrelRunsSaid : Prop := barrelRunsRow.holds Try.pinned (OpenSpec.ofChange barrelRunsSpec)

/-- ITS FALSE NEIGHBOUR: 'it returns false'. Refute it at one input. -/
def barrelRunsWrong : ChangeSpec := { name := "barrelRuns", fn := fun _ => fun
  | [d1, d2, d3] => { results := [.lit (.bool false)], args := [d1, d2, d3] }
  | _ => none }
def BarrelRunsWrongFalsely : Prop := barrelRunsRow.holds Try.pinned (OpenSpec.ofChange barrelRunsWrong)

/-- 'drifterlaw06.BarrelKeeps': WHATEVER THE INPUT: true; the input reads as it did. -/
def barrelKeepsSpec : ChangeSpec := { name := "barrelKeeps", fn := fun _ => fun
  | [d1, d2] => { results := [.lit (.bool true)], args := [d1, d2] }
  | _ => none }
def barrelKeepsRow : OpenClaim := { program := "ytampldajinhenaa", sum := "36c3b437e3bb97759bee80d6027ebbda1429aa7a250655ab338b79f04d0d1c21", func := "drifter/drifterlaw06.BarrelKeeps", spec := "barrelKeeps", unfollowed := true, recurses := true, plainKeys := false, apart := false }
def BarrelKeepsSaid : Prop := barrelKeepsRow.holds Try.pinned (OpenSpec.ofChange barrelKeepsSpec)

/-- ITS FALSE NEIGHBOUR: 'it returns false'. Refute it at one input. -/
def barrelKeepsWrong : ChangeSpec := { name := "barrelKeeps", fn := fun _ => fun
  | [d1, d2] => { results := [.lit (.bool false)], args := [d1, d2] }
  | _ => none }
def BarrelKeepsWrongFalsely : Prop := barrelKeepsRow.holds Try.pinned (OpenSpec.ofChange barrelKeepsWrong)

/-- 'drifterlaw06.BarrelBooks': WHATEVER THE INPUT: true; the input reads as it did. -/
def barrelBooksSpec : ChangeSpec := { name := "barrelBooks", fn := fun _ => fun
  | [d1, d2] => { results := [.lit (.bool true)], args := [d1, d2] }
  | _ => none }
def barrelBooksRow : OpenClaim := { program := "ytampldajinhenaa", sum := "36c3b437e3bb97759bee80d6027ebbda1429aa7a250655ab338b79f04d0d1c21", func := "drifter/drifterlaw06.BarrelBooks", spec := "barrelBooks", unfollowed := true, recurses := true, plainKeys := false, apart := false }
def BarrelBooksSaid : Prop := barrelBooksRow.holds Try.pinned (OpenSpec.ofChange barrelBooksSpec)

/-- ITS FALSE NEIGHBOUR: 'it returns false'. Refute it at one input. -/
def barrelBooksWrong : ChangeSpec := { name := "barrelBooks", fn := fun _ => fun
  | [d1, d2] => { results := [.lit (.bool false)], args := [d1, d2] }
  | _ => none }
def BarrelBooksWrongFalsely : Prop := barrelBooksRow.holds Try.pinned (OpenSpec.ofChange barrelBooksWrong)

/-- 'drifterlaw06.BarrelMost': WHATEVER THE INPUT: true; the input reads as it did. -/
def barrelMostSpec : ChangeSpec := { name := "barrelMost", fn := fun _ => fun
  | [d1, d2, d3] => { results := [.lit (.bool true)], args := [d1, d2, d3] }
  | _ => none }
def barrelMostRow : OpenClaim := { program := "ytampldajinhenaa", sum := "36c3b437e3bb97759bee80d6027ebbda1429aa7a250655ab338b79f04d0d1c21", func := "drifter/drifterlaw06.BarrelMost", spec := "barrelMost", unfollowed := true, recurses := true, plainKeys := false, apart := false }
def BarrelMostSaid : Prop := barrelMostRow.holds Try.pinned (OpenSpec.ofChange barrelMostSpec)

/-- ITS FALSE NEIGHBOUR: 'it returns false'. Refute it at one input. -/
def barrelMostWrong : ChangeSpec := { name := "barrelMost", fn := fun _ => fun
  | [d1, d2, d3] => { results := [.lit (.bool false)], args := [d1, d2, d3] }
  | _ => none }
def BarrelMostWrongFalsely : Prop := barrelMostRow.holds Try.pinned (OpenSpec.ofChange barrelMostWrong)

/-- 'drifterlaw06.BarrelSafe': WHATEVER THE INPUT: true; the input reads as it did. -/
def barrelSafeSpec : ChangeSpec := { name := "barrelSafe", fn := fun _ => fun
  | [d1, d2, d3] => { results := [.lit (.bool true)], args := [d1, d2, d3] }
  | _ => none }
def barrelSafeRow : OpenClaim := { program := "ytampldajinhenaa", sum := "36c3b437e3bb97759bee80d6027ebbda1429aa7a250655ab338b79f04d0d1c21", func := "drifter/drifterlaw06.BarrelSafe", spec := "barrelSafe", unfollowed := true, recurses := true, plainKeys := false, apart := false }
def BarrelSafeSaid : Prop := barrelSafeRow.holds Try.pinned (OpenSpec.ofChange barrelSafeSpec)

/-- ITS FALSE NEIGHBOUR: 'it returns false'. Refute it at one input. -/
def barrelSafeWrong : ChangeSpec := { name := "barrelSafe", fn := fun _ => fun
  | [d1, d2, d3] => { results := [.lit (.bool false)], args := [d1, d2, d3] }
  | _ => none }
def BarrelSafeWrongFalsely : Prop := barrelSafeRow.holds Try.pinned (OpenSpec.ofChange barrelSafeWrong)

/-- 'drifterlaw06.BarrelFirst': WHATEVER THE INPUT: true; the input reads as it did. -/
def barrelFirstSpec : ChangeSpec := { name := "barrelFirst", fn := fun _ => fun
  | [d1, d2, d3] => { results := [.lit (.bool true)], args := [d1, d2, d3] }
  | _ => none }
def barrelFirstRow : OpenClaim := { program := "ytampldajinhenaa", sum := "36c3b437e3bb97759bee80d6027ebbda1429aa7a250655ab338b79f04d0d1c21", func := "drifter/drifterlaw06.BarrelFirst", spec := "barrelFirst", unfollowed := true, recurses := true, plainKeys := false, apart := false }
def BarrelFirstSaid : Prop := barrelFirstRow.holds Try.pinned (OpenSpec.ofChange barrelFirstSpec)

/-- ITS FALSE NEIGHBOUR: 'it returns false'. Refute it at one input. -/
def barrelFirstWrong : ChangeSpec := { name := "barrelFirst", fn := fun _ => fun
  | [d1, d2, d3] => { results := [.lit (.bool false)], args := [d1, d2, d3] }
  | _ => none }
def BarrelFirstWrongFalsely : Prop := barrelFirstRow.holds Try.pinned (OpenSpec.ofChange barrelFirstWrong)

/-- 'drifterlaw06.BarrelEasier': WHATEVER THE INPUT: true; the input reads as it did. -/
def barrelEasierSpec : ChangeSpec := { name := "barrelEasier", fn := fun _ => fun
  | [d1, d2] => { results := [.lit (.bool true)], args := [d1, d2] }
  | _ => none }
def barrelEasierRow : OpenClaim := { program := "ytampldajinhenaa", sum := "36c3b437e3bb97759bee80d6027ebbda1429aa7a250655ab338b79f04d0d1c21", func := "drifter/drifterlaw06.BarrelEasier", spec := "barrelEasier", unfollowed := true, recurses := true, plainKeys := false, apart := false }
def BarrelEasierSaid : Prop := barrelEasierRow.holds Try.pinned (OpenSpec.ofChange barrelEasierSpec)

/-- ITS FALSE NEIGHBOUR: 'it returns false'. Refute it at one input. -/
def barrelEasierWrong : ChangeSpec := { name := "barrelEasier", fn := fun _ => fun
  | [d1, d2] => { results := [.lit (.bool false)], args := [d1, d2] }
  | _ => none }
def BarrelEasierWrongFalsely : Prop := barrelEasierRow.holds Try.pinned (OpenSpec.ofChange barrelEasierWrong)

/-- 'drifterlaw06.BarrelReached': WHATEVER THE INPUT: true; the input reads as it did. -/
def barrelReachedSpec : ChangeSpec := { name := "barrelReached", fn := fun _ => fun
  | [d1, d2] => { results := [.lit (.bool true)], args := [d1, d2] }
  | _ => none }
def barrelReachedRow : OpenClaim := { program := "ytampldajinhenaa", sum := "36c3b437e3bb97759bee80d6027ebbda1429aa7a250655ab338b79f04d0d1c21", func := "drifter/drifterlaw06.BarrelReached", spec := "barrelReached", unfollowed := true, recurses := true, plainKeys := false, apart := false }
def BarrelReachedSaid : Prop := barrelReachedRow.holds Try.pinned (OpenSpec.ofChange barrelReachedSpec)

/-- ITS FALSE NEIGHBOUR: 'it returns false'. Refute it at one input. -/
def barrelReachedWrong : ChangeSpec := { name := "barrelReached", fn := fun _ => fun
  | [d1, d2] => { results := [.lit (.bool false)], args := [d1, d2] }
  | _ => none }
def BarrelReachedWrongFalsely : Prop := barrelReachedRow.holds Try.pinned (OpenSpec.ofChange barrelReachedWrong)

/-- 'drifterlaw06.BarrelProves': WHATEVER THE INPUT: true; the input reads as it did. -/
def barrelProvesSpec : ChangeSpec := { name := "barrelProves", fn := fun _ => fun
  | [d1, d2] => { results := [.lit (.bool true)], args := [d1, d2] }
  | _ => none }
def barrelProvesRow : OpenClaim := { program := "ytampldajinhenaa", sum := "36c3b437e3bb97759bee80d6027ebbda1429aa7a250655ab338b79f04d0d1c21", func := "drifter/drifterlaw06.BarrelProves", spec := "barrelProves", unfollowed := true, recurses := true, plainKeys := false, apart := false }
def BarrelProvesSaid : Prop := barrelProvesRow.holds Try.pinned (OpenSpec.ofChange barrelProvesSpec)

/-- ITS FALSE NEIGHBOUR: 'it returns false'. Refute it at one input. -/
def barrelProvesWrong : ChangeSpec := { name := "barrelProves", fn := fun _ => fun
  | [d1, d2] => { results := [.lit (.bool false)], args := [d1, d2] }
  | _ => none }
def BarrelProvesWrongFalsely : Prop := barrelProvesRow.holds Try.pinned (OpenSpec.ofChange barrelProvesWrong)

/-- 'drifterlaw06.BarrelTrue': WHATEVER THE INPUT: true; the input reads as it did. -/
def barrelTrueSpec : ChangeSpec := { name := "barrelTrue", fn := fun _ => fun
  | [d1, d2] => { results := [.lit (.bool true)], args := [d1, d2] }
  | _ => none }
def barrelTrueRow : OpenClaim := { program := "ytampldajinhenaa", sum := "36c3b437e3bb97759bee80d6027ebbda1429aa7a250655ab338b79f04d0d1c21", func := "drifter/drifterlaw06.BarrelTrue", spec := "barrelTrue", unfollowed := true, recurses := true, plainKeys := false, apart := false }
def BarrelTrueSaid : Prop := barrelTrueRow.holds Try.pinned (OpenSpec.ofChange barrelTrueSpec)

/-- ITS FALSE NEIGHBOUR: 'it returns false'. Refute it at one input. -/
def barrelTrueWrong : ChangeSpec := { name := "barrelTrue", fn := fun _ => fun
  | [d1, d2] => { results := [.lit (.bool false)], args := [d1, d2] }
  | _ => none }
def BarrelTrueWrongFalsely : Prop := barrelTrueRow.holds Try.pinned (OpenSpec.ofChange barrelTrueWrong)

/-- 'drifterlaw06.BarrelEither': WHATEVER THE INPUT: true; the input reads as it did. -/
def barrelEitherSpec : ChangeSpec := { name := "barrelEither", fn := fun _ => fun
  | [d1, d2] => { results := [.lit (.bool true)], args := [d1, d2] }
  | _ => none }
def barrelEitherRow : OpenClaim := { program := "ytampldajinhenaa", sum := "36c3b437e3bb97759bee80d6027ebbda1429aa7a250655ab338b79f04d0d1c21", func := "drifter/drifterlaw06.BarrelEither", spec := "barrelEither", unfollowed := true, recurses := true, plainKeys := false, apart := false }
def BarrelEitherSaid : Prop := barrelEitherRow.holds Try.pinned (OpenSpec.ofChange barrelEitherSpec)

/-- ITS FALSE NEIGHBOUR: 'it returns false'. Refute it at one input. -/
def barrelEitherWrong : ChangeSpec := { name := "barrelEither", fn := fun _ => fun
  | [d1, d2] => { results := [.lit (.bool false)], args := [d1, d2] }
  | _ => none }
def BarrelEitherWrongFalsely : Prop := barrelEitherRow.holds Try.pinned (OpenSpec.ofChange barrelEitherWrong)

/-- 'drifterlaw06.BarrelKnown': WHATEVER THE INPUT: true; the input reads as it did. -/
def barrelKnownSpec : ChangeSpec := { name := "barrelKnown", fn := fun _ => fun
  | [] => { results := [.lit (.bool true)], args := [] }
  | _ => none }
def barrelKnownRow : OpenClaim := { program := "ytampldajinhenaa", sum := "36c3b437e3bb97759bee80d6027ebbda1429aa7a250655ab338b79f04d0d1c21", func := "drifter/drifterlaw06.BarrelKnown", spec := "barrelKnown", unfollowed := true, recurses := true, plainKeys := false, apart := false }
def BarrelKnownSaid : Prop := barrelKnownRow.holds Try.pinned (OpenSpec.ofChange barrelKnownSpec)

/-- ITS FALSE NEIGHBOUR: 'it returns false'. Refute it at one input. -/
def barrelKnownWrong : ChangeSpec := { name := "barrelKnown", fn := fun _ => fun
  | [] => { results := [.lit (.bool false)], args := [] }
  | _ => none }
def BarrelKnownWrongFalsely : Prop := barrelKnownRow.holds Try.pinned (OpenSpec.ofChange barrelKnownWrong)

/- THE SECOND FORM. 'bulk': how many values and letters a reading holds, each counted each time it is reached (what is shared counts as often as it is met; a slice's spare places count too). A statement '..UptoSaid' is the law's where the arguments, and the package variables that the reading takes, are together of bulk at most 1048576: NARROWER than '..Said'. Prove '..Said' where nothing that the law and all that it calls make is longer than what came in: it says more and counts as full. Else prove '..UptoSaid'. A law counts once. -/
mutual
def uptoBulk {H : Type} : DataW H → Nat
  | .lit (.string bytes) => bytes.length + 1
  | .lit _ => 1
  | .nil => 1
  | .ptr d => uptoBulk d + 1
  | .slice elems spare => uptoBulkAll elems + uptoBulkAll spare + 1
  | .agg parts => uptoBulkAll parts + 1
  | .iface _ d => uptoBulk d + 1
  | .map entries => uptoBulkEntries entries + 1
  | .held _ => 1
def uptoBulkAll {H : Type} : List (DataW H) → Nat
  | [] => 0
  | d :: r => uptoBulk d + uptoBulkAll r
def uptoBulkEntries {H : Type} : List (Lit × DataW H) → Nat
  | [] => 0
  | x :: r => uptoBulkEntry x + uptoBulkEntries r
def uptoBulkEntry {H : Type} : Lit × DataW H → Nat
  | (.string bytes, d) => bytes.length + uptoBulk d + 1
  | (_, d) => uptoBulk d + 1
 end
def uptoSmall : (H : Type) → List (DataW H) → Bool := fun _ ds => decide (uptoBulkAll ds ≤ 1048576)
def OpenSpec.upto (s : _root_.Go.ChangeSpec) : _root_.Go.OpenSpec := { _root_.Go.OpenSpec.ofChange s with cond := some uptoSmall }

/-- 'drifterlaw06.BarrelSets', WHERE WHAT IT READS IS OF BULK AT MOST 1048576: true; the input reads as it did. -/
def barrelSetsUptoRow : OpenClaim := { program := "ytampldajinhenaa", sum := "36c3b437e3bb97759bee80d6027ebbda1429aa7a250655ab338b79f04d0d1c21", func := "drifter/drifterlaw06.BarrelSets", spec := "barrelSets", unfollowed := true, recurses := true, plainKeys := false, apart := false, narrowed := true }
def BarrelSetsUptoSaid : Prop := barrelSetsUptoRow.holds Try.pinned (OpenSpec.upto barrelSetsSpec)

/-- 'drifterlaw06.BarrelRuns', WHERE WHAT IT READS IS OF BULK AT MOST 1048576: true; the input reads as it did. -/
def barrelRunsUptoRow : OpenClaim := { program := "ytampldajinhenaa", sum := "36c3b437e3bb97759bee80d6027ebbda1429aa7a250655ab338b79f04d0d1c21", func := "drifter/drifterlaw06.BarrelRuns", spec := "barrelRuns", unfollowed := true, recurses := true, plainKeys := false, apart := false, narrowed := true }
def BarrelRunsUptoSaid : Prop := barrelRunsUptoRow.holds Try.pinned (OpenSpec.upto barrelRunsSpec)

/-- 'drifterlaw06.BarrelKeeps', WHERE WHAT IT READS IS OF BULK AT MOST 1048576: true; the input reads as it did. -/
def barrelKeepsUptoRow : OpenClaim := { program := "ytampldajinhenaa", sum := "36c3b437e3bb97759bee80d6027ebbda1429aa7a250655ab338b79f04d0d1c21", func := "drifter/drifterlaw06.BarrelKeeps", spec := "barrelKeeps", unfollowed := true, recurses := true, plainKeys := false, apart := false, narrowed := true }
def BarrelKeepsUptoSaid : Prop := barrelKeepsUptoRow.holds Try.pinned (OpenSpec.upto barrelKeepsSpec)

/-- 'drifterlaw06.BarrelBooks', WHERE WHAT IT READS IS OF BULK AT MOST 1048576: true; the input reads as it did. -/
def barrelBooksUptoRow : OpenClaim := { program := "ytampldajinhenaa", sum := "36c3b437e3bb97759bee80d6027ebbda1429aa7a250655ab338b79f04d0d1c21", func := "drifter/drifterlaw06.BarrelBooks", spec := "barrelBooks", unfollowed := true, recurses := true, plainKeys := false, apart := false, narrowed := true }
def BarrelBooksUptoSaid : Prop := barrelBooksUptoRow.holds Try.pinned (OpenSpec.upto barrelBooksSpec)

/-- 'drifterlaw06.BarrelMost', WHERE WHAT IT READS IS OF BULK AT MOST 1048576: true; the input reads as it did. -/
def barrelMostUptoRow : OpenClaim := { program := "ytampldajinhenaa", sum := "36c3b437e3bb97759bee80d6027ebbda1429aa7a250655ab338b79f04d0d1c21", func := "drifter/drifterlaw06.BarrelMost", spec := "barrelMost", unfollowed := true, recurses := true, plainKeys := false, apart := false, narrowed := true }
def BarrelMostUptoSaid : Prop := barrelMostUptoRow.holds Try.pinned (OpenSpec.upto barrelMostSpec)

/-- 'drifterlaw06.BarrelSafe', WHERE WHAT IT READS IS OF BULK AT MOST 1048576: true; the input reads as it did. -/
def barrelSafeUptoRow : OpenClaim := { program := "ytampldajinhenaa", sum := "36c3b437e3bb97759bee80d6027ebbda1429aa7a250655ab338b79f04d0d1c21", func := "drifter/drifterlaw06.BarrelSafe", spec := "barrelSafe", unfollowed := true, recurses := true, plainKeys := false, apart := false, narrowed := true }
def BarrelSafeUptoSaid : Prop := barrelSafeUptoRow.holds Try.pinned (OpenSpec.upto barrelSafeSpec)

/-- 'drifterlaw06.BarrelFirst', WHERE WHAT IT READS IS OF BULK AT MOST 1048576: true; the input reads as it did. -/
def barrelFirstUptoRow : OpenClaim := { program := "ytampldajinhenaa", sum := "36c3b437e3bb97759bee80d6027ebbda1429aa7a250655ab338b79f04d0d1c21", func := "drifter/drifterlaw06.BarrelFirst", spec := "barrelFirst", unfollowed := true, recurses := true, plainKeys := false, apart := false, narrowed := true }
def BarrelFirstUptoSaid : Prop := barrelFirstUptoRow.holds Try.pinned (OpenSpec.upto barrelFirstSpec)

/-- 'drifterlaw06.BarrelEasier', WHERE WHAT IT READS IS OF BULK AT MOST 1048576: true; the input reads as it did. -/
def barrelEasierUptoRow : OpenClaim := { program := "ytampldajinhenaa", sum := "36c3b437e3bb97759bee80d6027ebbda1429aa7a250655ab338b79f04d0d1c21", func := "drifter/drifterlaw06.BarrelEasier", spec := "barrelEasier", unfollowed := true, recurses := true, plainKeys := false, apart := false, narrowed := true }
def BarrelEasierUptoSaid : Prop := barrelEasierUptoRow.holds Try.pinned (OpenSpec.upto barrelEasierSpec)

/-- 'drifterlaw06.BarrelReached', WHERE WHAT IT READS IS OF BULK AT MOST 1048576: true; the input reads as it did. -/
def barrelReachedUptoRow : OpenClaim := { program := "ytampldajinhenaa", sum := "36c3b437e3bb97759bee80d6027ebbda1429aa7a250655ab338b79f04d0d1c21", func := "drifter/drifterlaw06.BarrelReached", spec := "barrelReached", unfollowed := true, recurses := true, plainKeys := false, apart := false, narrowed := true }
def BarrelReachedUptoSaid : Prop := barrelReachedUptoRow.holds Try.pinned (OpenSpec.upto barrelReachedSpec)

/-- 'drifterlaw06.BarrelProves', WHERE WHAT IT READS IS OF BULK AT MOST 1048576: true; the input reads as it did. -/
def barrelProvesUptoRow : OpenClaim := { program := "ytampldajinhenaa", sum := "36c3b437e3bb97759bee80d6027ebbda1429aa7a250655ab338b79f04d0d1c21", func := "drifter/drifterlaw06.BarrelProves", spec := "barrelProves", unfollowed := true, recurses := true, plainKeys := false, apart := false, narrowed := true }
def BarrelProvesUptoSaid : Prop := barrelProvesUptoRow.holds Try.pinned (OpenSpec.upto barrelProvesSpec)

/-- 'drifterlaw06.BarrelTrue', WHERE WHAT IT READS IS OF BULK AT MOST 1048576: true; the input reads as it did. -/
def barrelTrueUptoRow : OpenClaim := { program := "ytampldajinhenaa", sum := "36c3b437e3bb97759bee80d6027ebbda1429aa7a250655ab338b79f04d0d1c21", func := "drifter/drifterlaw06.BarrelTrue", spec := "barrelTrue", unfollowed := true, recurses := true, plainKeys := false, apart := false, narrowed := true }
def BarrelTrueUptoSaid : Prop := barrelTrueUptoRow.holds Try.pinned (OpenSpec.upto barrelTrueSpec)

/-- 'drifterlaw06.BarrelEither', WHERE WHAT IT READS IS OF BULK AT MOST 1048576: true; the input reads as it did. -/
def barrelEitherUptoRow : OpenClaim := { program := "ytampldajinhenaa", sum := "36c3b437e3bb97759bee80d6027ebbda1429aa7a250655ab338b79f04d0d1c21", func := "drifter/drifterlaw06.BarrelEither", spec := "barrelEither", unfollowed := true, recurses := true, plainKeys := false, apart := false, narrowed := true }
def BarrelEitherUptoSaid : Prop := barrelEitherUptoRow.holds Try.pinned (OpenSpec.upto barrelEitherSpec)

/-- 'drifterlaw06.BarrelKnown', WHERE WHAT IT READS IS OF BULK AT MOST 1048576: true; the input reads as it did. -/
def barrelKnownUptoRow : OpenClaim := { program := "ytampldajinhenaa", sum := "36c3b437e3bb97759bee80d6027ebbda1429aa7a250655ab338b79f04d0d1c21", func := "drifter/drifterlaw06.BarrelKnown", spec := "barrelKnown", unfollowed := true, recurses := true, plainKeys := false, apart := false, narrowed := true }
def BarrelKnownUptoSaid : Prop := barrelKnownUptoRow.holds Try.pinned (OpenSpec.upto barrelKnownSpec)

end Rows
end Go.Proofs.Ytampldajinhenaa
