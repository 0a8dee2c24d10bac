/-
  No cell of these rows narrows 'for every input' (looked for: loops, veiled, ifaces, maps, wideKeys, modest, calm, conditions, laid).
  DERIVED. THE GIVEN ROWS OF THIS SEAT. 13 by the template 'for every input the law returns true; each argument reads behind the call as it read before'; 0 by the template 'total and deterministic' (their statements: YtimikmfkdaoaaaaTotals.lean).
  GIVEN WITH THE SEED: the statements are not yours to turn. If you find one false, say at which input.
  Laid BY PROGRAM, IN A SANDBOX (cutbox-rows.mjs): the forced cells as the released guide's own fill.sh prints them over the translation c5bc356e2cfa9dc8… (all of the seat's roots in one cut). By AI agents, Wed Nov 11 2026. No macro, syntax, notation, axiom, sorry.
-/
import Derived.Test.YtimikmfkdaoaaaaChecked
import GoSem.Claim
import GoSem.ClaimJoined
import GoSem.ClaimMapViews
import Derived.JoinedTies
import Derived.KernelRfl
namespace Go.Proofs.Ytimikmfkdaoaaaa
/- THE CELL 'sum', in the pinned program and in every row, IS THE sha256 OF THE DUMP (.gsa) THAT YtimikmfkdaoaaaaProg.lean LOADS. Nothing in Lean hashes anything: it is a label: what it is worth is what the hold of that sum in a sandbox is worth. -/
noncomputable def Try.pinned : Pinned := { name := "ytimikmfkdaoaaaa", sum := "c5bc356e2cfa9dc877a51a425935382bcd825a0f5ab89f198d34b290eff8e2eb", checked := Try.checked }
namespace Rows
def none {H : Type} : Left H := { results := [], args := [] }

/-- 'drifterlaw05.GutUntils': WHATEVER THE INPUT: true; the input reads as it did. -/
def gutUntilsSpec : ChangeSpec := { name := "gutUntils", fn := fun _ => fun
  | [d1, d2] => { results := [.lit (.bool true)], args := [d1, d2] }
  | _ => none }
def gutUntilsRow : OpenClaim := { program := "ytimikmfkdaoaaaa", sum := "c5bc356e2cfa9dc877a51a425935382bcd825a0f5ab89f198d34b290eff8e2eb", func := "drifter/drifterlaw05.GutUntils", spec := "gutUntils", unfollowed := true, recurses := true, plainKeys := false, apart := false }
def GutUntilsSaid : Prop := gutUntilsRow.holds Try.pinned (OpenSpec.ofChange gutUntilsSpec)

/-- ITS FALSE NEIGHBOUR: 'it returns false'. Refute it at one input. -/
def gutUntilsWrong : ChangeSpec := { name := "gutUntils", fn := fun _ => fun
  | [d1, d2] => { results := [.lit (.bool false)], args := [d1, d2] }
  | _ => none }
def GutUntilsWrongFalsely : Prop := gutUntilsRow.holds Try.pinned (OpenSpec.ofChange gutUntilsWrong)

/-- 'drifterlaw05.GutPlans': WHATEVER THE INPUT: true; the input reads as it did. -/
def gutPlansSpec : ChangeSpec := { name := "gutPlans", fn := fun _ => fun
  | [d1, d2] => { results := [.lit (.bool true)], args := [d1, d2] }
  | _ => none }
def gutPlansRow : OpenClaim := { program := "ytimikmfkdaoaaaa", sum := "c5bc356e2cfa9dc877a51a425935382bcd825a0f5ab89f198d34b290eff8e2eb", func := "drifter/drifterlaw05.GutPlans", spec := "gutPlans", unfollowed := true, recurses := true, plainKeys := false, apart := false }
def GutPlansSaid : Prop := gutPlansRow.holds Try.pinned (OpenSpec.ofChange gutPlansSpec)

/-- ITS FALSE NEIGHBOUR: 'it returns false'. Refute it at one input. -/
def gutPlansWrong : ChangeSpec := { name := "gutPlans", fn := fun _ => fun
  | [d1, d2] => { results := [.lit (.bool false)], args := [d1, d2] }
  | _ => none }
def GutPlansWrongFalsely : Prop := gutPlansRow.holds Try.pinned (OpenSpec.ofChange gutPlansWrong)

/-- 'drifterlaw05.GutDeficits': WHATEVER THE INPUT: true; the input reads as it did. -/
def gutDeficitsSpec : ChangeSpec := { name := "gutDeficits", fn := fun _ => fun
  | [d1, d2] => { results := [.lit (.bool true)], args := [d1, d2] }
  | _ => none }
def gutDeficitsRow : OpenClaim := { program := "ytimikmfkdaoaaaa", sum := "c5bc356e2cfa9dc877a51a425935382bcd825a0f5ab89f198d34b290eff8e2eb", func := "drifter/drifterlaw05.GutDeficits", spec := "gutDeficits", unfollowed := true, recurses := true, plainKeys := false, apart := false }
def GutDeficitsSaid : Prop := gutDeficitsRow.holds Try.pinned (OpenSpec.ofChange gutDeficitsSpec)

/-- ITS FALSE NEIGHBOUR: 'it returns false'. Refute it at one input. -/
def gutDeficitsWrong : ChangeSpec := { name := "gutDeficits", fn := fun _ => fun
  | [d1, d2] => { results := [.lit (.bool false)], args := [d1, d2] }
  | _ => none }
def GutDeficitsWrongFalsely : Prop := gutDeficitsRow.holds Try.pinned (OpenSpec.ofChange gutDeficitsWrong)

/-- 'drifterlaw05.GutHelped': WHATEVER THE INPUT: true; the input reads as it did. -/
def gutHelpedSpec : ChangeSpec := { name := "gutHelped", fn := fun _ => fun
  | [d1, d2] => { results := [.lit (.bool true)], args := [d1, d2] }
  | _ => none }
def gutHelpedRow : OpenClaim := { program := "ytimikmfkdaoaaaa", sum := "c5bc356e2cfa9dc877a51a425935382bcd825a0f5ab89f198d34b290eff8e2eb", func := "drifter/drifterlaw05.GutHelped", spec := "gutHelped", unfollowed := true, recurses := true, plainKeys := false, apart := false }
def GutHelpedSaid : Prop := gutHelpedRow.holds Try.pinned (OpenSpec.ofChange gutHelpedSpec)

/-- ITS FALSE NEIGHBOUR: 'it returns false'. Refute it at one input. -/
def gutHelpedWrong : ChangeSpec := { name := "gutHelped", fn := fun _ => fun
  | [d1, d2] => { results := [.lit (.bool false)], args := [d1, d2] }
  | _ => none }
def GutHelpedWrongFalsely : Prop := gutHelpedRow.holds Try.pinned (OpenSpec.ofChange gutHelpedWrong)

/-- 'drifterlaw05.GutFresh': WHATEVER THE INPUT: true; the input reads as it did. -/
def gutFreshSpec : ChangeSpec := { name := "gutFresh", fn := fun _ => fun
  | [d1, d2] => { results := [.lit (.bool true)], args := [d1, d2] }
  | _ => none }
def gutFreshRow : OpenClaim := { program := "ytimikmfkdaoaaaa", sum := "c5bc356e2cfa9dc877a51a425935382bcd825a0f5ab89f198d34b290eff8e2eb", func := "drifter/drifterlaw05.GutFresh", spec := "gutFresh", unfollowed := true, recurses := true, plainKeys := false, apart := false }
def GutFreshSaid : Prop := gutFreshRow.holds Try.pinned (OpenSpec.ofChange gutFreshSpec)

/-- ITS FALSE NEIGHBOUR: 'it returns false'. Refute it at one input. -/
def gutFreshWrong : ChangeSpec := { name := "gutFresh", fn := fun _ => fun
  | [d1, d2] => { results := [.lit (.bool false)], args := [d1, d2] }
  | _ => none }
def GutFreshWrongFalsely : Prop := gutFreshRow.holds Try.pinned (OpenSpec.ofChange gutFreshWrong)

/-- 'drifterlaw05.GutCounted': WHATEVER THE INPUT: true; the input reads as it did. -/
def gutCountedSpec : ChangeSpec := { name := "gutCounted", fn := fun _ => fun
  | [d] => { results := [.lit (.bool true)], args := [d] }
  | _ => none }
def gutCountedRow : OpenClaim := { program := "ytimikmfkdaoaaaa", sum := "c5bc356e2cfa9dc877a51a425935382bcd825a0f5ab89f198d34b290eff8e2eb", func := "drifter/drifterlaw05.GutCounted", spec := "gutCounted", unfollowed := true, recurses := true, plainKeys := false, apart := false }
def GutCountedSaid : Prop := gutCountedRow.holds Try.pinned (OpenSpec.ofChange gutCountedSpec)

/-- ITS FALSE NEIGHBOUR: 'it returns false'. Refute it at one input. -/
def gutCountedWrong : ChangeSpec := { name := "gutCounted", fn := fun _ => fun
  | [d] => { results := [.lit (.bool false)], args := [d] }
  | _ => none }
def GutCountedWrongFalsely : Prop := gutCountedRow.holds Try.pinned (OpenSpec.ofChange gutCountedWrong)

/-- 'drifterlaw05.GutProved': WHATEVER THE INPUT: true; the input reads as it did. -/
def gutProvedSpec : ChangeSpec := { name := "gutProved", fn := fun _ => fun
  | [d1, d2] => { results := [.lit (.bool true)], args := [d1, d2] }
  | _ => none }
def gutProvedRow : OpenClaim := { program := "ytimikmfkdaoaaaa", sum := "c5bc356e2cfa9dc877a51a425935382bcd825a0f5ab89f198d34b290eff8e2eb", func := "drifter/drifterlaw05.GutProved", spec := "gutProved", unfollowed := true, recurses := true, plainKeys := false, apart := false }
def GutProvedSaid : Prop := gutProvedRow.holds Try.pinned (OpenSpec.ofChange gutProvedSpec)

/-- ITS FALSE NEIGHBOUR: 'it returns false'. Refute it at one input. -/
def gutProvedWrong : ChangeSpec := { name := "gutProved", fn := fun _ => fun
  | [d1, d2] => { results := [.lit (.bool false)], args := [d1, d2] }
  | _ => none }
def GutProvedWrongFalsely : Prop := gutProvedRow.holds Try.pinned (OpenSpec.ofChange gutProvedWrong)

/-- 'drifterlaw05.GutSpoilt': WHATEVER THE INPUT: true; the input reads as it did. -/
def gutSpoiltSpec : ChangeSpec := { name := "gutSpoilt", fn := fun _ => fun
  | [d1, d2] => { results := [.lit (.bool true)], args := [d1, d2] }
  | _ => none }
def gutSpoiltRow : OpenClaim := { program := "ytimikmfkdaoaaaa", sum := "c5bc356e2cfa9dc877a51a425935382bcd825a0f5ab89f198d34b290eff8e2eb", func := "drifter/drifterlaw05.GutSpoilt", spec := "gutSpoilt", unfollowed := true, recurses := true, plainKeys := false, apart := false }
def GutSpoiltSaid : Prop := gutSpoiltRow.holds Try.pinned (OpenSpec.ofChange gutSpoiltSpec)

/-- ITS FALSE NEIGHBOUR: 'it returns false'. Refute it at one input. -/
def gutSpoiltWrong : ChangeSpec := { name := "gutSpoilt", fn := fun _ => fun
  | [d1, d2] => { results := [.lit (.bool false)], args := [d1, d2] }
  | _ => none }
def GutSpoiltWrongFalsely : Prop := gutSpoiltRow.holds Try.pinned (OpenSpec.ofChange gutSpoiltWrong)

/-- 'drifterlaw05.GutCooler': WHATEVER THE INPUT: true; the input reads as it did. -/
def gutCoolerSpec : ChangeSpec := { name := "gutCooler", fn := fun _ => fun
  | [d1, d2, d3] => { results := [.lit (.bool true)], args := [d1, d2, d3] }
  | _ => none }
def gutCoolerRow : OpenClaim := { program := "ytimikmfkdaoaaaa", sum := "c5bc356e2cfa9dc877a51a425935382bcd825a0f5ab89f198d34b290eff8e2eb", func := "drifter/drifterlaw05.GutCooler", spec := "gutCooler", unfollowed := true, recurses := true, plainKeys := false, apart := false }
def GutCoolerSaid : Prop := gutCoolerRow.holds Try.pinned (OpenSpec.ofChange gutCoolerSpec)

/-- ITS FALSE NEIGHBOUR: 'it returns false'. Refute it at one input. -/
def gutCoolerWrong : ChangeSpec := { name := "gutCooler", fn := fun _ => fun
  | [d1, d2, d3] => { results := [.lit (.bool false)], args := [d1, d2, d3] }
  | _ => none }
def GutCoolerWrongFalsely : Prop := gutCoolerRow.holds Try.pinned (OpenSpec.ofChange gutCoolerWrong)

/-- 'drifterlaw05.GutMore': WHATEVER THE INPUT: true; the input reads as it did. -/
def gutMoreSpec : ChangeSpec := { name := "gutMore", fn := fun _ => fun
  | [d1, d2] => { results := [.lit (.bool true)], args := [d1, d2] }
  | _ => none }
def gutMoreRow : OpenClaim := { program := "ytimikmfkdaoaaaa", sum := "c5bc356e2cfa9dc877a51a425935382bcd825a0f5ab89f198d34b290eff8e2eb", func := "drifter/drifterlaw05.GutMore", spec := "gutMore", unfollowed := true, recurses := true, plainKeys := false, apart := false }
def GutMoreSaid : Prop := gutMoreRow.holds Try.pinned (OpenSpec.ofChange gutMoreSpec)

/-- ITS FALSE NEIGHBOUR: 'it returns false'. Refute it at one input. -/
def gutMoreWrong : ChangeSpec := { name := "gutMore", fn := fun _ => fun
  | [d1, d2] => { results := [.lit (.bool false)], args := [d1, d2] }
  | _ => none }
def GutMoreWrongFalsely : Prop := gutMoreRow.holds Try.pinned (OpenSpec.ofChange gutMoreWrong)

/-- 'drifterlaw05.GutBetween': WHATEVER THE INPUT: true; the input reads as it did. -/
def gutBetweenSpec : ChangeSpec := { name := "gutBetween", fn := fun _ => fun
  | [d1, d2] => { results := [.lit (.bool true)], args := [d1, d2] }
  | _ => none }
def gutBetweenRow : OpenClaim := { program := "ytimikmfkdaoaaaa", sum := "c5bc356e2cfa9dc877a51a425935382bcd825a0f5ab89f198d34b290eff8e2eb", func := "drifter/drifterlaw05.GutBetween", spec := "gutBetween", unfollowed := true, recurses := true, plainKeys := false, apart := false }
def GutBetweenSaid : Prop := gutBetweenRow.holds Try.pinned (OpenSpec.ofChange gutBetweenSpec)

/-- ITS FALSE NEIGHBOUR: 'it returns false'. Refute it at one input. -/
def gutBetweenWrong : ChangeSpec := { name := "gutBetween", fn := fun _ => fun
  | [d1, d2] => { results := [.lit (.bool false)], args := [d1, d2] }
  | _ => none }
def GutBetweenWrongFalsely : Prop := gutBetweenRow.holds Try.pinned (OpenSpec.ofChange gutBetweenWrong)

/-- 'drifterlaw05.GutHired': WHATEVER THE INPUT: true; the input reads as it did. -/
def gutHiredSpec : ChangeSpec := { name := "gutHired", fn := fun _ => fun
  | [d1, d2] => { results := [.lit (.bool true)], args := [d1, d2] }
  | _ => none }
def gutHiredRow : OpenClaim := { program := "ytimikmfkdaoaaaa", sum := "c5bc356e2cfa9dc877a51a425935382bcd825a0f5ab89f198d34b290eff8e2eb", func := "drifter/drifterlaw05.GutHired", spec := "gutHired", unfollowed := true, recurses := true, plainKeys := false, apart := false }
def GutHiredSaid : Prop := gutHiredRow.holds Try.pinned (OpenSpec.ofChange gutHiredSpec)

/-- ITS FALSE NEIGHBOUR: 'it returns false'. Refute it at one input. -/
def gutHiredWrong : ChangeSpec := { name := "gutHired", fn := fun _ => fun
  | [d1, d2] => { results := [.lit (.bool false)], args := [d1, d2] }
  | _ => none }
def GutHiredWrongFalsely : Prop := gutHiredRow.holds Try.pinned (OpenSpec.ofChange gutHiredWrong)

/-- 'drifterlaw05.GutKnown': WHATEVER THE INPUT: true; the input reads as it did. -/
def gutKnownSpec : ChangeSpec := { name := "gutKnown", fn := fun _ => fun
  | [] => { results := [.lit (.bool true)], args := [] }
  | _ => none }
def gutKnownRow : OpenClaim := { program := "ytimikmfkdaoaaaa", sum := "c5bc356e2cfa9dc877a51a425935382bcd825a0f5ab89f198d34b290eff8e2eb", func := "drifter/drifterlaw05.GutKnown", spec := "gutKnown", unfollowed := true, recurses := true, plainKeys := false, apart := false }
def GutKnownSaid : Prop := gutKnownRow.holds Try.pinned (OpenSpec.ofChange gutKnownSpec)

/-- ITS FALSE NEIGHBOUR: 'it returns false'. Refute it at one input. -/
def gutKnownWrong : ChangeSpec := { name := "gutKnown", fn := fun _ => fun
  | [] => { results := [.lit (.bool false)], args := [] }
  | _ => none }
def GutKnownWrongFalsely : Prop := gutKnownRow.holds Try.pinned (OpenSpec.ofChange gutKnownWrong)

/- THE SECOND FORM. 'bulk': how many values and letters a reading holds, each counted each time it is reached (what is shared counts as often as it is met; a slice's spare places count too). A statement '..UptoSaid' is the law's where the arguments, and the package variables that the reading takes, are together of bulk at most 1048576: NARROWER than '..Said'. Prove '..Said' where nothing that the law and all that it calls make is longer than what came in: it says more and counts as full. Else prove '..UptoSaid'. A law counts once. -/
mutual
def uptoBulk {H : Type} : DataW H → Nat
  | .lit (.string bytes) => bytes.length + 1
  | .lit _ => 1
  | .nil => 1
  | .ptr d => uptoBulk d + 1
  | .slice elems spare => uptoBulkAll elems + uptoBulkAll spare + 1
  | .agg parts => uptoBulkAll parts + 1
  | .iface _ d => uptoBulk d + 1
  | .map entries => uptoBulkEntries entries + 1
  | .held _ => 1
def uptoBulkAll {H : Type} : List (DataW H) → Nat
  | [] => 0
  | d :: r => uptoBulk d + uptoBulkAll r
def uptoBulkEntries {H : Type} : List (Lit × DataW H) → Nat
  | [] => 0
  | x :: r => uptoBulkEntry x + uptoBulkEntries r
def uptoBulkEntry {H : Type} : Lit × DataW H → Nat
  | (.string bytes, d) => bytes.length + uptoBulk d + 1
  | (_, d) => uptoBulk d + 1
 end
def uptoSmall : (H : Type) → List (DataW H) → Bool := fun _ ds => decide (uptoBulkAll ds ≤ 1048576)
def OpenSpec.upto (s : _root_.Go.ChangeSpec) : _root_.Go.OpenSpec := { _root_.Go.OpenSpec.ofChange s with cond := some uptoSmall }

/-- 'drifterlaw05.GutUntils', WHERE WHAT IT READS IS OF BULK AT MOST 1048576: true; the input reads as it did. -/
def gutUntilsUptoRow : OpenClaim := { program := "ytimikmfkdaoaaaa", sum := "c5bc356e2cfa9dc877a51a425935382bcd825a0f5ab89f198d34b290eff8e2eb", func := "drifter/drifterlaw05.GutUntils", spec := "gutUntils", unfollowed := true, recurses := true, plainKeys := false, apart := false, narrowed := true }
def GutUntilsUptoSaid : Prop := gutUntilsUptoRow.holds Try.pinned (OpenSpec.upto gutUntilsSpec)

/-- 'drifterlaw05.GutPlans', WHERE WHAT IT READS IS OF BULK AT MOST 1048576: true; the input reads as it did. -/
def gutPlansUptoRow : OpenClaim := { program := "ytimikmfkdaoaaaa", sum := "c5bc356e2cfa9dc877a51a425935382bcd825a0f5ab89f198d34b290eff8e2eb", func := "drifter/drifterlaw05.GutPlans", spec := "gutPlans", unfollowed := true, recurses := true, plainKeys := false, apart := false, narrowed := true }
def GutPlansUptoSaid : Prop := gutPlansUptoRow.holds Try.pinned (OpenSpec.upto gutPlansSpec)

/-- 'drifterlaw05.GutDeficits', WHERE WHAT IT READS IS OF BULK AT MOST 1048576: true; the input reads as it did. -/
def gutDeficitsUptoRow : OpenClaim := { program := "ytimikmfkdaoaaaa", sum := "c5bc356e2cfa9dc877a51a425935382bcd825a0f5ab89f198d34b290eff8e2eb", func := "drifter/drifterlaw05.GutDeficits", spec := "gutDeficits", unfollowed := true, recurses := true, plainKeys := false, apart := false, narrowed := true }
def GutDeficitsUptoSaid : Prop := gutDeficitsUptoRow.holds Try.pinned (OpenSpec.upto gutDeficitsSpec)

/-- 'drifterlaw05.GutHelped', WHERE WHAT IT READS IS OF BULK AT MOST 1048576: true; the input reads as it did. -/
def gutHelpedUptoRow : OpenClaim := { program := "ytimikmfkdaoaaaa", sum := "c5bc356e2cfa9dc877a51a425935382bcd825a0f5ab89f198d34b290eff8e2eb", func := "drifter/drifterlaw05.GutHelped", spec := "gutHelped", unfollowed := true, recurses := true, plainKeys := false, apart := false, narrowed := true }
def GutHelpedUptoSaid : Prop := gutHelpedUptoRow.holds Try.pinned (OpenSpec.upto gutHelpedSpec)

/-- 'drifterlaw05.GutFresh', WHERE WHAT IT READS IS OF BULK AT MOST 1048576: true; the input reads as it did. -/
def gutFreshUptoRow : OpenClaim := { program := "ytimikmfkdaoaaaa", sum := "c5bc356e2cfa9dc877a51a425935382bcd825a0f5ab89f198d34b290eff8e2eb", func := "drifter/drifterlaw05.GutFresh", spec := "gutFresh", unfollowed := true, recurses := true, plainKeys := false, apart := false, narrowed := true }
def GutFreshUptoSaid : Prop := gutFreshUptoRow.holds Try.pinned (OpenSpec.upto gutFreshSpec)

/-- 'drifterlaw05.GutCounted', WHERE WHAT IT READS IS OF BULK AT MOST 1048576: true; the input reads as it did. -/
def gutCountedUptoRow : OpenClaim := { program := "ytimikmfkdaoaaaa", sum := "c5bc356e2cfa9dc877a51a425935382bcd825a0f5ab89f198d34b290eff8e2eb", func := "drifter/drifterlaw05.GutCounted", spec := "gutCounted", unfollowed := true, recurses := true, plainKeys := false, apart := false, narrowed := true }
def GutCountedUptoSaid : Prop := gutCountedUptoRow.holds Try.pinned (OpenSpec.upto gutCountedSpec)

/-- 'drifterlaw05.GutProved', WHERE WHAT IT READS IS OF BULK AT MOST 1048576: true; the input reads as it did. -/
def gutProvedUptoRow : OpenClaim := { program := "ytimikmfkdaoaaaa", sum := "c5bc356e2cfa9dc877a51a425935382bcd825a0f5ab89f198d34b290eff8e2eb", func := "drifter/drifterlaw05.GutProved", spec := "gutProved", unfollowed := true, recurses := true, plainKeys := false, apart := false, narrowed := true }
def GutProvedUptoSaid : Prop := gutProvedUptoRow.holds Try.pinned (OpenSpec.upto gutProvedSpec)

/-- 'drifterlaw05.GutSpoilt', WHERE WHAT IT READS IS OF BULK AT MOST 1048576: true; the input reads as it did. -/
def gutSpoiltUptoRow : OpenClaim := { program := "ytimikmfkdaoaaaa", sum := "c5bc356e2cfa9dc877a51a425935382bcd825a0f5ab89f198d34b290eff8e2eb", func := "drifter/drifterlaw05.GutSpoilt", spec := "gutSpoilt", unfollowed := true, recurses := true, plainKeys := false, apart := false, narrowed := true }
def GutSpoiltUptoSaid : Prop := gutSpoiltUptoRow.holds Try.pinned (OpenSpec.upto gutSpoiltSpec)

/-- 'drifterlaw05.GutCooler', WHERE WHAT IT READS IS OF BULK AT MOST 1048576: true; the input reads as it did. -/
def gutCoolerUptoRow : OpenClaim := { program := "ytimikmfkdaoaaaa", sum := "c5bc356e2cfa9dc877a51a425935382bcd825a0f5ab89f198d34b290eff8e2eb", func := "drifter/drifterlaw05.GutCooler", spec := "gutCooler", unfollowed := true, recurses := true, plainKeys := false, apart := false, narrowed := true }
def GutCoolerUptoSaid : Prop := gutCoolerUptoRow.holds Try.pinned (OpenSpec.upto gutCoolerSpec)

/-- 'drifterlaw05.GutMore', WHERE WHAT IT READS IS OF BULK AT MOST 1048576: true; the input reads as it did. -/
def gutMoreUptoRow : OpenClaim := { program := "ytimikmfkdaoaaaa", sum := "c5bc356e2cfa9dc877a51a425935382bcd825a0f5ab89f198d34b290eff8e2eb", func := "drifter/drifterlaw05.GutMore", spec := "gutMore", unfollowed := true, recurses := true, plainKeys := false, apart := false, narrowed := true }
def GutMoreUptoSaid : Prop := gutMoreUptoRow.holds Try.pinned (OpenSpec.upto gutMoreSpec)

/-- 'drifterlaw05.GutBetween', WHERE WHAT IT READS IS OF BULK AT MOST 1048576: true; the input reads as it did. -/
def gutBetweenUptoRow : OpenClaim := { program := "ytimikmfkdaoaaaa", sum := "c5bc356e2cfa9dc877a51a425935382bcd825a0f5ab89f198d34b290eff8e2eb", func := "drifter/drifterlaw05.GutBetween", spec := "gutBetween", unfollowed := true, recurses := true, plainKeys := false, apart := false, narrowed := true }
def GutBetweenUptoSaid : Prop := gutBetweenUptoRow.holds Try.pinned (OpenSpec.upto gutBetweenSpec)

/-- 'drifterlaw05.GutHired', WHERE WHAT IT READS IS OF BULK AT MOST 1048576: true; the input reads as it did. -/
def gutHiredUptoRow : OpenClaim := { program := "ytimikmfkdaoaaaa", sum := "c5bc356e2cfa9dc877a51a425935382bcd825a0f5ab89f198d34b290eff8e2eb", func := "drifter/drifterlaw05.GutHired", spec := "gutHired", unfollowed := true, recurses := true, plainKeys := false, apart := false, narrowed := true }
def GutHiredUptoSaid : Prop := gutHiredUptoRow.holds Try.pinned (OpenSpec.upto gutHiredSpec)

/-- 'drifterlaw05.GutKnown', WHERE WHAT IT READS IS OF BULK AT MOST 1048576: true; the input reads as it did. -/
def gutKnownUptoRow : OpenClaim := { program := "ytimikmfkdaoaaaa", sum := "c5bc356e2cfa9dc877a51a425935382bcd825a0f5ab89f198d34b290eff8e2eb", func := "drifter/drifterlaw05.GutKnown", spec := "gutKnown", unfollowed := true, recurses := true, plainKeys := false, apart := false, narrowed := true }
def GutKnownUptoSaid : Prop := gutKnownUptoRow.holds Try.pinned (OpenSpec.upto gutKnownSpec)

end Rows
end Go.Proofs.Ytimikmfkdaoaaaa
