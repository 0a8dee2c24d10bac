/- BarrelKnown holds: known_l No condition. -/
import Derived.Test.YtampldajinhenaaK6
set_option linter.all false
namespace Go.AL
open Go Go.RowKit
section
variable {α : Type} {c : α → List A} {sz : Nat}
end
end Go.AL

namespace Go.Proofs.Ytampldajinhenaa
open Go Go.AL Go.AL.Q Go.AL.Br
theorem run_le {y : List Cask} {b : Bool} (hy : (y.length : Int) ≤ 9223372036854775806) {plan : List Int} {leaks : List NL} {r : List Int} {d e : Int} {pb lb : Bool} {es : List (List A)} {c : Cap} (hp : (plan.length : Int) ≤ 9223372036854775806) (h : RunR y plan leaks = (r, d, e)) (hl : A.Le (.sl lb .any (leaks.map NL.c)) (.sl lb c es)) :
    Ans Try.prog 23 [.sl b .any (y.map Cask.c), .sl pb .exact (ints plan), .sl lb c es] (.tup [outW r, .int d, .int e]) := by
  have := Run_w y b hy pb plan hp lb leaks
  rw [h] at this
  exact AnsL this (.cons (.refl _) (.cons (.any _ _ _) (.cons hl .nil)))
theorem k1 : Ans Try.prog 20 [.agg [.sl false .exact (ints [30, 40]), .int 100, .int 10]] (.tup [setW [], .int 4]) := by
  have := Set_w ⟨false, [30, 40], 100, 10⟩ (by decide)
  rw [show SetR ⟨false, [30, 40], 100, 10⟩ = ([], 4) by decide +kernel] at this
  exact AnsL this (.cons (.agg (.cons (.any _ _ _) (.cons (.refl _) (.cons (.refl _) .nil)))) .nil)
theorem k2 : Ans Try.prog 16 [.agg pile0.c, .sl true .exact []] (.tup [.bool true, .int 0]) := by
  have := are_t pile0 (by decide) true [] (by decide) (fun _ h => nomatch h)
  rw [show AreR pile0 [] = (true, 0) by decide +kernel] at this
  exact AnsL this (.cons (.refl _) (.cons (.any _ _ _) .nil))
theorem k3 : Ans Try.prog 23 [.sl false .any (yard0.map Cask.c), .sl false .exact (ints [2]), .sl false .exact [[.sl false .exact (ints [5, 2])]]] (.tup [outW [], .int 0, .int 62]) :=
  run_le (leaks := [⟨false, [5, 2]⟩]) (by decide) (by decide) (by decide +kernel) (.rows (.cons (.cons (.any _ _ _) .nil) .nil))
theorem k4 : Ans Try.prog 23 [.sl false .any (yard0.map Cask.c), .sl false .exact (ints [1]), .sl false .exact [[.sl false .exact (ints [5, 9])]]] (.tup [outW [], .int 0, .int 62]) :=
  run_le (leaks := [⟨false, [5, 9]⟩]) (by decide) (by decide) (by decide +kernel) (.rows (.cons (.cons (.any _ _ _) .nil) .nil))
theorem k5 : Ans Try.prog 23 [.sl false .any (yard0.map Cask.c), .sl false .exact (ints [1]), .sl true .exact []] (.tup [outW [], .int 0, .int 62]) :=
  run_le (leaks := []) (by decide) (by decide) (by decide +kernel) (.any _ _ _)
theorem k6 : Ans Try.prog 23 [.sl false .any (yard0.map Cask.c), .sl false .exact (ints [-1, -1]), .sl false .exact [[.sl false .exact (ints [10, 8])], [.sl false .exact (ints [10, 8])]]] (.tup [outW [30, 24], .int 1, .int 0]) :=
  run_le (leaks := [⟨false, [10, 8]⟩, ⟨false, [10, 8]⟩]) (by decide) (by decide) (by decide +kernel) (.rows (.cons (.cons (.any _ _ _) .nil) (.cons (.cons (.any _ _ _) .nil) .nil)))
theorem first_le {y : List Cask} {b : Bool} (hy : (y.length : Int) ≤ 9223372036854775806) {n a d e : Int} (h : FirstR y n = (a, d, e)) : Ans Try.prog 28 [.sl b .any (y.map Cask.c), .int n] (.tup [.int a, .int d, .int e]) := by
  have := first_t y b hy n
  rw [h] at this; exact this
theorem keep_le {y : List Cask} {b : Bool} (hy : (y.length : Int) ≤ 9223372036854775806) {n e : Int} {r : List Int} (h : KeepR y n = (r, e)) : Ans Try.prog 30 [.sl b .any (y.map Cask.c), .int n] (.tup [outW r, .int e]) := by
  have := Keep_w y b hy n
  rw [h] at this; exact this
theorem k7 : Ans Try.prog 28 [.sl false .any (yard0.map Cask.c), .int 13] (.tup [.int 0, .int 0, .int 62]) := first_le (by decide) (by decide +kernel)
theorem k8 : Ans Try.prog 30 [.sl false .any (yard0.map Cask.c), .int (-1)] (.tup [outW [], .int 62]) := keep_le (by decide) (by decide +kernel)
end Go.Proofs.Ytampldajinhenaa

namespace Go.Proofs.Ytampldajinhenaa
open Go Go.AL Go.AL.Q Go.AL.Br
end Go.Proofs.Ytampldajinhenaa

namespace Go.Proofs.Ytampldajinhenaa
open Go Go.AL Go.ChangeShapes Go.WideShapes Go.ChangeAt Go.RowKit
set_option maxRecDepth 100000 in
theorem barrelKnown_lifted (os : Os) (started : os.Started) (H : Type) (enc : TypeId × Value → H) :
    ReturnsInHanded {} Try.checked os 15 .any (Rows.barrelKnownSpec.pre6 enc Try.prog Try.f15 [] false) (Rows.barrelKnownSpec.post enc Try.prog Try.f15 false true false false) := by

