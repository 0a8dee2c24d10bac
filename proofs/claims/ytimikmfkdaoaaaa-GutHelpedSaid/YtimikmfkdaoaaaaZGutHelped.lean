/- GutHelped holds: whatever the day and the workers, it returns true, and both read as they did. No condition. -/
import Derived.Test.YtimikmfkdaoaaaaK7
set_option linter.all false
namespace Go.Proofs.Ytimikmfkdaoaaaa
open Go Go.AL Go.ChangeShapes Go.WideShapes Go.ChangeAt Go.RowKit
set_option maxRecDepth 100000 in
theorem gutHelped_lifted (os : Os) (started : os.Started) (H : Type) (enc : TypeId × Value → H) :
    ReturnsInHanded {} Try.checked os 6 .any (Rows.gutHelpedSpec.pre6 enc Try.prog Try.f6 [] false) (Rows.gutHelpedSpec.post enc Try.prog Try.f6 false true false false) := by
  refine lifted (tb := 4) (C := Try.checked) own started (by kernel_rfl) Try.func6
    (ChangeSpec.witness6 (enc := enc) (C := Try.checked) false ⟨#[], #[.agg #[.int .i64 0, .slice none 0 0, .slice none 0 0, .slice none 0 0], .slice none 0 0], []⟩ 8 (by kernel_rfl) (by kernel_rfl) (by kernel_rfl) (by kernel_rfl))
    laidOut ?_ rfl (by kernel_rfl) uBool ?_ ?_
  · rw [Try.params6]; exact all2t (p := fun t => Try.prog.readableRec t = true ∧ t < Try.prog.types.size) t26 t24
  · intro ds hd
    rw [Try.params6] at hd
    match ds, hd with
    | [d0, d1], _ => rfl
  · intro W base args ds p hval hA
    rw [Try.params6] at hA hval
    obtain ⟨v0, v1, d0, d1, p0, p1, rfl, rfl, rfl, h0, h1⟩ := trodAll_two hA
    obtain ⟨y0, q0, s0⟩ := arg_day (φ := fun _ => none) (hval 0 26 v0 rfl rfl) h0
    obtain ⟨b1, y1, q1, s1⟩ := arg_wks (φ := fun _ => none) (hval 1 24 v1 rfl rfl) h1
    exact ⟨_, _, vrs2 q0 q1, law_helped y0 b1 y1 s0 s1⟩
theorem gutHelped_holds : Rows.GutHelpedSaid :=
  OpenClaim.holds_of_wide 6 Try.f6 rfl rfl rfl rfl rfl rfl rfl ⟨rfl, rfl, rfl, rfl, rfl⟩ rfl rfl rfl rfl rfl (by kernel_rfl) Try.func6 (by kernel_rfl)
    (of_decide_eq_true (by kernel_rfl)) (by unfold Func.isWrapper; first | (rw [if_pos (by decide +kernel)]; kernel_rfl) | (rw [if_neg (by decide +kernel)]; exact ⟨rfl, rfl⟩))
    (fun os started H enc _ => gutHelped_lifted os started H enc)
end Go.Proofs.Ytimikmfkdaoaaaa
