/- GutFresh holds: whatever the day and the numbers, it returns true, and both read as they did. No condition. -/
import Derived.Test.YtimikmfkdaoaaaaK8
set_option linter.all false
namespace Go.Proofs.Ytimikmfkdaoaaaa
open Go Go.AL Go.ChangeShapes Go.WideShapes Go.ChangeAt Go.RowKit
set_option maxRecDepth 100000 in
theorem gutFresh_lifted (os : Os) (started : os.Started) (H : Type) (enc : TypeId × Value → H) :
    ReturnsInHanded {} Try.checked os 7 .any (Rows.gutFreshSpec.pre6 enc Try.prog Try.f7 [] false) (Rows.gutFreshSpec.post enc Try.prog Try.f7 false true false false) := by
  refine lifted (tb := 4) (C := Try.checked) own started (by kernel_rfl) Try.func7
    (ChangeSpec.witness6 (enc := enc) (C := Try.checked) false ⟨#[], #[.agg #[.int .i64 0, .slice none 0 0, .slice none 0 0, .slice none 0 0], .slice none 0 0], []⟩ 8 (by kernel_rfl) (by kernel_rfl) (by kernel_rfl) (by kernel_rfl))
    laidOut ?_ rfl (by kernel_rfl) uBool ?_ ?_
  · rw [Try.params7]; exact all2t (p := fun t => Try.prog.readableRec t = true ∧ t < Try.prog.types.size) t26 t41
  · intro ds hd
    rw [Try.params7] at hd
    match ds, hd with
    | [d0, d1], _ => rfl
  · intro W base args ds p hval hA
    rw [Try.params7] at hA hval
    obtain ⟨v0, v1, d0, d1, p0, p1, rfl, rfl, rfl, h0, h1⟩ := trodAll_two hA
    obtain ⟨y0, q0, s0⟩ := arg_day (φ := fun _ => none) (hval 0 26 v0 rfl rfl) h0
    obtain ⟨b1, y1, q1, s1⟩ := arg_ints (φ := fun _ => none) (hval 1 41 v1 rfl rfl) h1
    exact ⟨_, _, vrs2 q0 q1, law_fresh y0 b1 y1 s0 s1⟩
theorem gutFresh_holds : Rows.GutFreshSaid :=
  OpenClaim.holds_of_wide 7 Try.f7 rfl rfl rfl rfl rfl rfl rfl ⟨rfl, rfl, rfl, rfl, rfl⟩ rfl rfl rfl rfl rfl (by kernel_rfl) Try.func7 (by kernel_rfl)
    (of_decide_eq_true (by kernel_rfl)) (by unfold Func.isWrapper; first | (rw [if_pos (by decide +kernel)]; kernel_rfl) | (rw [if_neg (by decide +kernel)]; exact ⟨rfl, rfl⟩))
    (fun os started H enc _ => gutFresh_lifted os started H enc)
end Go.Proofs.Ytimikmfkdaoaaaa
