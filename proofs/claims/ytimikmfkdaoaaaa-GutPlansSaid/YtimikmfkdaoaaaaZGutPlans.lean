/- GutPlans holds: whatever the day and the plan, it returns true, and both read as they did. No condition. -/
import Derived.Test.YtimikmfkdaoaaaaK7
set_option linter.all false
namespace Go.Proofs.Ytimikmfkdaoaaaa
open Go Go.AL
theorem plans_same (d : Day) (b : Bool) (pl : List Task) (hs : Small d) (hw : (pl.length : Int) ≤ 9223372036854775807) : ∃ x i e, Ans Try.prog 21 [.agg d.c, .sl b .any (pl.map Task.c)] (.tup [.int x, .bool i, .int e]) ∧ Ans Try.prog 22 [.agg d.c, .sl b .any (pl.map Task.c)] (.tup [.int x, .bool i, .int e]) := by
  have h1 := isPlan_t d b pl hs hw
  have h2 := rIsPlan_t d b pl hs hw
  unfold isPlanR at h1
  unfold rPlanR at h2
  by_cases hok : d.ok = true
  · rw [if_pos hok] at h1 h2
    rw [plan_is (.of hok)] at h1
    cases e : rPlanV d pl with
    | none => rw [e] at h1 h2; exact ⟨_, _, _, h1, h2⟩
    | some n => rw [e] at h1 h2; exact ⟨_, _, _, h1, h2⟩
  · rw [if_neg hok] at h1 h2
    exact ⟨_, _, _, h1, h2⟩
theorem best_lost (d : Day) (hs : Small d) : ∃ P n e, Ans Try.prog 23 [.agg d.c] (.tup [planA P, .int n, .int e]) ∧ Ans Try.prog 24 [.agg d.c] (.tup [.int n, .int e]) ∧
    ((d.ok = true ∧ e = 0 ∧ P = planF d ∧ n = lostE d Spn.hi) ∨ (d.ok = false ∧ e = 50 ∧ P = [] ∧ n = 0)) := by
  have h1 := best_t d hs
  have h2 := rLost_t d hs
  unfold bestR at h1
  unfold rLostR at h2
  by_cases hok : d.ok = true
  · rw [if_pos hok] at h1 h2
    rw [← lost_gre (.of hok)] at h2
    exact ⟨_, _, _, h1, h2, .inl ⟨hok, rfl, rfl, rfl⟩⟩
  · rw [if_neg hok] at h1 h2
    exact ⟨_, _, _, h1, h2, .inr ⟨by simpa using hok, rfl, rfl, rfl⟩⟩
theorem planA_free (l : List Task) : Free (planA l) := free_map Task.free _ _ _
set_option maxHeartbeats 1000000 in
theorem law_plans (d : Day) (b : Bool) (pl : List Task) (hs : Small d) (hw : (pl.length : Int) ≤ 9223372036854775807) : Ans Try.prog 4 [.agg d.c, .sl b .any (pl.map Task.c)] (.bool true) := by
  obtain ⟨x, i, e, h1, h2⟩ := plans_same d b pl hs hw
  obtain ⟨P, n, e2, h3, h4, hc⟩ := best_lost d hs
  refine told Try.func4 rfl rfl (Pure.of tab_ok Try.func4 rfl Try.ntmps4 rfl (allC (.agg _ d.free) (all1 (free_map Task.free _ _ _))) (allC (fun _ => rfl) (all1 (fun _ => rfl))) (by first | exact .s _ | assumption | exact .tup _ (by intro x hx; simp only [List.mem_cons, List.not_mem_nil, or_false] at hx; rcases hx with rfl | rfl | rfl | rfl <;> first | exact .s _ | (simp_all; done))) fun E hE => ?_)
  refine Aw.sm tab_ok mb0 [] rfl rfl ?zo ?zk
  case zo =>
    repeat' apply AllP.cons
    all_goals first | exact trivial | exact id | exact rfl | exact fun _ => rfl | exact Nat.le_of_ble_eq_true rfl | exact fun _ => Nat.le_of_ble_eq_true rfl | exact Int.natCast_nonneg _ | exact fun _ => Int.natCast_nonneg _
  case zk =>
  refine Aw.sm tab_ok mb0 [(2, [.tup [.int x, .bool i, .int e]])] rfl rfl ?zo ?zk
  case zo =>
    repeat' apply AllP.cons
    all_goals first | exact trivial | exact id | exact rfl | exact fun _ => rfl | exact Nat.le_of_ble_eq_true rfl | exact fun _ => Nat.le_of_ble_eq_true rfl | exact Int.natCast_nonneg _ | exact fun _ => Int.natCast_nonneg _ | exact h1
  case zk =>
  refine Aw.sm tab_ok mb0 [(2, [.tup [.int x, .bool i, .int e]])] rfl rfl ?zo ?zk
  case zo =>
    repeat' apply AllP.cons
    all_goals first | exact trivial | exact id | exact rfl | exact fun _ => rfl | exact Nat.le_of_ble_eq_true rfl | exact fun _ => Nat.le_of_ble_eq_true rfl | exact Int.natCast_nonneg _ | exact fun _ => Int.natCast_nonneg _ | exact h2
  case zk =>
  refine Aw.seq ?_
  refine Aw.sm tab_ok mb0 [] rfl rfl ?zo ?zk
  case zo =>
    repeat' apply AllP.cons
    all_goals first | exact trivial | exact id | exact rfl | exact fun _ => rfl | exact Nat.le_of_ble_eq_true rfl | exact fun _ => Nat.le_of_ble_eq_true rfl | exact Int.natCast_nonneg _ | exact fun _ => Int.natCast_nonneg _ | exact gq_f | exact gq_t
  case zk =>
  refine Aw.cond rfl (fun h => absurd (show cond (cond (!(x == x)) true (i != i)) true (!(e == e)) = true from h) (by simp)) (fun _ => Aw.skip ?_)
  refine Aw.sm tab_ok mb0 [(1, [.tup [planA P, .int n, .int e2]])] rfl rfl ?zo ?zk
  case zo =>
    repeat' apply AllP.cons
    all_goals first | exact trivial | exact id | exact rfl | exact fun _ => rfl | exact Nat.le_of_ble_eq_true rfl | exact fun _ => Nat.le_of_ble_eq_true rfl | exact Int.natCast_nonneg _ | exact fun _ => Int.natCast_nonneg _ | exact h3
  case zk =>
  refine Aw.sm tab_ok mb0 [(1, [.tup [.int n, .int e2]])] rfl rfl ?zo ?zk
  case zo =>
    repeat' apply AllP.cons
    all_goals first | exact trivial | exact id | exact rfl | exact fun _ => rfl | exact Nat.le_of_ble_eq_true rfl | exact fun _ => Nat.le_of_ble_eq_true rfl | exact Int.natCast_nonneg _ | exact fun _ => Int.natCast_nonneg _ | exact h4
  case zk =>
  refine Aw.seq ?_
  refine Aw.sm tab_ok mb0 [] rfl rfl ?zo ?zk
  case zo =>
    repeat' apply AllP.cons
    all_goals first | exact trivial | exact id | exact rfl | exact fun _ => rfl | exact Nat.le_of_ble_eq_true rfl | exact fun _ => Nat.le_of_ble_eq_true rfl | exact Int.natCast_nonneg _ | exact fun _ => Int.natCast_nonneg _ | exact gq_f | exact gq_t
  case zk =>
  refine Aw.cond rfl (fun h => absurd (show cond (!(n == n)) true (!(e2 == e2)) = true from h) (by simp)) (fun _ => Aw.skip ?_)
  refine Aw.seq ?_
  refine Aw.sm tab_ok mb0 [] rfl rfl ?zo ?zk
  case zo =>
    repeat' apply AllP.cons
    all_goals first | exact trivial | exact id | exact rfl | exact fun _ => rfl | exact Nat.le_of_ble_eq_true rfl | exact fun _ => Nat.le_of_ble_eq_true rfl | exact Int.natCast_nonneg _ | exact fun _ => Int.natCast_nonneg _
  case zk =>
  rcases hc with ⟨hok, rfl, rfl, rfl⟩ | ⟨hno, rfl, rfl, rfl⟩
  · refine Aw.cond rfl (fun h => by cases h) (fun _ => Aw.skip ?_)
    have hb : rPlanR d (planF d) = [.int (lostE d Spn.hi), .bool true, .int 0] := by simp only [rPlanR, hok, best_is (.of hok)]; rfl
    have h5 := rIsPlan_t d (planF d).isEmpty (planF d) hs (by have := best_len (.of hok); omega)
    rw [hb] at h5
    refine Aw.sm tab_ok mb0 [(2, [.tup [.int (lostE d Spn.hi), .bool true, .int 0]])] rfl rfl ?zo ?zk
    case zo =>
      repeat' apply AllP.cons
      all_goals first | exact trivial | exact id | exact rfl | exact fun _ => rfl | exact Nat.le_of_ble_eq_true rfl | exact fun _ => Nat.le_of_ble_eq_true rfl | exact Int.natCast_nonneg _ | exact fun _ => Int.natCast_nonneg _ | exact le2 h5 (.refl _) (.any _ _ _)
    case zk =>
    refine Aw.sm tab_ok mb0 [(7, [.bool true])] rfl rfl ?zo ?zk
    case zo =>
      repeat' apply AllP.cons
      all_goals first | exact trivial | exact id | exact rfl | exact fun _ => rfl | exact Nat.le_of_ble_eq_true rfl | exact fun _ => Nat.le_of_ble_eq_true rfl | exact Int.natCast_nonneg _ | exact fun _ => Int.natCast_nonneg _ | exact gq_f | exact gq_t | exact fun _ => works_t
    case zk =>
    refine Aw.ret ⟨_, .cons (.tmp _) .nil, ?_⟩
    show A.bool (cond (cond true (lostE d Spn.hi == lostE d Spn.hi) false) true false) = .bool true
    simp
  · refine Aw.cond rfl (fun _ => ?_) (fun h => by cases h)
    refine Aw.sm tab_ok mb0 [(4, [.bool true])] rfl rfl ?zo ?zk
    case zo =>
      repeat' apply AllP.cons
      all_goals first | exact trivial | exact id | exact rfl | exact fun _ => rfl | exact Nat.le_of_ble_eq_true rfl | exact fun _ => Nat.le_of_ble_eq_true rfl | exact Int.natCast_nonneg _ | exact fun _ => Int.natCast_nonneg _ | exact gq_f | exact gq_t | exact fun _ => works_t
    case zk =>
    exact Aw.ret ⟨_, .cons (.tmp _) .nil, rfl⟩
end Go.Proofs.Ytimikmfkdaoaaaa
namespace Go.Proofs.Ytimikmfkdaoaaaa
open Go Go.AL Go.ChangeShapes Go.WideShapes Go.ChangeAt Go.RowKit
set_option maxRecDepth 100000 in
theorem gutPlans_lifted (os : Os) (started : os.Started) (H : Type) (enc : TypeId × Value → H) :
    ReturnsInHanded {} Try.checked os 4 .any (Rows.gutPlansSpec.pre6 enc Try.prog Try.f4 [] false) (Rows.gutPlansSpec.post enc Try.prog Try.f4 false true false false) := by
  refine lifted (tb := 4) (C := Try.checked) own started (by kernel_rfl) Try.func4
    (ChangeSpec.witness6 (enc := enc) (C := Try.checked) false ⟨#[], #[.agg #[.int .i64 0, .slice none 0 0, .slice none 0 0, .slice none 0 0], .slice none 0 0], []⟩ 8 (by kernel_rfl) (by kernel_rfl) (by kernel_rfl) (by kernel_rfl))
    laidOut ?_ rfl (by kernel_rfl) uBool ?_ ?_
  · rw [Try.params4]; exact all2t (p := fun t => Try.prog.readableRec t = true ∧ t < Try.prog.types.size) t26 t33
  · intro ds hd
    rw [Try.params4] at hd
    match ds, hd with
    | [d0, d1], _ => rfl
  · intro W base args ds p hval hA
    rw [Try.params4] at hA hval
    obtain ⟨v0, v1, d0, d1, p0, p1, rfl, rfl, rfl, h0, h1⟩ := trodAll_two hA
    obtain ⟨y0, q0, s0⟩ := arg_day (φ := fun _ => none) (hval 0 26 v0 rfl rfl) h0
    obtain ⟨b1, y1, q1, s1⟩ := arg_tasks (φ := fun _ => none) (hval 1 33 v1 rfl rfl) h1
    exact ⟨_, _, vrs2 q0 q1, law_plans y0 b1 y1 s0 s1⟩
theorem gutPlans_holds : Rows.GutPlansSaid :=
  OpenClaim.holds_of_wide 4 Try.f4 rfl rfl rfl rfl rfl rfl rfl ⟨rfl, rfl, rfl, rfl, rfl⟩ rfl rfl rfl rfl rfl (by kernel_rfl) Try.func4 (by kernel_rfl)
    (of_decide_eq_true (by kernel_rfl)) (by unfold Func.isWrapper; first | (rw [if_pos (by decide +kernel)]; kernel_rfl) | (rw [if_neg (by decide +kernel)]; exact ⟨rfl, rfl⟩))
    (fun os started H enc _ => gutPlans_lifted os started H enc)
end Go.Proofs.Ytimikmfkdaoaaaa
