/- What the proof leans on, part 6: S16 S17 S18 S19 X9 SX1. -/
import Derived.Test.YtdiclbgklegelaaK5
import Derived.ChangeSame
import Derived.Laws.IdiomArrays
import Derived.Lib.SmallJoins
import Derived.ProofKit
import Derived.Test.YtdiclbgklegelaaRows
set_option linter.all false
namespace Go.Proofs.Ytdiclbgklegelaa
open Go Go.AL Go.AL.Q
theorem same_t (p q : Bool) (a b : List Int) (hl : (a.length : Int) ≤ 9223372036854775806) : Ans Try.prog 26 [.sl p .any (ints a), .sl q .any (ints b)] (.bool (a == b)) := by
  refine told Try.func26 rfl rfl (Pure.of tab_ok Try.func26 rfl Try.ntmps26 rfl (allC (free_ints _ _ _) (all1 (free_ints _ _ _))) (allC (fun _ => rfl) (all1 (fun _ => rfl))) (by first | exact .s _ | assumption | exact .tup _ (by intro x hx; simp only [List.mem_cons, List.not_mem_nil, or_false] at hx; rcases hx with rfl | rfl | rfl | rfl <;> first | exact .s _ | (simp_all; done))) fun E hE => ?_)
  have za := ints_lenI a
  have zb := ints_lenI b
  refine Aw.sm tab_ok mb0 [] rfl rfl ?zo ?zk
  case zo =>
    repeat' apply AllP.cons
    all_goals first | exact trivial | exact id | exact rfl | exact fun _ => rfl | exact Nat.le_of_ble_eq_true rfl | exact fun _ => Nat.le_of_ble_eq_true rfl | exact Int.natCast_nonneg _ | exact fun _ => Int.natCast_nonneg _ | exact within_t _ _ _ | exact (within_t _ _ _).un
  case zk =>
  refine Aw.seq ?_
  refine Aw.sm tab_ok mb0 [] rfl rfl ?zo ?zk
  case zo =>
    repeat' apply AllP.cons
    all_goals first | exact trivial | exact id | exact rfl | exact fun _ => rfl | exact Nat.le_of_ble_eq_true rfl | exact fun _ => Nat.le_of_ble_eq_true rfl | exact Int.natCast_nonneg _ | exact fun _ => Int.natCast_nonneg _ | exact within_t _ _ _ | exact (within_t _ _ _).un
  case zk =>
  refine Aw.cond rfl (fun h1 => ?_) (fun h1 => Aw.skip ?_)
  · have h1 : (((ints a).length : Int) != ((ints b).length : Int)) = true := h1
    have hne : (a == b) = false := by
      cases e : (a == b) with
      | false => rfl
      | true => rw [za, zb, eq_of_beq e] at h1; simp at h1
    rw [hne]
    refine Aw.sm tab_ok mb0 [] rfl rfl ?zo ?zk
    case zo =>
      repeat' apply AllP.cons
      all_goals first | exact trivial | exact id | exact rfl | exact fun _ => rfl | exact Nat.le_of_ble_eq_true rfl | exact fun _ => Nat.le_of_ble_eq_true rfl | exact Int.natCast_nonneg _ | exact fun _ => Int.natCast_nonneg _ | exact within_t _ _ _ | exact (within_t _ _ _).un
    case zk =>
    exact Aw.ret ⟨_, .cons (.tmp _) .nil, rfl⟩
  have h1 : (((ints a).length : Int) != ((ints b).length : Int)) = false := h1
  have hlen : a.length = b.length := by
    rw [za, zb] at h1; simp at h1; omega
  generalize hR : (a == b) = R
  have ua : Under 0 (A.sl p .any (ints a)) := (free_ints _ _ _).under
  have ub : Under 0 (A.sl q .any (ints b)) := (free_ints _ _ _).under
  refine Aw.seq ?_
  refine Aw.sm tab_ok mb0 [] rfl rfl ?zo ?zk
  case zo =>
    repeat' apply AllP.cons
    all_goals first | exact trivial | exact id | exact rfl | exact fun _ => rfl | exact Nat.le_of_ble_eq_true rfl | exact fun _ => Nat.le_of_ble_eq_true rfl | exact Int.natCast_nonneg _ | exact fun _ => Int.natCast_nonneg _ | exact within_t _ _ _ | exact (within_t _ _ _).un
  case zk =>
  refine Aw.block (Aw.rounds 0 hE [(0, .sl p .any (ints a)), (1, .sl q .any (ints b))] (fun k : Nat => [(5, .int k)]) (fun _ => []) (fun k => k ≤ a.length ∧ (a.drop k == b.drop k) = R) (fun k => a.length - k) 0
    ⟨Nat.zero_le _, by simpa using hR⟩ ⟨⟨.refl _, .refl _, trivial⟩, ⟨.refl _, trivial⟩, trivial, Nat.le_refl _⟩ ⟨ua, ub, trivial⟩ (fun _ _ => ⟨.s _, trivial⟩) (fun _ _ => trivial) ?_)
  rintro k ⟨hk, hrun⟩
  refine Aw.seq ?_
  refine Aw.sm tab_ok mb0 [] rfl rfl ?zo ?zk
  case zo =>
    repeat' apply AllP.cons
    all_goals first | exact trivial | exact id | exact rfl | exact fun _ => rfl | exact Nat.le_of_ble_eq_true rfl | exact fun _ => Nat.le_of_ble_eq_true rfl | exact Int.natCast_nonneg _ | exact fun _ => Int.natCast_nonneg _ | exact within_t _ _ _ | exact (within_t _ _ _).un
  case zk =>
  refine Aw.cond rfl (fun h2 => Aw.skip ?_) (fun h2 => ?_)
  · have hlt : k < a.length := by have := of_decide_eq_true h2; omega
    have hlb : k < b.length := by omega
    rw [List.drop_eq_getElem_cons hlt, List.drop_eq_getElem_cons hlb, List.cons_beq_cons] at hrun
    refine Aw.seq (Aw.block ?_)
    refine Aw.sd tab_ok mixed mb0 [(2, [.int a[k]]), (6, [.int b[k]])] rfl (by kernel_rfl) rfl rfl ?zo ?zk
    case zo =>
      repeat' apply AllP.cons
      all_goals first | exact trivial | exact id | exact rfl | exact fun _ => rfl | exact Nat.le_of_ble_eq_true rfl | exact fun _ => Nat.le_of_ble_eq_true rfl | exact Int.natCast_nonneg _ | exact fun _ => Int.natCast_nonneg _ | exact within_t _ _ _ | exact (within_t _ _ _).un | exact ints_get hlt | exact ints_get hlb
    case zk =>
    refine Aw.cond rfl (fun h3 => ?_) (fun h3 => Aw.skip ?_)
    · have h3 : (a[k] != b[k]) = true := h3
      have h4 : (a[k] == b[k]) = false := by simpa using h3
      have : R = false := by rw [← hrun, h4]; rfl
      subst this
      refine Aw.sm tab_ok mb0 [] rfl rfl ?zo ?zk
      case zo =>
        repeat' apply AllP.cons
        all_goals first | exact trivial | exact id | exact rfl | exact fun _ => rfl | exact Nat.le_of_ble_eq_true rfl | exact fun _ => Nat.le_of_ble_eq_true rfl | exact Int.natCast_nonneg _ | exact fun _ => Int.natCast_nonneg _ | exact within_t _ _ _ | exact (within_t _ _ _).un
      case zk =>
      exact Aw.ret ⟨_, .cons (.tmp _) .nil, rfl⟩
    · have h3 : (a[k] != b[k]) = false := h3
      have h4 : (a[k] == b[k]) = true := by simpa using h3
      rw [h4, Bool.true_and] at hrun
      refine Aw.em tab_ok mb0 [] rfl rfl ?zo ?zk
      case zo =>
        repeat' apply AllP.cons
        all_goals first | exact trivial | exact id | exact rfl | exact fun _ => rfl | exact Nat.le_of_ble_eq_true rfl | exact fun _ => Nat.le_of_ble_eq_true rfl | exact Int.natCast_nonneg _ | exact fun _ => Int.natCast_nonneg _ | exact within_t _ _ _ | exact (within_t _ _ _).un | exact inrk k (by omega)
      case zk =>
      exact ⟨k + 1, ⟨hlt, hrun⟩, by omega, ⟨.refl _, .refl _, trivial⟩, ⟨.refl _, trivial⟩, trivial, Nat.zero_le _⟩
  · have hend : k = a.length := by have := of_decide_eq_false h2; omega
    have : R = true := by rw [← hrun, hend, List.drop_length, hlen, List.drop_length]; rfl
    subst this
    refine Aw.exit2 ?_
    refine Aw.sm tab_ok mb0 [] rfl rfl ?zo ?zk
    case zo =>
      repeat' apply AllP.cons
      all_goals first | exact trivial | exact id | exact rfl | exact fun _ => rfl | exact Nat.le_of_ble_eq_true rfl | exact fun _ => Nat.le_of_ble_eq_true rfl | exact Int.natCast_nonneg _ | exact fun _ => Int.natCast_nonneg _ | exact within_t _ _ _ | exact (within_t _ _ _).un
    case zk =>
    exact Aw.ret ⟨_, .cons (.tmp _) .nil, rfl⟩
set_option maxRecDepth 100000 in
theorem eq25 (a b c d : Int) : pureRun Try.prog (Op.equal 25 (.agg #[.int .i64 a, .int .i64 b]) (.agg #[.int .i64 c, .int .i64 d])) = some (a == c && b == d) := by
  have h1 : pureRun Try.prog (underlying 25) = Try.prog.underlying 25 := rfl
  have h2 : pureRun Try.prog program = some Try.prog := rfl
  have h3 : Try.prog.stoodInHeld 25 = false := by kernel_rfl
  have p1 : ∀ x y : Value, pureRun Try.prog (part 3 #[x, y] 0) = some x := fun x y => rfl
  have p2 : ∀ x y : Value, pureRun Try.prog (part 3 #[x, y] 1) = some y := fun x y => rfl
  have pp : ∀ {α : Type} (x : α), pureRun Try.prog (pure x) = some x := fun x => rfl
  rw [Op.equal, Op.maxDepth, show (10000 : Nat) = 9999 + 1 from rfl, Op.equalIn, pureRun_bind, h1, Try.underlying25]
  simp only [Option.bind_some, pureRun_bind, h2, h3]
  by_cases h : a = c
  · subst h
    by_cases h' : b = d
    · subst h'
      simp [pureRun_bind, p1, p2, eq3, pp]
    · have e : (b == d) = false := by simpa using h'
      simp [pureRun_bind, p1, p2, eq3, pp, e]
  · have e : (a == c) = false := by simpa using h
    simp [pureRun_bind, p1, eq3, pp, e]
theorem eg25 : Try.prog.eqGuardType Try.prog.depth 25 = false := by kernel_rfl
theorem sp_beq (s t : Sp) : (s == t) = (s.lo == t.lo && s.hi == t.hi) := by
  obtain ⟨a, b⟩ := s
  obtain ⟨c, d⟩ := t
  rw [Bool.eq_iff_iff]
  simp only [beq_iff_eq, Bool.and_eq_true, Sp.mk.injEq]
set_option maxRecDepth 100000 in
theorem neSp (x y : Operand) (s t : Sp) : EqIs tab .neq 25 x y (.agg s.c) (.agg t.c) (!(s == t)) := by
  refine ⟨.agg #[.int .i64 s.lo, .int .i64 s.hi], .agg #[.int .i64 t.lo, .int .i64 t.hi], rfl, rfl, (congrFun (congrFun (congrFun (congrFun (congrFun (congrFun (show tab.eqv = pureEq Try.prog from rfl) _) _) _) _) _) _).trans ?_⟩
  show pureEq Try.prog .neq 25 x y (.agg #[.int .i64 s.lo, .int .i64 s.hi]) (.agg #[.int .i64 t.lo, .int .i64 t.hi]) = _
  have hp : pureRun Try.prog program = some Try.prog := rfl
  have pp : ∀ {α : Type} (x : α), pureRun Try.prog (pure x) = some x := fun x => rfl
  have e1 : pureRun Try.prog (eqGuard .neq 25 x y (.agg #[.int .i64 s.lo, .int .i64 s.hi]) (.agg #[.int .i64 t.lo, .int .i64 t.hi])) = some () := by
    simp [eqGuard, pureRun_bind, hp, eg25, pp]
  have e2 : pureRun Try.prog (binOp .neq 25 (.agg #[.int .i64 s.lo, .int .i64 s.hi]) (.agg #[.int .i64 t.lo, .int .i64 t.hi])) = some (.bool (!(s == t))) := by
    have : binOp .neq 25 (.agg #[.int .i64 s.lo, .int .i64 s.hi]) (.agg #[.int .i64 t.lo, .int .i64 t.hi]) = (Op.equal 25 (.agg #[.int .i64 s.lo, .int .i64 s.hi]) (.agg #[.int .i64 t.lo, .int .i64 t.hi]) >>= fun b => pure (.bool (!b))) := rfl
    rw [this, pureRun_bind, eq25, sp_beq]; rfl
  unfold pureEq
  rw [pureRun_bind, e1]
  exact e2
theorem sameSpans_t (p q : Bool) (a b : List Sp) (hl : (a.length : Int) ≤ 9223372036854775806) : Ans Try.prog 23 [.sl p .any (a.map Sp.c), .sl q .any (b.map Sp.c)] (.bool (a == b)) := by
  refine told Try.func23 rfl rfl (Pure.of tab_ok Try.func23 rfl Try.ntmps23 rfl (allC (free_map Sp.free _ _ _) (all1 (free_map Sp.free _ _ _))) (allC (fun _ => rfl) (all1 (fun _ => rfl))) (by first | exact .s _ | assumption | exact .tup _ (by intro x hx; simp only [List.mem_cons, List.not_mem_nil, or_false] at hx; rcases hx with rfl | rfl | rfl | rfl <;> first | exact .s _ | (simp_all; done))) fun E hE => ?_)
  have za : ((a.map Sp.c).length : Int) = a.length := by simp
  have zb : ((b.map Sp.c).length : Int) = b.length := by simp
  refine Aw.sm tab_ok mb0 [] rfl rfl ?zo ?zk
  case zo =>
    repeat' apply AllP.cons
    all_goals first | exact trivial | exact id | exact rfl | exact fun _ => rfl | exact Nat.le_of_ble_eq_true rfl | exact fun _ => Nat.le_of_ble_eq_true rfl | exact Int.natCast_nonneg _ | exact fun _ => Int.natCast_nonneg _ | exact within_t _ _ _ | exact (within_t _ _ _).un
  case zk =>
  refine Aw.seq ?_
  refine Aw.sm tab_ok mb0 [] rfl rfl ?zo ?zk
  case zo =>
    repeat' apply AllP.cons
    all_goals first | exact trivial | exact id | exact rfl | exact fun _ => rfl | exact Nat.le_of_ble_eq_true rfl | exact fun _ => Nat.le_of_ble_eq_true rfl | exact Int.natCast_nonneg _ | exact fun _ => Int.natCast_nonneg _ | exact within_t _ _ _ | exact (within_t _ _ _).un
  case zk =>
  refine Aw.cond rfl (fun h1 => ?_) (fun h1 => Aw.skip ?_)
  · have h1 : (((a.map Sp.c).length : Int) != ((b.map Sp.c).length : Int)) = true := h1
    have hne : (a == b) = false := by
      cases e : (a == b) with
      | false => rfl
      | true => rw [za, zb, eq_of_beq e] at h1; simp at h1
    rw [hne]
    refine Aw.sm tab_ok mb0 [] rfl rfl ?zo ?zk
    case zo =>
      repeat' apply AllP.cons
      all_goals first | exact trivial | exact id | exact rfl | exact fun _ => rfl | exact Nat.le_of_ble_eq_true rfl | exact fun _ => Nat.le_of_ble_eq_true rfl | exact Int.natCast_nonneg _ | exact fun _ => Int.natCast_nonneg _ | exact within_t _ _ _ | exact (within_t _ _ _).un
    case zk =>
    exact Aw.ret ⟨_, .cons (.tmp _) .nil, rfl⟩
  have h1 : (((a.map Sp.c).length : Int) != ((b.map Sp.c).length : Int)) = false := h1
  have hlen : a.length = b.length := by
    rw [za, zb] at h1; simp at h1; omega
  generalize hR : (a == b) = R
  have ua : Under 0 (A.sl p .any (a.map Sp.c)) := (free_map Sp.free _ _ _).under
  have ub : Under 0 (A.sl q .any (b.map Sp.c)) := (free_map Sp.free _ _ _).under
  refine Aw.seq ?_
  refine Aw.sm tab_ok mb0 [] rfl rfl ?zo ?zk
  case zo =>
    repeat' apply AllP.cons
    all_goals first | exact trivial | exact id | exact rfl | exact fun _ => rfl | exact Nat.le_of_ble_eq_true rfl | exact fun _ => Nat.le_of_ble_eq_true rfl | exact Int.natCast_nonneg _ | exact fun _ => Int.natCast_nonneg _ | exact within_t _ _ _ | exact (within_t _ _ _).un
  case zk =>
  refine Aw.block (Aw.rounds 0 hE [(0, .sl p .any (a.map Sp.c)), (1, .sl q .any (b.map Sp.c))] (fun k : Nat => [(5, .int k)]) (fun _ => []) (fun k => k ≤ a.length ∧ (a.drop k == b.drop k) = R) (fun k => a.length - k) 0
    ⟨Nat.zero_le _, by simpa using hR⟩ ⟨⟨.refl _, .refl _, trivial⟩, ⟨.refl _, trivial⟩, trivial, Nat.le_refl _⟩ ⟨ua, ub, trivial⟩ (fun _ _ => ⟨.s _, trivial⟩) (fun _ _ => trivial) ?_)
  rintro k ⟨hk, hrun⟩
  refine Aw.seq ?_
  refine Aw.sm tab_ok mb0 [] rfl rfl ?zo ?zk
  case zo =>
    repeat' apply AllP.cons
    all_goals first | exact trivial | exact id | exact rfl | exact fun _ => rfl | exact Nat.le_of_ble_eq_true rfl | exact fun _ => Nat.le_of_ble_eq_true rfl | exact Int.natCast_nonneg _ | exact fun _ => Int.natCast_nonneg _ | exact within_t _ _ _ | exact (within_t _ _ _).un
  case zk =>
  refine Aw.cond rfl (fun h2 => Aw.skip ?_) (fun h2 => ?_)
  · have hlt : k < a.length := by have := of_decide_eq_true h2; omega
    have hlb : k < b.length := by omega
    rw [List.drop_eq_getElem_cons hlt, List.drop_eq_getElem_cons hlb, List.cons_beq_cons] at hrun
    have ga : (a.map Sp.c)[k]? = some a[k].c := get_map hlt
    have gb : (b.map Sp.c)[k]? = some b[k].c := get_map hlb
    generalize a[k] = x at *
    generalize b[k] = y at *
    refine Aw.seq (Aw.block ?_)
    refine Aw.sd tab_ok mixed mb0 [(2, x.c), (6, y.c), (8, [.bool (!(x == y))])] rfl (by kernel_rfl) rfl rfl ?zo ?zk
    case zo =>
      repeat' apply AllP.cons
      all_goals first | exact trivial | exact id | exact rfl | exact fun _ => rfl | exact Nat.le_of_ble_eq_true rfl | exact fun _ => Nat.le_of_ble_eq_true rfl | exact Int.natCast_nonneg _ | exact fun _ => Int.natCast_nonneg _ | exact within_t _ _ _ | exact (within_t _ _ _).un | exact ga | exact gb | exact neSp _ _ _ _
    case zk =>
    refine Aw.cond rfl (fun h3 => ?_) (fun h3 => Aw.skip ?_)
    · have h4 : (x == y) = false := by simpa using h3
      have : R = false := by rw [← hrun, h4]; rfl
      subst this
      refine Aw.sm tab_ok mb0 [] rfl rfl ?zo ?zk
      case zo =>
        repeat' apply AllP.cons
        all_goals first | exact trivial | exact id | exact rfl | exact fun _ => rfl | exact Nat.le_of_ble_eq_true rfl | exact fun _ => Nat.le_of_ble_eq_true rfl | exact Int.natCast_nonneg _ | exact fun _ => Int.natCast_nonneg _ | exact within_t _ _ _ | exact (within_t _ _ _).un
      case zk =>
      exact Aw.ret ⟨_, .cons (.tmp _) .nil, rfl⟩
    · have h4 : (x == y) = true := by simpa using h3
      rw [h4, Bool.true_and] at hrun
      refine Aw.em tab_ok mb0 [] rfl rfl ?zo ?zk
      case zo =>
        repeat' apply AllP.cons
        all_goals first | exact trivial | exact id | exact rfl | exact fun _ => rfl | exact Nat.le_of_ble_eq_true rfl | exact fun _ => Nat.le_of_ble_eq_true rfl | exact Int.natCast_nonneg _ | exact fun _ => Int.natCast_nonneg _ | exact within_t _ _ _ | exact (within_t _ _ _).un | exact inrk k (by omega)
      case zk =>
      exact ⟨k + 1, ⟨hlt, hrun⟩, by omega, ⟨.refl _, .refl _, trivial⟩, ⟨.refl _, trivial⟩, trivial, Nat.zero_le _⟩
  · have hend : k = a.length := by have := of_decide_eq_false h2; omega
    have : R = true := by rw [← hrun, hend, List.drop_length, hlen, List.drop_length]; rfl
    subst this
    refine Aw.exit2 ?_
    refine Aw.sm tab_ok mb0 [] rfl rfl ?zo ?zk
    case zo =>
      repeat' apply AllP.cons
      all_goals first | exact trivial | exact id | exact rfl | exact fun _ => rfl | exact Nat.le_of_ble_eq_true rfl | exact fun _ => Nat.le_of_ble_eq_true rfl | exact Int.natCast_nonneg _ | exact fun _ => Int.natCast_nonneg _ | exact within_t _ _ _ | exact (within_t _ _ _).un
    case zk =>
    exact Aw.ret ⟨_, .cons (.tmp _) .nil, rfl⟩
theorem to_t (a b : Int) : Ans Try.prog 39 [.int a, .int b] (.agg (Sp.c ⟨a, b⟩)) := by
  have hfr : Free (.agg (Sp.c ⟨a, b⟩)) := .agg _ (Sp.free _)
  refine told Try.func39 rfl rfl (Pure.of tab_ok Try.func39 rfl Try.ntmps39 rfl (allC (.s _) (all1 (.s _))) (allC (fun _ => rfl) (all1 (fun _ => rfl))) (by first | exact .s _ | assumption | exact .tup _ (by intro x hx; simp only [List.mem_cons, List.not_mem_nil, or_false] at hx; rcases hx with rfl | rfl | rfl | rfl <;> first | exact .s _ | (simp_all; done))) fun E hE => ?_)
  refine Aw.sm tab_ok mb0 [] rfl rfl ?zo ?zk
  case zo =>
    repeat' apply AllP.cons
    all_goals first | exact trivial | exact id | exact rfl | exact fun _ => rfl | exact Nat.le_of_ble_eq_true rfl | exact fun _ => Nat.le_of_ble_eq_true rfl | exact Int.natCast_nonneg _ | exact fun _ => Int.natCast_nonneg _ | exact within_t _ _ _ | exact (within_t _ _ _).un
  case zk =>
  refine Aw.sm tab_ok mb0 [] rfl rfl ?zo ?zk
  case zo =>
    repeat' apply AllP.cons
    all_goals first | exact trivial | exact id | exact rfl | exact fun _ => rfl | exact Nat.le_of_ble_eq_true rfl | exact fun _ => Nat.le_of_ble_eq_true rfl | exact Int.natCast_nonneg _ | exact fun _ => Int.natCast_nonneg _ | exact within_t _ _ _ | exact (within_t _ _ _).un
  case zk =>
  exact Aw.ret ⟨_, .cons (resC rfl rfl (by decide) rfl rfl) .nil, rfl⟩
def scalesL : List Scale := [⟨30, 2, 2⟩, ⟨20, 3, 4⟩, ⟨10, 4, 6⟩]
theorem scales_t : Ans Try.prog 55 [] (.sl false .exact (scalesL.map Scale.c)) := by
  have hfr : Free (.sl false .exact (scalesL.map Scale.c)) := free_map Scale.free _ _ _
  refine told Try.func55 rfl rfl (Pure.of tab_ok Try.func55 rfl Try.ntmps55 rfl allN allN hfr fun E hE => ?_)
  refine Aw.sm tab_ok mb0 [] rfl rfl ?zo ?zk
  case zo =>
    repeat' apply AllP.cons
    all_goals first | exact trivial | exact id | exact rfl | exact fun _ => rfl | exact Nat.le_of_ble_eq_true rfl | exact fun _ => Nat.le_of_ble_eq_true rfl | exact Int.natCast_nonneg _ | exact fun _ => Int.natCast_nonneg _ | exact within_t _ _ _ | exact (within_t _ _ _).un
  case zk =>
  refine Aw.sm tab_ok mb0 [(0, [.agg (Sp.c ⟨2, 2⟩)]), (2, [.agg (Sp.c ⟨3, 4⟩)]), (4, [.agg (Sp.c ⟨4, 6⟩)])] rfl rfl ?zo ?zk
  case zo =>
    repeat' apply AllP.cons
    all_goals first | exact trivial | exact id | exact rfl | exact fun _ => rfl | exact Nat.le_of_ble_eq_true rfl | exact fun _ => Nat.le_of_ble_eq_true rfl | exact Int.natCast_nonneg _ | exact fun _ => Int.natCast_nonneg _ | exact within_t _ _ _ | exact (within_t _ _ _).un | exact to_t _ _
  case zk =>
  exact Aw.ret ⟨_, .cons (.tmp _) .nil, rfl⟩
def seenL : List Sp := [⟨45, 50⟩, ⟨50, 55⟩]
theorem seen_t : Ans Try.prog 56 [] (.sl false .exact (seenL.map Sp.c)) := by
  have hfr : Free (.sl false .exact (seenL.map Sp.c)) := free_map Sp.free _ _ _
  refine told Try.func56 rfl rfl (Pure.of tab_ok Try.func56 rfl Try.ntmps56 rfl allN allN hfr fun E hE => ?_)
  refine Aw.sm tab_ok mb0 [] rfl rfl ?zo ?zk
  case zo =>
    repeat' apply AllP.cons
    all_goals first | exact trivial | exact id | exact rfl | exact fun _ => rfl | exact Nat.le_of_ble_eq_true rfl | exact fun _ => Nat.le_of_ble_eq_true rfl | exact Int.natCast_nonneg _ | exact fun _ => Int.natCast_nonneg _ | exact within_t _ _ _ | exact (within_t _ _ _).un
  case zk =>
  refine Aw.sm tab_ok mb0 [(0, [.agg (Sp.c ⟨45, 50⟩)]), (1, [.agg (Sp.c ⟨50, 55⟩)])] rfl rfl ?zo ?zk
  case zo =>
    repeat' apply AllP.cons
    all_goals first | exact trivial | exact id | exact rfl | exact fun _ => rfl | exact Nat.le_of_ble_eq_true rfl | exact fun _ => Nat.le_of_ble_eq_true rfl | exact Int.natCast_nonneg _ | exact fun _ => Int.natCast_nonneg _ | exact within_t _ _ _ | exact (within_t _ _ _).un | exact to_t _ _
  case zk =>
  exact Aw.ret ⟨_, .cons (.tmp _) .nil, rfl⟩
def racesL : List NS := [⟨false, [⟨60, 70⟩, ⟨30, 40⟩]⟩, ⟨false, [⟨20, 30⟩, ⟨70, 80⟩]⟩]
def racesC : List (List A) := racesL.map fun x => [.sl false .exact (x.l.map Sp.c)]
theorem racesC_free : Free (.sl false .exact racesC) := free_map (f := fun x : NS => [A.sl false .exact (x.l.map Sp.c)]) (fun x => all1 (free_map Sp.free _ _ _)) _ _ _
theorem races_le : A.Le (.sl false .any (racesL.map NS.c)) (.sl false .exact racesC) := .rows (.cons (.cons (.any _ _ _) .nil) (.cons (.cons (.any _ _ _) .nil) .nil))
theorem races_t : Ans Try.prog 57 [] (.sl false .exact racesC) := by
  have hfr := racesC_free
  refine told Try.func57 rfl rfl (Pure.of tab_ok Try.func57 rfl Try.ntmps57 rfl allN allN hfr fun E hE => ?_)
  refine Aw.sm tab_ok mb0 [] rfl rfl ?zo ?zk
  case zo =>
    repeat' apply AllP.cons
    all_goals first | exact trivial | exact id | exact rfl | exact fun _ => rfl | exact Nat.le_of_ble_eq_true rfl | exact fun _ => Nat.le_of_ble_eq_true rfl | exact Int.natCast_nonneg _ | exact fun _ => Int.natCast_nonneg _ | exact within_t _ _ _ | exact (within_t _ _ _).un
  case zk =>
  refine Aw.sm tab_ok mb0 [(0, [.agg (Sp.c ⟨60, 70⟩)]), (1, [.agg (Sp.c ⟨30, 40⟩)]), (3, [.agg (Sp.c ⟨20, 30⟩)]), (4, [.agg (Sp.c ⟨70, 80⟩)])] rfl rfl ?zo ?zk
  case zo =>
    repeat' apply AllP.cons
    all_goals first | exact trivial | exact id | exact rfl | exact fun _ => rfl | exact Nat.le_of_ble_eq_true rfl | exact fun _ => Nat.le_of_ble_eq_true rfl | exact Int.natCast_nonneg _ | exact fun _ => Int.natCast_nonneg _ | exact within_t _ _ _ | exact (within_t _ _ _).un | exact to_t _ _
  case zk =>
  exact Aw.ret ⟨_, .cons (.tmp _) .nil, rfl⟩
def seaL : List Cel := [⟨50, 8⟩, ⟨30, 5⟩, ⟨20, 1⟩, ⟨10, 4⟩]
theorem sea_t : Ans Try.prog 58 [] (.sl false .exact (seaL.map Cel.c)) := by
  have hfr : Free (.sl false .exact (seaL.map Cel.c)) := free_map Cel.free _ _ _
  refine told Try.func58 rfl rfl (Pure.of tab_ok Try.func58 rfl Try.ntmps58 rfl allN allN hfr fun E hE => ?_)
  refine Aw.sm tab_ok mb0 [] rfl rfl ?zo ?zk
  case zo =>
    repeat' apply AllP.cons
    all_goals first | exact trivial | exact id | exact rfl | exact fun _ => rfl | exact Nat.le_of_ble_eq_true rfl | exact fun _ => Nat.le_of_ble_eq_true rfl | exact Int.natCast_nonneg _ | exact fun _ => Int.natCast_nonneg _ | exact within_t _ _ _ | exact (within_t _ _ _).un
  case zk =>
  refine Aw.sm tab_ok mb0 [] rfl rfl ?zo ?zk
  case zo =>
    repeat' apply AllP.cons
    all_goals first | exact trivial | exact id | exact rfl | exact fun _ => rfl | exact Nat.le_of_ble_eq_true rfl | exact fun _ => Nat.le_of_ble_eq_true rfl | exact Int.natCast_nonneg _ | exact fun _ => Int.natCast_nonneg _ | exact within_t _ _ _ | exact (within_t _ _ _).un
  case zk =>
  exact Aw.ret ⟨_, .cons (.tmp _) .nil, rfl⟩
def boxesL : List NL := [⟨false, [0, 1]⟩, ⟨false, [1, 2]⟩, ⟨false, [2, 3]⟩]
def boxesC : List (List A) := boxesL.map fun x => [.sl false .exact (ints x.l)]
theorem boxesC_free : Free (.sl false .exact boxesC) := free_map (f := fun x : NL => [A.sl false .exact (ints x.l)]) (fun x => all1 (free_ints _ _ _)) _ _ _
theorem boxes_le : A.Le (.sl false .any (boxesL.map NL.c)) (.sl false .exact boxesC) := .rows (.cons (.cons (.any _ _ _) .nil) (.cons (.cons (.any _ _ _) .nil) (.cons (.cons (.any _ _ _) .nil) .nil)))
theorem boxes_t : Ans Try.prog 59 [] (.sl false .exact boxesC) := by
  have hfr := boxesC_free
  refine told Try.func59 rfl rfl (Pure.of tab_ok Try.func59 rfl Try.ntmps59 rfl allN allN hfr fun E hE => ?_)
  refine Aw.sm tab_ok mb0 [] rfl rfl ?zo ?zk
  case zo =>
    repeat' apply AllP.cons
    all_goals first | exact trivial | exact id | exact rfl | exact fun _ => rfl | exact Nat.le_of_ble_eq_true rfl | exact fun _ => Nat.le_of_ble_eq_true rfl | exact Int.natCast_nonneg _ | exact fun _ => Int.natCast_nonneg _ | exact within_t _ _ _ | exact (within_t _ _ _).un
  case zk =>
  refine Aw.sm tab_ok mb0 [] rfl rfl ?zo ?zk
  case zo =>
    repeat' apply AllP.cons
    all_goals first | exact trivial | exact id | exact rfl | exact fun _ => rfl | exact Nat.le_of_ble_eq_true rfl | exact fun _ => Nat.le_of_ble_eq_true rfl | exact Int.natCast_nonneg _ | exact fun _ => Int.natCast_nonneg _ | exact within_t _ _ _ | exact (within_t _ _ _).un
  case zk =>
  exact Aw.ret ⟨_, .cons (.tmp _) .nil, rfl⟩
def autumnR : Rce := ⟨false, [100, 50, 20], false, [800, 700, 500], false, [0, 1, 2], 60, 1⟩
def springR : Rce := ⟨false, [60, 60], false, [500, 500], false, [1, 1], 50, 0⟩
def rceC (r : Rce) : List A := [.sl false .exact (ints r.numbers), .sl false .exact (ints r.keep), .sl false .exact (ints r.spawn), .int r.line, .int r.mesh]
theorem rceC_free (r : Rce) : ∀ x ∈ rceC r, Free x := allC (free_ints _ _ _) (allC (free_ints _ _ _) (allC (free_ints _ _ _) (allC (.s _) (all1 (.s _)))))
theorem rceC_le (r : Rce) (h1 : r.nn = false) (h2 : r.kn = false) (h3 : r.sn = false) : LeL r.c (rceC r) := by
  unfold Rce.c rceC
  rw [h1, h2, h3]
  exact .cons (.any _ _ _) (.cons (.any _ _ _) (.cons (.any _ _ _) (.cons (.refl _) (.cons (.refl _) .nil))))
theorem autumn_t : Ans Try.prog 53 [] (.agg (rceC autumnR)) := by
  have hfr : Free (.agg (rceC autumnR)) := .agg _ (rceC_free _)
  refine told Try.func53 rfl rfl (Pure.of tab_ok Try.func53 rfl Try.ntmps53 rfl allN allN hfr fun E hE => ?_)
  refine Aw.sm tab_ok mb0 [] rfl rfl ?zo ?zk
  case zo =>
    repeat' apply AllP.cons
    all_goals first | exact trivial | exact id | exact rfl | exact fun _ => rfl | exact Nat.le_of_ble_eq_true rfl | exact fun _ => Nat.le_of_ble_eq_true rfl | exact Int.natCast_nonneg _ | exact fun _ => Int.natCast_nonneg _ | exact within_t _ _ _ | exact (within_t _ _ _).un
  case zk =>
  refine Aw.sm tab_ok mb0 [] rfl rfl ?zo ?zk
  case zo =>
    repeat' apply AllP.cons
    all_goals first | exact trivial | exact id | exact rfl | exact fun _ => rfl | exact Nat.le_of_ble_eq_true rfl | exact fun _ => Nat.le_of_ble_eq_true rfl | exact Int.natCast_nonneg _ | exact fun _ => Int.natCast_nonneg _ | exact within_t _ _ _ | exact (within_t _ _ _).un
  case zk =>
  exact Aw.ret ⟨_, .cons (resC rfl rfl (by decide) rfl rfl) .nil, rfl⟩
theorem spring_t : Ans Try.prog 86 [] (.agg (rceC springR)) := by
  have hfr : Free (.agg (rceC springR)) := .agg _ (rceC_free _)
  refine told Try.func86 rfl rfl (Pure.of tab_ok Try.func86 rfl Try.ntmps86 rfl allN allN hfr fun E hE => ?_)
  refine Aw.sm tab_ok mb0 [] rfl rfl ?zo ?zk
  case zo =>
    repeat' apply AllP.cons
    all_goals first | exact trivial | exact id | exact rfl | exact fun _ => rfl | exact Nat.le_of_ble_eq_true rfl | exact fun _ => Nat.le_of_ble_eq_true rfl | exact Int.natCast_nonneg _ | exact fun _ => Int.natCast_nonneg _ | exact within_t _ _ _ | exact (within_t _ _ _).un
  case zk =>
  refine Aw.sm tab_ok mb0 [] rfl rfl ?zo ?zk
  case zo =>
    repeat' apply AllP.cons
    all_goals first | exact trivial | exact id | exact rfl | exact fun _ => rfl | exact Nat.le_of_ble_eq_true rfl | exact fun _ => Nat.le_of_ble_eq_true rfl | exact Int.natCast_nonneg _ | exact fun _ => Int.natCast_nonneg _ | exact within_t _ _ _ | exact (within_t _ _ _).un
  case zk =>
  exact Aw.ret ⟨_, .cons (resC rfl rfl (by decide) rfl rfl) .nil, rfl⟩
def seas1 : NR := ⟨false, [⟨false, [90, 80]⟩, ⟨false, [10, 10]⟩]⟩
def seas2 : NR := ⟨false, [⟨false, [0, 0]⟩, ⟨false, [0, 0]⟩]⟩
def fishL : Q.Fish := ⟨false, [autumnR, springR], false, [40, 80], false, [seas1, seas2]⟩
def nlC (x : NL) : List A := [.sl false .exact (ints x.l)]
def nrC (x : NR) : List A := [.sl false .exact (x.l.map nlC)]
theorem nlC_free (x : NL) : ∀ y ∈ nlC x, Free y := all1 (free_ints _ _ _)
theorem nrC_free (x : NR) : ∀ y ∈ nrC x, Free y := all1 (free_map nlC_free _ _ _)
def fishC (f : Q.Fish) : List A := [.sl false .exact (f.races.map rceC), .sl false .exact (ints f.most), .sl false .exact (f.seasons.map nrC)]
theorem fishC_free (f : Q.Fish) : ∀ x ∈ fishC f, Free x := allC (free_map rceC_free _ _ _) (allC (free_ints _ _ _) (all1 (free_map nrC_free _ _ _)))
theorem fish_le : A.Le (.agg fishL.c) (.agg (fishC fishL)) :=
  .agg (.cons (.rows (.cons (rceC_le _ rfl rfl rfl) (.cons (rceC_le _ rfl rfl rfl) .nil))) (.cons (.any _ _ _) (.cons (.rows (.cons (.cons (.rows (.cons (.cons (.any _ _ _) .nil) (.cons (.cons (.any _ _ _) .nil) .nil))) .nil) (.cons (.cons (.rows (.cons (.cons (.any _ _ _) .nil) (.cons (.cons (.any _ _ _) .nil) .nil))) .nil) .nil))) .nil)))
theorem fishery_t : Ans Try.prog 54 [] (.agg (fishC fishL)) := by
  have hfr : Free (.agg (fishC fishL)) := .agg _ (fishC_free _)
  refine told Try.func54 rfl rfl (Pure.of tab_ok Try.func54 rfl Try.ntmps54 rfl allN allN hfr fun E hE => ?_)
  refine Aw.sm tab_ok mb0 [] rfl rfl ?zo ?zk
  case zo =>
    repeat' apply AllP.cons
    all_goals first | exact trivial | exact id | exact rfl | exact fun _ => rfl | exact Nat.le_of_ble_eq_true rfl | exact fun _ => Nat.le_of_ble_eq_true rfl | exact Int.natCast_nonneg _ | exact fun _ => Int.natCast_nonneg _ | exact within_t _ _ _ | exact (within_t _ _ _).un
  case zk =>
  refine Aw.sm tab_ok mb0 [(0, [.agg (rceC autumnR)]), (1, [.agg (rceC springR)])] rfl rfl ?zo ?zk
  case zo =>
    repeat' apply AllP.cons
    all_goals first | exact trivial | exact id | exact rfl | exact fun _ => rfl | exact Nat.le_of_ble_eq_true rfl | exact fun _ => Nat.le_of_ble_eq_true rfl | exact Int.natCast_nonneg _ | exact fun _ => Int.natCast_nonneg _ | exact within_t _ _ _ | exact (within_t _ _ _).un | exact autumn_t | exact spring_t
  case zk =>
  exact Aw.ret ⟨_, .cons (resC rfl rfl (by decide) rfl rfl) .nil, rfl⟩
end Go.Proofs.Ytdiclbgklegelaa

namespace Go.Proofs.Ytdiclbgklegelaa
open Go Go.AL Go.AL.Q
abbrev sh0 : List Sp := [⟨38, 75⟩, ⟨25, 62⟩]
theorem w1 : agedS scalesL 4 6 = ⟨10, 30⟩ := by decide +kernel
theorem w2 : agedE scalesL 4 6 = 0 := by decide +kernel
theorem w3 : shareF racesL seenL = [⟨38, 75⟩, ⟨25, 62⟩] := by decide +kernel
theorem w4 : sharesOk racesL seenL = true := by decide +kernel
theorem w5 : playOk autumnR [30, 30] [90, 80] = true := by decide +kernel
theorem w6 : playF autumnR autumnR.numbers [30, 30] [90, 80] = [40, 78] := by decide +kernel
theorem w7 : fishL.quotaR = [.int 7, .int 0] := by
  have h1 : fishL.ok = true := by decide +kernel
  have h2 : fishL.quota = 7 := by decide +kernel
  unfold Fish.quotaR
  rw [h1, h2]; rfl
theorem w8 : fishL.firstR 8 = [.int 1, .int 1, .int 1, .int 0] := by
  have h1 : fishL.ok = true := by decide +kernel
  have h2 : fishL.first 8 = (1, 1, 1) := by decide +kernel
  unfold Fish.firstR
  rw [h1, h2]; rfl
theorem w9 : boxesOk seaL boxesL = true := by decide +kernel
theorem w10 : boxF seaL boxesL 2 = ⟨[0, 2], 110, 18⟩ := by decide +kernel
theorem le2 {f : FuncId} {a a' b b' v : A} (h : Ans Try.prog f [a, b] v) (ha : A.Le a a') (hb : A.Le b b') : Ans Try.prog f [a', b'] v := h.le rfl fun i hi => by
  match i, hi with
  | 0, _ => exact ha
  | 1, _ => exact hb
theorem le3 {f : FuncId} {a a' b b' c c' v : A} (h : Ans Try.prog f [a, b, c] v) (ha : A.Le a a') (hb : A.Le b b') (hc : A.Le c c') : Ans Try.prog f [a', b', c'] v := h.le rfl fun i hi => by
  match i, hi with
  | 0, _ => exact ha
  | 1, _ => exact hb
  | 2, _ => exact hc
theorem x1 : Ans Try.prog 18 [.sl false .exact (scalesL.map Scale.c), .int 4, .int 6] (.tup [.agg (Sp.c ⟨10, 30⟩), .int 0]) := by
  have e : agedR scalesL 4 6 = [.agg (Sp.c ⟨10, 30⟩), .int 0] := by unfold agedR; rw [w1, w2]
  exact le3 (e ▸ aged_t false scalesL 4 6 (by decide)) (.any _ _ _) (.refl _) (.refl _)
theorem x2 : Ans Try.prog 21 [.sl false .exact racesC, .sl false .exact (seenL.map Sp.c)] (.tup [.sl false .exact (sh0.map Sp.c), .int 0]) := by
  have e : shareR racesL seenL = [.sl false .exact (sh0.map Sp.c), .int 0] := by
    unfold shareR
    rw [w4, w3]; rfl
  exact le2 (e ▸ Shares_t false false racesL seenL (by decide) (by decide) (by
    intro x hx
    simp only [racesL, List.mem_cons, List.not_mem_nil, or_false] at hx
    rcases hx with rfl | rfl <;> (show ((_ : Nat) : Int) ≤ _; decide))) races_le (.any _ _ _)
theorem x3 : Ans Try.prog 24 [.agg (rceC autumnR), .sl false .exact (ints [30, 30]), .sl false .exact (ints [90, 80])] (.tup [.sl false .exact (ints [40, 78]), .int 0]) := by
  have e : playR autumnR [30, 30] [90, 80] = [.sl false .exact (ints [40, 78]), .int 0] := by
    unfold playR
    rw [w5, w6]; rfl
  exact le3 (e ▸ play_t autumnR ⟨by decide, by decide, by decide⟩ false false [30, 30] [90, 80] (by decide) (by decide)) (.agg (rceC_le _ rfl rfl rfl)) (.any _ _ _) (.any _ _ _)
theorem fishFit : Q.Fish.Fit fishL := by
  refine ⟨by decide, by decide, by decide, ?_, ?_⟩
  · intro r hr
    simp only [fishL, List.mem_cons, List.not_mem_nil, or_false] at hr
    rcases hr with rfl | rfl <;> exact ⟨by decide, by decide, by decide⟩
  · intro s hs
    simp only [fishL, List.mem_cons, List.not_mem_nil, or_false] at hs
    rcases hs with rfl | rfl <;>
    · refine ⟨by decide, fun l hl => ?_⟩
      simp only [seas1, seas2, List.mem_cons, List.not_mem_nil, or_false] at hl
      rcases hl with rfl | rfl <;> (show ((_ : Nat) : Int) ≤ _; decide)
theorem x4 : Ans Try.prog 27 [.agg (fishC fishL)] (.tup [.int 7, .int 0]) := (w7 ▸ quota_t fishL fishFit).le1 fish_le
theorem x5 : Ans Try.prog 31 [.agg (fishC fishL), .int 8] (.tup [.int 1, .int 1, .int 1, .int 0]) := le2 (w8 ▸ First_t fishL fishFit 8) fish_le (.refl _)
theorem x6 : Ans Try.prog 33 [.sl false .exact (seaL.map Cel.c), .sl false .exact boxesC, .int 2] (.tup [.sl false .any (ints [0, 2]), .int 110, .int 18, .int 0]) := by
  have e : boxR seaL boxesL 2 = [.sl false .any (ints [0, 2]), .int 110, .int 18, .int 0] := by
    unfold boxR
    rw [w9, w10]; rfl
  exact le3 (e ▸ Boxes_t false false seaL boxesL 2 (by decide) (by decide) (by
    intro x hx
    simp only [boxesL, List.mem_cons, List.not_mem_nil, or_false] at hx
    rcases hx with rfl | rfl | rfl <;> (show ((_ : Nat) : Int) ≤ _; decide))) (.any _ _ _) boxes_le (.refl _)
theorem x7 : Ans Try.prog 23 [.sl false .exact (sh0.map Sp.c), .sl false .exact (sh0.map Sp.c)] (.bool true) :=
  le2 (sameSpans_t false false [⟨38, 75⟩, ⟨25, 62⟩] [⟨38, 75⟩, ⟨25, 62⟩] (by decide)) (.any _ _ _) (.any _ _ _)
theorem x8 : Ans Try.prog 26 [.sl false .exact (ints [40, 78]), .sl false .exact (ints [40, 78])] (.bool true) :=
  le2 (same_t false false [40, 78] [40, 78] (by decide)) (.any _ _ _) (.any _ _ _)
theorem x9 : Ans Try.prog 26 [.sl false .any (ints [0, 2]), .sl false .exact (ints [0, 2])] (.bool true) :=
  le2 (same_t false false [0, 2] [0, 2] (by decide)) (.refl _) (.any _ _ _)
theorem works_t : Ans Try.prog 20 [] (.bool true) := by
  refine told Try.func20 rfl rfl (Pure.of tab_ok Try.func20 rfl Try.ntmps20 rfl allN allN (.s _) fun E hE => ?_)
  refine Aw.sm tab_ok mb0 [] rfl rfl ?zo ?zk
  case zo =>
    repeat' apply AllP.cons
    all_goals first | exact trivial | exact id | exact rfl | exact fun _ => rfl | exact Nat.le_of_ble_eq_true rfl | exact fun _ => Nat.le_of_ble_eq_true rfl | exact Int.natCast_nonneg _ | exact fun _ => Int.natCast_nonneg _
  case zk =>
  refine Aw.sm tab_ok mb0 [(0, [.sl false .exact (scalesL.map Scale.c)]), (1, [.tup [.agg (Sp.c ⟨10, 30⟩), .int 0]])] rfl rfl ?zo ?zk
  case zo =>
    repeat' apply AllP.cons
    all_goals first | exact trivial | exact id | exact rfl | exact fun _ => rfl | exact Nat.le_of_ble_eq_true rfl | exact fun _ => Nat.le_of_ble_eq_true rfl | exact Int.natCast_nonneg _ | exact fun _ => Int.natCast_nonneg _ | exact scales_t | exact x1
  case zk =>
  refine Aw.sm tab_ok mb0 [(0, [.sl false .exact racesC]), (1, [.sl false .exact (seenL.map Sp.c)]), (2, [.tup [.sl false .exact (sh0.map Sp.c), .int 0]])] rfl rfl ?zo ?zk
  case zo =>
    repeat' apply AllP.cons
    all_goals first | exact trivial | exact id | exact rfl | exact fun _ => rfl | exact Nat.le_of_ble_eq_true rfl | exact fun _ => Nat.le_of_ble_eq_true rfl | exact Int.natCast_nonneg _ | exact fun _ => Int.natCast_nonneg _ | exact races_t | exact seen_t | exact x2
  case zk =>
  refine Aw.sm tab_ok mb0 [(0, [.agg (rceC autumnR)]), (3, [.tup [.sl false .exact (ints [40, 78]), .int 0]])] rfl rfl ?zo ?zk
  case zo =>
    repeat' apply AllP.cons
    all_goals first | exact trivial | exact id | exact rfl | exact fun _ => rfl | exact Nat.le_of_ble_eq_true rfl | exact fun _ => Nat.le_of_ble_eq_true rfl | exact Int.natCast_nonneg _ | exact fun _ => Int.natCast_nonneg _ | exact autumn_t | exact x3
  case zk =>
  refine Aw.sm tab_ok mb0 [(0, [.agg (fishC fishL)]), (1, [.tup [.int 7, .int 0]])] rfl rfl ?zo ?zk
  case zo =>
    repeat' apply AllP.cons
    all_goals first | exact trivial | exact id | exact rfl | exact fun _ => rfl | exact Nat.le_of_ble_eq_true rfl | exact fun _ => Nat.le_of_ble_eq_true rfl | exact Int.natCast_nonneg _ | exact fun _ => Int.natCast_nonneg _ | exact fishery_t | exact x4
  case zk =>
  refine Aw.seq ?_
  refine Aw.sd tab_ok mixed mb0 [(16, [.agg (Sp.c ⟨10, 30⟩)]), (17, [.bool false]), (21, [.agg (Sp.c ⟨38, 75⟩)]), (22, [.agg (Sp.c ⟨25, 62⟩)]), (24, [.bool true]), (30, [.bool true])] rfl (by kernel_rfl) rfl rfl ?zo ?zk
  case zo =>
    repeat' apply AllP.cons
    all_goals first | exact trivial | exact id | exact rfl | exact fun _ => rfl | exact Nat.le_of_ble_eq_true rfl | exact fun _ => Nat.le_of_ble_eq_true rfl | exact Int.natCast_nonneg _ | exact fun _ => Int.natCast_nonneg _ | exact fun _ => to_t _ _ | exact fun _ => neSp _ _ ⟨10, 30⟩ ⟨10, 30⟩ | exact fun _ => x7 | exact fun _ => x8 | exact (fun h => by cases h) | exact (fun _ => rfl)
  case zk =>
  refine Aw.cond rfl (fun h => by cases h) (fun _ => Aw.skip ?_)
  refine Aw.sm tab_ok mb0 [(0, [.agg (fishC fishL)]), (1, [.tup [.int 1, .int 1, .int 1, .int 0]])] rfl rfl ?zo ?zk
  case zo =>
    repeat' apply AllP.cons
    all_goals first | exact trivial | exact id | exact rfl | exact fun _ => rfl | exact Nat.le_of_ble_eq_true rfl | exact fun _ => Nat.le_of_ble_eq_true rfl | exact Int.natCast_nonneg _ | exact fun _ => Int.natCast_nonneg _ | exact fishery_t | exact x5
  case zk =>
  refine Aw.sm tab_ok mb0 [(0, [.sl false .exact (seaL.map Cel.c)]), (1, [.sl false .exact boxesC]), (2, [.tup [.sl false .any (ints [0, 2]), .int 110, .int 18, .int 0]])] rfl rfl ?zo ?zk
  case zo =>
    repeat' apply AllP.cons
    all_goals first | exact trivial | exact id | exact rfl | exact fun _ => rfl | exact Nat.le_of_ble_eq_true rfl | exact fun _ => Nat.le_of_ble_eq_true rfl | exact Int.natCast_nonneg _ | exact fun _ => Int.natCast_nonneg _ | exact sea_t | exact boxes_t | exact x6
  case zk =>
  refine Aw.sm tab_ok mb0 [(21, [.bool true])] rfl rfl ?zo ?zk
  case zo =>
    repeat' apply AllP.cons
    all_goals first | exact trivial | exact id | exact rfl | exact fun _ => rfl | exact Nat.le_of_ble_eq_true rfl | exact fun _ => Nat.le_of_ble_eq_true rfl | exact Int.natCast_nonneg _ | exact fun _ => Int.natCast_nonneg _ | exact fun _ => x9 | exact (fun h => by cases h) | exact (fun _ => rfl)
  case zk =>
  exact Aw.ret ⟨_, .cons (.tmp _) .nil, rfl⟩
end Go.Proofs.Ytdiclbgklegelaa

namespace Go.Proofs.Ytdiclbgklegelaa
open Go Go.AL Go.AL.Q
theorem in_t (n a b : Int) : Ans Try.prog 38 [.int n, .int a, .int b] (.bool (wi n a b)) := by
  refine told Try.func38 rfl rfl (Pure.of tab_ok Try.func38 rfl Try.ntmps38 rfl (allC (.s _) (allC (.s _) (all1 (.s _)))) (allC (fun _ => rfl) (allC (fun _ => rfl) (all1 (fun _ => rfl)))) (by first | exact .s _ | assumption | exact .tup _ (by intro x hx; simp only [List.mem_cons, List.not_mem_nil, or_false] at hx; rcases hx with rfl | rfl | rfl | rfl <;> first | exact .s _ | (simp_all; done))) fun E hE => ?_)
  refine Aw.sm tab_ok mb0 [] rfl rfl ?zo ?zk
  case zo =>
    repeat' apply AllP.cons
    all_goals first | exact trivial | exact id | exact rfl | exact fun _ => rfl | exact Nat.le_of_ble_eq_true rfl | exact fun _ => Nat.le_of_ble_eq_true rfl | exact Int.natCast_nonneg _ | exact fun _ => Int.natCast_nonneg _
  case zk =>
  refine Aw.sm tab_ok mb0 [] rfl rfl ?zo ?zk
  case zo =>
    repeat' apply AllP.cons
    all_goals first | exact trivial | exact id | exact rfl | exact fun _ => rfl | exact Nat.le_of_ble_eq_true rfl | exact fun _ => Nat.le_of_ble_eq_true rfl | exact Int.natCast_nonneg _ | exact fun _ => Int.natCast_nonneg _
  case zk =>
  exact Aw.ret ⟨_, .cons (.tmp _) .nil, rfl⟩
theorem mod_t (n b : Int) (hb : 0 < b) (hb2 : b ≤ 9223372036854775807) : Ans Try.prog 35 [.int n, .int b] (.int (n % b)) := by
  have h1 := Int.emod_nonneg n (show b ≠ 0 by omega)
  have h2 := Int.emod_lt_of_pos n hb
  have hm := mod_is n b hb
  refine told Try.func35 rfl rfl (Pure.of tab_ok Try.func35 rfl Try.ntmps35 rfl (allC (.s _) (all1 (.s _))) (allC (fun _ => rfl) (all1 (fun _ => rfl))) (by first | exact .s _ | assumption | exact .tup _ (by intro x hx; simp only [List.mem_cons, List.not_mem_nil, or_false] at hx; rcases hx with rfl | rfl | rfl | rfl <;> first | exact .s _ | (simp_all; done))) fun E hE => ?_)
  refine Aw.sm tab_ok mb0 [] rfl rfl ?zo ?zk
  case zo =>
    repeat' apply AllP.cons
    all_goals first | exact trivial | exact id | exact rfl | exact fun _ => rfl | exact Nat.le_of_ble_eq_true rfl | exact fun _ => Nat.le_of_ble_eq_true rfl | exact Int.natCast_nonneg _ | exact fun _ => Int.natCast_nonneg _ | exact in_t _ _ _ | exact (in_t _ _ _).un
  case zk =>
  refine Aw.sm tab_ok mb0 [] rfl rfl ?zo ?zk
  case zo =>
    repeat' apply AllP.cons
    all_goals first | exact trivial | exact id | exact rfl | exact fun _ => rfl | exact Nat.le_of_ble_eq_true rfl | exact fun _ => Nat.le_of_ble_eq_true rfl | exact Int.natCast_nonneg _ | exact fun _ => Int.natCast_nonneg _ | exact in_t _ _ _ | exact (in_t _ _ _).un | exact (show b ≠ 0 by omega)
  case zk =>
  refine Aw.seq ?_
  refine Aw.sm tab_ok mb0 [] rfl rfl ?zo ?zk
  case zo =>
    repeat' apply AllP.cons
    all_goals first | exact trivial | exact id | exact rfl | exact fun _ => rfl | exact Nat.le_of_ble_eq_true rfl | exact fun _ => Nat.le_of_ble_eq_true rfl | exact Int.natCast_nonneg _ | exact fun _ => Int.natCast_nonneg _ | exact in_t _ _ _ | exact (in_t _ _ _).un
  case zk =>
  refine Aw.cond rfl (fun h3 => ?_) (fun h3 => Aw.skip ?_)
  · have h3' : n.tmod b < 0 := of_decide_eq_true h3
    rw [if_pos h3'] at hm
    refine Aw.em tab_ok mb0 [] rfl rfl ?zo ?zk
    case zo =>
      repeat' apply AllP.cons
      all_goals first | exact trivial | exact id | exact rfl | exact fun _ => rfl | exact Nat.le_of_ble_eq_true rfl | exact fun _ => Nat.le_of_ble_eq_true rfl | exact Int.natCast_nonneg _ | exact fun _ => Int.natCast_nonneg _ | exact in_t _ _ _ | exact (in_t _ _ _).un | exact (show inR (n.tmod b + b) by rw [hm]; simp only [inR]; omega)
    case zk =>
    refine Aw.sm tab_ok mb0 [] rfl rfl ?zo ?zk
    case zo =>
      repeat' apply AllP.cons
      all_goals first | exact trivial | exact id | exact rfl | exact fun _ => rfl | exact Nat.le_of_ble_eq_true rfl | exact fun _ => Nat.le_of_ble_eq_true rfl | exact Int.natCast_nonneg _ | exact fun _ => Int.natCast_nonneg _ | exact in_t _ _ _ | exact (in_t _ _ _).un
    case zk =>
    exact Aw.ret ⟨_, .cons (.tmp _) .nil, congrArg A.int hm⟩
  · have h3' : ¬ n.tmod b < 0 := of_decide_eq_false h3
    rw [if_neg h3'] at hm
    refine Aw.sm tab_ok mb0 [] rfl rfl ?zo ?zk
    case zo =>
      repeat' apply AllP.cons
      all_goals first | exact trivial | exact id | exact rfl | exact fun _ => rfl | exact Nat.le_of_ble_eq_true rfl | exact fun _ => Nat.le_of_ble_eq_true rfl | exact Int.natCast_nonneg _ | exact fun _ => Int.natCast_nonneg _ | exact in_t _ _ _ | exact (in_t _ _ _).un
    case zk =>
    exact Aw.ret ⟨_, .cons (.tmp _) .nil, congrArg A.int hm⟩
end Go.Proofs.Ytdiclbgklegelaa

namespace Go.Proofs.Ytdiclbgklegelaa
open Go Go.AL Go.AL.Q
end Go.Proofs.Ytdiclbgklegelaa

namespace Go.AL
open Go Go.RowKit Go.ChangeShapes Go.WideShapes Go.ChangeAt
section
variable {H : Type} {enc : TypeId × Value → H} {P : Program} {w : World} {base : Nat} {spare : Nat → Bool} {held : Bool} {φ : Names}
theorem lifted2 {C : Checked} {os : Os} {f : FuncId} {fn : Func} {s : ChangeSpec} {apart fresh handsOn again : Bool} {tb : TypeId}
    (own : ownKnob C.prog.godebug = none) (started : os.Started) (noInit : C.prog.inits.idxOf? f = none) (hfn : C.prog.funcs[f]? = some fn)
    (witness : ∃ (w : World) (tape : Tape) (i : Input), w.os = os ∧ (w.forCall tape i).Shaped C.prog ∧ i.vars = [] ∧ Input.okWide C.prog (w.forCall tape i) .any w.heap.size f i ∧
      s.pre6 enc C.prog fn [] apart (w.forCall tape i).memory i.args ∧ ({} : Assume).holds C.prog (lone (Frame.enter C.prog f i.args .normal) [] (w.forCall tape i)))
    (hl : laidOutB C.prog = true) (hts : ∀ t ∈ fn.params.toList, C.prog.readableRec t = true ∧ t < C.prog.types.size) (hv : s.vars = []) (hvt : s.plain.varTypes C.prog = [])
    (hr : fn.resultTypes = #[tb]) (htb : C.prog.underlying tb = some .bool)
    (hs : ∀ ds : List (DataW H), ds.length = fn.params.size → s.fn H ds = { results := [.lit (.bool true)], args := ds })
    (key : ∀ (W : World) (base : Nat) (args : Array Value) (ds : List (DataW H)) (p : List MemPlace),
      (∀ (j : Nat) t v, fn.params[j]? = some t → args[j]? = some v → Value.okWide C.prog W .any base t v) →
      DataW.TrodAll enc C.prog W 0 (fun _ => true) true fn.params.toList args.toList ds p → (∀ k ∈ DataW.weightsEach C.prog fn.params.toList ds, k ≤ reachBytes) → ∃ (φ : Names) (az : List A), VRs φ (allZ W) W az args ∧ Ans C.prog f az (.bool true)) :
    ReturnsInHanded {} C os f .any (s.pre6 enc C.prog fn [] apart) (s.post enc C.prog fn apart fresh handsOn again) := by
  refine returnsInHanded_of_calls own started noInit witness ?_
  intro w tape i _ _ _ hok hpre hholds
  obtain ⟨_, _, _, fn', hfn', _, _, _, _, hval⟩ := hok
  have e : fn' = fn := Option.some.inj (hfn'.symm.trans hfn)
  subst e
  obtain ⟨⟨ds, gs, before, hw, hc⟩, hz⟩ := hpre
  have hzw := hz.weights hw
  have hW := DataW.Whole.of_heap (w' := w.forCall tape i) (by rfl) hw
  have hW2 := hW
  obtain ⟨p, q, hA, hV, hpq, hz, hn⟩ := hW2
  rw [hv] at hV
  have hg : gs = [] := by
    cases gs with
    | nil => rfl
    | cons a b => exact hV.elim
  subst hg
  have hlen : ∀ {ts : List TypeId} {vs : List Value} {ds : List (DataW H)} {p : List MemPlace}, DataW.TrodAll enc C.prog (w.forCall tape i) 0 (fun _ => true) true ts vs ds p → ds.length = ts.length := fun {ts} => by
    induction ts with
    | nil => intro vs ds p h; obtain ⟨_, rfl, _⟩ := trodAll_nil h; rfl
    | cons t ts ih => intro vs ds p h; obtain ⟨v, vs1, d, ds1, a, b, _, rfl, _, _, h2⟩ := trodAll_cons h; simp [ih h2]
  have hd : ds.length = fn'.params.size := by rw [hlen hA]; simp
  have hzw : ∀ k ∈ DataW.weightsEach C.prog fn'.params.toList ds, k ≤ reachBytes := fun k hk => by
    have e : (OpenSpec.ofChange s).bare.plain.varTypes C.prog = [] := hvt
    rw [e, List.append_nil, List.append_nil] at hzw
    exact of_decide_eq_true (List.all_eq_true.1 hzw k hk)
  obtain ⟨φ, az, hvs, ha⟩ := key (w.forCall tape i) w.heap.size i.args ds p hval hA hzw
  have e := hs (ds ++ []) (by simpa using hd)
  refine (law_row (apart := apart) (fresh := fresh) (handsOn := handsOn) (again := again) hl hts hv hW (by rw [e]; simp) (by rw [e]) (by rw [e]) hr htb hvs ha).mono fun e W' ⟨v, he, hp⟩ => ?_
  subst he
  exact ChangeSpec.post_blind hp
theorem rows1 : ∀ es : List (List Int), (∀ z ∈ es, z.length = 1) → ∃ l : List Int, (es.map fun z => z.map A.int) = Q.ints l ∧ l.length = es.length
  | [], _ => ⟨[], rfl, rfl⟩
  | z :: es, h => by
    obtain ⟨l, h1, h2⟩ := rows1 es fun y hy => h y (List.mem_cons_of_mem _ hy)
    match z, h z (List.mem_cons_self ..) with
    | [a], _ => exact ⟨a :: l, by rw [List.map_cons, h1]; rfl, by simp [h2]⟩
theorem all1t {p : Nat → Prop} {a : Nat} (h : p a) : ∀ t ∈ (#[a] : Array Nat).toList, p t := fun t ht => by
  rcases List.mem_cons.1 ht with rfl | ht
  · exact h
  · cases ht
theorem all2t {p : Nat → Prop} {a b : Nat} (h : p a) (k : p b) : ∀ t ∈ (#[a, b] : Array Nat).toList, p t := fun t ht => by
  rcases List.mem_cons.1 ht with rfl | ht
  · exact h
  · exact all1t k t ht
theorem vrs2 {a a' : A} {v v' : Value} {Z : Still} (h : VR φ Z w a v) (h' : VR φ Z w a' v') : VRs φ Z w [a, a'] #[v, v'] := ⟨rfl, fun i hi => by
  match i, hi with
  | 0, _ => exact h
  | 1, _ => exact h'⟩
end
end Go.AL

set_option maxRecDepth 100000
namespace Go.Proofs.Ytdiclbgklegelaa
open Go Go.AL Go.AL.Q Go.ChangeShapes Go.WideShapes Go.ChangeAt Go.RowKit
theorem own : ownKnob Try.prog.godebug = none := by kernel_rfl
theorem laidOut : laidOutB Try.prog = true := by kernel_rfl
theorem ty_ok {t : TypeId} (h : Try.prog.readableRec t = true) (h2 : decide (t < Try.prog.types.size) = true) : Try.prog.readableRec t = true ∧ t < Try.prog.types.size := ⟨h, of_decide_eq_true h2⟩
theorem uBool : Try.prog.underlying 4 = some .bool := by kernel_rfl
def fld (n : String) (t o b : Nat) : Field := ⟨n, t, o, false, "", "", b⟩
theorem u3 : Try.prog.underlying 3 = some (.int .i64) := by kernel_rfl
theorem c3 : Try.prog.cellsOf 3 = 1 := by kernel_rfl
theorem u37 : Try.prog.underlying 37 = some (.slice 3) := by kernel_rfl
theorem c37 : Try.prog.cellsOf 37 = 1 := by kernel_rfl
theorem by3 : Try.prog.bytesOf 3 = 8 := by kernel_rfl
section
variable {H : Type} {enc : TypeId × Value → H} {w : World} {base : Nat} {spare : Nat → Bool} {held : Bool} {φ : Names}
theorem n3 : Nums enc Try.prog w base spare held 3 1 := nums1 u3
end
end Go.Proofs.Ytdiclbgklegelaa

