/- ShoalLeft holds: the cast that is advised leaves at most its worst, and each other one no fewer. No condition. -/
import Derived.Test.YtohbjneaaahpcaaK7
set_option linter.all false
namespace Go.Proofs.Ytohbjneaaahpcaa
open Go Go.AL Go.AL.Q Go.AL.Sh
theorem Trk.hours {s : Sea} (ho : s.Ok) {T : List Nat} (h : Trk s T) : (T.length : Int) = s.hours := by have := hrs_pos ho; have := h.len; omega
end Go.Proofs.Ytohbjneaaahpcaa

namespace Go.Proofs.Ytohbjneaaahpcaa
open Go Go.AL Go.AL.Q Go.AL.Sh
structure NextIs (w : Int) (G : List Int) (casts : List Sp) (k : Nat) (p : Int × Int) : Prop where
  i : ∃ i : Nat, p.1 = i ∧ i < k ∧ p.2 = worstF w G (casts.getD i ⟨0, 0⟩)
  ge : ∀ j : Nat, j < k → p.2 ≤ worstF w G (casts.getD j ⟨0, 0⟩) ∧ ((j : Int) < p.1 → p.2 < worstF w G (casts.getD j ⟨0, 0⟩))
theorem nextK_is (w : Int) (G : List Int) (casts : List Sp) : ∀ k, NextIs w G casts (k + 1) (nextK w G casts (k + 1))
  | 0 => by
    rw [nextK, if_pos (.inl rfl)]
    exact ⟨⟨0, rfl, by omega, rfl⟩, fun j hj => by
      obtain rfl : j = 0 := by omega
      exact ⟨Int.le_refl _, fun h => by simp at h⟩⟩
  | k + 1 => by
    have ih := nextK_is w G casts k
    rw [nextK]
    obtain ⟨i, h1, h2, h3⟩ := ih.i
    split
    · rename_i h
      have h : worstF w G (casts.getD (k + 1) ⟨0, 0⟩) < (nextK w G casts (k + 1)).2 := h.resolve_left (by omega)
      refine ⟨⟨k + 1, rfl, by omega, rfl⟩, fun j hj => ?_⟩
      by_cases e : j = k + 1
      · subst e; exact ⟨Int.le_refl _, fun h => absurd h (Int.lt_irrefl _)⟩
      · have := (ih.ge j (by omega)).1
        exact ⟨by simp only; omega, fun _ => by simp only; omega⟩
    · rename_i h
      have h : ¬ worstF w G (casts.getD (k + 1) ⟨0, 0⟩) < (nextK w G casts (k + 1)).2 := fun h2 => h (.inr h2)
      refine ⟨⟨i, h1, by omega, h3⟩, fun j hj => ?_⟩
      by_cases e : j = k + 1
      · subst e; exact ⟨by omega, fun h => by rw [h1] at h; omega⟩
      · exact ih.ge j (by omega)
def lastI (l : List Int) : Int := l.getLast?.getD (-1)
structure Rd (n f : Nat) (last : Int) (m : List Int) : Prop where
  len : m.length = f
  ri : risingF n last m = true
structure ChT (fd : List Int → Bool) (n f : Nat) (l : List Int) (r : Cst) : Prop where
  t : r.1 = true → ∃ m, Rd n f (lastI l) m ∧ r.2 = l ++ m ∧ fd (l ++ m) = true ∧ ∀ m', Rd n f (lastI l) m' → fd (l ++ m') = true → Q.befF m' m = false
  f : r.1 = false → ∀ m', Rd n f (lastI l) m' → fd (l ++ m') = false
structure GoT (fd : List Int → Bool) (n f : Nat) (l : List Int) (is : List Nat) (r : Cst) : Prop where
  t : r.1 = true → ∃ i ∈ is, ∃ m, Rd n f i m ∧ r.2 = l ++ (i : Int) :: m ∧ fd (l ++ (i : Int) :: m) = true ∧ ∀ i' ∈ is, ∀ m', Rd n f i' m' → fd (l ++ (i' : Int) :: m') = true → Q.befF ((i' : Int) :: m') ((i : Int) :: m) = false
  f : r.1 = false → ∀ i' ∈ is, ∀ m', Rd n f i' m' → fd (l ++ (i' : Int) :: m') = false
structure SureIs (fd : List Int → Bool) (n : Nat) (o : List Int) : Prop where
  ri : risingF n (-1) o = true
  ok : fd o = true
  pos : 1 ≤ o.length
  first : ∀ o', o' ≠ [] → risingF n (-1) o' = true → fd o' = true → o.length < o'.length ∨ o'.length = o.length ∧ Q.befF o' o = false
end Go.Proofs.Ytohbjneaaahpcaa

namespace Go.Proofs.Ytohbjneaaahpcaa
open Go Go.AL Go.AL.Q Go.AL.Sh
end Go.Proofs.Ytohbjneaaahpcaa

namespace Go.Proofs.Ytohbjneaaahpcaa
open Go Go.AL Go.AL.Q Go.AL.Sh
theorem AskE_sound {s : Sea} {l : List Rep} {wrong hour : Int} {casts : List Sp} (hok : s.ok = true) (hr : s.repsOk l = true) (ha : askedB s wrong hour = true) : AskE s l wrong hour casts = if castsOk s casts then canE (canF s l wrong hour) else 13 := by
  unfold AskE; rw [hok, hr, ha]; simp only [if_true]
theorem mod_asked {s : Sea} (ho : s.Ok) (a b : Int) : askedB s (a % 25) (b % s.hours) = true := by
  have := ho.hr
  exact asked_iff.2 ⟨⟨Int.emod_nonneg _ (by decide), by have := Int.emod_lt_of_pos a (show (0 : Int) < 25 by decide); omega⟩, Int.emod_nonneg _ (by omega), Int.emod_lt_of_pos _ (by omega)⟩
set_option maxRecDepth 20000 in
set_option maxHeartbeats 2000000 in
theorem law_left (x : Srch) (hx : SrFit x) (a b : Int) (cb : Bool) (casts : List Sp) (hcs : CstFit casts) : Ans Try.prog 12 [.agg x.c, .agg [.int a, .int b], .sl cb .any (casts.map Sp.c)] (.bool true) := by
  have hso := sound_t x hx
  have ux : ∀ {m : Nat}, Under m (A.pt x.c) := (Free.pt _ x.free).under
  have uc : ∀ {m : Nat}, Under m (.sl cb .any (casts.map Sp.c)) := (free_map Sp.free _ _ _).under
  have lc : ((casts.map Sp.c).length : Int) = casts.length := by simp
  refine told Try.func12 rfl rfl (Pure.of tab_ok Try.func12 rfl Try.ntmps12 rfl (allC (.agg _ x.free) (allC (.agg _ (allC (.s _) (all1 (.s _)))) (all1 (free_map Sp.free _ _ _)))) (allC (fun _ => rfl) (allC (fun _ => rfl) (all1 (fun _ => rfl)))) (by first | exact .s _ | assumption | exact .tup _ (by intro x hx; simp only [List.mem_cons, List.not_mem_nil, or_false] at hx; rcases hx with rfl | rfl | rfl | rfl <;> first | exact .s _ | (simp_all; done))) fun E hE => ?_)
  refine Aw.sm tab_ok mb0 [] rfl rfl ?zo ?zk
  case zo =>
    repeat' apply AllP.cons
    all_goals first | exact trivial | exact id | exact rfl | exact fun _ => rfl | exact Nat.le_of_ble_eq_true rfl | exact fun _ => Nat.le_of_ble_eq_true rfl | exact Int.natCast_nonneg _ | exact fun _ => Int.natCast_nonneg _ | exact within_t _ _ _ | exact (within_t _ _ _).un | exact in_t _ _ _ | exact (in_t _ _ _).un | exact gq_f | exact gq_t | exact gq_c | exact fun _ _ => rfl | exact works_t | exact fun _ => works_t
  case zk =>
  refine Aw.seq ?_
  cases hsb : soundB x with
  | false =>
    rw [hsb] at hso
    refine Aw.sm tab_ok mb0 [(1, [.bool false])] rfl rfl ?zo ?zk
    case zo =>
      repeat' apply AllP.cons
      all_goals first | exact trivial | exact id | exact rfl | exact fun _ => rfl | exact Nat.le_of_ble_eq_true rfl | exact fun _ => Nat.le_of_ble_eq_true rfl | exact Int.natCast_nonneg _ | exact fun _ => Int.natCast_nonneg _ | exact within_t _ _ _ | exact (within_t _ _ _).un | exact in_t _ _ _ | exact (in_t _ _ _).un | exact gq_f | exact gq_t | exact gq_c | exact fun _ _ => rfl | exact works_t | exact fun _ => works_t | exact hso
    case zk =>
    refine Aw.cond rfl (fun _ => ?_) (fun h => absurd h (by decide))
    refine Aw.sm tab_ok mb0 [(0, [.bool true])] rfl rfl ?zo ?zk
    case zo =>
      repeat' apply AllP.cons
      all_goals first | exact trivial | exact id | exact rfl | exact fun _ => rfl | exact Nat.le_of_ble_eq_true rfl | exact fun _ => Nat.le_of_ble_eq_true rfl | exact Int.natCast_nonneg _ | exact fun _ => Int.natCast_nonneg _ | exact within_t _ _ _ | exact (within_t _ _ _).un | exact in_t _ _ _ | exact (in_t _ _ _).un | exact gq_f | exact gq_t | exact gq_c | exact fun _ _ => rfl | exact works_t | exact fun _ => works_t
    case zk =>
    exact Aw.ret ⟨_, .cons (.tmp _) .nil, rfl⟩
  | true =>
  rw [hsb] at hso
  obtain ⟨hok, hr⟩ := sound_iff.1 hsb
  have ho := Sea.ok_of hok
  have hrf := reps_fit hr
  have hm := ho.many
  have hhr := ho.hr
  have hask := mod_asked ho a b
  have hma := mod_t a 25 (by decide) (by decide)
  have hmb := mod_t b x.s.hours (by omega) (by omega)
  have hnx := Next_w x hx (a % 25) (b % x.s.hours) cb casts hcs
  have hcn := Can_w x hx (a % 25) (b % x.s.hours)
  rw [CanR_ok hok hr hask] at hcn
  have hAE := AskE_sound (casts := casts) hok hr hask
  have hGi := fun c hc => canF_in ho (l := x.l) (wrong := a % 25) (hour := b % x.s.hours) (c := c) hc
  have hG80 : (canF x.s x.l (a % 25) (b % x.s.hours)).length ≤ 80 := Nat.le_trans (goL_len _ _ _) (cellsL_len _ ho)
  refine Aw.sm tab_ok mb0 [(1, [.bool true])] rfl rfl ?zo ?zk
  case zo =>
    repeat' apply AllP.cons
    all_goals first | exact trivial | exact id | exact rfl | exact fun _ => rfl | exact Nat.le_of_ble_eq_true rfl | exact fun _ => Nat.le_of_ble_eq_true rfl | exact Int.natCast_nonneg _ | exact fun _ => Int.natCast_nonneg _ | exact within_t _ _ _ | exact (within_t _ _ _).un | exact in_t _ _ _ | exact (in_t _ _ _).un | exact gq_f | exact gq_t | exact gq_c | exact fun _ _ => rfl | exact works_t | exact fun _ => works_t | exact hso
  case zk =>
  refine Aw.cond rfl (fun h => absurd h (by decide)) (fun _ => Aw.skip ?_)
  refine Aw.sd tab_ok mixed mb0 [(2, [.int (a % 25)]), (8, [.int (b % x.s.hours)])] rfl (by kernel_rfl) rfl rfl ?zo ?zk
  case zo =>
    repeat' apply AllP.cons
    all_goals first | exact trivial | exact id | exact rfl | exact fun _ => rfl | exact Nat.le_of_ble_eq_true rfl | exact fun _ => Nat.le_of_ble_eq_true rfl | exact Int.natCast_nonneg _ | exact fun _ => Int.natCast_nonneg _ | exact within_t _ _ _ | exact (within_t _ _ _).un | exact in_t _ _ _ | exact (in_t _ _ _).un | exact gq_f | exact gq_t | exact gq_c | exact fun _ _ => rfl | exact works_t | exact fun _ => works_t | exact hma | exact hmb
  case zk =>
  by_cases hA : AskE x.s x.l (a % 25) (b % x.s.hours) casts = 0
  · rw [show NextR x.s x.l (a % 25) (b % x.s.hours) casts = _ from if_pos hA] at hnx
    simp only at hnx
    obtain ⟨_, _, _, hco, hne⟩ := AskE_ok hA
    obtain ⟨hc8, hcc⟩ := castsOk_iff hco
    rw [canE_ne hne] at hcn
    obtain ⟨n1, hn1⟩ : ∃ n, casts.length = n + 1 := ⟨casts.length - 1, by omega⟩
    have hN := nextK_is x.s.wide (canF x.s x.l (a % 25) (b % x.s.hours)) casts n1
    rw [← hn1] at hN
    generalize a % 25 = wrong at *
    generalize b % x.s.hours = hour at *
    generalize canF x.s x.l wrong hour = G at *
    obtain ⟨wi0, hw1, hw2, hw3⟩ := hN.i
    have hge := hN.ge
    generalize nextK x.s.wide G casts casts.length = pr at *
    obtain ⟨wh, wv⟩ := pr
    simp only at hw1 hw3 hge hnx
    have lG := ints_lenI G
    have uG : ∀ {m : Nat}, Under m (outW G) := (outW_free G).under
    refine Aw.sm tab_ok mb0 [(7, [.tup [.int wh, .int wv, .int 0]])] rfl rfl ?zo ?zk
    case zo =>
      repeat' apply AllP.cons
      all_goals first | exact trivial | exact id | exact rfl | exact fun _ => rfl | exact Nat.le_of_ble_eq_true rfl | exact fun _ => Nat.le_of_ble_eq_true rfl | exact Int.natCast_nonneg _ | exact fun _ => Int.natCast_nonneg _ | exact within_t _ _ _ | exact (within_t _ _ _).un | exact in_t _ _ _ | exact (in_t _ _ _).un | exact gq_f | exact gq_t | exact gq_c | exact fun _ _ => rfl | exact works_t | exact fun _ => works_t | exact hnx
    case zk =>
    refine Aw.sm tab_ok mb0 [(6, [.tup [outW G, .int 0]])] rfl rfl ?zo ?zk
    case zo =>
      repeat' apply AllP.cons
      all_goals first | exact trivial | exact id | exact rfl | exact fun _ => rfl | exact Nat.le_of_ble_eq_true rfl | exact fun _ => Nat.le_of_ble_eq_true rfl | exact Int.natCast_nonneg _ | exact fun _ => Int.natCast_nonneg _ | exact within_t _ _ _ | exact (within_t _ _ _).un | exact in_t _ _ _ | exact (in_t _ _ _).un | exact gq_f | exact gq_t | exact gq_c | exact fun _ _ => rfl | exact works_t | exact fun _ => works_t | exact hcn
    case zk =>
    refine Aw.seq ?_
    refine Aw.sm tab_ok mb0 [] rfl rfl ?zo ?zk
    case zo =>
      repeat' apply AllP.cons
      all_goals first | exact trivial | exact id | exact rfl | exact fun _ => rfl | exact Nat.le_of_ble_eq_true rfl | exact fun _ => Nat.le_of_ble_eq_true rfl | exact Int.natCast_nonneg _ | exact fun _ => Int.natCast_nonneg _ | exact within_t _ _ _ | exact (within_t _ _ _).un | exact in_t _ _ _ | exact (in_t _ _ _).un | exact gq_f | exact gq_t | exact gq_c | exact fun _ _ => rfl | exact works_t | exact fun _ => works_t
    case zk =>
    refine Aw.cond rfl (fun h => ?_) (fun _ => Aw.skip ?_)
    · have h : cond ((0 : Int) != 0) true (decide (((casts.map Sp.c).length : Int) > 8)) = true := h
      rw [lc] at h
      simp at h; omega
    have hwi : wi wh 0 (((casts.map Sp.c).length : Int) - 1) = true := wi_iff.2 (by omega)
    have hin := in_t wh 0 (((casts.map Sp.c).length : Int) - 1)
    rw [hwi] at hin
    refine Aw.seq ?_
    refine Aw.sm tab_ok mb0 [(7, [.bool true])] rfl rfl ?zo ?zk
    case zo =>
      repeat' apply AllP.cons
      all_goals first | exact trivial | exact id | exact rfl | exact fun _ => rfl | exact Nat.le_of_ble_eq_true rfl | exact fun _ => Nat.le_of_ble_eq_true rfl | exact Int.natCast_nonneg _ | exact fun _ => Int.natCast_nonneg _ | exact within_t _ _ _ | exact (within_t _ _ _).un | exact in_t _ _ _ | exact (in_t _ _ _).un | exact gq_f | exact gq_t | exact gq_c | exact fun _ _ => rfl | exact works_t | exact fun _ => works_t | exact fun _ => hin | exact fun _ => (by simp only [Ob.of, inR]; omega)
    case zk =>
    refine Aw.cond rfl (fun h => ?_) (fun _ => Aw.skip ?_)
    · exact absurd h (by decide)
    refine Aw.seq ?_
    refine Aw.sm tab_ok mb0 [] rfl rfl ?zo ?zk
    case zo =>
      repeat' apply AllP.cons
      all_goals first | exact trivial | exact id | exact rfl | exact fun _ => rfl | exact Nat.le_of_ble_eq_true rfl | exact fun _ => Nat.le_of_ble_eq_true rfl | exact Int.natCast_nonneg _ | exact fun _ => Int.natCast_nonneg _ | exact within_t _ _ _ | exact (within_t _ _ _).un | exact in_t _ _ _ | exact (in_t _ _ _).un | exact gq_f | exact gq_t | exact gq_c | exact fun _ _ => rfl | exact works_t | exact fun _ => works_t
    case zk =>
    refine Aw.block (Aw.rounds 0 hE [(2, .sl cb .any (casts.map Sp.c)), (3, .pt x.c), (9, .int wh), (10, .int wv), (12, outW G)] (fun k : Nat => [(14, .int k)]) (fun k => []) (fun k => k ≤ casts.length) (fun k => casts.length - k) 0 ?zg ⟨?zc, ?zv, ?zh, Nat.le_of_ble_eq_true rfl⟩ ?zu (fun k zhk => ?zw) (fun k zhk => ?zx) fun k hk => ?zr)
    case zg =>
      (repeat' (first | exact Nat.zero_le _ | exact Nat.le_refl _ | exact trivial | exact ux | exact uc | exact uG | (refine And.intro ?_ ?_)))
    case zc =>
      (repeat' (first | (refine And.intro ?_ ?_) | exact trivial | exact A.Le.refl _ | exact rfl | exact ux | exact uc | exact uG))
    case zv =>
      (repeat' (first | (refine And.intro ?_ ?_) | exact trivial | exact A.Le.refl _ | exact rfl | exact ux | exact uc | exact uG))
    case zh =>
      (repeat' (first | (refine And.intro ?_ ?_) | exact trivial | exact A.Le.refl _ | exact rfl | exact ux | exact uc | exact uG))
    case zu =>
      (repeat' (first | exact trivial | exact Under.s _ | exact Under.un | assumption | exact (free_ints _ _ _).under | exact Under.ref _ _ (by decide) | exact Under.ms _ _ _ (by decide) | exact Under.mp _ (by decide) | exact (Free.agg _ (by assumption)).under | exact (Free.pt _ (by assumption)).under | exact grL_under _ | exact outA_under _ | exact Nat.le_of_ble_eq_true rfl | exact (fun _ _ => rfl) | exact ux | exact uc | exact uG | (refine And.intro ?_ ?_)))
    case zw =>
      (repeat' (first | exact trivial | exact Under.s _ | exact Under.un | assumption | exact (free_ints _ _ _).under | exact Under.ref _ _ (by decide) | exact Under.ms _ _ _ (by decide) | exact Under.mp _ (by decide) | exact (Free.agg _ (by assumption)).under | exact (Free.pt _ (by assumption)).under | exact grL_under _ | exact outA_under _ | exact Nat.le_of_ble_eq_true rfl | exact (fun _ _ => rfl) | exact ux | exact uc | exact uG | (refine And.intro ?_ ?_)))
    case zx =>
      (repeat' (first | exact trivial | exact Under.s _ | exact Under.un | assumption | exact (free_ints _ _ _).under | exact Under.ref _ _ (by decide) | exact Under.ms _ _ _ (by decide) | exact Under.mp _ (by decide) | exact (Free.agg _ (by assumption)).under | exact (Free.pt _ (by assumption)).under | exact grL_under _ | exact outA_under _ | exact Nat.le_of_ble_eq_true rfl | exact (fun _ _ => rfl) | exact ux | exact uc | exact uG | (refine And.intro ?_ ?_)))
    case zr =>
    refine Aw.seq ?_
    refine Aw.sm tab_ok mb0 [] rfl rfl ?zo ?zk
    case zo =>
      repeat' apply AllP.cons
      all_goals first | exact trivial | exact id | exact rfl | exact fun _ => rfl | exact Nat.le_of_ble_eq_true rfl | exact fun _ => Nat.le_of_ble_eq_true rfl | exact Int.natCast_nonneg _ | exact fun _ => Int.natCast_nonneg _ | exact within_t _ _ _ | exact (within_t _ _ _).un | exact in_t _ _ _ | exact (in_t _ _ _).un | exact gq_f | exact gq_t | exact gq_c | exact fun _ _ => rfl | exact works_t | exact fun _ => works_t
    case zk =>
    refine Aw.cond rfl (fun h3 => Aw.skip ?_) (fun h3 => ?_)
    · have hlt : k < casts.length := by have := of_decide_eq_true (show decide ((k : Int) < ((casts.map Sp.c).length : Int)) = true from h3); omega
      have hg := hge k hlt
      have hget := get_map (f := Sp.c) hlt
      have hin := hcc casts[k] (List.getElem_mem hlt)
      rw [show casts.getD k ⟨0, 0⟩ = casts[k] by simp [List.getD_eq_getElem?_getD, hlt]] at hg
      have hwk : k = wi0 → wv = worstF x.s.wide G casts[k] := fun e => by subst e; rw [hw3]; simp [List.getD_eq_getElem?_getD, hlt]
      generalize casts[k] = c at *
      refine Aw.seq (Aw.block ?_)
      refine Aw.sm tab_ok mb0 [] rfl rfl ?zo ?zk
      case zo =>
        repeat' apply AllP.cons
        all_goals first | exact trivial | exact id | exact rfl | exact fun _ => rfl | exact Nat.le_of_ble_eq_true rfl | exact fun _ => Nat.le_of_ble_eq_true rfl | exact Int.natCast_nonneg _ | exact fun _ => Int.natCast_nonneg _ | exact within_t _ _ _ | exact (within_t _ _ _).un | exact in_t _ _ _ | exact (in_t _ _ _).un | exact gq_f | exact gq_t | exact gq_c | exact fun _ _ => rfl | exact works_t | exact fun _ => works_t
      case zk =>
      refine Aw.seq ?_
      refine Aw.sm tab_ok mb0 [] rfl rfl ?zo ?zk
      case zo =>
        repeat' apply AllP.cons
        all_goals first | exact trivial | exact id | exact rfl | exact fun _ => rfl | exact Nat.le_of_ble_eq_true rfl | exact fun _ => Nat.le_of_ble_eq_true rfl | exact Int.natCast_nonneg _ | exact fun _ => Int.natCast_nonneg _ | exact within_t _ _ _ | exact (within_t _ _ _).un | exact in_t _ _ _ | exact (in_t _ _ _).un | exact gq_f | exact gq_t | exact gq_c | exact fun _ _ => rfl | exact works_t | exact fun _ => works_t
      case zk =>
      refine Aw.block (Aw.rounds 0 hE [(2, .sl cb .any (casts.map Sp.c)), (3, .pt x.c), (9, .int wh), (10, .int wv), (12, outW G), (14, .int k)] (fun j : Nat => [(15, .int (cntC x.s.wide G c j)), (16, .int j)]) (fun j => []) (fun j => j ≤ G.length) (fun j => G.length - j) 0 ?zg ⟨?zc, ?zv, ?zh, Nat.le_of_ble_eq_true rfl⟩ ?zu (fun j zhk => ?zw) (fun j zhk => ?zx) fun j hk => ?zr)
      case zg =>
        (repeat' (first | exact Nat.zero_le _ | exact Nat.le_refl _ | exact trivial | exact ux | exact uc | exact uG | (refine And.intro ?_ ?_)))
      case zc =>
        (repeat' (first | (refine And.intro ?_ ?_) | exact trivial | exact A.Le.refl _ | exact rfl | exact ux | exact uc | exact uG))
      case zv =>
        (repeat' (first | (refine And.intro ?_ ?_) | exact trivial | exact A.Le.refl _ | exact rfl | exact ux | exact uc | exact uG))
      case zh =>
        (repeat' (first | (refine And.intro ?_ ?_) | exact trivial | exact A.Le.refl _ | exact rfl | exact ux | exact uc | exact uG))
      case zu =>
        (repeat' (first | exact trivial | exact Under.s _ | exact Under.un | assumption | exact (free_ints _ _ _).under | exact Under.ref _ _ (by decide) | exact Under.ms _ _ _ (by decide) | exact Under.mp _ (by decide) | exact (Free.agg _ (by assumption)).under | exact (Free.pt _ (by assumption)).under | exact grL_under _ | exact outA_under _ | exact Nat.le_of_ble_eq_true rfl | exact (fun _ _ => rfl) | exact ux | exact uc | exact uG | (refine And.intro ?_ ?_)))
      case zw =>
        (repeat' (first | exact trivial | exact Under.s _ | exact Under.un | assumption | exact (free_ints _ _ _).under | exact Under.ref _ _ (by decide) | exact Under.ms _ _ _ (by decide) | exact Under.mp _ (by decide) | exact (Free.agg _ (by assumption)).under | exact (Free.pt _ (by assumption)).under | exact grL_under _ | exact outA_under _ | exact Nat.le_of_ble_eq_true rfl | exact (fun _ _ => rfl) | exact ux | exact uc | exact uG | (refine And.intro ?_ ?_)))
      case zx =>
        (repeat' (first | exact trivial | exact Under.s _ | exact Under.un | assumption | exact (free_ints _ _ _).under | exact Under.ref _ _ (by decide) | exact Under.ms _ _ _ (by decide) | exact Under.mp _ (by decide) | exact (Free.agg _ (by assumption)).under | exact (Free.pt _ (by assumption)).under | exact grL_under _ | exact outA_under _ | exact Nat.le_of_ble_eq_true rfl | exact (fun _ _ => rfl) | exact ux | exact uc | exact uG | (refine And.intro ?_ ?_)))
      case zr =>
      refine Aw.seq ?_
      refine Aw.sm tab_ok mb0 [] rfl rfl ?zo ?zk
      case zo =>
        repeat' apply AllP.cons
        all_goals first | exact trivial | exact id | exact rfl | exact fun _ => rfl | exact Nat.le_of_ble_eq_true rfl | exact fun _ => Nat.le_of_ble_eq_true rfl | exact Int.natCast_nonneg _ | exact fun _ => Int.natCast_nonneg _ | exact within_t _ _ _ | exact (within_t _ _ _).un | exact in_t _ _ _ | exact (in_t _ _ _).un | exact gq_f | exact gq_t | exact gq_c | exact fun _ _ => rfl | exact works_t | exact fun _ => works_t
      case zk =>
      refine Aw.cond rfl (fun h2 => Aw.skip ?_) (fun h2 => ?_)
      · have hlt2 : j < G.length := by have := of_decide_eq_true (show decide ((j : Int) < ((ints G).length : Int)) = true from h2); omega
        have hget2 := ints_get hlt2
        have hin2 := hGi G[j] (List.getElem_mem hlt2)
        have hst := cntC_succ x.s.wide c hlt2
        have hbd := cntC_bd x.s.wide G c j
        generalize G[j] = p at *
        have hcv : covB x.s.wide c p = decide (farF (placeP x.s.wide c.lo) (placeP x.s.wide p) ≤ c.hi) := rfl
        have hap := apart_t x.s ho c.lo p (by omega) (by omega)
        rw [hcv] at hst
        generalize farF (placeP x.s.wide c.lo) (placeP x.s.wide p) = d at *
        generalize cntC x.s.wide G c j = m at *
        refine Aw.seq (Aw.block ?_)
        refine Aw.sd tab_ok mixed mb0 [(4, c.c), (9, [.int p]), (11, [.int d]), (14, c.c)] rfl (by kernel_rfl) rfl rfl ?zo ?zk
        case zo =>
          repeat' apply AllP.cons
          all_goals first | exact trivial | exact id | exact rfl | exact fun _ => rfl | exact Nat.le_of_ble_eq_true rfl | exact fun _ => Nat.le_of_ble_eq_true rfl | exact Int.natCast_nonneg _ | exact fun _ => Int.natCast_nonneg _ | exact within_t _ _ _ | exact (within_t _ _ _).un | exact in_t _ _ _ | exact (in_t _ _ _).un | exact gq_f | exact gq_t | exact gq_c | exact fun _ _ => rfl | exact works_t | exact fun _ => works_t | exact hget | exact hget2 | exact hap
        case zk =>
        refine Aw.cond rfl (fun h4 => ?_) (fun h4 => Aw.skip ?_)
        · have h4 : decide (d ≤ c.hi) = true := h4
          rw [h4, if_pos rfl] at hst
          refine Aw.em tab_ok mb0 [] rfl rfl ?zo ?zk
          case zo =>
            repeat' apply AllP.cons
            all_goals first | exact trivial | exact id | exact rfl | exact fun _ => rfl | exact Nat.le_of_ble_eq_true rfl | exact fun _ => Nat.le_of_ble_eq_true rfl | exact Int.natCast_nonneg _ | exact fun _ => Int.natCast_nonneg _ | exact within_t _ _ _ | exact (within_t _ _ _).un | exact in_t _ _ _ | exact (in_t _ _ _).un | exact gq_f | exact gq_t | exact gq_c | exact fun _ _ => rfl | exact works_t | exact fun _ => works_t | exact (by simp only [Ob.of, inR]; omega)
          case zk =>
          refine Aw.em tab_ok mb0 [] rfl rfl ?zo ?zk
          case zo =>
            repeat' apply AllP.cons
            all_goals first | exact trivial | exact id | exact rfl | exact fun _ => rfl | exact Nat.le_of_ble_eq_true rfl | exact fun _ => Nat.le_of_ble_eq_true rfl | exact Int.natCast_nonneg _ | exact fun _ => Int.natCast_nonneg _ | exact within_t _ _ _ | exact (within_t _ _ _).un | exact in_t _ _ _ | exact (in_t _ _ _).un | exact gq_f | exact gq_t | exact gq_c | exact fun _ _ => rfl | exact works_t | exact fun _ => works_t | exact (by simp only [Ob.of, inR]; omega)
          case zk =>
          refine ⟨j + 1, ?zg, ?zm, ⟨?zc, ?zv, ?zh, Nat.le_of_ble_eq_true rfl⟩⟩
          case zg =>
            (repeat' (first | assumption | omega | exact .of_eq (congrArg A.int hst) | (refine And.intro ?_ ?_)))
          case zm =>
            (repeat' (first | omega | exact .of_eq (congrArg A.int hst) | (refine And.intro ?_ ?_)))
          case zc =>
            (repeat' (first | (refine And.intro ?_ ?_) | exact trivial | exact A.Le.refl _ | exact rfl | exact .of_eq (congrArg A.int hst)))
          case zv =>
            (repeat' (first | (refine And.intro ?_ ?_) | exact trivial | exact A.Le.refl _ | exact rfl | exact .of_eq (congrArg A.int hst)))
          case zh =>
            (repeat' (first | (refine And.intro ?_ ?_) | exact trivial | exact A.Le.refl _ | exact rfl | exact .of_eq (congrArg A.int hst)))
        · have h4 : decide (d ≤ c.hi) = false := h4
          rw [h4, if_neg (by decide), Int.add_zero] at hst
          refine Aw.em tab_ok mb0 [] rfl rfl ?zo ?zk
          case zo =>
            repeat' apply AllP.cons
            all_goals first | exact trivial | exact id | exact rfl | exact fun _ => rfl | exact Nat.le_of_ble_eq_true rfl | exact fun _ => Nat.le_of_ble_eq_true rfl | exact Int.natCast_nonneg _ | exact fun _ => Int.natCast_nonneg _ | exact within_t _ _ _ | exact (within_t _ _ _).un | exact in_t _ _ _ | exact (in_t _ _ _).un | exact gq_f | exact gq_t | exact gq_c | exact fun _ _ => rfl | exact works_t | exact fun _ => works_t | exact (by simp only [Ob.of, inR]; omega)
          case zk =>
          refine ⟨j + 1, ?zg, ?zm, ⟨?zc, ?zv, ?zh, Nat.le_of_ble_eq_true rfl⟩⟩
          case zg =>
            (repeat' (first | assumption | omega | exact .of_eq (congrArg A.int hst) | (refine And.intro ?_ ?_)))
          case zm =>
            (repeat' (first | omega | exact .of_eq (congrArg A.int hst) | (refine And.intro ?_ ?_)))
          case zc =>
            (repeat' (first | (refine And.intro ?_ ?_) | exact trivial | exact A.Le.refl _ | exact rfl | exact .of_eq (congrArg A.int hst)))
          case zv =>
            (repeat' (first | (refine And.intro ?_ ?_) | exact trivial | exact A.Le.refl _ | exact rfl | exact .of_eq (congrArg A.int hst)))
          case zh =>
            (repeat' (first | (refine And.intro ?_ ?_) | exact trivial | exact A.Le.refl _ | exact rfl | exact .of_eq (congrArg A.int hst)))
      have hle2 : j = G.length := by have := of_decide_eq_false (show decide ((j : Int) < ((ints G).length : Int)) = false from h2); omega
      subst hle2
      refine Aw.exit2 ?_
      have hbd := cntC_bd x.s.wide G c G.length
      have hwo : worstF x.s.wide G c = gmax (cntC x.s.wide G c G.length) (G.length - cntC x.s.wide G c G.length) := rfl
      rw [← lG] at hwo
      generalize cntC x.s.wide G c G.length = m at *
      refine Aw.sm tab_ok mb0 [] rfl rfl ?zo ?zk
      case zo =>
        repeat' apply AllP.cons
        all_goals first | exact trivial | exact id | exact rfl | exact fun _ => rfl | exact Nat.le_of_ble_eq_true rfl | exact fun _ => Nat.le_of_ble_eq_true rfl | exact Int.natCast_nonneg _ | exact fun _ => Int.natCast_nonneg _ | exact within_t _ _ _ | exact (within_t _ _ _).un | exact in_t _ _ _ | exact (in_t _ _ _).un | exact gq_f | exact gq_t | exact gq_c | exact fun _ _ => rfl | exact works_t | exact fun _ => works_t | exact (by simp only [Ob.of, inR]; omega)
      case zk =>
      refine Aw.sm tab_ok mb0 [] rfl rfl ?zo ?zk
      case zo =>
        repeat' apply AllP.cons
        all_goals first | exact trivial | exact id | exact rfl | exact fun _ => rfl | exact Nat.le_of_ble_eq_true rfl | exact fun _ => Nat.le_of_ble_eq_true rfl | exact Int.natCast_nonneg _ | exact fun _ => Int.natCast_nonneg _ | exact within_t _ _ _ | exact (within_t _ _ _).un | exact in_t _ _ _ | exact (in_t _ _ _).un | exact gq_f | exact gq_t | exact gq_c | exact fun _ _ => rfl | exact works_t | exact fun _ => works_t
      case zk =>
      refine Aw.cond rfl (fun h4 => ?_) (fun _ => Aw.skip ?_)
      · have h4 : cond (cond (decide (gmax m (((ints G).length : Int) - m) < wv)) true (cond ((k : Int) == wh) (gmax m (((ints G).length : Int) - m) != wv) false)) true (cond (decide ((k : Int) < wh)) (gmax m (((ints G).length : Int) - m) == wv) false) = true := h4
        rw [← hwo] at h4
        obtain ⟨g1, g2⟩ := hg
        generalize worstF x.s.wide G c = W at *
        by_cases e : k = wi0
        · rw [← hwk e] at h4
          have e2 : (k : Int) = wh := by omega
          simp [e2] at h4
        · have e2 : ((k : Int) == wh) = false := by simp; omega
          rw [e2, decide_eq_false (show ¬ W < wv by omega)] at h4
          by_cases e3 : (k : Int) < wh
          · have := g2 e3
            rw [show (W == wv) = false by simp; omega] at h4
            simp at h4
          · rw [decide_eq_false e3] at h4; simp at h4
      refine Aw.em tab_ok mb0 [] rfl rfl ?zo ?zk
      case zo =>
        repeat' apply AllP.cons
        all_goals first | exact trivial | exact id | exact rfl | exact fun _ => rfl | exact Nat.le_of_ble_eq_true rfl | exact fun _ => Nat.le_of_ble_eq_true rfl | exact Int.natCast_nonneg _ | exact fun _ => Int.natCast_nonneg _ | exact within_t _ _ _ | exact (within_t _ _ _).un | exact in_t _ _ _ | exact (in_t _ _ _).un | exact gq_f | exact gq_t | exact gq_c | exact fun _ _ => rfl | exact works_t | exact fun _ => works_t | exact (by simp only [Ob.of, inR]; omega)
      case zk =>
      refine ⟨k + 1, ?zg, ?zm, ⟨?zc, ?zv, ?zh, Nat.le_of_ble_eq_true rfl⟩⟩
      case zg =>
        (repeat' (first | assumption | omega | (refine And.intro ?_ ?_)))
      case zm =>
        (repeat' (first | omega | (refine And.intro ?_ ?_)))
      case zc =>
        (repeat' (first | (refine And.intro ?_ ?_) | exact trivial | exact A.Le.refl _ | exact rfl))
      case zv =>
        (repeat' (first | (refine And.intro ?_ ?_) | exact trivial | exact A.Le.refl _ | exact rfl))
      case zh =>
        (repeat' (first | (refine And.intro ?_ ?_) | exact trivial | exact A.Le.refl _ | exact rfl))
    refine Aw.exit2 ?_
    refine Aw.sm tab_ok mb0 [(0, [.bool true])] rfl rfl ?zo ?zk
    case zo =>
      repeat' apply AllP.cons
      all_goals first | exact trivial | exact id | exact rfl | exact fun _ => rfl | exact Nat.le_of_ble_eq_true rfl | exact fun _ => Nat.le_of_ble_eq_true rfl | exact Int.natCast_nonneg _ | exact fun _ => Int.natCast_nonneg _ | exact within_t _ _ _ | exact (within_t _ _ _).un | exact in_t _ _ _ | exact (in_t _ _ _).un | exact gq_f | exact gq_t | exact gq_c | exact fun _ _ => rfl | exact works_t | exact fun _ => works_t
    case zk =>
    exact Aw.ret ⟨_, .cons (.tmp _) .nil, rfl⟩
  · rw [show NextR x.s x.l (a % 25) (b % x.s.hours) casts = _ from if_neg hA] at hnx
    simp only at hnx
    have hef : AskE x.s x.l (a % 25) (b % x.s.hours) casts = 13 ∨ AskE x.s x.l (a % 25) (b % x.s.hours) casts = canE (canF x.s x.l (a % 25) (b % x.s.hours)) := by
      rw [hAE]; split
      · exact .inr rfl
      · exact .inl rfl
    generalize AskE x.s x.l (a % 25) (b % x.s.hours) casts = e at *
    generalize a % 25 = wrong at *
    generalize b % x.s.hours = hour at *
    generalize canF x.s x.l wrong hour = G at *
    generalize canE G = f at *
    have he' : (e != 0) = true := by simpa using hA
    have hfin : cond (cond (cond ((0 : Int) == 0) ((0 : Int) == 0) false) (cond (e == 13) true (e == f)) false) true false = true := by
      rcases hef with h | h
      · rw [h]; rfl
      · rw [h]; simp
    refine Aw.sm tab_ok mb0 [(7, [.tup [.int 0, .int 0, .int e]])] rfl rfl ?zo ?zk
    case zo =>
      repeat' apply AllP.cons
      all_goals first | exact trivial | exact id | exact rfl | exact fun _ => rfl | exact Nat.le_of_ble_eq_true rfl | exact fun _ => Nat.le_of_ble_eq_true rfl | exact Int.natCast_nonneg _ | exact fun _ => Int.natCast_nonneg _ | exact within_t _ _ _ | exact (within_t _ _ _).un | exact in_t _ _ _ | exact (in_t _ _ _).un | exact gq_f | exact gq_t | exact gq_c | exact fun _ _ => rfl | exact works_t | exact fun _ => works_t | exact hnx
    case zk =>
    refine Aw.sm tab_ok mb0 [(6, [.tup [outW G, .int f]])] rfl rfl ?zo ?zk
    case zo =>
      repeat' apply AllP.cons
      all_goals first | exact trivial | exact id | exact rfl | exact fun _ => rfl | exact Nat.le_of_ble_eq_true rfl | exact fun _ => Nat.le_of_ble_eq_true rfl | exact Int.natCast_nonneg _ | exact fun _ => Int.natCast_nonneg _ | exact within_t _ _ _ | exact (within_t _ _ _).un | exact in_t _ _ _ | exact (in_t _ _ _).un | exact gq_f | exact gq_t | exact gq_c | exact fun _ _ => rfl | exact works_t | exact fun _ => works_t | exact hcn
    case zk =>
    refine Aw.seq ?_
    refine Aw.sm tab_ok mb0 [] rfl rfl ?zo ?zk
    case zo =>
      repeat' apply AllP.cons
      all_goals first | exact trivial | exact id | exact rfl | exact fun _ => rfl | exact Nat.le_of_ble_eq_true rfl | exact fun _ => Nat.le_of_ble_eq_true rfl | exact Int.natCast_nonneg _ | exact fun _ => Int.natCast_nonneg _ | exact within_t _ _ _ | exact (within_t _ _ _).un | exact in_t _ _ _ | exact (in_t _ _ _).un | exact gq_f | exact gq_t | exact gq_c | exact fun _ _ => rfl | exact works_t | exact fun _ => works_t
    case zk =>
    refine Aw.cond rfl (fun _ => ?_) (fun h => ?_)
    · refine Aw.sm tab_ok mb0 [(16, [.bool true])] rfl rfl ?zo ?zk
      case zo =>
        repeat' apply AllP.cons
        all_goals first | exact trivial | exact id | exact rfl | exact fun _ => rfl | exact Nat.le_of_ble_eq_true rfl | exact fun _ => Nat.le_of_ble_eq_true rfl | exact Int.natCast_nonneg _ | exact fun _ => Int.natCast_nonneg _ | exact within_t _ _ _ | exact (within_t _ _ _).un | exact in_t _ _ _ | exact (in_t _ _ _).un | exact gq_f | exact gq_t | exact gq_c | exact fun _ _ => rfl | exact works_t | exact fun _ => works_t
      case zk =>
      exact Aw.ret ⟨_, .cons (.tmp _) .nil, congrArg A.bool hfin⟩
    · have h : cond (e != 0) true (decide (((casts.map Sp.c).length : Int) > 8)) = false := h
      rw [he'] at h; cases h
theorem left_l (x : Srch) (a b : Int) (cb : Bool) (casts : List Sp) (hx : SrFit2 x) (hcs : CstFit casts) : Ans Try.prog 12 [.agg x.c, .agg [.int a, .int b], .sl cb .any (casts.map Sp.c)] (.bool true) := law_left x hx.fit a b cb casts hcs
end Go.Proofs.Ytohbjneaaahpcaa

namespace Go.Proofs.Ytohbjneaaahpcaa
open Go Go.AL Go.ChangeShapes Go.WideShapes Go.ChangeAt Go.RowKit
set_option maxRecDepth 100000 in
theorem shoalLeft_lifted (os : Os) (started : os.Started) (H : Type) (enc : TypeId × Value → H) :
    ReturnsInHanded {} Try.checked os 12 .any (Rows.shoalLeftSpec.pre6 enc Try.prog Try.f12 [] false) (Rows.shoalLeftSpec.post enc Try.prog Try.f12 false true false false) := by
  refine lifted2 (tb := 4) (C := Try.checked) own started (by kernel_rfl) Try.func12
    (ChangeSpec.witness6 (enc := enc) (C := Try.checked) false ⟨#[], #[.agg #[.int .i64 0, .int .i64 0, .slice none 0 0, .int .i64 0, .slice none 0 0, .int .i64 0, .slice none 0 0], .agg #[.int .i64 0, .int .i64 0], .slice none 0 0], []⟩ 8 (by kernel_rfl) (by kernel_rfl) (by kernel_rfl) (by kernel_rfl))
    laidOut ?_ rfl rfl (by kernel_rfl) uBool ?_ ?_
  · rw [Try.params12]; exact all3t (p := fun t => Try.prog.readableRec t = true ∧ t < Try.prog.types.size) t28 t38 t44
  · intro ds hd
    rw [Try.params12] at hd
    match ds, hd with
    | [d0, d1, d2], _ => rfl
  · intro W base args ds p hval hA hwt
    rw [Try.params12] at hA hval
    obtain ⟨v0, v1, v2, d0, d1, d2, p0, p1, p2, rfl, rfl, rfl, h0, h1, h2⟩ := trodAll_three hA
    obtain ⟨y0, q0, s0⟩ := arg_srch (φ := fun _ => none) (hval 0 28 v0 rfl rfl) h0 fun k hk => hwt k (List.mem_append.2 (.inl hk))
    obtain ⟨y1, q1⟩ := arg_2 (φ := fun _ => none) (hval 1 38 v1 rfl rfl) h1 fun k hk => hwt k (List.mem_append.2 (.inr (List.mem_append.2 (.inl hk))))
    obtain ⟨b2, y2, q2, s2⟩ := arg_casts (φ := fun _ => none) (hval 2 44 v2 rfl rfl) h2 fun k hk => hwt k (List.mem_append.2 (.inr (List.mem_append.2 (.inr (List.mem_append.2 (.inl hk))))))
    exact ⟨_, _, vrs3 q0 q1 q2, left_l y0 y1.1 y1.2 b2 y2 s0 s2⟩
theorem shoalLeft_holds : Rows.ShoalLeftSaid :=
  OpenClaim.holds_of_wide 12 Try.f12 rfl rfl rfl rfl rfl rfl rfl ⟨rfl, rfl, rfl, rfl, rfl⟩ rfl rfl rfl rfl rfl (by kernel_rfl) Try.func12 (by kernel_rfl)
    (of_decide_eq_true (by kernel_rfl)) (by unfold Func.isWrapper; first | (rw [if_pos (by decide +kernel)]; kernel_rfl) | (rw [if_neg (by decide +kernel)]; exact ⟨rfl, rfl⟩))
    (fun os started H enc _ => shoalLeft_lifted os started H enc)
end Go.Proofs.Ytohbjneaaahpcaa

