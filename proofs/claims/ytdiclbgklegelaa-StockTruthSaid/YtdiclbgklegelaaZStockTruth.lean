/- StockTruth holds: what Aged says holds of every catch that may be. No condition. -/
import Derived.Test.YtdiclbgklegelaaK6
set_option linter.all false
namespace Go.AL.Q
open Go
def seenF (l : List Scale) (k : Nat) : Int := ((l.take k).map Scale.seen).sum
theorem seenF_succ {l : List Scale} {k : Nat} (h : k < l.length) : seenF l (k + 1) = seenF l k + l[k].seen := by
  unfold seenF
  rw [List.take_succ_eq_append_getElem h, List.map_append, List.sum_append]; simp
def truthS (f t : Int) (p : List Int) (k : Nat) (x : Scale) (T : Int) : Int :=
  addIf (wi (chosenF x.lo x.hi (pickF p ((k : Int) + 2))) f t) (addIf (wi (chosenF x.lo x.hi (pickF p ((k : Int) + 1))) f t) T (pickF p k % (x.seen + 1))) (x.seen - pickF p k % (x.seen + 1))
def truthF (l : List Scale) (f t : Int) (p : List Int) : Nat → Int
  | 0 => 0
  | k + 1 => truthS f t p k (l.getD k ⟨0, 0, 0⟩) (truthF l f t p k)
theorem truthF_succ {l : List Scale} {f t : Int} {p : List Int} {k : Nat} (h : k < l.length) : truthF l f t p (k + 1) = truthS f t p k l[k] (truthF l f t p k) := by
  rw [truthF, List.getD_eq_getElem?_getD, List.getElem?_eq_getElem h]; rfl
theorem isLow_in {f t : Int} {x : Scale} (h : x.lo ≤ x.hi) : cond (wi x.lo f t) (wi x.hi f t) false = isLow f t x := by
  rw [Bool.eq_iff_iff]
  simp only [isLow, c_and, Bool.and_eq_true, wi_iff, decide_eq_true_eq]
  omega
theorem isHigh_in {f t : Int} {x : Scale} (h : x.lo ≤ x.hi) (hf : f ≤ t) : cond (cond (wi x.lo f t) true (wi x.hi f t)) true (cond (decide (x.lo < f)) (decide (x.hi > t)) false) = isHigh f t x := by
  have e : ∀ a b : Bool, cond a true b = (a || b) := fun a b => by cases a <;> rfl
  rw [Bool.eq_iff_iff]
  simp only [isHigh, c_and, e, Bool.and_eq_true, Bool.or_eq_true, wi_iff, decide_eq_true_eq]
  omega
theorem truthS_in {f t : Int} {p : List Int} {k : Nat} {x : Scale} {T a b : Int} (h1 : 0 ≤ x.seen) (h2 : x.lo ≤ x.hi) (ha : a ≤ T) (hb : T ≤ b) :
    addIf (isLow f t x) a x.seen ≤ truthS f t p k x T ∧ truthS f t p k x T ≤ addIf (isHigh f t x) b x.seen := by
  have c1 := chosen_in (lo := x.lo) (hi := x.hi) (n := pickF p ((k : Int) + 1)) h2
  have c2 := chosen_in (lo := x.lo) (hi := x.hi) (n := pickF p ((k : Int) + 2)) h2
  have m1 := Int.emod_nonneg (pickF p k) (show x.seen + 1 ≠ 0 by omega)
  have m2 := Int.emod_lt_of_pos (pickF p k) (show 0 < x.seen + 1 by omega)
  unfold truthS
  generalize chosenF x.lo x.hi (pickF p ((k : Int) + 1)) = u at *
  generalize chosenF x.lo x.hi (pickF p ((k : Int) + 2)) = v at *
  generalize pickF p k % (x.seen + 1) = m at *
  have i1 : isLow f t x = true ↔ f ≤ x.lo ∧ x.hi ≤ t := by simp [isLow]
  have i2 : isHigh f t x = true ↔ f ≤ x.hi ∧ x.lo ≤ t := by simp [isHigh]
  have w1 : wi u f t = true ↔ f ≤ u ∧ u ≤ t := wi_iff
  have w2 : wi v f t = true ↔ f ≤ v ∧ v ≤ t := wi_iff
  unfold addIf
  constructor <;> (split <;> split <;> split <;> simp_all <;> omega)
theorem truthF_in {l : List Scale} {f t : Int} {p : List Int} (hs : ∀ s ∈ l, (0 ≤ s.seen ∧ s.seen ≤ 10000) ∧ 0 ≤ s.lo ∧ s.lo ≤ s.hi ∧ s.hi ≤ 20) : ∀ k, k ≤ l.length → agedL f t (l.take k) ≤ truthF l f t p k ∧ truthF l f t p k ≤ agedH f t (l.take k)
  | 0, _ => by simp [truthF, agedL, agedH]
  | k + 1, h => by
    have hk : k < l.length := h
    obtain ⟨a, b⟩ := truthF_in (f := f) (t := t) (p := p) hs k (by omega)
    have c := hs l[k] (List.getElem_mem hk)
    rw [truthF_succ hk, agedL_step f t l k hk, agedH_step f t l k hk]
    exact truthS_in c.1.1 c.2.2.1 a b
theorem filter_all {l : List Scale} {p : Scale → Bool} (h : ∀ s ∈ l, p s = true) : l.filter p = l := List.filter_eq_self.2 h
theorem aged_all {l : List Scale} (h : scalesOk l = true) : agedS l 0 20 = ⟨seenF l l.length, seenF l l.length⟩ ∧ agedE l 0 20 = 0 := by
  obtain ⟨_, hs⟩ := scales_in h
  have r : rangeOk 0 20 = true := rfl
  have e1 : agedL 0 20 l = seenF l l.length := by
    unfold agedL seenF
    rw [filter_all fun s m => by have := hs s m; simp [isLow]; omega, List.take_length]
  have e2 : agedH 0 20 l = seenF l l.length := by
    unfold agedH seenF
    rw [filter_all fun s m => by have := hs s m; simp [isHigh]; omega, List.take_length]
  unfold agedS agedE
  rw [h, r]
  simp only [if_true]
  rw [e1, e2]
  exact ⟨rfl, trivial⟩
theorem seenF_bd {l : List Scale} (hl : l.length ≤ 20) (hs : ∀ s ∈ l, 0 ≤ s.seen ∧ s.seen ≤ 10000) (k : Nat) : 0 ≤ seenF l k ∧ seenF l k ≤ 200000 := by
  have h1 := sum_bd (l := (l.take k).map Scale.seen) (b := 10000) fun x hx => by
    obtain ⟨s, m, rfl⟩ := List.mem_map.1 hx
    exact hs s (List.mem_of_mem_take m)
  have h2 : ((l.take k).map Scale.seen).length ≤ 20 := by rw [List.length_map, List.length_take]; omega
  unfold seenF; omega
end Go.AL.Q
namespace Go.Proofs.Ytdiclbgklegelaa
open Go Go.AL Go.AL.Q
theorem neq_d {a b : Int} (h : (a != b) = true) : a ≠ b := by simpa using h
theorem truth_t (b : Bool) (l : List Scale) (y0 y1 : Int) (bp : Bool) (p : List Int) (hl : (l.length : Int) ≤ 9223372036854775806) (hp : (p.length : Int) ≤ 9223372036854775806) :
    Ans Try.prog 8 [.sl b .any (l.map Scale.c), .agg [.int y0, .int y1], .sl bp .any (ints p)] (.bool true) := by
  have hsl : Free (.sl b .any (l.map Scale.c)) := free_map Scale.free _ _ _
  have lz : ((l.map Scale.c).length : Int) = l.length := by simp
  have f1 := Int.emod_nonneg y0 (show (21 : Int) ≠ 0 by omega)
  have f2 := Int.emod_lt_of_pos y0 (show (0 : Int) < 21 by omega)
  have t1 := chosen_in (lo := y0 % 21) (hi := 20) (n := y1) (by omega)
  refine told Try.func8 rfl rfl (Pure.of tab_ok Try.func8 rfl Try.ntmps8 rfl (allC (hsl) (allC (.agg _ (allC (.s _) (all1 (.s _)))) (all1 (free_ints _ _ _)))) (allC (fun _ => rfl) (allC (fun _ => rfl) (all1 (fun _ => rfl)))) (by first | exact .s _ | assumption | exact .tup _ (by intro x hx; simp only [List.mem_cons, List.not_mem_nil, or_false] at hx; rcases hx with rfl | rfl | rfl | rfl <;> first | exact .s _ | (simp_all; done))) fun E hE => ?_)
  refine Aw.sm tab_ok mb0 [] rfl rfl ?zo ?zk
  case zo =>
    repeat' apply AllP.cons
    all_goals first | exact trivial | exact id | exact rfl | exact fun _ => rfl | exact Nat.le_of_ble_eq_true rfl | exact fun _ => Nat.le_of_ble_eq_true rfl | exact Int.natCast_nonneg _ | exact fun _ => Int.natCast_nonneg _ | exact in_t _ _ _ | exact (in_t _ _ _).un | exact gq_f
  case zk =>
  refine Aw.sm tab_ok mb0 [(2, [.int (y0 % 21)])] rfl rfl ?zo ?zk
  case zo =>
    repeat' apply AllP.cons
    all_goals first | exact trivial | exact id | exact rfl | exact fun _ => rfl | exact Nat.le_of_ble_eq_true rfl | exact fun _ => Nat.le_of_ble_eq_true rfl | exact Int.natCast_nonneg _ | exact fun _ => Int.natCast_nonneg _ | exact in_t _ _ _ | exact (in_t _ _ _).un | exact gq_f | exact mod_t _ _ (by omega) (by omega)
  case zk =>
  refine Aw.sm tab_ok mb0 [(3, [.int (chosenF (y0 % 21) 20 y1)])] rfl rfl ?zo ?zk
  case zo =>
    repeat' apply AllP.cons
    all_goals first | exact trivial | exact id | exact rfl | exact fun _ => rfl | exact Nat.le_of_ble_eq_true rfl | exact fun _ => Nat.le_of_ble_eq_true rfl | exact Int.natCast_nonneg _ | exact fun _ => Int.natCast_nonneg _ | exact in_t _ _ _ | exact (in_t _ _ _).un | exact gq_f | exact chosen_t _ _ _ (by omega) (by omega)
  case zk =>
  generalize y0 % 21 = f at *
  generalize chosenF f 20 y1 = t at *
  have hrg : rangeOk f t = true := by
    unfold rangeOk
    rw [wi_iff.2 ⟨by omega, by omega⟩, wi_iff.2 ⟨by omega, by omega⟩]; rfl
  cases hok : scalesOk l with
  | false =>
    have e : agedR l f t = [.agg (Sp.c ⟨0, 0⟩), .int 90] := by simp only [agedR, agedS, agedE, hok]; rfl
    refine Aw.sm tab_ok mb0 [(3, [.tup [.agg (Sp.c ⟨0, 0⟩), .int 90]])] rfl rfl ?zo ?zk
    case zo =>
      repeat' apply AllP.cons
      all_goals first | exact trivial | exact id | exact rfl | exact fun _ => rfl | exact Nat.le_of_ble_eq_true rfl | exact fun _ => Nat.le_of_ble_eq_true rfl | exact Int.natCast_nonneg _ | exact fun _ => Int.natCast_nonneg _ | exact in_t _ _ _ | exact (in_t _ _ _).un | exact gq_f | exact e ▸ aged_t b l f t hl
    case zk =>
    refine Aw.seq ?_
    refine Aw.sm tab_ok mb0 [] rfl rfl ?zo ?zk
    case zo =>
      repeat' apply AllP.cons
      all_goals first | exact trivial | exact id | exact rfl | exact fun _ => rfl | exact Nat.le_of_ble_eq_true rfl | exact fun _ => Nat.le_of_ble_eq_true rfl | exact Int.natCast_nonneg _ | exact fun _ => Int.natCast_nonneg _ | exact in_t _ _ _ | exact (in_t _ _ _).un | exact gq_f | exact (fun h => by cases h) | exact (fun _ => rfl)
    case zk =>
    refine Aw.cond rfl (fun _ => ?_) (fun h => by cases h)
    refine Aw.sm tab_ok mb0 [(5, [.bool true]), (8, [.bool true])] rfl rfl ?zo ?zk
    case zo =>
      repeat' apply AllP.cons
      all_goals first | exact trivial | exact id | exact rfl | exact fun _ => rfl | exact Nat.le_of_ble_eq_true rfl | exact fun _ => Nat.le_of_ble_eq_true rfl | exact Int.natCast_nonneg _ | exact fun _ => Int.natCast_nonneg _ | exact in_t _ _ _ | exact (in_t _ _ _).un | exact gq_f | exact fun _ => eqSp _ _ ⟨0, 0⟩ ⟨0, 0⟩ | exact fun _ => works_t
    case zk =>
    exact Aw.ret ⟨_, .cons (.tmp _) .nil, rfl⟩
  | true =>
  obtain ⟨hl20, hsc⟩ := scales_in hok
  have e : agedR l f t = [.agg (Sp.c ⟨agedL f t l, agedH f t l⟩), .int 0] := by simp only [agedR, agedS, agedE, hok, hrg]; rfl
  refine Aw.sm tab_ok mb0 [(3, [.tup [.agg (Sp.c ⟨agedL f t l, agedH f t l⟩), .int 0]])] rfl rfl ?zo ?zk
  case zo =>
    repeat' apply AllP.cons
    all_goals first | exact trivial | exact id | exact rfl | exact fun _ => rfl | exact Nat.le_of_ble_eq_true rfl | exact fun _ => Nat.le_of_ble_eq_true rfl | exact Int.natCast_nonneg _ | exact fun _ => Int.natCast_nonneg _ | exact in_t _ _ _ | exact (in_t _ _ _).un | exact gq_f | exact e ▸ aged_t b l f t hl
  case zk =>
  refine Aw.seq ?_
  refine Aw.sm tab_ok mb0 [] rfl rfl ?zo ?zk
  case zo =>
    repeat' apply AllP.cons
    all_goals first | exact trivial | exact id | exact rfl | exact fun _ => rfl | exact Nat.le_of_ble_eq_true rfl | exact fun _ => Nat.le_of_ble_eq_true rfl | exact Int.natCast_nonneg _ | exact fun _ => Int.natCast_nonneg _ | exact in_t _ _ _ | exact (in_t _ _ _).un | exact gq_f | exact (fun h => by cases h) | exact (fun _ => rfl)
  case zk =>
  refine Aw.cond rfl (fun h => ?_) (fun _ => Aw.skip ?_)
  · have h : decide (((l.map Scale.c).length : Int) > 20) = true := h
    have := of_decide_eq_true h; omega
  refine Aw.sm tab_ok mb0 [] rfl rfl ?zo ?zk
  case zo =>
    repeat' apply AllP.cons
    all_goals first | exact trivial | exact id | exact rfl | exact fun _ => rfl | exact Nat.le_of_ble_eq_true rfl | exact fun _ => Nat.le_of_ble_eq_true rfl | exact Int.natCast_nonneg _ | exact fun _ => Int.natCast_nonneg _ | exact in_t _ _ _ | exact (in_t _ _ _).un | exact gq_f
  case zk =>
  have tin := truthF_in (f := f) (t := t) (p := p) hsc
  have bdL : ∀ k, 0 ≤ agedL f t (l.take k) ∧ agedL f t (l.take k) ≤ 200000 := fun k => by
    have := filt_sum (p := isLow f t) (l := l.take k) fun s hs => (hsc s (List.mem_of_mem_take hs)).1
    have h2 : (l.take k).length ≤ 20 := by rw [List.length_take]; omega
    unfold agedL; omega
  have bdH : ∀ k, 0 ≤ agedH f t (l.take k) ∧ agedH f t (l.take k) ≤ 200000 := fun k => by
    have := filt_sum (p := isHigh f t) (l := l.take k) fun s hs => (hsc s (List.mem_of_mem_take hs)).1
    have h2 : (l.take k).length ≤ 20 := by rw [List.length_take]; omega
    unfold agedH; omega
  have bdS := seenF_bd hl20 fun s hs => (hsc s hs).1
  have hE1 : ∀ id, 1 ≤ id → E.φ0 id = none := fun id h => hE id (by omega)
  refine Aw.seq ?_
  refine Aw.sm tab_ok mb0 [] rfl rfl ?zo ?zk
  case zo =>
    repeat' apply AllP.cons
    all_goals first | exact trivial | exact id | exact rfl | exact fun _ => rfl | exact Nat.le_of_ble_eq_true rfl | exact fun _ => Nat.le_of_ble_eq_true rfl | exact Int.natCast_nonneg _ | exact fun _ => Int.natCast_nonneg _ | exact in_t _ _ _ | exact (in_t _ _ _).un | exact gq_f
  case zk =>
  refine Aw.block (Aw.rounds 1 hE1 [(0, .sl b .any (l.map Scale.c)), (2, .sl bp .any (ints p)), (7, .int f), (8, .int t), (9, .ref 0 0)] (fun k : Nat => [(11, .int (seenF l k)), (12, .int (truthF l f t p k)), (13, .int (agedL f t (l.take k))), (14, .int (agedH f t (l.take k))), (15, .int k)]) (fun _ => [(0, .cells [.int (agedL f t l), .int (agedH f t l)])]) (fun k => k ≤ l.length) (fun k => l.length - k) 0
    (Nat.zero_le _) ⟨⟨.refl _, .refl _, .refl _, .refl _, .refl _, trivial⟩, ⟨.refl _, .refl _, .refl _, .refl _, .refl _, trivial⟩, ⟨rfl, trivial⟩, Nat.le_of_ble_eq_true rfl⟩ ⟨hsl.under, (free_ints _ _ _).under, .s _, .s _, .ref _ _ (by decide), trivial⟩ (fun _ _ => ⟨.s _, .s _, .s _, .s _, .s _, trivial⟩) (fun _ _ => ⟨⟨by decide, .cells _ (allC (.s _) (all1 (.s _)))⟩, trivial⟩) fun k hk => ?_)
  refine Aw.seq ?_
  refine Aw.sm tab_ok mb0 [] rfl rfl ?zo ?zk
  case zo =>
    repeat' apply AllP.cons
    all_goals first | exact trivial | exact id | exact rfl | exact fun _ => rfl | exact Nat.le_of_ble_eq_true rfl | exact fun _ => Nat.le_of_ble_eq_true rfl | exact Int.natCast_nonneg _ | exact fun _ => Int.natCast_nonneg _ | exact in_t _ _ _ | exact (in_t _ _ _).un | exact gq_f
  case zk =>
  refine Aw.cond rfl (fun h1 => Aw.skip ?_) (fun h1 => ?_)
  · have hlt : k < l.length := by have := of_decide_eq_true h1; omega
    have b1 := bdL k
    have b2 := bdH k
    have b3 := hsc l[k] (List.getElem_mem hlt)
    have b4 := bdS k
    have b5 := tin k hk
    have s1 := agedL_step f t l k hlt
    have s2 := agedH_step f t l k hlt
    have s3 := seenF_succ hlt
    have s4 := truthF_succ (f := f) (t := t) (p := p) hlt
    have gk := get_map (f := Scale.c) hlt
    generalize agedL f t (l.take k) = x1 at *
    generalize agedH f t (l.take k) = x2 at *
    generalize seenF l k = x3 at *
    generalize truthF l f t p k = x4 at *
    generalize l[k] = x at *
    have k20 : (k : Int) ≤ 20 := by omega
    have m1 := Int.emod_nonneg (pickF p k) (show x.seen + 1 ≠ 0 by omega)
    have m2 := Int.emod_lt_of_pos (pickF p k) (show 0 < x.seen + 1 by omega)
    refine Aw.seq (Aw.block ?_)
    refine Aw.sm tab_ok mb0 [(3, x.c)] rfl rfl ?zo ?zk
    case zo =>
      repeat' apply AllP.cons
      all_goals first | exact trivial | exact id | exact rfl | exact fun _ => rfl | exact Nat.le_of_ble_eq_true rfl | exact fun _ => Nat.le_of_ble_eq_true rfl | exact Int.natCast_nonneg _ | exact fun _ => Int.natCast_nonneg _ | exact in_t _ _ _ | exact (in_t _ _ _).un | exact gq_f | exact gk | exact (by simp only [Ob.of, inR]; omega)
    case zk =>
    refine Aw.sd tab_ok mixed mb0 [(2, [.int (pickF p k)]), (5, x.c), (9, [.int (pickF p k % (x.seen + 1))])] rfl (by kernel_rfl) rfl rfl ?zo ?zk
    case zo =>
      repeat' apply AllP.cons
      all_goals first | exact trivial | exact id | exact rfl | exact fun _ => rfl | exact Nat.le_of_ble_eq_true rfl | exact fun _ => Nat.le_of_ble_eq_true rfl | exact Int.natCast_nonneg _ | exact fun _ => Int.natCast_nonneg _ | exact in_t _ _ _ | exact (in_t _ _ _).un | exact gq_f | exact pick_t _ _ _ (by omega) | exact gk | exact mod_t _ _ (by omega) (by omega) | exact (by simp only [Ob.of, inR]; omega)
    case zk =>
    unfold truthS at s4
    generalize pickF p k % (x.seen + 1) = m at *
    generalize hu : pickF p ((k : Int) + 1) = pu at *
    generalize hv : pickF p ((k : Int) + 2) = pv at *
    generalize hcu : chosenF x.lo x.hi pu = cu at *
    generalize hcv : chosenF x.lo x.hi pv = cv at *
    generalize hwu : wi cu f t = wu at *
    generalize hwv : wi cv f t = wv at *
    have uc : UnderL 1 [(0, A.sl b .any (l.map Scale.c)), (2, .sl bp .any (ints p)), (7, .int f), (8, .int t), (9, .ref 0 0), (11, .int (x3 + x.seen)), (13, .int x1), (14, .int x2), (15, .int k), (16, .int m)] := ⟨hsl.under, (free_ints _ _ _).under, .s _, .s _, .ref _ _ (by decide), .s _, .s _, .s _, .s _, .s _, trivial⟩
    have uh : UnderH 1 [(0, B.cells [.int (agedL f t l), .int (agedH f t l)])] := ⟨⟨by decide, .cells _ (allC (.s _) (all1 (.s _)))⟩, trivial⟩
    refine Aw.join1 1 hE1 [(0, .sl b .any (l.map Scale.c)), (2, .sl bp .any (ints p)), (7, .int f), (8, .int t), (9, .ref 0 0), (11, .int (x3 + x.seen)), (13, .int x1), (14, .int x2), (15, .int k), (16, .int m)] [(12, .int (addIf wu x4 m))] [(0, .cells [.int (agedL f t l), .int (agedH f t l)])] uc ⟨.s _, trivial⟩ uh ?_ ?_
    · refine Aw.sd tab_ok mixed mb0 [(2, x.c), (8, x.c), (15, [.int pu]), (16, [.int cu]), (19, [.bool wu])] rfl (by kernel_rfl) rfl rfl ?zo ?zk
      case zo =>
        repeat' apply AllP.cons
        all_goals first | exact trivial | exact id | exact rfl | exact fun _ => rfl | exact Nat.le_of_ble_eq_true rfl | exact fun _ => Nat.le_of_ble_eq_true rfl | exact Int.natCast_nonneg _ | exact fun _ => Int.natCast_nonneg _ | exact in_t _ _ _ | exact (in_t _ _ _).un | exact gq_f | exact gk | exact hu ▸ pick_t _ _ _ (by omega) | exact hcu ▸ chosen_t _ _ _ (by omega) (by omega) | exact hwu ▸ in_t _ _ _ | exact inrk k (by omega)
      case zk =>
      refine Aw.cond rfl (fun h2 => ?_) (fun h2 => Aw.skip ?_)
      · have h2 : wu = true := h2
        subst h2
        refine Aw.em tab_ok mb0 [] rfl rfl ?zo ?zk
        case zo =>
          repeat' apply AllP.cons
          all_goals first | exact trivial | exact id | exact rfl | exact fun _ => rfl | exact Nat.le_of_ble_eq_true rfl | exact fun _ => Nat.le_of_ble_eq_true rfl | exact Int.natCast_nonneg _ | exact fun _ => Int.natCast_nonneg _ | exact in_t _ _ _ | exact (in_t _ _ _).un | exact gq_f | exact (by simp only [Ob.of, inR]; omega)
        case zk =>
        exact ⟨⟨.refl _, .refl _, .refl _, .refl _, .refl _, .refl _, .refl _, .refl _, .refl _, .refl _, trivial⟩, ⟨.refl _, trivial⟩, ⟨rfl, trivial⟩, Nat.le_of_ble_eq_true rfl⟩
      · have h2 : wu = false := h2
        subst h2
        exact ⟨⟨.refl _, .refl _, .refl _, .refl _, .refl _, .refl _, .refl _, .refl _, .refl _, .refl _, trivial⟩, ⟨.refl _, trivial⟩, ⟨rfl, trivial⟩, Nat.le_of_ble_eq_true rfl⟩
    have hx4 : 0 ≤ addIf wu x4 m ∧ addIf wu x4 m ≤ 300000 := by unfold addIf; split <;> omega
    generalize addIf wu x4 m = x5 at *
    refine Aw.join1 1 hE1 [(0, .sl b .any (l.map Scale.c)), (2, .sl bp .any (ints p)), (7, .int f), (8, .int t), (9, .ref 0 0), (11, .int (x3 + x.seen)), (13, .int x1), (14, .int x2), (15, .int k), (16, .int m)] [(12, .int (addIf wv x5 (x.seen - m)))] [(0, .cells [.int (agedL f t l), .int (agedH f t l)])] uc ⟨.s _, trivial⟩ uh ?_ ?_
    · refine Aw.sd tab_ok mixed mb0 [(2, x.c), (8, x.c), (15, [.int pv]), (16, [.int cv]), (19, [.bool wv])] rfl (by kernel_rfl) rfl rfl ?zo ?zk
      case zo =>
        repeat' apply AllP.cons
        all_goals first | exact trivial | exact id | exact rfl | exact fun _ => rfl | exact Nat.le_of_ble_eq_true rfl | exact fun _ => Nat.le_of_ble_eq_true rfl | exact Int.natCast_nonneg _ | exact fun _ => Int.natCast_nonneg _ | exact in_t _ _ _ | exact (in_t _ _ _).un | exact gq_f | exact gk | exact hv ▸ pick_t _ _ _ (by omega) | exact hcv ▸ chosen_t _ _ _ (by omega) (by omega) | exact hwv ▸ in_t _ _ _ | exact (by simp only [Ob.of, inR]; omega)
      case zk =>
      refine Aw.cond rfl (fun h2 => ?_) (fun h2 => Aw.skip ?_)
      · have h2 : wv = true := h2
        subst h2
        refine Aw.em tab_ok mb0 [(3, x.c)] rfl rfl ?zo ?zk
        case zo =>
          repeat' apply AllP.cons
          all_goals first | exact trivial | exact id | exact rfl | exact fun _ => rfl | exact Nat.le_of_ble_eq_true rfl | exact fun _ => Nat.le_of_ble_eq_true rfl | exact Int.natCast_nonneg _ | exact fun _ => Int.natCast_nonneg _ | exact in_t _ _ _ | exact (in_t _ _ _).un | exact gq_f | exact gk | exact (by simp only [Ob.of, inR]; omega)
        case zk =>
        exact ⟨⟨.refl _, .refl _, .refl _, .refl _, .refl _, .refl _, .refl _, .refl _, .refl _, .refl _, trivial⟩, ⟨.refl _, trivial⟩, ⟨rfl, trivial⟩, Nat.le_of_ble_eq_true rfl⟩
      · have h2 : wv = false := h2
        subst h2
        exact ⟨⟨.refl _, .refl _, .refl _, .refl _, .refl _, .refl _, .refl _, .refl _, .refl _, .refl _, trivial⟩, ⟨.refl _, trivial⟩, ⟨rfl, trivial⟩, Nat.le_of_ble_eq_true rfl⟩
    rw [← s4]
    have il := isLow_in (f := f) (t := t) b3.2.2.1
    have ih := isHigh_in (f := f) (t := t) b3.2.2.1 t1.1
    generalize h6 : truthF l f t p (k + 1) = x6 at *
    have uc2 : UnderL 1 [(0, A.sl b .any (l.map Scale.c)), (2, .sl bp .any (ints p)), (7, .int f), (8, .int t), (9, .ref 0 0), (11, .int (x3 + x.seen)), (12, .int x6), (14, .int x2), (15, .int k)] := ⟨hsl.under, (free_ints _ _ _).under, .s _, .s _, .ref _ _ (by decide), .s _, .s _, .s _, .s _, trivial⟩
    refine Aw.join1 1 hE1 [(0, .sl b .any (l.map Scale.c)), (2, .sl bp .any (ints p)), (7, .int f), (8, .int t), (9, .ref 0 0), (11, .int (x3 + x.seen)), (12, .int x6), (14, .int x2), (15, .int k)] [(13, .int (addIf (isLow f t x) x1 x.seen))] [(0, .cells [.int (agedL f t l), .int (agedH f t l)])] uc2 ⟨.s _, trivial⟩ uh ?_ ?_
    · refine Aw.sm tab_ok mb0 [(2, x.c), (8, [.bool (wi x.lo f t)]), (12, x.c), (18, [.bool (wi x.hi f t)])] rfl rfl ?zo ?zk
      case zo =>
        repeat' apply AllP.cons
        all_goals first | exact trivial | exact id | exact rfl | exact fun _ => rfl | exact Nat.le_of_ble_eq_true rfl | exact fun _ => Nat.le_of_ble_eq_true rfl | exact Int.natCast_nonneg _ | exact fun _ => Int.natCast_nonneg _ | exact in_t _ _ _ | exact (in_t _ _ _).un | exact gq_f | exact gk | exact fun _ => gk
      case zk =>
      refine Aw.cond rfl (fun h2 => ?_) (fun h2 => Aw.skip ?_)
      · have h2' : isLow f t x = true := il.symm.trans h2
        rw [h2']
        refine Aw.em tab_ok mb0 [(3, x.c)] rfl rfl ?zo ?zk
        case zo =>
          repeat' apply AllP.cons
          all_goals first | exact trivial | exact id | exact rfl | exact fun _ => rfl | exact Nat.le_of_ble_eq_true rfl | exact fun _ => Nat.le_of_ble_eq_true rfl | exact Int.natCast_nonneg _ | exact fun _ => Int.natCast_nonneg _ | exact in_t _ _ _ | exact (in_t _ _ _).un | exact gq_f | exact gk | exact (by simp only [Ob.of, inR]; omega)
        case zk =>
        exact ⟨⟨.refl _, .refl _, .refl _, .refl _, .refl _, .refl _, .refl _, .refl _, .refl _, trivial⟩, ⟨.refl _, trivial⟩, ⟨rfl, trivial⟩, Nat.le_of_ble_eq_true rfl⟩
      · have h2' : isLow f t x = false := il.symm.trans h2
        rw [h2']
        exact ⟨⟨.refl _, .refl _, .refl _, .refl _, .refl _, .refl _, .refl _, .refl _, .refl _, trivial⟩, ⟨.refl _, trivial⟩, ⟨rfl, trivial⟩, Nat.le_of_ble_eq_true rfl⟩
    rw [← s1]
    refine Aw.sm tab_ok mb0 [(2, x.c), (8, [.bool (wi x.lo f t)]), (12, x.c), (18, [.bool (wi x.hi f t)]), (23, x.c), (32, x.c)] rfl rfl ?zo ?zk
    case zo =>
      repeat' apply AllP.cons
      all_goals first | exact trivial | exact id | exact rfl | exact fun _ => rfl | exact Nat.le_of_ble_eq_true rfl | exact fun _ => Nat.le_of_ble_eq_true rfl | exact Int.natCast_nonneg _ | exact fun _ => Int.natCast_nonneg _ | exact in_t _ _ _ | exact (in_t _ _ _).un | exact gq_f | exact gk | exact fun _ => gk | exact gq_t | exact gq_c | exact fun _ _ => rfl
    case zk =>
    refine Aw.cond rfl (fun h2 => ?_) (fun h2 => Aw.skip ?_)
    · have h2' : isHigh f t x = true := ih.symm.trans h2
      rw [h2'] at s2
      refine Aw.em tab_ok mb0 [(3, x.c)] rfl rfl ?zo ?zk
      case zo =>
        repeat' apply AllP.cons
        all_goals first | exact trivial | exact id | exact rfl | exact fun _ => rfl | exact Nat.le_of_ble_eq_true rfl | exact fun _ => Nat.le_of_ble_eq_true rfl | exact Int.natCast_nonneg _ | exact fun _ => Int.natCast_nonneg _ | exact in_t _ _ _ | exact (in_t _ _ _).un | exact gq_f | exact gk | exact (by simp only [Ob.of, inR]; omega)
      case zk =>
      refine Aw.em tab_ok mb0 [] rfl rfl ?zo ?zk
      case zo =>
        repeat' apply AllP.cons
        all_goals first | exact trivial | exact id | exact rfl | exact fun _ => rfl | exact Nat.le_of_ble_eq_true rfl | exact fun _ => Nat.le_of_ble_eq_true rfl | exact Int.natCast_nonneg _ | exact fun _ => Int.natCast_nonneg _ | exact in_t _ _ _ | exact (in_t _ _ _).un | exact gq_f | exact inrk k (by omega)
      case zk =>
      exact ⟨k + 1, hlt, by omega, ⟨.refl _, .refl _, .refl _, .refl _, .refl _, trivial⟩, ⟨.of_eq (congrArg A.int s3), .of_eq (congrArg A.int h6), .refl _, .of_eq (congrArg A.int s2), .refl _, trivial⟩, ⟨rfl, trivial⟩, Nat.le_of_ble_eq_true rfl⟩
    · have h2' : isHigh f t x = false := ih.symm.trans h2
      rw [h2'] at s2
      refine Aw.em tab_ok mb0 [] rfl rfl ?zo ?zk
      case zo =>
        repeat' apply AllP.cons
        all_goals first | exact trivial | exact id | exact rfl | exact fun _ => rfl | exact Nat.le_of_ble_eq_true rfl | exact fun _ => Nat.le_of_ble_eq_true rfl | exact Int.natCast_nonneg _ | exact fun _ => Int.natCast_nonneg _ | exact in_t _ _ _ | exact (in_t _ _ _).un | exact gq_f | exact inrk k (by omega)
      case zk =>
      exact ⟨k + 1, hlt, by omega, ⟨.refl _, .refl _, .refl _, .refl _, .refl _, trivial⟩, ⟨.of_eq (congrArg A.int s3), .of_eq (congrArg A.int h6), .refl _, .of_eq (congrArg A.int s2), .refl _, trivial⟩, ⟨rfl, trivial⟩, Nat.le_of_ble_eq_true rfl⟩
  have hle : k = l.length := by have := of_decide_eq_false h1; omega
  subst hle
  have tl := tin l.length (Nat.le_refl _)
  rw [List.take_length] at *
  obtain ⟨a1, a2⟩ := aged_all hok
  have ea : agedR l 0 20 = [.agg (Sp.c ⟨seenF l l.length, seenF l l.length⟩), .int 0] := by simp only [agedR, a1, a2]
  refine Aw.exit2 ?_
  refine Aw.sm tab_ok mb0 [(1, [.tup [.agg (Sp.c ⟨seenF l l.length, seenF l l.length⟩), .int 0]])] rfl rfl ?zo ?zk
  case zo =>
    repeat' apply AllP.cons
    all_goals first | exact trivial | exact id | exact rfl | exact fun _ => rfl | exact Nat.le_of_ble_eq_true rfl | exact fun _ => Nat.le_of_ble_eq_true rfl | exact Int.natCast_nonneg _ | exact fun _ => Int.natCast_nonneg _ | exact in_t _ _ _ | exact (in_t _ _ _).un | exact gq_f | exact ea ▸ aged_t b l 0 20 hl
  case zk =>
  generalize seenF l l.length = S at *
  generalize truthF l f t p l.length = T at *
  generalize agedL f t l = L at *
  generalize agedH f t l = H at *
  have hw : wi T L H = true := wi_iff.2 tl
  have r1 : ∀ (x y : Operand) (s : Sp), EqIs tab .eql 25 x y (.agg s.c) (.agg s.c) true := fun x y s => by have := eqSp x y s s; rwa [beq_self_eq_true] at this
  refine Aw.sd tab_ok mixed mb0 [(6, [.agg (Sp.c ⟨S, S⟩)]), (7, [.bool true]), (12, [.bool true]), (18, [.agg (Sp.c ⟨L, H⟩)]), (19, [.bool true]), (22, [.bool true])] rfl (by kernel_rfl) rfl rfl ?zo ?zk
  case zo =>
    repeat' apply AllP.cons
    all_goals first | exact trivial | exact id | exact rfl | exact fun _ => rfl | exact Nat.le_of_ble_eq_true rfl | exact fun _ => Nat.le_of_ble_eq_true rfl | exact Int.natCast_nonneg _ | exact fun _ => Int.natCast_nonneg _ | exact in_t _ _ _ | exact (in_t _ _ _).un | exact gq_f | exact fun _ => to_t _ _ | exact fun _ => r1 _ _ ⟨S, S⟩ | exact fun _ => hw ▸ holds_l ⟨L, H⟩ T | exact fun _ => r1 _ _ ⟨L, H⟩ | exact fun _ => works_t
  case zk =>
  exact Aw.ret ⟨_, .cons (.tmp _) .nil, rfl⟩
end Go.Proofs.Ytdiclbgklegelaa
namespace Go.Proofs.Ytdiclbgklegelaa
open Go Go.AL Go.ChangeShapes Go.WideShapes Go.ChangeAt Go.RowKit
set_option maxRecDepth 100000 in
theorem stockTruth_lifted (os : Os) (started : os.Started) (H : Type) (enc : TypeId × Value → H) :
    ReturnsInHanded {} Try.checked os 8 .any (Rows.stockTruthSpec.pre6 enc Try.prog Try.f8 [] false) (Rows.stockTruthSpec.post enc Try.prog Try.f8 false true false false) := by
  refine lifted2 (tb := 4) (C := Try.checked) own started (by kernel_rfl) Try.func8
    (ChangeSpec.witness6 (enc := enc) (C := Try.checked) false ⟨#[], #[.slice none 0 0, .agg #[.int .i64 0, .int .i64 0], .slice none 0 0], []⟩ 8 (by kernel_rfl) (by kernel_rfl) (by kernel_rfl) (by kernel_rfl))
    laidOut ?_ rfl rfl (by kernel_rfl) uBool ?_ ?_
  · rw [Try.params8]; exact all3t (p := fun t => Try.prog.readableRec t = true ∧ t < Try.prog.types.size) t22 t23 t37
  · intro ds hd
    rw [Try.params8] at hd
    match ds, hd with
    | [d0, d1, d2], _ => rfl
  · intro W base args ds p hval hA hwt
    rw [Try.params8] at hA hval
    obtain ⟨v0, v1, v2, d0, d1, d2, p0, p1, p2, rfl, rfl, rfl, h0, h1, h2⟩ := trodAll_three hA
    obtain ⟨b0, y0, q0, s0⟩ := arg_scales (φ := fun _ => none) (hval 0 22 v0 rfl rfl) h0 fun k hk => hwt k (List.mem_append.2 (.inl hk))
    obtain ⟨y1, q1⟩ := arg_pair (φ := fun _ => none) (hval 1 23 v1 rfl rfl) h1
    obtain ⟨b2, y2, q2, s2⟩ := arg_ints (φ := fun _ => none) (hval 2 37 v2 rfl rfl) h2 fun k hk => hwt k (List.mem_append.2 (.inr (List.mem_append.2 (.inr (List.mem_append.2 (.inl hk))))))
    exact ⟨_, _, vrs3 q0 q1 q2, truth_t b0 y0 y1.1 y1.2 b2 y2 s0 s2⟩
theorem stockTruth_holds : Rows.StockTruthSaid :=
  OpenClaim.holds_of_wide 8 Try.f8 rfl rfl rfl rfl rfl rfl rfl ⟨rfl, rfl, rfl, rfl, rfl⟩ rfl rfl rfl rfl rfl (by kernel_rfl) Try.func8 (by kernel_rfl)
    (of_decide_eq_true (by kernel_rfl)) (by unfold Func.isWrapper; first | (rw [if_pos (by decide +kernel)]; kernel_rfl) | (rw [if_neg (by decide +kernel)]; exact ⟨rfl, rfl⟩))
    (fun os started H enc _ => stockTruth_lifted os started H enc)
end Go.Proofs.Ytdiclbgklegelaa
