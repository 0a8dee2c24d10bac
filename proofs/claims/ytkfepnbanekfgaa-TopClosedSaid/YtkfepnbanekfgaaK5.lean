/- What the proof leans on, part 5: OS2 OS3 OS4 OS5 OS6 OS7 OS8 OH1 OH2 OH3 OH4 OH5 OH6. -/
import Derived.Test.YtkfepnbanekfgaaK4
set_option linter.all false
namespace Go.Proofs.Ytkfepnbanekfgaa
open Go Go.AL Go.AL.Q
def padL (l : List Int) : List Int := l ++ List.replicate (6 - l.length) 0
def arr (l : List Int) : A := .agg ((padL l).map A.int)
theorem cells_under {n : Nat} (l : List Int) : UnderB n (.cells (l.map A.int)) := .cells _ fun x hx => by obtain ⟨n, _, rfl⟩ := List.mem_map.1 hx; exact .s _
theorem cells_get {l : List Int} {k : Nat} (h : k < l.length) : ((l.map A.int).getD k .un).down = .int (l.getD k 0) := by simp [List.getD_eq_getElem?_getD, h, A.down]
end Go.Proofs.Ytkfepnbanekfgaa

namespace Go.Proofs.Ytkfepnbanekfgaa
open Go Go.AL Go.AL.Q
def dn : Nat → Int
  | 0 => -1
  | j + 1 => j
theorem minI (a b : Int) : (if b < a then b else a) = min a b := by rw [Int.min_def]; split <;> split <;> omega
end Go.Proofs.Ytkfepnbanekfgaa

namespace Go.Proofs.Ytkfepnbanekfgaa
open Go Go.AL Go.AL.Q
end Go.Proofs.Ytkfepnbanekfgaa

namespace Go.Proofs.Ytkfepnbanekfgaa
open Go Go.AL Go.AL.Q
end Go.Proofs.Ytkfepnbanekfgaa

namespace Go.Proofs.Ytkfepnbanekfgaa
open Go Go.AL Go.AL.Q
set_option maxRecDepth 100000 in
theorem eq3 (a b : Int) : pureRun Try.prog (Op.equalIn 9999 3 (.int .i64 a) (.int .i64 b)) = some (a == b) := by rfl
end Go.Proofs.Ytkfepnbanekfgaa

namespace Go.Proofs.Ytkfepnbanekfgaa
open Go Go.AL Go.AL.Q
def Fish.rl (f : Fish) (s r : Nat) : NL := (f.seasons.getD s ⟨false, []⟩).l.getD r ⟨false, []⟩
end Go.Proofs.Ytkfepnbanekfgaa

namespace Go.Proofs.Ytkfepnbanekfgaa
open Go Go.AL Go.AL.Q
theorem range_drop {n k : Nat} (h : k < n) : (List.range n).drop k = k :: (List.range n).drop (k + 1) := by
  rw [List.drop_eq_getElem_cons (by simpa using h)]; simp
theorem range_end {n : Nat} : (List.range n).drop n = [] := List.drop_of_length_le (by simp)
end Go.Proofs.Ytkfepnbanekfgaa

namespace Go.Proofs.Ytkfepnbanekfgaa
open Go Go.AL Go.AL.Q
theorem withinH_t (n a b : Int) : Ans Try.prog 32 [.int n, .int a, .int b] (.bool (wi n a b)) := by
  refine told Try.func32 rfl rfl (Pure.of tab_ok Try.func32 rfl Try.ntmps32 rfl (allC (.s _) (allC (.s _) (all1 (.s _)))) (allC (fun _ => rfl) (allC (fun _ => rfl) (all1 (fun _ => rfl)))) (by first | exact .s _ | assumption | exact .tup _ (by intro x hx; simp only [List.mem_cons, List.not_mem_nil, or_false] at hx; rcases hx with rfl | rfl | rfl | rfl <;> first | exact .s _ | (simp_all; done))) fun E hE => ?_)
  refine Aw.sm tab_ok mb0 [] rfl rfl ?zo ?zk
  case zo =>
    repeat' apply AllP.cons
    all_goals first | exact trivial
  case zk =>
  refine Aw.sm tab_ok mb0 [] rfl rfl ?zo ?zk
  case zo =>
    repeat' apply AllP.cons
    all_goals first | exact trivial | exact id | exact fun _ => rfl
  case zk =>
  exact Aw.ret ⟨_, .cons (.tmp _) .nil, rfl⟩
theorem rising_t (l : List Int) (b : Bool) (n : Int) (hl : (l.length : Int) ≤ 9223372036854775807) (hn : 0 ≤ n ∧ n ≤ 1000) : Ans Try.prog 19 [.sl b .any (ints l), .int n] (.bool (risingF n (-1) l)) := by
  have li : ((ints l).length : Int) = l.length := by simp [ints]
  refine told Try.func19 rfl rfl (Pure.of tab_ok Try.func19 rfl Try.ntmps19 rfl (allC (free_ints _ _ _) (all1 (.s _))) (allC (fun _ => rfl) (all1 (fun _ => rfl))) (by first | exact .s _ | assumption | exact .tup _ (by intro x hx; simp only [List.mem_cons, List.not_mem_nil, or_false] at hx; rcases hx with rfl | rfl | rfl | rfl <;> first | exact .s _ | (simp_all; done))) fun E hE => ?_)
  refine Aw.sm tab_ok mb0 [] rfl rfl ?zo ?zk
  case zo =>
    repeat' apply AllP.cons
    all_goals first | exact trivial
  case zk =>
  refine Aw.seq ?_
  refine Aw.sm tab_ok mb0 [] rfl rfl ?zo ?zk
  case zo =>
    repeat' apply AllP.cons
    all_goals first | exact trivial
  case zk =>
  refine Aw.block (Aw.rounds 0 hE [(0, .sl b .any (ints l)), (1, .int n)] (fun k : Nat => [(5, .int k)]) (fun _ => []) (fun k => k ≤ l.length ∧ -1 ≤ prevI l k ∧ risingF n (-1) l = risingF n (prevI l k) (l.drop k)) (fun k => l.length - k) 0
    ⟨Nat.zero_le _, Int.le_refl _, rfl⟩ ⟨⟨.refl _, .refl _, trivial⟩, ⟨.refl _, trivial⟩, trivial, Nat.le_refl _⟩ ⟨(free_ints _ _ _).under, .s _, trivial⟩ (fun _ _ => ⟨.s _, trivial⟩) (fun _ _ => trivial) fun k hk => ?_)
  obtain ⟨hk, hp, hr⟩ := hk
  refine Aw.seq ?_
  refine Aw.sm tab_ok mb0 [] rfl rfl ?zo ?zk
  case zo =>
    repeat' apply AllP.cons
    all_goals first | exact trivial
  case zk =>
  refine Aw.cond rfl (fun h1 => Aw.skip ?_) (fun h1 => ?_)
  · have hlt : k < l.length := by have := of_decide_eq_true h1; omega
    have hd : l.drop k = l[k] :: l.drop (k + 1) := List.drop_eq_getElem_cons hlt
    rw [hd, risingF] at hr
    have hpk : ∀ h : 0 < k, (ints l)[((k : Int) - 1).toNat]? = some [.int (prevI l k)] := fun h => by
      obtain ⟨j, rfl⟩ : ∃ j, k = j + 1 := ⟨k - 1, by omega⟩
      have : (((j + 1 : Nat) : Int) - 1).toNat = j := by omega
      rw [this, ints_get (by omega)]
      simp [prevI, List.getD_eq_getElem?_getD, show j < l.length by omega]
    refine Aw.seq (Aw.block ?_)
    have hk0 : ∀ {a : Bool}, cond a (gq (decide ((k : Int) > 0)) true) false = true → 0 < k := fun h => by
      have := of_decide_eq_true (gq_c2 h).2; omega
    refine Aw.sd tab_ok mixed mb0 [(2, [.int l[k]]), (6, [.bool (wi l[k] 0 (n - 1))]), (14, [.int l[k]]), (19, [.int (prevI l k)])] rfl (by kernel_rfl) rfl rfl ?zo ?zk
    case zo =>
      repeat' apply AllP.cons
      all_goals first | exact trivial | exact id | exact rfl | exact fun _ => rfl | exact Nat.le_of_ble_eq_true rfl | exact fun _ => Nat.le_of_ble_eq_true rfl | exact Int.natCast_nonneg _ | exact fun _ => Int.natCast_nonneg _ | exact in_t _ _ _ | exact ints_get hlt | exact fun _ => ints_get hlt | exact (by simp only [Ob.of, inR]; omega) | exact gq_f | exact gq_c | exact fun _ _ => rfl | exact fun h => hpk (hk0 h) | exact fun h => (show (0 : Int) ≤ (k : Int) - 1 by have := hk0 h; omega)
    case zk =>
    refine Aw.cond rfl (fun h2 => ?_) (fun h2 => Aw.skip ?_)
    · have h2 : cond (!wi l[k] 0 (n - 1)) true (cond (decide ((k : Int) > 0)) (decide (l[k] ≤ prevI l k)) false) = true := h2
      have hno : wi l[k] (prevI l k + 1) (n - 1) = false := by
        cases e : wi l[k] (prevI l k + 1) (n - 1) with
        | false => rfl
        | true =>
          have h3 := wi_iff.1 e
          rw [wi_iff.2 (show 0 ≤ l[k] ∧ l[k] ≤ n - 1 by omega), decide_eq_false (show ¬ l[k] ≤ prevI l k by omega)] at h2
          cases h4 : decide ((k : Int) > 0) <;> rw [h4] at h2 <;> cases h2
      rw [hno] at hr
      refine Aw.sm tab_ok mb0 [] rfl rfl ?zo ?zk
      case zo =>
        repeat' apply AllP.cons
        all_goals first | exact trivial
      case zk =>
      exact Aw.ret ⟨_, .cons (.tmp _) .nil, congrArg A.bool hr.symm⟩
    · have h2 : cond (!wi l[k] 0 (n - 1)) true (cond (decide ((k : Int) > 0)) (decide (l[k] ≤ prevI l k)) false) = false := h2
      have h3 : wi l[k] 0 (n - 1) = true := by
        cases e : wi l[k] 0 (n - 1) with
        | true => rfl
        | false => rw [e] at h2; cases h2
      have h4 := wi_iff.1 h3
      have hyes : wi l[k] (prevI l k + 1) (n - 1) = true := by
        refine wi_iff.2 ⟨?_, h4.2⟩
        cases k with
        | zero => show -1 + 1 ≤ _; omega
        | succ j =>
          rw [h3, decide_eq_true (show (((j + 1 : Nat) : Int) > 0) by omega)] at h2
          have := of_decide_eq_false (show decide (l[j + 1] ≤ prevI l (j + 1)) = false from h2)
          omega
      rw [hyes] at hr
      refine Aw.em tab_ok mb0 [] rfl rfl ?zo ?zk
      case zo =>
        repeat' apply AllP.cons
        all_goals first | exact trivial | exact (by simp only [Ob.of, inR]; omega)
      case zk =>
      have hpn : prevI l (k + 1) = l[k] := by simp [prevI, List.getD_eq_getElem?_getD, hlt]
      exact ⟨k + 1, ⟨hlt, by rw [hpn]; omega, by rw [hpn]; exact hr⟩, by omega, ⟨.refl _, .refl _, trivial⟩, ⟨.refl _, trivial⟩, trivial, Nat.zero_le _⟩
  · have hle : k = l.length := by have := of_decide_eq_false h1; omega
    subst hle
    rw [List.drop_length, risingF] at hr
    refine Aw.exit2 ?_
    refine Aw.sm tab_ok mb0 [] rfl rfl ?zo ?zk
    case zo =>
      repeat' apply AllP.cons
      all_goals first | exact trivial
    case zk =>
    exact Aw.ret ⟨_, .cons (.tmp _) .nil, congrArg A.bool hr.symm⟩
def placeF (x : Int) : Nat → List Int → Int
  | _, [] => -1
  | k, n :: l => if n = x then (k : Int) else placeF x (k + 1) l
theorem place_t (l : List Int) (b : Bool) (x : Int) (hl : (l.length : Int) ≤ 9223372036854775806) : Ans Try.prog 16 [.sl b .any (ints l), .int x] (.int (placeF x 0 l)) := by
  have li : ((ints l).length : Int) = l.length := by simp [ints]
  refine told Try.func16 rfl rfl (Pure.of tab_ok Try.func16 rfl Try.ntmps16 rfl (allC (free_ints _ _ _) (all1 (.s _))) (allC (fun _ => rfl) (all1 (fun _ => rfl))) (by first | exact .s _ | assumption | exact .tup _ (by intro x hx; simp only [List.mem_cons, List.not_mem_nil, or_false] at hx; rcases hx with rfl | rfl | rfl | rfl <;> first | exact .s _ | (simp_all; done))) fun E hE => ?_)
  refine Aw.sm tab_ok mb0 [] rfl rfl ?zo ?zk
  case zo =>
    repeat' apply AllP.cons
    all_goals first | exact trivial
  case zk =>
  refine Aw.seq ?_
  refine Aw.sm tab_ok mb0 [] rfl rfl ?zo ?zk
  case zo =>
    repeat' apply AllP.cons
    all_goals first | exact trivial
  case zk =>
  refine Aw.block (Aw.rounds 0 hE [(0, .sl b .any (ints l)), (1, .int x)] (fun k : Nat => [(5, .int k)]) (fun _ => []) (fun k => k ≤ l.length ∧ placeF x 0 l = placeF x k (l.drop k)) (fun k => l.length - k) 0
    ⟨Nat.zero_le _, rfl⟩ ⟨⟨.refl _, .refl _, trivial⟩, ⟨.refl _, trivial⟩, trivial, Nat.le_refl _⟩ ⟨(free_ints _ _ _).under, .s _, trivial⟩ (fun _ _ => ⟨.s _, trivial⟩) (fun _ _ => trivial) fun k hk => ?_)
  obtain ⟨hk, hr⟩ := hk
  refine Aw.seq ?_
  refine Aw.sm tab_ok mb0 [] rfl rfl ?zo ?zk
  case zo =>
    repeat' apply AllP.cons
    all_goals first | exact trivial
  case zk =>
  refine Aw.cond rfl (fun h1 => Aw.skip ?_) (fun h1 => ?_)
  · have hlt : k < l.length := by have := of_decide_eq_true h1; omega
    rw [List.drop_eq_getElem_cons hlt, placeF] at hr
    refine Aw.seq (Aw.block ?_)
    refine Aw.sm tab_ok mb0 [(2, [.int l[k]])] rfl rfl ?zo ?zk
    case zo =>
      repeat' apply AllP.cons
      all_goals first | exact trivial | exact rfl | exact Nat.le_of_ble_eq_true rfl | exact Int.natCast_nonneg _ | exact ints_get hlt
    case zk =>
    refine Aw.cond rfl (fun h2 => ?_) (fun h2 => Aw.skip ?_)
    · have h2' : l[k] = x := eq_of_beq h2
      rw [if_pos h2'] at hr
      refine Aw.sm tab_ok mb0 [] rfl rfl ?zo ?zk
      case zo =>
        repeat' apply AllP.cons
        all_goals first | exact trivial
      case zk =>
      exact Aw.ret ⟨_, .cons (.tmp _) .nil, congrArg A.int hr.symm⟩
    · have h2' : ¬ l[k] = x := by simpa using h2
      rw [if_neg h2'] at hr
      refine Aw.em tab_ok mb0 [] rfl rfl ?zo ?zk
      case zo =>
        repeat' apply AllP.cons
        all_goals first | exact trivial | exact (by simp only [Ob.of, inR]; omega)
      case zk =>
      exact ⟨k + 1, ⟨hlt, hr⟩, by omega, ⟨.refl _, .refl _, trivial⟩, ⟨.refl _, trivial⟩, trivial, Nat.zero_le _⟩
  · have hle : k = l.length := by have := of_decide_eq_false h1; omega
    subst hle
    rw [List.drop_length, placeF] at hr
    refine Aw.exit2 ?_
    refine Aw.sm tab_ok mb0 [] rfl rfl ?zo ?zk
    case zo =>
      repeat' apply AllP.cons
      all_goals first | exact trivial
    case zk =>
    exact Aw.ret ⟨_, .cons (.tmp _) .nil, congrArg A.int hr.symm⟩
end Go.Proofs.Ytkfepnbanekfgaa

namespace Go.Proofs.Ytkfepnbanekfgaa
open Go Go.AL Go.AL.Q Go.AL.Sh
theorem abs_t (n : Int) (h : inR (-n)) : Ans Try.prog 17 [.int n] (.int (absI n)) := by
  refine told Try.func17 rfl rfl (Pure.of tab_ok Try.func17 rfl Try.ntmps17 rfl (all1 (.s _)) (all1 (fun _ => rfl)) (by first | exact .s _ | assumption | exact .tup _ (by intro x hx; simp only [List.mem_cons, List.not_mem_nil, or_false] at hx; rcases hx with rfl | rfl | rfl | rfl <;> first | exact .s _ | (simp_all; done))) fun E hE => ?_)
  refine Aw.sm tab_ok mb0 [] rfl rfl ?zo ?zk
  case zo =>
    repeat' apply AllP.cons
    all_goals first | exact trivial
  case zk =>
  refine Aw.sm tab_ok mb0 [] rfl rfl ?zo ?zk
  case zo =>
    repeat' apply AllP.cons
    all_goals first | exact trivial | exact h
  case zk =>
  exact Aw.ret ⟨_, .cons (.tmp _) .nil, rfl⟩
theorem far_t (p q : Sp) (hp : Near p) (hq : Near q) : Ans Try.prog 54 [.agg p.c, .agg q.c] (.int (farF p q)) := by
  obtain ⟨a1, a2, a3, a4⟩ := hp
  obtain ⟨b1, b2, b3, b4⟩ := hq
  refine told Try.func54 rfl rfl (Pure.of tab_ok Try.func54 rfl Try.ntmps54 rfl (allC (.agg _ p.free) (all1 (.agg _ q.free))) (allC (fun _ => rfl) (all1 (fun _ => rfl))) (by first | exact .s _ | assumption | exact .tup _ (by intro x hx; simp only [List.mem_cons, List.not_mem_nil, or_false] at hx; rcases hx with rfl | rfl | rfl | rfl <;> first | exact .s _ | (simp_all; done))) fun E hE => ?_)
  refine Aw.sm tab_ok mb0 [] rfl rfl ?zo ?zk
  case zo =>
    repeat' apply AllP.cons
    all_goals first | exact trivial
  case zk =>
  refine Aw.sm tab_ok mb0 [] rfl rfl ?zo ?zk
  case zo =>
    repeat' apply AllP.cons
    all_goals first | exact trivial | exact Nat.le_of_ble_eq_true rfl | exact (by simp only [Ob.of, inR]; omega)
  case zk =>
  exact Aw.ret ⟨_, .cons (.tmp _) .nil, rfl⟩
theorem seaLe (s : Sea) (m : A) (hm : ∀ u, spareOf m u = none) : A.Le (.agg (seaA s .un)) (.agg (seaA s m)) :=
  .agg (.cons (.refl _) (.cons (.refl _) (.cons (.refl _) (.cons (.refl _) (.cons (.refl _) (.cons (.refl _) (.cons ⟨fun _ _ _ v _ => .un v, fun u p h => absurd h (by simp [spareOf])⟩ .nil)))))))
theorem many_u (s : Sea) (h : s.Ok) : Ans Try.prog 52 [.agg (seaA s .un)] (.int s.many) := by
  have := h.many
  unfold Sea.many at this
  refine told Try.func52 rfl rfl (Pure.of tab_ok Try.func52 rfl Try.ntmps52 rfl (all1 (.agg _ (seaA_free s))) (all1 (fun _ => rfl)) (by first | exact .s _ | assumption | exact .tup _ (by intro x hx; simp only [List.mem_cons, List.not_mem_nil, or_false] at hx; rcases hx with rfl | rfl | rfl | rfl <;> first | exact .s _ | (simp_all; done))) fun E hE => ?_)
  refine Aw.sm tab_ok mb0 [] rfl rfl ?zo ?zk
  case zo =>
    repeat' apply AllP.cons
    all_goals first | exact trivial
  case zk =>
  refine Aw.sm tab_ok mb0 [] rfl rfl ?zo ?zk
  case zo =>
    repeat' apply AllP.cons
    all_goals first | exact trivial | exact Nat.le_of_ble_eq_true rfl | exact (by simp only [Ob.of, inR]; omega)
  case zk =>
  exact Aw.ret ⟨_, .cons (.tmp _) .nil, rfl⟩
theorem many_t (s : Sea) (h : s.Ok) (i : Nat) : Ans Try.prog 52 [.agg (seaA s (.mp i))] (.int s.many) := (many_u s h).le1 (seaLe s _ fun _ => rfl)
theorem place_u (s : Sea) (h : s.Ok) (cell : Int) (hc : -1000 ≤ cell ∧ cell ≤ 1000) : Ans Try.prog 53 [.agg (seaA s .un), .int cell] (.agg (placeP s.wide cell).c) := by
  have hfr : Free (.agg (placeP s.wide cell).c) := .agg _ (Sp.free _)
  have hw := h.w
  have h2 := (placeP_near hw hc).h0
  have h3 := (placeP_near hw hc).h1
  unfold placeP at h2 h3
  refine told Try.func53 rfl rfl (Pure.of tab_ok Try.func53 rfl Try.ntmps53 rfl (allC (.agg _ (seaA_free s)) (all1 (.s _))) (allC (fun _ => rfl) (all1 (fun _ => rfl))) (by first | exact .s _ | assumption | exact .tup _ (by intro x hx; simp only [List.mem_cons, List.not_mem_nil, or_false] at hx; rcases hx with rfl | rfl | rfl | rfl <;> first | exact .s _ | (simp_all; done))) fun E hE => ?_)
  refine Aw.sm tab_ok mb0 [] rfl rfl ?zo ?zk
  case zo =>
    repeat' apply AllP.cons
    all_goals first | exact trivial
  case zk =>
  refine Aw.sd tab_ok mixed mb0 [] rfl (by kernel_rfl) rfl rfl ?zo ?zk
  case zo =>
    repeat' apply AllP.cons
    all_goals first | exact trivial | exact rfl | exact Nat.le_of_ble_eq_true rfl | exact (show s.wide ≠ 0 by omega) | exact (show s.wide ≠ 0 ∧ inR (cell.tdiv s.wide) from ⟨by omega, by simp only [inR]; simp only at h2 h3; omega⟩)
  case zk =>
  exact Aw.ret ⟨_, .cons (resC rfl rfl rfl rfl rfl) .nil, rfl⟩
theorem plc_t (s : Sea) (h : s.Ok) (i : Nat) (cell : Int) (hc : -1000 ≤ cell ∧ cell ≤ 1000) : Ans Try.prog 53 [.agg (seaA s (.mp i)), .int cell] (.agg (placeP s.wide cell).c) :=
  (place_u s h cell hc).le rfl fun j hj => by
    match j, hj with
    | 0, _ => exact seaLe s _ fun _ => rfl
    | 1, _ => exact .refl _
theorem least_t (a : Int) (b : Bool) (c : Cap) (l : List Int) (hl : (l.length : Int) ≤ 9223372036854775806) (hc : ∀ u, spareOf (.sl b c (ints l)) u = none) : Ans Try.prog 71 [.int a, .sl b c (ints l)] (.int (l.foldl gmin a)) := by
  have li := ints_lenI l
  refine told Try.func71 rfl rfl (Pure.of tab_ok Try.func71 rfl Try.ntmps71 rfl (allC (.s _) (all1 (free_ints _ _ _))) (allC (fun _ => rfl) (all1 hc)) (.s _) fun E hE => ?_)
  refine Aw.keep (n := 0) (cst := []) (v := [(0, .int a), (1, .sl b .any (ints l))]) (Hl := []) hE trivial ⟨.s _, (free_ints _ _ _).under, trivial⟩ trivial ⟨trivial, ⟨.refl _, .any _ _ _, trivial⟩, trivial, Nat.le_refl _⟩ ?_
  refine Aw.sm tab_ok mb0 [] rfl rfl ?zo ?zk
  case zo =>
    repeat' apply AllP.cons
    all_goals first | exact trivial
  case zk =>
  refine Aw.seq ?_
  refine Aw.sm tab_ok mb0 [] rfl rfl ?zo ?zk
  case zo =>
    repeat' apply AllP.cons
    all_goals first | exact trivial
  case zk =>
  refine Aw.block (Aw.rounds 0 hE [(7, .sl b .any (ints l)), (8, .int l.length)] (fun k : Nat => [(0, .int ((l.take k).foldl gmin a)), (9, .int k)]) (fun _ => []) (fun k => k ≤ l.length) (fun k => l.length - k) 0
    (Nat.zero_le _) ⟨⟨.refl _, .of_eq (congrArg A.int li.symm), trivial⟩, ⟨.refl _, .refl _, trivial⟩, trivial, Nat.le_refl _⟩ ⟨(free_ints _ _ _).under, .s _, trivial⟩ (fun _ _ => ⟨.s _, .s _, trivial⟩) (fun _ _ => trivial) fun k hk => ?_)
  refine Aw.sm tab_ok mb0 [] rfl rfl ?zo ?zk
  case zo =>
    repeat' apply AllP.cons
    all_goals first | exact trivial
  case zk =>
  refine Aw.seq (Aw.cond rfl (fun h1 => Aw.skip1 ?_) (fun h1 => Aw.exit2 ?_))
  · have hlt : k < l.length := by have := of_decide_eq_true h1; omega
    have e : (l.take (k + 1)).foldl gmin a = gmin ((l.take k).foldl gmin a) l[k] := by rw [List.take_succ_eq_append_getElem hlt, List.foldl_append]; rfl
    refine Aw.seq (Aw.block ?_)
    refine Aw.sm tab_ok mb0 [(0, [.int l[k]])] rfl rfl ?zo ?zk
    case zo =>
      repeat' apply AllP.cons
      all_goals first | exact trivial | exact rfl | exact Nat.le_of_ble_eq_true rfl | exact Int.natCast_nonneg _ | exact ints_get hlt
    case zk =>
    refine Aw.em tab_ok mb0 [] rfl rfl ?zo ?zk
    case zo =>
      repeat' apply AllP.cons
      all_goals first | exact trivial
    case zk =>
    refine Aw.em tab_ok mb0 [] rfl rfl ?zo ?zk
    case zo =>
      repeat' apply AllP.cons
      all_goals first | exact trivial | exact inrk k (by omega)
    case zk =>
    exact ⟨k + 1, hlt, by omega, ⟨.refl _, .refl _, trivial⟩, ⟨.of_eq (by rw [e]; rfl), .refl _, trivial⟩, trivial, Nat.zero_le _⟩
  · have hle : k = l.length := by have := of_decide_eq_false h1; omega
    subst hle
    refine Aw.sm tab_ok mb0 [] rfl rfl ?zo ?zk
    case zo =>
      repeat' apply AllP.cons
      all_goals first | exact trivial
    case zk =>
    exact Aw.ret ⟨_, .cons (.tmp _) .nil, by rw [List.take_length]; rfl⟩
set_option maxRecDepth 100000 in
theorem eq3H (a b : Int) : pureRun Try.prog (Op.equalIn 9999 3 (.int .i64 a) (.int .i64 b)) = some (a == b) := by rfl
set_option maxRecDepth 100000 in
theorem eq85 (a b c d : Int) : pureRun Try.prog (Op.equal 90 (.agg #[.int .i64 a, .int .i64 b]) (.agg #[.int .i64 c, .int .i64 d])) = some (a == c && b == d) := by
  have h1 : pureRun Try.prog (underlying 90) = Try.prog.underlying 90 := rfl
  have h2 : pureRun Try.prog program = some Try.prog := rfl
  have h3 : Try.prog.stoodInHeld 90 = false := by kernel_rfl
  have p1 : ∀ x y : Value, pureRun Try.prog (part 3 #[x, y] 0) = some x := fun x y => rfl
  have p2 : ∀ x y : Value, pureRun Try.prog (part 3 #[x, y] 1) = some y := fun x y => rfl
  have pp : ∀ {α : Type} (x : α), pureRun Try.prog (pure x) = some x := fun x => rfl
  rw [Op.equal, Op.maxDepth, show (10000 : Nat) = 9999 + 1 from rfl, Op.equalIn, pureRun_bind, h1, Try.underlying90]
  simp only [Option.bind_some, pureRun_bind, h2, h3]
  by_cases h : a = c
  · subst h
    by_cases h' : b = d
    · subst h'
      simp [pureRun_bind, p1, p2, eq3H, pp]
    · have e : (b == d) = false := by simpa using h'
      simp [pureRun_bind, p1, p2, eq3H, pp, e]
  · have e : (a == c) = false := by simpa using h
    simp [pureRun_bind, p1, eq3H, pp, e]
theorem eg85 : Try.prog.eqGuardType Try.prog.depth 90 = false := by kernel_rfl
theorem sp_beq (s t : Sp) : (s == t) = (s.lo == t.lo && s.hi == t.hi) := by
  obtain ⟨a, b⟩ := s
  obtain ⟨c, d⟩ := t
  rw [Bool.eq_iff_iff]
  simp only [beq_iff_eq, Bool.and_eq_true, Sp.mk.injEq]
set_option maxRecDepth 100000 in
theorem eqSp (x y : Operand) (s t : Sp) : EqIs tab .eql 90 x y (.agg s.c) (.agg t.c) (s == t) := by
  refine ⟨.agg #[.int .i64 s.lo, .int .i64 s.hi], .agg #[.int .i64 t.lo, .int .i64 t.hi], rfl, rfl, (congrFun (congrFun (congrFun (congrFun (congrFun (congrFun (show tab.eqv = pureEq Try.prog from rfl) _) _) _) _) _) _).trans ?_⟩
  show pureEq Try.prog .eql 90 x y (.agg #[.int .i64 s.lo, .int .i64 s.hi]) (.agg #[.int .i64 t.lo, .int .i64 t.hi]) = _
  have hp : pureRun Try.prog program = some Try.prog := rfl
  have pp : ∀ {α : Type} (x : α), pureRun Try.prog (pure x) = some x := fun x => rfl
  have e1 : pureRun Try.prog (eqGuard .eql 90 x y (.agg #[.int .i64 s.lo, .int .i64 s.hi]) (.agg #[.int .i64 t.lo, .int .i64 t.hi])) = some () := by
    simp [eqGuard, pureRun_bind, hp, eg85, pp]
  have e2 : pureRun Try.prog (binOp .eql 90 (.agg #[.int .i64 s.lo, .int .i64 s.hi]) (.agg #[.int .i64 t.lo, .int .i64 t.hi])) = some (.bool (s == t)) := by
    have : binOp .eql 90 (.agg #[.int .i64 s.lo, .int .i64 s.hi]) (.agg #[.int .i64 t.lo, .int .i64 t.hi]) = (Op.equal 90 (.agg #[.int .i64 s.lo, .int .i64 s.hi]) (.agg #[.int .i64 t.lo, .int .i64 t.hi]) >>= fun b => pure (.bool b)) := rfl
    rw [this, pureRun_bind, eq85, sp_beq]; rfl
  unfold pureEq
  rw [pureRun_bind, e1]
  exact e2
theorem steps_u (s : Sea) (h : s.Ok) (hour : Int) (h0 : 0 ≤ hour) (h1 : hour < s.drift.length) (p q : Sp) (hp : -1000 ≤ p.lo ∧ p.lo ≤ 1000) (hp' : -1000 ≤ p.hi ∧ p.hi ≤ 1000) (hq : Near q) :
    Ans Try.prog 79 [.agg (seaA s .un), .int hour, .agg p.c, .agg q.c] (.bool (s.steps hour p q)) := by
  have hlt : hour.toNat < s.drift.length := by omega
  have e : s.step hour = s.drift[hour.toNat] := by unfold Sea.step; rw [List.getD_eq_getElem?_getD, List.getElem?_eq_getElem hlt]; rfl
  have hd : (s.drift.map Sp.c)[hour.toNat]? = some (s.step hour).c := by rw [e]; exact get_map hlt
  have hb := h.st _ (e ▸ List.getElem_mem hlt : s.step hour ∈ s.drift)
  unfold Sea.steps
  generalize s.step hour = d at *
  have hn : Near ⟨p.lo + d.lo, p.hi + d.hi⟩ := ⟨by show -1000000 ≤ p.lo + d.lo; omega, by show p.lo + d.lo ≤ 1000000; omega, by show -1000000 ≤ p.hi + d.hi; omega, by show p.hi + d.hi ≤ 1000000; omega⟩
  refine told Try.func79 rfl rfl (Pure.of tab_ok Try.func79 rfl Try.ntmps79 rfl (allC (.agg _ (seaA_free s)) (allC (.s _) (allC (.agg _ p.free) (all1 (.agg _ q.free))))) (allC (fun _ => rfl) (allC (fun _ => rfl) (allC (fun _ => rfl) (all1 (fun _ => rfl))))) (by first | exact .s _ | assumption | exact .tup _ (by intro x hx; simp only [List.mem_cons, List.not_mem_nil, or_false] at hx; rcases hx with rfl | rfl | rfl | rfl <;> first | exact .s _ | (simp_all; done))) fun E hE => ?_)
  refine Aw.sm tab_ok mb0 [] rfl rfl ?zo ?zk
  case zo =>
    repeat' apply AllP.cons
    all_goals first | exact trivial
  case zk =>
  refine Aw.sm tab_ok mb0 [(4, d.c)] rfl rfl ?zo ?zk
  case zo =>
    repeat' apply AllP.cons
    all_goals first | exact trivial | exact rfl | exact Nat.le_of_ble_eq_true rfl | exact hd | exact h0
  case zk =>
  refine Aw.sm tab_ok mb0 [] rfl rfl ?zo ?zk
  case zo =>
    repeat' apply AllP.cons
    all_goals first | exact trivial | exact rfl | exact Nat.le_of_ble_eq_true rfl | exact (by simp only [Ob.of, inR]; omega)
  case zk =>
  refine Aw.sd tab_ok mixed mb0 [(2, [.bool ((⟨p.lo + d.lo, p.hi + d.hi⟩ : Sp) == q)]), (6, [.int (farF ⟨p.lo + d.lo, p.hi + d.hi⟩ q)])] rfl (by kernel_rfl) rfl rfl ?zo ?zk
  case zo =>
    repeat' apply AllP.cons
    all_goals first | exact trivial | exact id | exact fun _ => rfl | exact Nat.le_of_ble_eq_true rfl | exact fun _ => Nat.le_of_ble_eq_true rfl | exact eqSp _ _ ⟨p.lo + d.lo, p.hi + d.hi⟩ q | exact fun _ => far_t _ _ hn hq | exact gq_f
  case zk =>
  exact Aw.ret ⟨_, .cons (.tmp _) .nil, rfl⟩
theorem isTrue_t (s : Sea) (r : Rep) (p : Sp) (hr : Near (placeP s.wide r.cell)) (hp : Near p) : Ans Try.prog 81 [.agg (repC s.wide r), .agg p.c] (.bool (isTrueF s.wide r p)) := by
  refine told Try.func81 rfl rfl (Pure.of tab_ok Try.func81 rfl Try.ntmps81 rfl (allC (.agg _ (repC_free _ r)) (all1 (.agg _ p.free))) (allC (fun _ => rfl) (all1 (fun _ => rfl))) (by first | exact .s _ | assumption | exact .tup _ (by intro x hx; simp only [List.mem_cons, List.not_mem_nil, or_false] at hx; rcases hx with rfl | rfl | rfl | rfl <;> first | exact .s _ | (simp_all; done))) fun E hE => ?_)
  refine Aw.sm tab_ok mb0 [] rfl rfl ?zo ?zk
  case zo =>
    repeat' apply AllP.cons
    all_goals first | exact trivial
  case zk =>
  refine Aw.sd tab_ok mixed mb0 [(6, [.int (farF (placeP s.wide r.cell) p)])] rfl (by kernel_rfl) rfl rfl ?zo ?zk
  case zo =>
    repeat' apply AllP.cons
    all_goals first | exact trivial | exact Nat.le_of_ble_eq_true rfl | exact far_t _ _ hr hp
  case zk =>
  exact Aw.ret ⟨_, .cons (.tmp _) .nil, rfl⟩
end Go.Proofs.Ytkfepnbanekfgaa

namespace Go.Proofs.Ytkfepnbanekfgaa
open Go Go.AL Go.AL.Q Go.AL.Sh
structure SeaFit (s : Sea) : Prop where
  l : (s.land.length : Int) ≤ 9223372036854775806
  d : (s.drift.length : Int) ≤ 9223372036854775806
theorem prev_succ {l : List Int} {k : Nat} (h : k < l.length) : prevI l (k + 1) = l[k] := by simp [prevI, List.getD_eq_getElem?_getD, h]
theorem checkH_t (s : Sea) (hf : SeaFit s) : Ans Try.prog 12 [.agg s.c] (.int s.chk) := by
  have h1 := hf.l
  have h2 := hf.d
  have ll := ints_lenI s.land
  have ld : ((s.drift.map Sp.c).length : Int) = s.drift.length := by simp
  have us : Under 0 (A.pt s.c) := (Free.pt _ s.free).under
  have ul : Under 0 (A.sl s.ln .any (ints s.land)) := (free_ints _ _ _).under
  have ud : Under 0 (A.sl s.dn .any (s.drift.map Sp.c)) := (free_map Sp.free _ _ _).under
  refine told Try.func12 rfl rfl (Pure.of tab_ok Try.func12 rfl Try.ntmps12 rfl (all1 (.agg _ s.free)) (all1 (fun _ => rfl)) (by first | exact .s _ | assumption | exact .tup _ (by intro x hx; simp only [List.mem_cons, List.not_mem_nil, or_false] at hx; rcases hx with rfl | rfl | rfl | rfl <;> first | exact .s _ | (simp_all; done))) fun E hE => ?_)
  refine Aw.sm tab_ok mb0 [] rfl rfl ?zo ?zk
  case zo =>
    repeat' apply AllP.cons
    all_goals first | exact trivial
  case zk =>
  refine Aw.sm tab_ok mb0 [(2, [.bool (wi s.wide 1 10)]), (6, [.bool (wi s.high 1 8)]), (11, [.bool (wi s.speed 0 2)]), (16, [.bool (wi s.hours 1 12)])] rfl rfl ?zo ?zk
  case zo =>
    repeat' apply AllP.cons
    all_goals first | exact trivial | exact id | exact fun _ => rfl | exact Nat.le_of_ble_eq_true rfl | exact fun _ => Nat.le_of_ble_eq_true rfl | exact withinH_t _ _ _ | exact (withinH_t _ _ _).un | exact fun h => (by have := wi_iff.1 (ac2 h); simp only [Ob.of, inR]; omega)
  case zk =>
  have hb : A.bool s.b0 = A.bool (cond (cond (cond (cond (wi s.wide 1 10) (wi s.high 1 8) false) (wi s.speed 0 2) false) (wi s.hours 1 12) false) (((s.drift.map Sp.c).length : Int) == s.hours - 1) false) := by rw [ld]; rfl
  refine Aw.sm tab_ok mb0 [] rfl rfl ?zo ?zk
  case zo =>
    repeat' apply AllP.cons
    all_goals first | exact trivial
  case zk =>
  refine Aw.seq ?_
  refine Aw.sm tab_ok mb0 [] rfl rfl ?zo ?zk
  case zo =>
    repeat' apply AllP.cons
    all_goals first | exact trivial | exact Nat.le_of_ble_eq_true rfl
  case zk =>
  refine Aw.block (Aw.rounds 0 hE [(1, .pt s.c), (37, .sl s.ln .any (ints s.land)), (38, .int s.land.length)] (fun k : Nat => [(3, .bool (risK s.b0 (s.wide * s.high) s.land k)), (4, .int (prevI s.land k)), (39, .int k)]) (fun _ => []) (fun k => k ≤ s.land.length) (fun k => s.land.length - k) 0
    (Nat.zero_le _) ⟨⟨.refl _, .refl _, .of_eq (congrArg A.int ll.symm), trivial⟩, ⟨.of_eq (by rw [risK_zero]; exact hb), .refl _, .refl _, trivial⟩, trivial, Nat.le_refl _⟩ ⟨us, ul, .s _, trivial⟩ (fun _ _ => ⟨.s _, .s _, .s _, trivial⟩) (fun _ _ => trivial) fun k hk => ?_)
  refine Aw.sm tab_ok mb0 [] rfl rfl ?zo ?zk
  case zo =>
    repeat' apply AllP.cons
    all_goals first | exact trivial
  case zk =>
  refine Aw.seq (Aw.cond rfl (fun h1 => Aw.skip1 ?_) (fun h1 => Aw.exit2 ?_))
  · have hlt : k < s.land.length := by have := of_decide_eq_true h1; omega
    have bd : risK s.b0 (s.wide * s.high) s.land k = true → (0 ≤ s.wide * s.high ∧ s.wide * s.high ≤ 80) ∧ -1 ≤ prevI s.land k ∧ prevI s.land k ≤ 80 := fun h => by
      obtain ⟨a, b, _⟩ := Sea.b0_ok (risK_b h)
      have m1 : 0 ≤ s.wide * s.high := Int.mul_nonneg (by omega) (by omega)
      have m2 : s.wide * s.high ≤ 10 * 8 := Int.mul_le_mul a.2 b.2 (by omega) (by omega)
      have := risK_prev (by omega) m1 h
      omega
    have hst := risK_step (b := s.b0) (n := s.wide * s.high) hlt
    have hps := prev_succ hlt
    refine Aw.seq (Aw.block ?_)
    refine Aw.sm tab_ok mb0 [(0, [.int s.land[k]])] rfl rfl ?zo ?zk
    case zo =>
      repeat' apply AllP.cons
      all_goals first | exact trivial | exact rfl | exact Nat.le_of_ble_eq_true rfl | exact Int.natCast_nonneg _ | exact ints_get hlt
    case zk =>
    refine Aw.sm tab_ok mb0 [(11, [.bool (wi s.land[k] (prevI s.land k + 1) (s.wide * s.high - 1))])] rfl rfl ?zo ?zk
    case zo =>
      repeat' apply AllP.cons
      all_goals first | exact trivial | exact id | exact fun _ => rfl | exact fun _ => Nat.le_of_ble_eq_true rfl | exact (withinH_t _ _ _).un | exact fun h => (by have := bd h; simp only [Ob.of, inR]; omega)
    case zk =>
    refine Aw.em tab_ok mb0 [] rfl rfl ?zo ?zk
    case zo =>
      repeat' apply AllP.cons
      all_goals first | exact trivial
    case zk =>
    refine Aw.em tab_ok mb0 [] rfl rfl ?zo ?zk
    case zo =>
      repeat' apply AllP.cons
      all_goals first | exact trivial | exact inrk k (by omega)
    case zk =>
    exact ⟨k + 1, hlt, by omega, ⟨.refl _, .refl _, .refl _, trivial⟩, ⟨.of_eq (congrArg A.bool hst), .of_eq (congrArg A.int hps), .refl _, trivial⟩, trivial, Nat.zero_le _⟩
  have hle : k = s.land.length := by have := of_decide_eq_false h1; omega
  subst hle
  have e1 : risK s.b0 (s.wide * s.high) s.land s.land.length = s.b1 := risK_full
  rw [e1]
  refine Aw.seq ?_
  refine Aw.sm tab_ok mb0 [] rfl rfl ?zo ?zk
  case zo =>
    repeat' apply AllP.cons
    all_goals first | exact trivial | exact Nat.le_of_ble_eq_true rfl
  case zk =>
  refine Aw.block (Aw.rounds 0 hE [(59, .sl s.dn .any (s.drift.map Sp.c)), (60, .int s.drift.length)] (fun k : Nat => [(3, .bool (andAll s.b1 Sea.stepOk s.drift k)), (61, .int k)]) (fun _ => []) (fun k => k ≤ s.drift.length) (fun k => s.drift.length - k) 0
    (Nat.zero_le _) ⟨⟨.refl _, .of_eq (congrArg A.int ld.symm), trivial⟩, ⟨.of_eq (by rw [andAll_zero]; rfl), .refl _, trivial⟩, trivial, Nat.le_refl _⟩ ⟨ud, .s _, trivial⟩ (fun _ _ => ⟨.s _, .s _, trivial⟩) (fun _ _ => trivial) fun k hk => ?_)
  refine Aw.sm tab_ok mb0 [] rfl rfl ?zo ?zk
  case zo =>
    repeat' apply AllP.cons
    all_goals first | exact trivial
  case zk =>
  refine Aw.seq (Aw.cond rfl (fun h1 => Aw.skip1 ?_) (fun h1 => Aw.exit2 ?_))
  · have hlt : k < s.drift.length := by have := of_decide_eq_true h1; omega
    refine Aw.seq (Aw.block ?_)
    refine Aw.sm tab_ok mb0 [(0, s.drift[k].c)] rfl rfl ?zo ?zk
    case zo =>
      repeat' apply AllP.cons
      all_goals first | exact trivial | exact rfl | exact Nat.le_of_ble_eq_true rfl | exact Int.natCast_nonneg _ | exact get_map hlt
    case zk =>
    refine Aw.em tab_ok mb0 [(4, [.bool (wi s.drift[k].lo (-2) 2)]), (9, [.bool (wi s.drift[k].hi (-2) 2)])] rfl rfl ?zo ?zk
    case zo =>
      repeat' apply AllP.cons
      all_goals first | exact trivial | exact id | exact fun _ => rfl | exact fun _ => Nat.le_of_ble_eq_true rfl | exact (withinH_t _ _ _).un
    case zk =>
    refine Aw.em tab_ok mb0 [] rfl rfl ?zo ?zk
    case zo =>
      repeat' apply AllP.cons
      all_goals first | exact trivial | exact inrk k (by omega)
    case zk =>
    exact ⟨k + 1, hlt, by omega, ⟨.refl _, .refl _, trivial⟩, ⟨.of_eq (show A.bool (andAll s.b1 Sea.stepOk s.drift (k + 1)) = A.bool (cond (cond (andAll s.b1 Sea.stepOk s.drift k) (wi s.drift[k].lo (-2) 2) false) (wi s.drift[k].hi (-2) 2) false) by rw [andAll_step hlt, cond_assoc]; rfl), .refl _, trivial⟩, trivial, Nat.zero_le _⟩
  have hle : k = s.drift.length := by have := of_decide_eq_false h1; omega
  subst hle
  have e2 : andAll s.b1 Sea.stepOk s.drift s.drift.length = s.ok := andAll_full
  rw [e2]
  refine Aw.seq ?_
  refine Aw.sm tab_ok mb0 [] rfl rfl ?zo ?zk
  case zo =>
    repeat' apply AllP.cons
    all_goals first | exact trivial
  case zk =>
  refine Aw.cond rfl (fun h1 => ?_) (fun h1 => Aw.skip ?_)
  · have hno : s.ok = false := by simpa using h1
    refine Aw.sm tab_ok mb0 [] rfl rfl ?zo ?zk
    case zo =>
      repeat' apply AllP.cons
      all_goals first | exact trivial
    case zk =>
    exact Aw.ret ⟨_, .cons (.tmp _) .nil, by unfold Sea.chk; rw [hno]; rfl⟩
  · have hyes : s.ok = true := by simpa using h1
    refine Aw.sm tab_ok mb0 [] rfl rfl ?zo ?zk
    case zo =>
      repeat' apply AllP.cons
      all_goals first | exact trivial
    case zk =>
    exact Aw.ret ⟨_, .cons (.tmp _) .nil, by unfold Sea.chk; rw [if_pos hyes]; rfl⟩
end Go.Proofs.Ytkfepnbanekfgaa

namespace Go.Proofs.Ytkfepnbanekfgaa
open Go Go.AL Go.AL.Q Go.AL.Sh
theorem areReports_u (s : Sea) (h : s.Ok) (b : Bool) (l : List Rep) (hl : (l.length : Int) ≤ 9223372036854775806) : Ans Try.prog 56 [.agg (seaA s .un), .sl b .any (l.map Rep.c)] (.bool (s.repsOk l)) := by
  have ll : ((l.map Rep.c).length : Int) = l.length := by simp
  have hr := h.hr
  have hm := h.many
  have us : Under 0 (A.pt (seaA s .un)) := (Free.pt _ (seaA_free s)).under
  have ul : Under 0 (A.sl b .any (l.map Rep.c)) := (free_map Rep.free _ _ _).under
  refine told Try.func56 rfl rfl (Pure.of tab_ok Try.func56 rfl Try.ntmps56 rfl (allC (.agg _ (seaA_free s)) (all1 (free_map Rep.free _ _ _))) (allC (fun _ => rfl) (all1 (fun _ => rfl))) (by first | exact .s _ | assumption | exact .tup _ (by intro x hx; simp only [List.mem_cons, List.not_mem_nil, or_false] at hx; rcases hx with rfl | rfl | rfl | rfl <;> first | exact .s _ | (simp_all; done))) fun E hE => ?_)
  refine Aw.sm tab_ok mb0 [] rfl rfl ?zo ?zk
  case zo =>
    repeat' apply AllP.cons
    all_goals first | exact trivial
  case zk =>
  refine Aw.sm tab_ok mb0 [] rfl rfl ?zo ?zk
  case zo =>
    repeat' apply AllP.cons
    all_goals first | exact trivial
  case zk =>
  refine Aw.seq ?_
  refine Aw.sm tab_ok mb0 [] rfl rfl ?zo ?zk
  case zo =>
    repeat' apply AllP.cons
    all_goals first | exact trivial
  case zk =>
  refine Aw.block (Aw.rounds 0 hE [(2, .pt (seaA s .un)), (11, .sl b .any (l.map Rep.c)), (12, .int l.length)] (fun k : Nat => [(5, .bool (andAll (decide ((l.length : Int) ≤ 24)) s.repOk l k)), (13, .int k)]) (fun _ => []) (fun k => k ≤ l.length) (fun k => l.length - k) 0
    (Nat.zero_le _) ⟨⟨.refl _, .refl _, .of_eq (congrArg A.int ll.symm), trivial⟩, ⟨.of_eq (by rw [andAll_zero, ← ll]; rfl), .refl _, trivial⟩, trivial, Nat.le_refl _⟩ ⟨us, ul, .s _, trivial⟩ (fun _ _ => ⟨.s _, .s _, trivial⟩) (fun _ _ => trivial) fun k hk => ?_)
  refine Aw.sm tab_ok mb0 [] rfl rfl ?zo ?zk
  case zo =>
    repeat' apply AllP.cons
    all_goals first | exact trivial
  case zk =>
  refine Aw.seq (Aw.cond rfl (fun h1 => Aw.skip1 ?_) (fun h1 => Aw.exit2 ?_))
  · have hlt : k < l.length := by have := of_decide_eq_true h1; omega
    refine Aw.seq (Aw.block ?_)
    refine Aw.sm tab_ok mb0 [(0, l[k].c)] rfl rfl ?zo ?zk
    case zo =>
      repeat' apply AllP.cons
      all_goals first | exact trivial | exact rfl | exact Nat.le_of_ble_eq_true rfl | exact Int.natCast_nonneg _ | exact get_map hlt
    case zk =>
    refine Aw.ed tab_ok mixed mb0 [(8, [.bool (wi l[k].hour 0 (s.hours - 1))]), (14, [.int s.many]), (16, [.bool (wi l[k].cell 0 (s.many - 1))]), (21, [.bool (wi l[k].far 0 9)])] rfl (by kernel_rfl) rfl rfl ?zo ?zk
    case zo =>
      repeat' apply AllP.cons
      all_goals first | exact trivial | exact id | exact fun _ => rfl | exact fun _ => Nat.le_of_ble_eq_true rfl | exact (withinH_t _ _ _).un | exact fun _ => many_u s h | exact fun _ => (by simp only [Ob.of, inR]; omega)
    case zk =>
    refine Aw.em tab_ok mb0 [] rfl rfl ?zo ?zk
    case zo =>
      repeat' apply AllP.cons
      all_goals first | exact trivial | exact inrk k (by omega)
    case zk =>
    exact ⟨k + 1, hlt, by omega, ⟨.refl _, .refl _, .refl _, trivial⟩, ⟨.of_eq (show A.bool (andAll (decide ((l.length : Int) ≤ 24)) s.repOk l (k + 1)) = A.bool (cond (cond (cond (andAll (decide ((l.length : Int) ≤ 24)) s.repOk l k) (wi l[k].hour 0 (s.hours - 1)) false) (wi l[k].cell 0 (s.many - 1)) false) (wi l[k].far 0 9) false) by rw [andAll_step hlt, cond_assoc, cond_assoc]; unfold Sea.repOk; rw [cond_assoc]), .refl _, trivial⟩, trivial, Nat.zero_le _⟩
  have hle : k = l.length := by have := of_decide_eq_false h1; omega
  subst hle
  have e2 : andAll (decide ((l.length : Int) ≤ 24)) s.repOk l l.length = s.repsOk l := andAll_full
  rw [e2]
  refine Aw.sm tab_ok mb0 [] rfl rfl ?zo ?zk
  case zo =>
    repeat' apply AllP.cons
    all_goals first | exact trivial
  case zk =>
  exact Aw.ret ⟨_, .cons (.tmp _) .nil, rfl⟩
theorem areReports_t (s : Sea) (h : s.Ok) (i : Nat) (b : Bool) (l : List Rep) (hl : (l.length : Int) ≤ 9223372036854775806) : Ans Try.prog 56 [.agg (seaA s (.mp i)), .sl b .any (l.map Rep.c)] (.bool (s.repsOk l)) :=
  (areReports_u s h b l hl).le rfl fun j hj => by
    match j, hj with
    | 0, _ => exact seaLe s _ fun _ => rfl
    | 1, _ => exact .refl _
theorem logLe (s : Sea) (l : List Rep) (m : A) (hm : ∀ u, spareOf m u = none) : A.Le (.agg (logA s .un l)) (.agg (logA s m l)) :=
  .agg (.cons (.refl _) (.cons (.refl _) (.cons (.refl _) (.cons (.refl _) (.cons (.refl _) (.cons (.refl _) (.cons ⟨fun _ _ _ v _ => .un v, fun u p h => absurd h (by simp [spareOf])⟩ (.cons (.refl _) .nil))))))))
structure RepFit (s : Sea) (l : List Rep) : Prop where
  len : (l.length : Int) ≤ 24
  at' : ∀ r ∈ l, (0 ≤ r.hour ∧ r.hour ≤ s.hours - 1) ∧ (0 ≤ r.cell ∧ r.cell ≤ s.many - 1) ∧ 0 ≤ r.far ∧ r.far ≤ 9
theorem isAsked_u (s : Sea) (h : s.Ok) (l : List Rep) (wrong hour : Int) : Ans Try.prog 38 [.agg (logA s .un l), .int wrong, .int hour] (.bool (cond (wi wrong 0 24) (wi hour 0 (s.hours - 1)) false)) := by
  have hr := h.hr
  refine told Try.func38 rfl rfl (Pure.of tab_ok Try.func38 rfl Try.ntmps38 rfl (allC (.agg _ (logA_free s l)) (allC (.s _) (all1 (.s _)))) (allC (fun _ => rfl) (allC (fun _ => rfl) (all1 (fun _ => rfl)))) (by first | exact .s _ | assumption | exact .tup _ (by intro x hx; simp only [List.mem_cons, List.not_mem_nil, or_false] at hx; rcases hx with rfl | rfl | rfl | rfl <;> first | exact .s _ | (simp_all; done))) fun E hE => ?_)
  refine Aw.sm tab_ok mb0 [] rfl rfl ?zo ?zk
  case zo =>
    repeat' apply AllP.cons
    all_goals first | exact trivial
  case zk =>
  refine Aw.sm tab_ok mb0 [(1, [.bool (wi wrong 0 24)]), (9, [.bool (wi hour 0 (s.hours - 1))])] rfl rfl ?zo ?zk
  case zo =>
    repeat' apply AllP.cons
    all_goals first | exact trivial | exact id | exact fun _ => rfl | exact fun _ => Nat.le_of_ble_eq_true rfl | exact withinH_t _ _ _ | exact (withinH_t _ _ _).un | exact fun _ => (by simp only [Ob.of, inR]; omega)
  case zk =>
  exact Aw.ret ⟨_, .cons (.tmp _) .nil, rfl⟩
theorem untrue_u (s : Sea) (h : s.Ok) (l : List Rep) (hl : RepFit s l) (hour cell : Int) (hc : -1000 ≤ cell ∧ cell ≤ 1000) :
    Ans Try.prog 72 [.agg (logA s .un l), .int hour, .int cell] (.int (untrueF s.wide l hour (placeP s.wide cell))) := by
  have ll : ((l.map (repC s.wide)).length : Int) = l.length := by simp
  have hm := h.many
  have hlen := hl.len
  have us : Under 0 (A.pt (logA s .un l)) := (Free.pt _ (logA_free s l)).under
  have ul : Under 0 (A.sl l.isEmpty .any (l.map (repC s.wide))) := (free_map (repC_free _) _ _ _).under
  have hn : ∀ k : Nat, k ≤ l.length → (0 : Int) ≤ ((l.take k).countP (falseAt s.wide hour (placeP s.wide cell)) : Nat) ∧ (((l.take k).countP (falseAt s.wide hour (placeP s.wide cell)) : Nat) : Int) ≤ 24 := fun k hk => by
    have := List.countP_le_length (p := falseAt s.wide hour (placeP s.wide cell)) (l := l.take k)
    have h2 : (l.take k).length ≤ l.length := by rw [List.length_take]; omega
    omega
  refine told Try.func72 rfl rfl (Pure.of tab_ok Try.func72 rfl Try.ntmps72 rfl (allC (.agg _ (logA_free s l)) (allC (.s _) (all1 (.s _)))) (allC (fun _ => rfl) (allC (fun _ => rfl) (all1 (fun _ => rfl)))) (by first | exact .s _ | assumption | exact .tup _ (by intro x hx; simp only [List.mem_cons, List.not_mem_nil, or_false] at hx; rcases hx with rfl | rfl | rfl | rfl <;> first | exact .s _ | (simp_all; done))) fun E hE => ?_)
  refine Aw.sm tab_ok mb0 [] rfl rfl ?zo ?zk
  case zo =>
    repeat' apply AllP.cons
    all_goals first | exact trivial
  case zk =>
  refine Aw.sm tab_ok mb0 [] rfl rfl ?zo ?zk
  case zo =>
    repeat' apply AllP.cons
    all_goals first | exact trivial
  case zk =>
  refine Aw.seq ?_
  refine Aw.sm tab_ok mb0 [] rfl rfl ?zo ?zk
  case zo =>
    repeat' apply AllP.cons
    all_goals first | exact trivial | exact Nat.le_of_ble_eq_true rfl
  case zk =>
  refine Aw.block (Aw.rounds 0 hE [(1, .int hour), (2, .int cell), (3, .pt (logA s .un l)), (12, .sl l.isEmpty .any (l.map (repC s.wide))), (13, .int l.length)] (fun k : Nat => [(7, .int ((l.take k).countP (falseAt s.wide hour (placeP s.wide cell)) : Nat)), (14, .int k)]) (fun _ => []) (fun k => k ≤ l.length) (fun k => l.length - k) 0
    (Nat.zero_le _) ⟨⟨.refl _, .refl _, .refl _, .refl _, .of_eq (congrArg A.int ll.symm), trivial⟩, ⟨.refl _, .refl _, trivial⟩, trivial, Nat.le_refl _⟩ ⟨.s _, .s _, us, ul, .s _, trivial⟩ (fun _ _ => ⟨.s _, .s _, trivial⟩) (fun _ _ => trivial) fun k hk => ?_)
  refine Aw.sm tab_ok mb0 [] rfl rfl ?zo ?zk
  case zo =>
    repeat' apply AllP.cons
    all_goals first | exact trivial
  case zk =>
  refine Aw.seq (Aw.cond rfl (fun h1 => Aw.skip1 ?_) (fun h1 => Aw.exit2 ?_))
  · have hlt : k < l.length := by have := of_decide_eq_true h1; omega
    have hst := cnt_take (p := falseAt s.wide hour (placeP s.wide cell)) hlt
    have hb := hn k hk
    have hra := hl.at' _ (List.getElem_mem hlt)
    have hrn : Near (placeP s.wide l[k].cell) := placeP_near h.w (by omega)
    have hgl := get_map (f := repC s.wide) hlt
    generalize l[k] = r at *
    generalize ((l.take k).countP (falseAt s.wide hour (placeP s.wide cell)) : Int) = n at *
    refine Aw.seq (Aw.block ?_)
    refine Aw.sm tab_ok mb0 [(0, repC s.wide r)] rfl rfl ?zo ?zk
    case zo =>
      repeat' apply AllP.cons
      all_goals first | exact trivial | exact rfl | exact Nat.le_of_ble_eq_true rfl | exact Int.natCast_nonneg _ | exact hgl
    case zk =>
    refine Aw.sm tab_ok mb0 [] rfl rfl ?zo ?zk
    case zo =>
      repeat' apply AllP.cons
      all_goals first | exact trivial | exact Nat.le_of_ble_eq_true rfl
    case zk =>
    refine Aw.sm tab_ok mb0 [(10, [.agg (placeP s.wide cell).c]), (11, [.bool (isTrueF s.wide r (placeP s.wide cell))])] rfl rfl ?zo ?zk
    case zo =>
      repeat' apply AllP.cons
      all_goals first | exact trivial | exact id | exact fun _ => rfl | exact Nat.le_of_ble_eq_true rfl | exact fun _ => Nat.le_of_ble_eq_true rfl | exact fun _ => place_u s h cell hc | exact fun _ => isTrue_t s r _ hrn (placeP_near h.w hc)
    case zk =>
    refine Aw.cond rfl (fun h2 => ?_) (fun h2 => Aw.skip ?_)
    · have h2' : falseAt s.wide hour (placeP s.wide cell) r = true := h2
      rw [h2', if_pos rfl] at hst
      refine Aw.em tab_ok mb0 [] rfl rfl ?zo ?zk
      case zo =>
        repeat' apply AllP.cons
        all_goals first | exact trivial | exact (by simp only [Ob.of, inR]; omega)
      case zk =>
      refine Aw.em tab_ok mb0 [] rfl rfl ?zo ?zk
      case zo =>
        repeat' apply AllP.cons
        all_goals first | exact trivial | exact inrk k (by omega)
      case zk =>
      exact ⟨k + 1, hlt, by omega, ⟨.refl _, .refl _, .refl _, .refl _, .refl _, trivial⟩, ⟨.of_eq (congrArg A.int hst), .refl _, trivial⟩, trivial, Nat.zero_le _⟩
    · have h2' : falseAt s.wide hour (placeP s.wide cell) r = false := h2
      rw [h2', if_neg (by decide), Int.add_zero] at hst
      refine Aw.em tab_ok mb0 [] rfl rfl ?zo ?zk
      case zo =>
        repeat' apply AllP.cons
        all_goals first | exact trivial | exact inrk k (by omega)
      case zk =>
      exact ⟨k + 1, hlt, by omega, ⟨.refl _, .refl _, .refl _, .refl _, .refl _, trivial⟩, ⟨.of_eq (congrArg A.int hst), .refl _, trivial⟩, trivial, Nat.zero_le _⟩
  have hle : k = l.length := by have := of_decide_eq_false h1; omega
  subst hle
  refine Aw.sm tab_ok mb0 [] rfl rfl ?zo ?zk
  case zo =>
    repeat' apply AllP.cons
    all_goals first | exact trivial
  case zk =>
  exact Aw.ret ⟨_, .cons (.tmp _) .nil, by unfold untrueF; rw [List.take_length]; rfl⟩
theorem untrue_t (s : Sea) (h : s.Ok) (l : List Rep) (hl : RepFit s l) (i : Nat) (hour cell : Int) (hc : -1000 ≤ cell ∧ cell ≤ 1000) :
    Ans Try.prog 72 [.agg (logA s (.mp i) l), .int hour, .int cell] (.int (untrueF s.wide l hour (placeP s.wide cell))) := (untrue_u s h l hl hour cell hc).le rfl fun j hj => by
    match j, hj with
    | 0, _ => exact logLe s l _ fun _ => rfl
    | 1, _ => exact .refl _
    | 2, _ => exact .refl _
theorem isAsked_t (s : Sea) (h : s.Ok) (l : List Rep) (i : Nat) (wrong hour : Int) : Ans Try.prog 38 [.agg (logA s (.mp i) l), .int wrong, .int hour] (.bool (cond (wi wrong 0 24) (wi hour 0 (s.hours - 1)) false)) := (isAsked_u s h l wrong hour).le rfl fun j hj => by
    match j, hj with
    | 0, _ => exact logLe s l _ fun _ => rfl
    | 1, _ => exact .refl _
    | 2, _ => exact .refl _
theorem steps_t (s : Sea) (h : s.Ok) (i : Nat) (hour : Int) (h0 : 0 ≤ hour) (h1 : hour < s.drift.length) (p q : Sp) (hp : -1000 ≤ p.lo ∧ p.lo ≤ 1000) (hp' : -1000 ≤ p.hi ∧ p.hi ≤ 1000) (hq : Near q) :
    Ans Try.prog 79 [.agg (seaA s (.mp i)), .int hour, .agg p.c, .agg q.c] (.bool (s.steps hour p q)) := (steps_u s h hour h0 h1 p q hp hp' hq).le rfl fun j hj => by
    match j, hj with
    | 0, _ => exact seaLe s _ fun _ => rfl
    | 1, _ => exact .refl _
    | 2, _ => exact .refl _
    | 3, _ => exact .refl _
theorem covers_t (c : Sp) (far : Int) (p : Sp) (hc : Near c) (hp : Near p) : Ans Try.prog 35 [.agg (c.c ++ [.int far]), .agg p.c] (.bool (decide (farF c p ≤ far))) := by
  refine told Try.func35 rfl rfl (Pure.of tab_ok Try.func35 rfl Try.ntmps35 rfl (allC (.agg _ (fun x hx => (List.mem_append.1 hx).elim (c.free x) (all1 (.s _) x))) (all1 (.agg _ p.free))) (allC (fun _ => rfl) (all1 (fun _ => rfl))) (by first | exact .s _ | assumption | exact .tup _ (by intro x hx; simp only [List.mem_cons, List.not_mem_nil, or_false] at hx; rcases hx with rfl | rfl | rfl | rfl <;> first | exact .s _ | (simp_all; done))) fun E hE => ?_)
  refine Aw.sm tab_ok mb0 [] rfl rfl ?zo ?zk
  case zo =>
    repeat' apply AllP.cons
    all_goals first | exact trivial
  case zk =>
  refine Aw.sd tab_ok mixed mb0 [(3, [.int (farF c p)])] rfl (by kernel_rfl) rfl rfl ?zo ?zk
  case zo =>
    repeat' apply AllP.cons
    all_goals first | exact trivial | exact Nat.le_of_ble_eq_true rfl | exact far_t _ _ hc hp
  case zk =>
  exact Aw.ret ⟨_, .cons (.tmp _) .nil, rfl⟩
end Go.Proofs.Ytkfepnbanekfgaa

namespace Go.Proofs.Ytkfepnbanekfgaa
open Go Go.AL Go.AL.Q Go.AL.Sh
def plE (p : Sp) : List Value := [.int .i64 p.lo, .int .i64 p.hi]
def valB (b : Bool) : A := .bool b
set_option maxRecDepth 100000 in
theorem kty : KeyTy Try.prog 90 plE where
  und := ⟨_, Try.underlying90, fun _ _ => rfl⟩
  eq := fun a b => by
    show pureRun Try.prog (Op.equal 90 (.agg #[.int .i64 _, .int .i64 _]) (.agg #[.int .i64 _, .int .i64 _])) = _
    rw [eq85, sp_beq]
  ck := fun e a => rfl
  bits := fun a => by simp [Instr.sameBits, plE]
def landF (w : Int) (l : List Int) : List (Sp × Bool) := l.foldl (fun m c => mput m (placeP w c) true) []
theorem landF_step {w : Int} {l : List Int} {k : Nat} (h : k < l.length) : landF w (l.take (k + 1)) = mput (landF w (l.take k)) (placeP w l[k]) true := by
  unfold landF; rw [List.take_succ_eq_append_getElem h, List.foldl_append]; rfl
def isLand (w : Int) (l : List Int) (p : Sp) : Bool := l.any fun c => placeP w c == p
theorem land_get (w : Int) (p : Sp) (l : List Int) : mget (landF w l) p = if isLand w l p then some true else none := by
  have : ∀ (l : List Int) (m : List (Sp × Bool)), mget (l.foldl (fun m c => mput m (placeP w c) true) m) p = if isLand w l p then some true else mget m p := by
    intro l
    induction l with
    | nil => intro m; rfl
    | cons c l ih =>
      intro m
      rw [List.foldl_cons, ih, mget_put]
      have key : ∀ (a b : Bool) (x : Option Bool), (if b then some true else if a then some true else x) = if (a || b) then some true else x := by intro a b x; cases a <;> cases b <;> rfl
      exact key _ _ _
  exact this l []
theorem encM_free {V : Type} {enc : Sp → List Value} {val : V → A} (hv : ∀ v, Free (val v)) (m : List (Sp × V)) : ∀ p ∈ encM enc val m, Free p.1 ∧ Free p.2 := fun p hp => by
  obtain ⟨q, _, rfl⟩ := List.mem_map.1 hp
  refine ⟨.agg _ fun x hx => ?_, hv _⟩
  obtain ⟨v, _, rfl⟩ := List.mem_map.1 hx
  exact .s _
theorem valB_free : ∀ b, Free (valB b) := fun b => .s _
def landB (s : Sea) : B := .map (encM plE valB (landF s.wide s.land))
theorem map_under {n : Nat} (m : List (Sp × Bool)) : UnderB n (.map (encM plE valB m)) := .map _ fun p hp => ⟨(encM_free valB_free m p hp).1.under, (encM_free valB_free m p hp).2.under⟩
def zeroSea : List A := [.int 0, .int 0, .sl true .exact [], .int 0, .sl true .exact [], .int 0, .s (.map none)]
theorem zeroSea_free : ∀ x ∈ zeroSea, Free x := allC (.s _) (allC (.s _) (allC (.sl _ _ _ fun _ h => nomatch h) (allC (.s _) (allC (.sl _ _ _ fun _ h => nomatch h) (allC (.s _) (all1 (.s _)))))))
theorem sea_under (s : Sea) {n i : Nat} (h : i < n) : ∀ x ∈ seaA s (.mp i), Under n x := fun x hx => (List.mem_append.1 hx).elim (fun h => (s.free x h).under) (all1 (.mp _ h) x)
theorem opened_no (s : Sea) (hf : SeaFit s) (hok : s.ok = false) : Ans Try.prog 55 [.agg s.c] (.tup [.agg zeroSea, .int 10]) := by
  have hchk : s.chk = 10 := by unfold Sea.chk; rw [hok]; rfl
  have hfr : Free (.tup [.agg zeroSea, .int 10]) := .tup _ (allC (.agg _ zeroSea_free) (all1 (.s _)))
  refine told Try.func55 rfl rfl (Pure.of tab_ok Try.func55 rfl Try.ntmps55 rfl (all1 (.agg _ s.free)) (all1 (fun _ => rfl)) (by first | exact .s _ | assumption | exact .tup _ (by intro x hx; simp only [List.mem_cons, List.not_mem_nil, or_false] at hx; rcases hx with rfl | rfl | rfl | rfl <;> first | exact .s _ | (simp_all; done))) fun E hE => ?_)
  refine Aw.sm tab_ok mb0 [] rfl rfl ?zo ?zk
  case zo =>
    repeat' apply AllP.cons
    all_goals first | exact trivial
  case zk =>
  refine Aw.seq ?_
  refine Aw.sm tab_ok mb0 [(1, [.int 10])] rfl rfl ?zo ?zk
  case zo =>
    repeat' apply AllP.cons
    all_goals first | exact trivial | exact Nat.le_of_ble_eq_true rfl | exact hchk ▸ checkH_t s hf
  case zk =>
  refine Aw.sm tab_ok mb0 [] rfl rfl ?zo ?zk
  case zo =>
    repeat' apply AllP.cons
    all_goals first | exact trivial
  case zk =>
  refine Aw.cond rfl (fun h => ?_) (fun h => absurd h (by decide))
  refine Aw.sm tab_ok mb0 [] rfl rfl ?zo ?zk
  case zo =>
    repeat' apply AllP.cons
    all_goals first | exact trivial | exact rfl | exact Nat.le_of_ble_eq_true rfl
  case zk =>
  exact Aw.ret ⟨_, .cons (resC rfl rfl rfl rfl rfl) (.cons (.tmp _) .nil), rfl⟩
theorem opened_s (s : Sea) (hf : SeaFit s) (hok : s.ok = true) : SCall Try.prog 55 [.agg s.c] (fun _ => none) 0 (fun v H' _ => v = .tup [.agg (seaA s (.mp 1)), .int 0] ∧ H' = ofH [(1, landB s)]) := by
  have hchk : s.chk = 0 := by unfold Sea.chk; rw [hok]; rfl
  have ho := Sea.ok_of hok
  have hm := ho.many
  have ll := ints_lenI s.land
  have hin := rising_in ho.ri (by omega) (show -1 < s.wide * s.high from by have : s.many = s.wide * s.high := rfl; omega)
  have us : Under 3 (A.pt s.c) := (Free.pt _ s.free).under
  have ul : Under 3 (A.sl s.ln .any (ints s.land)) := (free_ints _ _ _).under
  refine SCall.drop (post := fun v H' _ => v = .tup [.agg (seaA s (.mp 1)), .int 0] ∧ HasH H' [(1, landB s)]) (SCall.of_bodyN tab_ok Try.func55 rfl Try.ntmps55 (Nat.le_of_ble_eq_true rfl) (all1 fun _ => rfl) fun E hE => ?_)
      (fun v H' c' h => ⟨_, h.2.ofH, h.1, rfl⟩)
  have hE3 : ∀ id, 3 ≤ id → E.φ0 id = none := fun id h => hE id (by omega)
  refine Aw.sm tab_ok mb0 [] rfl rfl ?zo ?zk
  case zo =>
    repeat' apply AllP.cons
    all_goals first | exact trivial
  case zk =>
  refine Aw.seq ?_
  refine Aw.sm tab_ok mb0 [(1, [.int 0])] rfl rfl ?zo ?zk
  case zo =>
    repeat' apply AllP.cons
    all_goals first | exact trivial | exact Nat.le_of_ble_eq_true rfl | exact hchk ▸ checkH_t s hf
  case zk =>
  refine Aw.sm tab_ok mb0 [] rfl rfl ?zo ?zk
  case zo =>
    repeat' apply AllP.cons
    all_goals first | exact trivial
  case zk =>
  refine Aw.cond rfl (fun h => absurd h (by decide)) (fun h => Aw.skip ?_)
  refine Aw.sm tab_ok mb0 [] rfl rfl ?zo ?zk
  case zo =>
    repeat' apply AllP.cons
    all_goals first | exact trivial | exact rfl | exact Nat.le_of_ble_eq_true rfl
  case zk =>
  refine Aw.seq ?_
  refine Aw.sm tab_ok mb0 [] rfl rfl ?zo ?zk
  case zo =>
    repeat' apply AllP.cons
    all_goals first | exact trivial | exact Nat.le_of_ble_eq_true rfl
  case zk =>
  refine Aw.block (Aw.rounds 3 hE3 [(1, .pt s.c), (2, .ref 0 0), (5, .ref 2 0), (18, .sl s.ln .any (ints s.land)), (19, .int s.land.length)] (fun k : Nat => [(20, .int k)]) (fun k => [(0, .cells zeroSea), (1, .map (encM plE valB (landF s.wide (s.land.take k)))), (2, .cells (seaA s (.mp 1)))]) (fun k => k ≤ s.land.length) (fun k => s.land.length - k) 0
    (Nat.zero_le _) ⟨⟨.refl _, .refl _, .refl _, .refl _, .of_eq (congrArg A.int ll.symm), trivial⟩, ⟨.refl _, trivial⟩, ⟨rfl, rfl, rfl, trivial⟩, Nat.le_of_ble_eq_true rfl⟩ ⟨us, .ref _ _ (by decide), .ref _ _ (by decide), ul, .s _, trivial⟩ (fun _ _ => ⟨.s _, trivial⟩)
    (fun _ _ => ⟨⟨by decide, .cells _ fun x hx => (zeroSea_free x hx).under⟩, ⟨by decide, map_under _⟩, ⟨by decide, .cells _ (sea_under s (by decide))⟩, trivial⟩) fun k hk => ?_)
  refine Aw.sm tab_ok mb0 [] rfl rfl ?zo ?zk
  case zo =>
    repeat' apply AllP.cons
    all_goals first | exact trivial
  case zk =>
  refine Aw.seq (Aw.cond rfl (fun h1 => Aw.skip1 ?_) (fun h1 => Aw.exit2 ?_))
  · have hlt : k < s.land.length := by have := of_decide_eq_true h1; omega
    have hst := landF_step (w := s.wide) hlt
    have hc := hin.1 _ (List.getElem_mem hlt)
    have hc' : -1000 ≤ s.land[k] ∧ s.land[k] ≤ 1000 := by have : s.many = s.wide * s.high := rfl; omega
    have hgl := ints_get hlt
    generalize s.land[k] = x at *
    generalize landF s.wide (s.land.take k) = m at *
    have hup : upKV (encM plE valB m) (.agg (placeP s.wide x).c) (.bool true) (ixOf Try.prog 90 (encM plE valB m) (.agg (placeP s.wide x).c)) = encM plE valB (mput m (placeP s.wide x) true) := kty.up valB m (placeP s.wide x) true
    refine Aw.seq (Aw.block ?_)
    refine Aw.sm tab_ok mb0 [(0, [.int x])] rfl rfl ?zo ?zk
    case zo =>
      repeat' apply AllP.cons
      all_goals first | exact trivial | exact rfl | exact Nat.le_of_ble_eq_true rfl | exact Int.natCast_nonneg _ | exact hgl
    case zk =>
    refine Aw.ed tab_ok mixed mb0 [(4, [.agg (placeP s.wide x).c])] rfl (by kernel_rfl) rfl rfl ?zo ?zk
    case zo =>
      repeat' apply AllP.cons
      all_goals first | exact trivial | exact Nat.le_of_ble_eq_true rfl | exact plc_t s ho 1 x hc' | exact kty.has valB m (placeP s.wide x)
    case zk =>
    refine Aw.em tab_ok mb0 [] rfl rfl ?zo ?zk
    case zo =>
      repeat' apply AllP.cons
      all_goals first | exact trivial | exact inrk k (by have := hf.l; omega)
    case zk =>
    exact ⟨k + 1, hlt, by omega, ⟨.refl _, .refl _, .refl _, .refl _, .refl _, trivial⟩, ⟨.refl _, trivial⟩, ⟨rfl, congrArg (fun x => some (B.map x)) (by rw [hst]; exact hup), rfl, trivial⟩, Nat.le_of_ble_eq_true rfl⟩
  have hle : k = s.land.length := by have := of_decide_eq_false h1; omega
  subst hle
  refine Aw.sm tab_ok mb0 [] rfl rfl ?zo ?zk
  case zo =>
    repeat' apply AllP.cons
    all_goals first | exact trivial | exact rfl | exact Nat.le_of_ble_eq_true rfl
  case zk =>
  refine Aw.ret ⟨_, .cons (resC rfl rfl rfl rfl rfl) (.cons (.tmp _) .nil), rfl, ?_⟩
  exact ⟨by rw [List.take_length]; rfl, trivial⟩
theorem opened_n (s : Sea) (hf : SeaFit s) (hok : s.ok = true) (nm : Nat) : NewMap Try.prog 55 [.agg s.c] nm (.tup [.agg (seaA s (.mp nm)), .int 0]) (kvsOf (kvsTo (encM plE valB (landF s.wide s.land)))) := by
  rw [kvs_to]
  exact NewMap.ren (k := 1) (enters_of Try.func55 rfl rfl) (all1 (.agg _ s.free)) (fun p hp => encM_free valB_free _ p hp) (opened_s s hf hok)
    (RenL.tup (.cons (RenL.agg (RenL.app (RenL.free s.free) (.cons .mp .nil))) (.cons (.free (.s _)) .nil))) fun u => rfl
end Go.Proofs.Ytkfepnbanekfgaa

namespace Go.Proofs.Ytkfepnbanekfgaa
open Go Go.AL Go.AL.Q Go.AL.Sh
def zeroLog : List A := zeroSea ++ [.sl true .exact []]
theorem zeroLog_free : ∀ x ∈ zeroLog, Free x := fun x hx => (List.mem_append.1 hx).elim (zeroSea_free x) (all1 (.sl _ _ _ fun _ h => nomatch h) x)
def repsK (w : Int) : List Rep → A
  | [] => .sl true .exact []
  | x :: l => .sl false (.own 139) ((x :: l).map (repC w))
theorem repsK_under (w : Int) {n : Nat} : ∀ l : List Rep, Under n (repsK w l)
  | [] => .sl _ _ _ fun _ h => nomatch h
  | x :: l => .sl _ _ _ (under_map (repC_free w) _)
theorem log_under (s : Sea) {n i : Nat} (h : i < n) (l : List Rep) : ∀ x ∈ seaA s (.mp i) ++ [repsK s.wide l], Under n x := fun x hx => (List.mem_append.1 hx).elim (sea_under s h x) (all1 (repsK_under _ l) x)
theorem repsK_down (w : Int) (l : List Rep) : (repsK w l).down = .sl l.isEmpty (match l with | [] => .exact | _ => .any) (l.map (repC w)) := by cases l <;> rfl
theorem repC_len (w : Int) (l : List Rep) : ∀ z ∈ l.map (repC w), z.length = 6 := fun z hz => by obtain ⟨r, _, rfl⟩ := List.mem_map.1 hz; rfl
theorem read_no (s : Sea) (hf : SeaFit s) (b : Bool) (l : List Rep) (hok : s.ok = false) : Ans Try.prog 37 [.agg s.c, .sl b .any (l.map Rep.c)] (.tup [.agg zeroLog, .int 10]) := by
  have hfr : Free (.tup [.agg zeroLog, .int 10]) := .tup _ (allC (.agg _ zeroLog_free) (all1 (.s _)))
  refine told Try.func37 rfl rfl (Pure.of tab_ok Try.func37 rfl Try.ntmps37 rfl (allC (.agg _ s.free) (all1 (free_map Rep.free _ _ _))) (allC (fun _ => rfl) (all1 (fun _ => rfl))) (by first | exact .s _ | assumption | exact .tup _ (by intro x hx; simp only [List.mem_cons, List.not_mem_nil, or_false] at hx; rcases hx with rfl | rfl | rfl | rfl <;> first | exact .s _ | (simp_all; done))) fun E hE => ?_)
  refine Aw.sm tab_ok mb0 [] rfl rfl ?zo ?zk
  case zo =>
    repeat' apply AllP.cons
    all_goals first | exact trivial
  case zk =>
  refine Aw.sm tab_ok mb0 [(1, [.tup [.agg zeroSea, .int 10]])] rfl rfl ?zo ?zk
  case zo =>
    repeat' apply AllP.cons
    all_goals first | exact trivial | exact rfl | exact Nat.le_of_ble_eq_true rfl | exact opened_no s hf hok
  case zk =>
  refine Aw.seq ?_
  refine Aw.sm tab_ok mb0 [] rfl rfl ?zo ?zk
  case zo =>
    repeat' apply AllP.cons
    all_goals first | exact trivial
  case zk =>
  refine Aw.cond rfl (fun h => ?_) (fun h => absurd h (by decide))
  refine Aw.sm tab_ok mb0 [] rfl rfl ?zo ?zk
  case zo =>
    repeat' apply AllP.cons
    all_goals first | exact trivial | exact rfl | exact Nat.le_of_ble_eq_true rfl
  case zk =>
  exact Aw.ret ⟨_, .cons (resC rfl rfl rfl rfl rfl) (.cons (.tmp _) .nil), rfl⟩
theorem read_bad (s : Sea) (hf : SeaFit s) (b : Bool) (l : List Rep) (hl : (l.length : Int) ≤ 9223372036854775806) (hok : s.ok = true) (hr : s.repsOk l = false) : Ans Try.prog 37 [.agg s.c, .sl b .any (l.map Rep.c)] (.tup [.agg zeroLog, .int 11]) := by
  have hfr : Free (.tup [.agg zeroLog, .int 11]) := .tup _ (allC (.agg _ zeroLog_free) (all1 (.s _)))
  refine told Try.func37 rfl rfl (Pure.of tab_ok Try.func37 rfl Try.ntmps37 rfl (allC (.agg _ s.free) (all1 (free_map Rep.free _ _ _))) (allC (fun _ => rfl) (all1 (fun _ => rfl))) (by first | exact .s _ | assumption | exact .tup _ (by intro x hx; simp only [List.mem_cons, List.not_mem_nil, or_false] at hx; rcases hx with rfl | rfl | rfl | rfl <;> first | exact .s _ | (simp_all; done))) fun E hE => ?_)
  refine Aw.sm tab_ok mb0 [] rfl rfl ?zo ?zk
  case zo =>
    repeat' apply AllP.cons
    all_goals first | exact trivial
  case zk =>
  refine Aw.sm tab_ok mb0 [(1, [.tup [.agg (seaA s (.mp 1)), .int 0], .sl false .any (kvsTo (encM plE valB (landF s.wide s.land)))])] rfl rfl ?zo ?zk
  case zo =>
    repeat' apply AllP.cons
    all_goals first | exact trivial | exact rfl | exact Nat.le_of_ble_eq_true rfl | exact opened_n s hf hok 1
  case zk =>
  refine Aw.seq ?_
  refine Aw.sm tab_ok mb0 [] rfl rfl ?zo ?zk
  case zo =>
    repeat' apply AllP.cons
    all_goals first | exact trivial
  case zk =>
  refine Aw.cond rfl (fun h => absurd h (by decide)) (fun h => Aw.skip ?_)
  refine Aw.seq ?_
  refine Aw.sm tab_ok mb0 [(2, [.bool false])] rfl rfl ?zo ?zk
  case zo =>
    repeat' apply AllP.cons
    all_goals first | exact trivial | exact Nat.le_of_ble_eq_true rfl | exact hr ▸ areReports_t s (Sea.ok_of hok) 1 b l hl
  case zk =>
  refine Aw.cond rfl (fun h => ?_) (fun h => absurd h (by decide))
  refine Aw.sm tab_ok mb0 [] rfl rfl ?zo ?zk
  case zo =>
    repeat' apply AllP.cons
    all_goals first | exact trivial | exact rfl | exact Nat.le_of_ble_eq_true rfl
  case zk =>
  exact Aw.ret ⟨_, .cons (resC rfl rfl rfl rfl rfl) (.cons (.tmp _) .nil), rfl⟩
theorem reps_fit {s : Sea} {l : List Rep} (h : s.repsOk l = true) : RepFit s l := by
  unfold Sea.repsOk at h
  refine ⟨of_decide_eq_true (ac1 h), fun r hr => ?_⟩
  have := List.all_eq_true.1 (ac2 h) r hr
  unfold Sea.repOk at this
  exact ⟨wi_iff.1 (ac1 (ac1 this)), wi_iff.1 (ac2 (ac1 this)), wi_iff.1 (ac2 this)⟩
theorem read_s (s : Sea) (hf : SeaFit s) (b : Bool) (l : List Rep) (hok : s.ok = true) (hr : s.repsOk l = true) :
    SCall Try.prog 37 [.agg s.c, .sl b .any (l.map Rep.c)] (fun _ => none) 0 (fun v H' _ => v = .tup [.agg (logA s (.mp 1) l), .int 0] ∧ H' = ofH [(1, landB s)]) := by
  have ho := Sea.ok_of hok
  have hrf := reps_fit hr
  have hlen := hrf.len
  have hm := ho.many
  have ll : ((l.map Rep.c).length : Int) = l.length := by simp
  have us : Under 4 (A.pt s.c) := (Free.pt _ s.free).under
  have ul : Under 4 (A.sl b .any (l.map Rep.c)) := (free_map Rep.free _ _ _).under
  refine SCall.drop (post := fun v H' _ => v = .tup [.agg (logA s (.mp 1) l), .int 0] ∧ HasH H' [(1, landB s)])
      ((SCall.of_bodyN (post := fun v H' _ => v = .tup [.agg (seaA s (.mp 1) ++ [(repsK s.wide l).down]), .int 0] ∧ HasH H' [(1, landB s)]) tab_ok Try.func37 rfl Try.ntmps37 (Nat.le_of_ble_eq_true rfl) (allC (fun _ => rfl) (all1 fun _ => rfl)) fun E hE => ?_).le fun v H' c' h => ⟨_, ?_, rfl, h.2⟩)
      (fun v H' c' h => ⟨_, h.2.ofH, h.1, rfl⟩)
  · have hE4 : ∀ id, 4 ≤ id → E.φ0 id = none := fun id h => hE id (by omega)
    refine Aw.sm tab_ok mb0 [] rfl rfl ?zo ?zk
    case zo =>
      repeat' apply AllP.cons
      all_goals first | exact trivial
    case zk =>
    refine Aw.sm tab_ok mb0 [(1, [.tup [.agg (seaA s (.mp 1)), .int 0], .sl false .any (kvsTo (encM plE valB (landF s.wide s.land)))])] rfl rfl ?zo ?zk
    case zo =>
      repeat' apply AllP.cons
      all_goals first | exact trivial | exact rfl | exact Nat.le_of_ble_eq_true rfl | exact opened_n s hf hok 1
    case zk =>
    refine Aw.seq ?_
    refine Aw.sm tab_ok mb0 [] rfl rfl ?zo ?zk
    case zo =>
      repeat' apply AllP.cons
      all_goals first | exact trivial
    case zk =>
    refine Aw.cond rfl (fun h => absurd h (by decide)) (fun h => Aw.skip ?_)
    refine Aw.seq ?_
    refine Aw.sm tab_ok mb0 [(2, [.bool true])] rfl rfl ?zo ?zk
    case zo =>
      repeat' apply AllP.cons
      all_goals first | exact trivial | exact Nat.le_of_ble_eq_true rfl | exact hr ▸ areReports_t s ho 1 b l (by omega)
    case zk =>
    refine Aw.cond rfl (fun h => absurd h (by decide)) (fun h => Aw.skip ?_)
    refine Aw.sm tab_ok mb0 [] rfl rfl ?zo ?zk
    case zo =>
      repeat' apply AllP.cons
      all_goals first | exact trivial | exact rfl | exact Nat.le_of_ble_eq_true rfl
    case zk =>
    refine Aw.seq ?_
    refine Aw.sm tab_ok mb0 [] rfl rfl ?zo ?zk
    case zo =>
      repeat' apply AllP.cons
      all_goals first | exact trivial
    case zk =>
    refine Aw.block (Aw.rounds 4 hE4 [(4, .ref 0 0), (6, .ref 2 0), (8, .ref 3 0), (27, .sl b .any (l.map Rep.c)), (28, .int l.length)] (fun k : Nat => [(29, .int k)]) (fun k => [(0, .cells zeroLog), (1, landB s), (2, .cells (seaA s (.mp 1))), (3, .cells (seaA s (.mp 1) ++ [repsK s.wide (l.take k)]))]) (fun k => k ≤ l.length) (fun k => l.length - k) 0
      (Nat.zero_le _) ⟨⟨.refl _, .refl _, .refl _, .refl _, .of_eq (congrArg A.int ll.symm), trivial⟩, ⟨.refl _, trivial⟩, ⟨rfl, congrArg (fun x => some (B.map x)) (kvs_to _), rfl, rfl, trivial⟩, Nat.le_of_ble_eq_true rfl⟩ ⟨.ref _ _ (by decide), .ref _ _ (by decide), .ref _ _ (by decide), ul, .s _, trivial⟩ (fun _ _ => ⟨.s _, trivial⟩)
      (fun _ _ => ⟨⟨by decide, .cells _ fun x hx => (zeroLog_free x hx).under⟩, ⟨by decide, map_under _⟩, ⟨by decide, .cells _ (sea_under s (by decide))⟩, ⟨by decide, .cells _ (log_under s (by decide) _)⟩, trivial⟩) fun k hk => ?_)
    refine Aw.sm tab_ok mb0 [] rfl rfl ?zo ?zk
    case zo =>
      repeat' apply AllP.cons
      all_goals first | exact trivial
    case zk =>
    refine Aw.seq (Aw.cond rfl (fun h1 => Aw.skip1 ?_) (fun h1 => Aw.exit2 ?_))
    · have hlt : k < l.length := by have := of_decide_eq_true h1; omega
      have hst : l.take (k + 1) = l.take k ++ [l[k]] := List.take_succ_eq_append_getElem hlt
      have hra := hrf.at' _ (List.getElem_mem hlt)
      have hgl := get_map (f := Rep.c) hlt
      have htl : (l.take k).length ≤ 24 := by rw [List.length_take]; omega
      generalize l[k] = r at *
      refine Aw.seq (Aw.block ?_)
      refine Aw.sm tab_ok mb0 [(0, r.c)] rfl rfl ?zo ?zk
      case zo =>
        repeat' apply AllP.cons
        all_goals first | exact trivial | exact rfl | exact Nat.le_of_ble_eq_true rfl | exact Int.natCast_nonneg _ | exact hgl
      case zk =>
      cases hm : l.take k with
      | nil =>
        rw [hm] at hst
        refine Aw.ed tab_ok mixed mb0 [(6, [.agg (placeP s.wide r.cell).c])] rfl (by kernel_rfl) rfl rfl ?zo ?zk
        case zo =>
          repeat' apply AllP.cons
          all_goals first | exact trivial | exact rfl | exact Nat.le_of_ble_eq_true rfl | exact plc_t s ho 1 r.cell (by omega) | exact (show ∀ z ∈ [] ++ [repC s.wide r], z.length = 6 from fun z hz => by simp at hz; subst hz; rfl)
        case zk =>
        refine Aw.em tab_ok mb0 [] rfl rfl ?zo ?zk
        case zo =>
          repeat' apply AllP.cons
          all_goals first | exact trivial | exact inrk k (by omega)
        case zk =>
        exact ⟨k + 1, hlt, by omega, ⟨.refl _, .refl _, .refl _, .refl _, .refl _, trivial⟩, ⟨.refl _, trivial⟩, ⟨rfl, rfl, rfl, by rw [hst]; rfl, trivial⟩, Nat.le_of_ble_eq_true rfl⟩
      | cons x t =>
        rw [hm] at hst htl
        have hz := repC_len s.wide (x :: t)
        have hzl : ((x :: t).map (repC s.wide)).length ≤ 24 := by rw [List.length_map]; exact htl
        refine Aw.ed tab_ok mixed mb0 [(1, []), (6, [.agg (placeP s.wide r.cell).c])] rfl (by kernel_rfl) rfl rfl ?zo ?zk
        case zo =>
          repeat' apply AllP.cons
          all_goals first | exact trivial | exact rfl | exact Nat.le_of_ble_eq_true rfl | exact plc_t s ho 1 r.cell (by omega) | exact hz | exact (show ∀ z ∈ [repC s.wide r], z.length = 6 from fun z hz => by simp at hz; subst hz; rfl) | exact (show (((x :: t).map (repC s.wide)).length + 1) * 48 ≤ 140737488355328 by omega) | exact (show ((x :: t).map (repC s.wide)).length + 1 ≤ maxLen by unfold maxLen; omega)
        case zk =>
        refine Aw.em tab_ok mb0 [] rfl rfl ?zo ?zk
        case zo =>
          repeat' apply AllP.cons
          all_goals first | exact trivial | exact inrk k (by omega)
        case zk =>
        exact ⟨k + 1, hlt, by omega, ⟨.refl _, .refl _, .refl _, .refl _, .refl _, trivial⟩, ⟨.refl _, trivial⟩, ⟨rfl, rfl, rfl, by rw [hst]; simp [repsK]; rfl, trivial⟩, Nat.le_of_ble_eq_true rfl⟩
    have hle : k = l.length := by have := of_decide_eq_false h1; omega
    subst hle
    rw [List.take_length]
    cases l with
    | nil =>
      refine Aw.sm tab_ok mb0 [] rfl rfl ?zo ?zk
      case zo =>
        repeat' apply AllP.cons
        all_goals first | exact trivial | exact rfl | exact Nat.le_of_ble_eq_true rfl
      case zk =>
      refine Aw.ret ⟨_, .cons (resC rfl rfl rfl rfl rfl) (.cons (.tmp _) .nil), rfl, ?_⟩
      exact ⟨rfl, trivial⟩
    | cons x t =>
      refine Aw.sm tab_ok mb0 [] rfl rfl ?zo ?zk
      case zo =>
        repeat' apply AllP.cons
        all_goals first | exact trivial | exact rfl | exact Nat.le_of_ble_eq_true rfl
      case zk =>
      refine Aw.ret ⟨_, .cons (resC rfl rfl rfl rfl rfl) (.cons (.tmp _) .nil), rfl, ?_⟩
      exact ⟨rfl, trivial⟩
  · rw [h.1]
    have e : A.Le (.sl l.isEmpty .any (l.map (repC s.wide))) (repsK s.wide l).down := by rw [repsK_down]; exact .any _ _ _
    exact A.Le.tupL (.cons (.agg (LeL.appL (LeL.refl _) (.cons e .nil))) (.cons (.refl _) .nil))
theorem read_n (s : Sea) (hf : SeaFit s) (b : Bool) (l : List Rep) (hok : s.ok = true) (hr : s.repsOk l = true) (nm : Nat) :
    NewMap Try.prog 37 [.agg s.c, .sl b .any (l.map Rep.c)] nm (.tup [.agg (logA s (.mp nm) l), .int 0]) (kvsOf (kvsTo (encM plE valB (landF s.wide s.land)))) := by
  rw [kvs_to]
  exact NewMap.ren (k := 1) (enters_of Try.func37 rfl rfl) (allC (.agg _ s.free) (all1 (free_map Rep.free _ _ _))) (fun p hp => encM_free valB_free _ p hp) (read_s s hf b l hok hr)
    (RenL.tup (.cons (RenL.agg (RenL.app (RenL.app (RenL.free s.free) (.cons .mp .nil)) (.cons (.free (free_map (repC_free _) _ _ _)) .nil))) (.cons (.free (.s _)) .nil))) fun u => rfl
def landH (s : Sea) : Hp := ofH [(20, landB s)]
theorem landH_lt (s : Sea) : ∀ id bx, landH s id = some bx → id < 21 := fun id bx h => by
  unfold landH at h
  by_cases e : id = 20
  · omega
  · have e1 : Nat.beq id 20 = false := beq_no e
    have e2 : Nat.beq 20 id = false := beq_no (Ne.symm e)
    simp [ofH, upd, updH, e1, e2] at h
theorem landH_at (s : Sea) : landH s 20 = some (landB s) := rfl
theorem sea_nms (s : Sea) : ∀ x ∈ seaA s (.mp 20), Nms (fun i => (landH s i).isSome = true) x := fun x hx => (List.mem_append.1 hx).elim (fun h => (s.free x h).nms) (all1 (.mp _ rfl) x)
theorem cells_s (s : Sea) : SCall Try.prog 58 [.agg (seaA s (.mp 20))] (landH s) 21 (fun v' H' _ => v' = .fn (.func 73) [] [.pt (seaA s (.mp 20))] ∧ ∀ id bx, landH s id = some bx → H' id = some bx) := by
  refine SCall.of_bodyN tab_ok Try.func58 rfl Try.ntmps58 (Nat.le_of_ble_eq_true rfl) (all1 fun _ => rfl) fun E hE => ?_
  refine Aw.sm tab_ok mb0 [] rfl rfl ?zo ?zk
  case zo =>
    repeat' apply AllP.cons
    all_goals first | exact trivial
  case zk =>
  refine Aw.sm tab_ok mb0 [] rfl rfl ?zo ?zk
  case zo =>
    repeat' apply AllP.cons
    all_goals first | exact trivial
  case zk =>
  exact Aw.ret ⟨_, .cons (.tmp _) .nil, rfl, fun id bx h => h⟩
theorem landH_nms (s : Sea) : ∀ id bx, landH s id = some bx → NmsB (fun i => (landH s i).isSome = true) bx := fun id bx h => by
  have e : id = 20 := by
    rcases Nat.lt_or_ge id 20 with h1 | h1
    · have e1 : Nat.beq id 20 = false := beq_no (by omega)
      have e2 : Nat.beq 20 id = false := beq_no (by omega)
      simp [landH, ofH, upd, updH, e1, e2] at h
    · have := landH_lt s id bx h; omega
  subst e
  rw [landH_at] at h
  cases h
  exact .map _ fun p hp => ⟨(encM_free valB_free _ p hp).1.nms, (encM_free valB_free _ p hp).2.nms⟩
theorem cells_r (s : Sea) : RCall Try.prog 58 [.agg (seaA s (.mp 20))] (landH s) (.fn (.func 73) [] [.pt (seaA s (.mp 20))]) :=
  RCall.of (enters_of Try.func58 rfl rfl) (landH_lt s) (landH_nms s) (all1 (.agg _ (sea_nms s))) (.fn _ _ _ (fun _ h => nomatch h) (all1 (.pt _ (sea_nms s)))) (fun _ => rfl) (cells_s s)
theorem at20 {s : Sea} {g : FuncId} {args : List A} {v : A} (h : RCall Try.prog g args (landH s) v) {H : Hp} (hH : H 20 = some (landB s)) : RCall Try.prog g args (onlyL H (idsOf [.mp 20])) v :=
  h.le rfl (fun _ _ => .refl _) fun id bx hb => by
    have e : id = 20 := by
      rcases Nat.lt_or_ge id 20 with h1 | h1
      · have e1 : Nat.beq id 20 = false := beq_no (by omega)
        simp [landH, ofH, updH, e1] at hb
      · have := landH_lt s id bx hb; omega
    subst e
    rw [landH_at] at hb
    cases hb
    exact hH
end Go.Proofs.Ytkfepnbanekfgaa

