/- What the proof leans on, part 8: R9 R10 L3 L4 L5. -/
import Derived.Test.YtimikmfkdaoaaaaK7
set_option linter.all false
namespace Go.Proofs.Ytimikmfkdaoaaaa
open Go Go.AL
theorem lcrans_t (d : Day) (hd : DayOk d) : Ans Try.prog 38 [.agg d.c] (.int (cransOf d)) := by
  refine told Try.func38 rfl rfl (Pure.of tab_ok Try.func38 rfl Try.ntmps38 rfl (all1 (.agg _ d.free)) (all1 (fun _ => rfl)) (by first | exact .s _ | assumption | exact .tup _ (by intro x hx; simp only [List.mem_cons, List.not_mem_nil, or_false] at hx; rcases hx with rfl | rfl | rfl | rfl <;> first | exact .s _ | (simp_all; done))) fun E hE => ?_)
  have udc : Under 0 (A.pt d.c) := (Free.pt _ d.free).under
  have nl := hd.nl
  have ll : ((d.lots.map Lot.c).length : Int) = d.lots.length := by simp
  refine Aw.sm tab_ok mb0 [] rfl rfl ?zo ?zk
  case zo =>
    repeat' apply AllP.cons
    all_goals first | exact trivial
  case zk =>
  refine Aw.sm tab_ok mb0 [] rfl rfl ?zo ?zk
  case zo =>
    repeat' apply AllP.cons
    all_goals first | exact trivial
  case zk =>
  refine Aw.seq ?_
  refine Aw.sm tab_ok mb0 [] rfl rfl ?zo ?zk
  case zo =>
    repeat' apply AllP.cons
    all_goals first | exact trivial
  case zk =>
  refine Aw.block (Aw.rounds 0 hE [(1, .pt d.c)] (fun k : Nat => [(3, .int (cransL d k).sum), (4, .int k)]) (fun _ => []) (fun k => k ≤ d.lots.length) (fun k => d.lots.length - k) 0
    (Nat.zero_le _) ⟨⟨.refl _, trivial⟩, ⟨.refl _, .refl _, trivial⟩, trivial, Nat.le_refl _⟩ ⟨udc, trivial⟩ (fun _ _ => ⟨.s _, .s _, trivial⟩) (fun _ _ => trivial) fun k hk => ?_)
  refine Aw.seq ?_
  refine Aw.sm tab_ok mb0 [] rfl rfl ?zo ?zk
  case zo =>
    repeat' apply AllP.cons
    all_goals first | exact trivial | exact Nat.le_of_ble_eq_true rfl
  case zk =>
  refine Aw.cond rfl (fun h1 => Aw.skip ?_) (fun h1 => ?_)
  · have hlt : k < d.lots.length := by have := of_decide_eq_true h1; omega
    have ht : (cransL d (k + 1)).sum = (cransL d k).sum + d.lots[k].crans := by rw [cransL_succ hlt, List.sum_append]; simp
    have hb := crans_bd hd (k + 1)
    refine Aw.seq (Aw.block ?_)
    refine Aw.em tab_ok mb0 [(4, d.lots[k].c)] rfl rfl ?zo ?zk
    case zo =>
      repeat' apply AllP.cons
      all_goals first | exact trivial | exact rfl | exact Nat.le_of_ble_eq_true rfl | exact Int.natCast_nonneg _ | exact get_map hlt | exact (show inR ((cransL d k).sum + d.lots[k].crans) by rw [← ht]; simp only [inR]; omega)
    case zk =>
    refine Aw.em tab_ok mb0 [] rfl rfl ?zo ?zk
    case zo =>
      repeat' apply AllP.cons
      all_goals first | exact trivial | exact inrk k (by omega)
    case zk =>
    exact ⟨k + 1, hlt, by omega, ⟨.refl _, trivial⟩, ⟨.of_eq (by rw [ht]; rfl), .refl _, trivial⟩, trivial, Nat.zero_le _⟩
  · have hle : k = d.lots.length := by have := of_decide_eq_false h1; omega
    subst hle
    refine Aw.exit2 ?_
    refine Aw.sm tab_ok mb0 [] rfl rfl ?zo ?zk
    case zo =>
      repeat' apply AllP.cons
      all_goals first | exact trivial
    case zk =>
    exact Aw.ret ⟨_, .cons (.tmp _) .nil, by unfold cransL; rw [List.take_length]; rfl⟩
theorem mod_is (n b : Int) (hb : 0 < b) : (if n.tmod b < 0 then n.tmod b + b else n.tmod b) = n % b := by
  rw [Int.tmod_eq_emod]
  have h1 := Int.emod_nonneg n (show b ≠ 0 by omega)
  have h2 := Int.emod_lt_of_pos n hb
  have h3 : (b.natAbs : Int) = b := by omega
  split <;> split <;> omega
theorem mod_t (n b : Int) (hb : 0 < b) (hb2 : b ≤ 9223372036854775807) : Ans Try.prog 40 [.int n, .int b] (.int (n % b)) := by
  have h1 := Int.emod_nonneg n (show b ≠ 0 by omega)
  have h2 := Int.emod_lt_of_pos n hb
  have hm := mod_is n b hb
  refine told Try.func40 rfl rfl (Pure.of tab_ok Try.func40 rfl Try.ntmps40 rfl (allC (.s _) (all1 (.s _))) (allC (fun _ => rfl) (all1 (fun _ => rfl))) (by first | exact .s _ | assumption | exact .tup _ (by intro x hx; simp only [List.mem_cons, List.not_mem_nil, or_false] at hx; rcases hx with rfl | rfl | rfl | rfl <;> first | exact .s _ | (simp_all; done))) fun E hE => ?_)
  refine Aw.sm tab_ok mb0 [] rfl rfl ?zo ?zk
  case zo =>
    repeat' apply AllP.cons
    all_goals first | exact trivial
  case zk =>
  refine Aw.sm tab_ok mb0 [] rfl rfl ?zo ?zk
  case zo =>
    repeat' apply AllP.cons
    all_goals first | exact trivial | exact (show b ≠ 0 by omega)
  case zk =>
  refine Aw.seq ?_
  refine Aw.sm tab_ok mb0 [] rfl rfl ?zo ?zk
  case zo =>
    repeat' apply AllP.cons
    all_goals first | exact trivial
  case zk =>
  refine Aw.cond rfl (fun h3 => ?_) (fun h3 => Aw.skip ?_)
  · have h3' : n.tmod b < 0 := of_decide_eq_true h3
    rw [if_pos h3'] at hm
    refine Aw.em tab_ok mb0 [] rfl rfl ?zo ?zk
    case zo =>
      repeat' apply AllP.cons
      all_goals first | exact trivial | exact (show inR (n.tmod b + b) by rw [hm]; simp only [inR]; omega)
    case zk =>
    refine Aw.sm tab_ok mb0 [] rfl rfl ?zo ?zk
    case zo =>
      repeat' apply AllP.cons
      all_goals first | exact trivial
    case zk =>
    exact Aw.ret ⟨_, .cons (.tmp _) .nil, congrArg A.int hm⟩
  · have h3' : ¬ n.tmod b < 0 := of_decide_eq_false h3
    rw [if_neg h3'] at hm
    refine Aw.sm tab_ok mb0 [] rfl rfl ?zo ?zk
    case zo =>
      repeat' apply AllP.cons
      all_goals first | exact trivial
    case zk =>
    exact Aw.ret ⟨_, .cons (.tmp _) .nil, congrArg A.int hm⟩
def pickF (l : List Int) (n : Int) : Int := if l.length = 0 then 0 else l.getD (n % l.length).toNat 0
theorem pick_t (b : Bool) (l : List Int) (n : Int) (hl : (l.length : Int) ≤ 9223372036854775807) : Ans Try.prog 68 [.sl b .any (ints l), .int n] (.int (pickF l n)) := by
  have li : ((ints l).length : Int) = l.length := by simp [ints]
  refine told Try.func68 rfl rfl (Pure.of tab_ok Try.func68 rfl Try.ntmps68 rfl (allC (free_ints _ _ _) (all1 (.s _))) (allC (fun _ => rfl) (all1 (fun _ => rfl))) (by first | exact .s _ | assumption | exact .tup _ (by intro x hx; simp only [List.mem_cons, List.not_mem_nil, or_false] at hx; rcases hx with rfl | rfl | rfl | rfl <;> first | exact .s _ | (simp_all; done))) fun E hE => ?_)
  refine Aw.sm tab_ok mb0 [] rfl rfl ?zo ?zk
  case zo =>
    repeat' apply AllP.cons
    all_goals first | exact trivial
  case zk =>
  refine Aw.seq ?_
  refine Aw.sm tab_ok mb0 [] rfl rfl ?zo ?zk
  case zo =>
    repeat' apply AllP.cons
    all_goals first | exact trivial
  case zk =>
  refine Aw.cond rfl (fun h3 => ?_) (fun h3 => Aw.skip ?_)
  · have h3' : l.length = 0 := by
      have h3 : (((ints l).length : Int) == 0) = true := h3
      have := eq_of_beq h3; omega
    refine Aw.sm tab_ok mb0 [] rfl rfl ?zo ?zk
    case zo =>
      repeat' apply AllP.cons
      all_goals first | exact trivial
    case zk =>
    exact Aw.ret ⟨_, .cons (.tmp _) .nil, by unfold pickF; rw [if_pos h3']; rfl⟩
  · have h3' : ¬ l.length = 0 := fun h => by
      have h3 : (((ints l).length : Int) == 0) = false := h3
      rw [li, h] at h3; cases h3
    have g1 := Int.emod_nonneg n (show (l.length : Int) ≠ 0 by omega)
    have g2 := Int.emod_lt_of_pos n (show 0 < (l.length : Int) by omega)
    have hp : (ints l)[(n % (l.length : Int)).toNat]? = some [.int (pickF l n)] := by
      rw [ints_get (by omega)]
      unfold pickF
      rw [if_neg h3', List.getD_eq_getElem?_getD, List.getElem?_eq_getElem (by omega)]; rfl
    refine Aw.sm tab_ok mb0 [(4, [.int (n % (↑l.length))]), (5, [.int (pickF l n)])] rfl rfl ?zo ?zk
    case zo =>
      repeat' apply AllP.cons
      all_goals first | exact trivial | exact rfl | exact Nat.le_of_ble_eq_true rfl | exact li ▸ mod_t n _ (by omega) (by omega) | exact hp | exact g1
    case zk =>
    exact Aw.ret ⟨_, .cons (.tmp _) .nil, rfl⟩
def chosenF (lo hi n : Int) : Int := if hi ≤ lo then lo else lo + n % (hi - lo + 1)
theorem chosen_in {lo hi n : Int} (h : lo ≤ hi) : lo ≤ chosenF lo hi n ∧ chosenF lo hi n ≤ hi := by
  unfold chosenF
  split
  · omega
  · have g1 := Int.emod_nonneg n (show hi - lo + 1 ≠ 0 by omega)
    have g2 := Int.emod_lt_of_pos n (show 0 < hi - lo + 1 by omega)
    omega
theorem chosen_t (lo hi n : Int) (h0 : 0 ≤ lo) (h1 : hi ≤ 1000000) : Ans Try.prog 45 [.int lo, .int hi, .int n] (.int (chosenF lo hi n)) := by
  refine told Try.func45 rfl rfl (Pure.of tab_ok Try.func45 rfl Try.ntmps45 rfl (allC (.s _) (allC (.s _) (all1 (.s _)))) (allC (fun _ => rfl) (allC (fun _ => rfl) (all1 (fun _ => rfl)))) (by first | exact .s _ | assumption | exact .tup _ (by intro x hx; simp only [List.mem_cons, List.not_mem_nil, or_false] at hx; rcases hx with rfl | rfl | rfl | rfl <;> first | exact .s _ | (simp_all; done))) fun E hE => ?_)
  refine Aw.sm tab_ok mb0 [] rfl rfl ?zo ?zk
  case zo =>
    repeat' apply AllP.cons
    all_goals first | exact trivial
  case zk =>
  refine Aw.seq ?_
  refine Aw.sm tab_ok mb0 [] rfl rfl ?zo ?zk
  case zo =>
    repeat' apply AllP.cons
    all_goals first | exact trivial
  case zk =>
  refine Aw.cond rfl (fun h3 => ?_) (fun h3 => Aw.skip ?_)
  · have h3' : hi ≤ lo := of_decide_eq_true h3
    refine Aw.sm tab_ok mb0 [] rfl rfl ?zo ?zk
    case zo =>
      repeat' apply AllP.cons
      all_goals first | exact trivial
    case zk =>
    exact Aw.ret ⟨_, .cons (.tmp _) .nil, by unfold chosenF; rw [if_pos h3']; rfl⟩
  · have h3' : ¬ hi ≤ lo := of_decide_eq_false h3
    have g1 := Int.emod_nonneg n (show hi - lo + 1 ≠ 0 by omega)
    have g2 := Int.emod_lt_of_pos n (show 0 < hi - lo + 1 by omega)
    refine Aw.sm tab_ok mb0 [(6, [.int (n % (hi - lo + 1))])] rfl rfl ?zo ?zk
    case zo =>
      repeat' apply AllP.cons
      all_goals first | exact trivial | exact mod_t n _ (by omega) (by omega) | exact (by simp only [Ob.of, inR]; omega)
    case zk =>
    exact Aw.ret ⟨_, .cons (.tmp _) .nil, by unfold chosenF; rw [if_neg h3']; rfl⟩
theorem holds_t (s : Spn) (n : Int) : Ans Try.prog 46 [.agg s.c, .int n] (.bool (wi n s.lo s.hi)) := by
  refine told Try.func46 rfl rfl (Pure.of tab_ok Try.func46 rfl Try.ntmps46 rfl (allC (.agg _ s.free) (all1 (.s _))) (allC (fun _ => rfl) (all1 (fun _ => rfl))) (by first | exact .s _ | assumption | exact .tup _ (by intro x hx; simp only [List.mem_cons, List.not_mem_nil, or_false] at hx; rcases hx with rfl | rfl | rfl | rfl <;> first | exact .s _ | (simp_all; done))) fun E hE => ?_)
  refine Aw.sm tab_ok mb0 [] rfl rfl ?zo ?zk
  case zo =>
    repeat' apply AllP.cons
    all_goals first | exact trivial
  case zk =>
  refine Aw.sm tab_ok mb0 [(5, [.bool (wi n s.lo s.hi)])] rfl rfl ?zo ?zk
  case zo =>
    repeat' apply AllP.cons
    all_goals first | exact trivial | exact Nat.le_of_ble_eq_true rfl | exact in_t _ _ _
  case zk =>
  exact Aw.ret ⟨_, .cons (.tmp _) .nil, rfl⟩
theorem sound_t (d : Day) (hs : Small d) : Ans Try.prog 34 [.agg d.c] (.bool d.ok) := by
  refine told Try.func34 rfl rfl (Pure.of tab_ok Try.func34 rfl Try.ntmps34 rfl (all1 (.agg _ d.free)) (all1 (fun _ => rfl)) (by first | exact .s _ | assumption | exact .tup _ (by intro x hx; simp only [List.mem_cons, List.not_mem_nil, or_false] at hx; rcases hx with rfl | rfl | rfl | rfl <;> first | exact .s _ | (simp_all; done))) fun E hE => ?_)
  have udc : Under 0 (A.pt d.c) := (Free.pt _ d.free).under
  have ll : ((d.lots.map Lot.c).length : Int) = d.lots.length := by simp
  have lw : ((d.wks.map Wk.c).length : Int) = d.wks.length := by simp
  have hl2 := hs.l
  have hl3 := hs.w
  refine Aw.sm tab_ok mb0 [] rfl rfl ?zo ?zk
  case zo =>
    repeat' apply AllP.cons
    all_goals first | exact trivial
  case zk =>
  refine Aw.sm tab_ok mb0 [(1, [.int d.errA]), (6, [.bool (wi d.hours 1 24)])] rfl rfl ?zo ?zk
  case zo =>
    repeat' apply AllP.cons
    all_goals first | exact trivial | exact id | exact fun _ => rfl | exact Nat.le_of_ble_eq_true rfl | exact fun _ => Nat.le_of_ble_eq_true rfl | exact (in_t _ _ _).un | exact check_s hs
  case zk =>
  have h0 : cond (cond (cond (cond (d.errA == 0) (wi d.hours 1 24) false) (((d.heat.map Spn.c).length : Int) == d.hours) false) (decide (((d.lots.map Lot.c).length : Int) ≤ 8)) false) (decide (((d.wks.map Wk.c).length : Int) ≤ 6)) false = d.ok := by
    cases hok : d.ok with
    | false => simp only [Day.errA, hok]; rfl
    | true =>
      have h4 : d.head = true := ac1 (ac1 (ac1 hok))
      simp only [Day.errA, hok]
      exact h4
  refine Aw.seq ?_
  refine Aw.sm tab_ok mb0 [] rfl rfl ?zo ?zk
  case zo =>
    repeat' apply AllP.cons
    all_goals first | exact trivial
  case zk =>
  refine Aw.block (Aw.rounds 0 hE [(1, .pt d.c)] (fun k : Nat => [(3, .bool d.ok), (4, .int k)]) (fun _ => []) (fun k => k ≤ d.lots.length) (fun k => d.lots.length - k) 0
    (Nat.zero_le _) ⟨⟨.refl _, trivial⟩, ⟨.of_eq (congrArg A.bool h0.symm), .refl _, trivial⟩, trivial, Nat.zero_le _⟩ ⟨udc, trivial⟩ (fun _ _ => ⟨.s _, .s _, trivial⟩) (fun _ _ => trivial) fun k hk => ?_)
  refine Aw.seq ?_
  refine Aw.sm tab_ok mb0 [] rfl rfl ?zo ?zk
  case zo =>
    repeat' apply AllP.cons
    all_goals first | exact trivial | exact id | exact fun _ => rfl | exact fun _ => Nat.le_of_ble_eq_true rfl
  case zk =>
  refine Aw.cond rfl (fun h1 => Aw.skip ?_) (fun h1 => ?_)
  · have h1 : cond d.ok (decide ((k : Int) < ((d.lots.map Lot.c).length : Int))) false = true := h1
    have hok := ac1 h1
    have hlt : k < d.lots.length := by have := of_decide_eq_true (ac2 h1); omega
    have hd := DayOk.of hok
    have hk := lotOk_iff (hd.lots _ (List.getElem_mem hlt))
    have hh := hd.hours
    have e1 : wi d.lots[k].crans 1 50 = true := wi_iff.2 hk.1
    have e2 : wi d.lots[k].landed 0 (d.hours - 1) = true := wi_iff.2 hk.2.1
    have e3 : wi d.lots[k].fit 0 7 = true := wi_iff.2 hk.2.2.2
    refine Aw.seq (Aw.block ?_)
    refine Aw.ed tab_ok mixed mb0 [(3, d.lots[k].c), (6, [.bool (wi d.lots[k].crans 1 50)]), (11, d.lots[k].c), (17, [.bool (wi d.lots[k].landed 0 (d.hours - 1))]), (23, d.lots[k].c), (26, [.bool (wi d.lots[k].fit 0 7)])] rfl (by kernel_rfl) rfl rfl ?zo ?zk
    case zo =>
      repeat' apply AllP.cons
      all_goals first | exact trivial | exact id | exact rfl | exact fun _ => rfl | exact Nat.le_of_ble_eq_true rfl | exact fun _ => Nat.le_of_ble_eq_true rfl | exact Int.natCast_nonneg _ | exact fun _ => Int.natCast_nonneg _ | exact in_t _ _ _ | exact (in_t _ _ _).un | exact get_map hlt | exact fun _ => get_map hlt | exact fun _ => (by simp only [Ob.of, inR]; omega)
    case zk =>
    refine Aw.em tab_ok mb0 [] rfl rfl ?zo ?zk
    case zo =>
      repeat' apply AllP.cons
      all_goals first | exact trivial | exact (by simp only [Ob.of, inR]; omega)
    case zk =>
    exact ⟨k + 1, hlt, by omega, ⟨.refl _, trivial⟩, ⟨.of_eq (show A.bool d.ok = A.bool (cond (cond (wi d.lots[k].crans 1 50) (wi d.lots[k].landed 0 (d.hours - 1)) false) (wi d.lots[k].fit 0 7) false) by rw [e1, e2, e3, hok]; rfl), .refl _, trivial⟩, trivial, Nat.zero_le _⟩
  refine Aw.exit2 ?_
  refine Aw.keep (n := 0) (cst := [(1, .pt d.c)]) (v := [(3, .bool d.ok)]) (Hl := []) hE ⟨udc, trivial⟩ ⟨.s _, trivial⟩ trivial ⟨⟨.refl _, trivial⟩, ⟨.refl _, trivial⟩, trivial, Nat.zero_le _⟩ ?_
  refine Aw.seq ?_
  refine Aw.sm tab_ok mb0 [] rfl rfl ?zo ?zk
  case zo =>
    repeat' apply AllP.cons
    all_goals first | exact trivial
  case zk =>
  refine Aw.block (Aw.rounds 0 hE [(1, .pt d.c)] (fun k : Nat => [(3, .bool d.ok), (5, .int k)]) (fun _ => []) (fun k => k ≤ d.wks.length) (fun k => d.wks.length - k) 0
    (Nat.zero_le _) ⟨⟨.refl _, trivial⟩, ⟨.refl _, .refl _, trivial⟩, trivial, Nat.zero_le _⟩ ⟨udc, trivial⟩ (fun _ _ => ⟨.s _, .s _, trivial⟩) (fun _ _ => trivial) fun k hk => ?_)
  refine Aw.seq ?_
  refine Aw.sm tab_ok mb0 [] rfl rfl ?zo ?zk
  case zo =>
    repeat' apply AllP.cons
    all_goals first | exact trivial | exact id | exact fun _ => rfl | exact fun _ => Nat.le_of_ble_eq_true rfl
  case zk =>
  refine Aw.cond rfl (fun h1 => Aw.skip ?_) (fun h1 => ?_)
  · have h1 : cond d.ok (decide ((k : Int) < ((d.wks.map Wk.c).length : Int))) false = true := h1
    have hok := ac1 h1
    have hlt : k < d.wks.length := by have := of_decide_eq_true (ac2 h1); omega
    have hd := DayOk.of hok
    have hk := wkOk_iff (hd.wks _ (List.getElem_mem hlt))
    have e1 : wi d.wks[k].kind 0 2 = true := wi_iff.2 hk.1
    have e2 : wi d.wks[k].rate 0 20 = true := wi_iff.2 hk.2.2.2
    refine Aw.seq (Aw.block ?_)
    refine Aw.em tab_ok mb0 [(3, d.wks[k].c), (6, [.bool (wi d.wks[k].kind 0 2)]), (11, d.wks[k].c), (14, [.bool (wi d.wks[k].rate 0 20)])] rfl rfl ?zo ?zk
    case zo =>
      repeat' apply AllP.cons
      all_goals first | exact trivial | exact id | exact rfl | exact fun _ => rfl | exact Nat.le_of_ble_eq_true rfl | exact fun _ => Nat.le_of_ble_eq_true rfl | exact Int.natCast_nonneg _ | exact fun _ => Int.natCast_nonneg _ | exact in_t _ _ _ | exact (in_t _ _ _).un | exact get_map hlt | exact fun _ => get_map hlt
    case zk =>
    refine Aw.em tab_ok mb0 [] rfl rfl ?zo ?zk
    case zo =>
      repeat' apply AllP.cons
      all_goals first | exact trivial | exact (by simp only [Ob.of, inR]; omega)
    case zk =>
    exact ⟨k + 1, hlt, by omega, ⟨.refl _, trivial⟩, ⟨.of_eq (show A.bool d.ok = A.bool (cond (wi d.wks[k].kind 0 2) (wi d.wks[k].rate 0 20) false) by rw [e1, e2, hok]; rfl), .refl _, trivial⟩, trivial, Nat.zero_le _⟩
  refine Aw.exit2 ?_
  refine Aw.sm tab_ok mb0 [] rfl rfl ?zo ?zk
  case zo =>
    repeat' apply AllP.cons
    all_goals first | exact trivial
  case zk =>
  exact Aw.ret ⟨_, .cons (.tmp _) .nil, rfl⟩
end Go.Proofs.Ytimikmfkdaoaaaa
namespace Go.Proofs.Ytimikmfkdaoaaaa
open Go Go.AL
def warm (d : Day) (bits : List Int) (h : Nat) : Int := chosenF (d.heat.getD h ⟨0, 0⟩).lo (d.heat.getD h ⟨0, 0⟩).hi (pickF bits h)
def warmL (d : Day) (bits : List Int) (k : Nat) : List Int := (List.range k).map (warm d bits)
theorem warmL_succ (d : Day) (bits : List Int) (k : Nat) : warmL d bits (k + 1) = warmL d bits k ++ [warm d bits k] := by
  unfold warmL; rw [List.range_succ, List.map_append]; rfl
theorem warmL_len (d : Day) (bits : List Int) (k : Nat) : (warmL d bits k).length = k := by simp [warmL]
theorem warm_in {d : Day} (hd : DayOk d) (bits : List Int) (h : Nat) : 0 ≤ warm d bits h ∧ warm d bits h ≤ (d.heat.getD h ⟨0, 0⟩).hi ∧ (d.heat.getD h ⟨0, 0⟩).lo ≤ warm d bits h ∧ warm d bits h ≤ 100 := by
  have h1 := heat_ge hd false h
  have h2 := heat_ge hd true h
  have h3 : (d.heat.getD h ⟨0, 0⟩).lo ≤ (d.heat.getD h ⟨0, 0⟩).hi := by
    rw [List.getD_eq_getElem?_getD]
    cases e : d.heat[h]? with
    | none => simp
    | some s =>
      have := hd.heats s (List.mem_of_getElem? e)
      simp only [heatOk, c_and, Bool.and_eq_true, decide_eq_true_eq] at this
      simp; omega
  have h4 := chosen_in (n := pickF bits h) h3
  simp only [Bool.false_eq_true, if_false, if_true] at h1 h2
  unfold warm
  omega
set_option maxHeartbeats 1000000 in
theorem warmed_t (d : Day) (b : Bool) (bits : List Int) (hd : DayOk d) (hl : (bits.length : Int) ≤ 9223372036854775807) : Ans Try.prog 35 [.agg d.c, .sl b .any (ints bits)] (outA (warmL d bits d.heat.length)) := by
  have hfr := outA_free (warmL d bits d.heat.length)
  refine told Try.func35 rfl rfl (Pure.of tab_ok Try.func35 rfl Try.ntmps35 rfl (allC (.agg _ d.free) (all1 (free_ints _ _ _))) (allC (fun _ => rfl) (all1 (fun _ => rfl))) (by first | exact .s _ | assumption | exact .tup _ (by intro x hx; simp only [List.mem_cons, List.not_mem_nil, or_false] at hx; rcases hx with rfl | rfl | rfl | rfl <;> first | exact .s _ | (simp_all; done))) fun E hE => ?_)
  have udc : Under 0 (A.pt d.c) := (Free.pt _ d.free).under
  have lh : ((d.heat.map Spn.c).length : Int) = d.heat.length := by simp
  have hh := hd.hours
  have hht := hd.heat
  refine Aw.sm tab_ok mb0 [] rfl rfl ?zo ?zk
  case zo =>
    repeat' apply AllP.cons
    all_goals first | exact trivial
  case zk =>
  refine Aw.sm tab_ok mb0 [] rfl rfl ?zo ?zk
  case zo =>
    repeat' apply AllP.cons
    all_goals first | exact trivial
  case zk =>
  refine Aw.seq ?_
  refine Aw.sm tab_ok mb0 [] rfl rfl ?zo ?zk
  case zo =>
    repeat' apply AllP.cons
    all_goals first | exact trivial
  case zk =>
  refine Aw.block (Aw.rounds 0 hE [(1, .sl b .any (ints bits)), (2, .pt d.c)] (fun k : Nat => [(5, grL (warmL d bits k)), (6, .int k)]) (fun _ => []) (fun k => k ≤ d.heat.length) (fun k => d.heat.length - k) 0
    (Nat.zero_le _) ⟨⟨.refl _, .refl _, trivial⟩, ⟨.refl _, .refl _, trivial⟩, trivial, Nat.le_refl _⟩ ⟨(free_ints _ _ _).under, udc, trivial⟩ (fun _ _ => ⟨grL_under _, .s _, trivial⟩) (fun _ _ => trivial) fun k hk => ?_)
  refine Aw.seq ?_
  refine Aw.sm tab_ok mb0 [] rfl rfl ?zo ?zk
  case zo =>
    repeat' apply AllP.cons
    all_goals first | exact trivial | exact Nat.le_of_ble_eq_true rfl
  case zk =>
  refine Aw.cond rfl (fun h1 => Aw.skip ?_) (fun h1 => ?_)
  · have hlt : k < d.heat.length := by have := of_decide_eq_true h1; omega
    have hw : warm d bits k = chosenF d.heat[k].lo d.heat[k].hi (pickF bits k) := by unfold warm; simp [List.getD_eq_getElem?_getD, hlt]
    have hk0 := hd.heats _ (List.getElem_mem hlt)
    simp only [heatOk, c_and, Bool.and_eq_true, decide_eq_true_eq] at hk0
    have hch := chosen_t d.heat[k].lo d.heat[k].hi (pickF bits k) hk0.1.1 (by omega)
    rw [← hw] at hch
    have hpk := pick_t b bits k hl
    have e := warmL_succ d bits k
    have hlen := warmL_len d bits k
    refine Aw.seq (Aw.block ?_)
    cases hm : warmL d bits k with
    | nil =>
      rw [hm] at e
      refine Aw.ed tab_ok mixed mb0 [(4, d.heat[k].c), (10, d.heat[k].c), (15, [.int (pickF bits k)]), (16, [.int (warm d bits k)])] rfl (by kernel_rfl) rfl rfl ?zo ?zk
      case zo =>
        repeat' apply AllP.cons
        all_goals first | exact trivial | exact rfl | exact Nat.le_of_ble_eq_true rfl | exact Int.natCast_nonneg _ | exact get_map hlt | exact hpk | exact hch | exact (show ∀ z ∈ [] ++ [[A.int _]], z.length = 1 from fun z hz => by simp at hz; subst hz; rfl)
      case zk =>
      refine Aw.em tab_ok mb0 [] rfl rfl ?zo ?zk
      case zo =>
        repeat' apply AllP.cons
        all_goals first | exact trivial | exact inrk k (by omega)
      case zk =>
      exact ⟨k + 1, hlt, by omega, ⟨.refl _, .refl _, trivial⟩, ⟨.of_eq (by rw [e]; rfl), .refl _, trivial⟩, trivial, Nat.zero_le _⟩
    | cons x l =>
      rw [hm] at e hlen
      have hlen2 : (ints (x :: l)).length = k := by simp only [ints, List.length_map]; exact hlen
      have hz : ∀ z ∈ ints (x :: l), z.length = 1 := fun z hz => by obtain ⟨i, _, rfl⟩ := List.mem_map.1 hz; rfl
      refine Aw.ed tab_ok mixed mb0 [(4, d.heat[k].c), (10, d.heat[k].c), (15, [.int (pickF bits k)]), (16, [.int (warm d bits k)])] rfl (by kernel_rfl) rfl rfl ?zo ?zk
      case zo =>
        repeat' apply AllP.cons
        all_goals first | exact trivial | exact rfl | exact Nat.le_of_ble_eq_true rfl | exact Int.natCast_nonneg _ | exact get_map hlt | exact hpk | exact hch | exact (show ∀ z ∈ [[A.int _]], z.length = 1 from fun z hz => by simp at hz; subst hz; rfl) | exact hz | exact (show ((ints (x :: l)).length + 1) * 8 ≤ 140737488355328 by omega) | exact (show (ints (x :: l)).length + 1 ≤ maxLen by unfold maxLen; omega)
      case zk =>
      refine Aw.em tab_ok mb0 [] rfl rfl ?zo ?zk
      case zo =>
        repeat' apply AllP.cons
        all_goals first | exact trivial | exact inrk k (by omega)
      case zk =>
      exact ⟨k + 1, hlt, by omega, ⟨.refl _, .refl _, trivial⟩, ⟨.of_eq (by rw [e]; show grL ((x :: l) ++ [warm d bits k]) = A.sl false (.own 3) (ints (x :: l) ++ [[A.int (warm d bits k)]]); simp [grL, ints]), .refl _, trivial⟩, trivial, Nat.zero_le _⟩
  · have hle : k = d.heat.length := by have := of_decide_eq_false h1; omega
    subst hle
    refine Aw.exit2 ?_
    cases hm : warmL d bits d.heat.length with
    | nil =>
      refine Aw.sm tab_ok mb0 [] rfl rfl ?zo ?zk
      case zo =>
        repeat' apply AllP.cons
        all_goals first | exact trivial
      case zk =>
      exact Aw.ret ⟨_, .cons (.tmp _) .nil, rfl⟩
    | cons x l =>
      refine Aw.sm tab_ok mb0 [] rfl rfl ?zo ?zk
      case zo =>
        repeat' apply AllP.cons
        all_goals first | exact trivial
      case zk =>
      exact Aw.ret ⟨_, .cons (.tmp _) .nil, rfl⟩
theorem warmed_w (d : Day) (b : Bool) (bits : List Int) (hd : DayOk d) (hl : (bits.length : Int) ≤ 9223372036854775807) : Ans Try.prog 35 [.agg d.c, .sl b .any (ints bits)] (outW (warmL d bits d.heat.length)) := Ans_out (warmed_t d b bits hd hl) (outW_le _)
def sumFr (f : Nat → Int) (a : Nat) : Nat → Int
  | 0 => 0
  | n + 1 => sumFr f a n + f (a + n)
theorem sumFr_succ (f : Nat → Int) (a : Nat) : ∀ n, sumFr f a (n + 1) = f a + sumFr f (a + 1) n
  | 0 => by simp [sumFr]
  | n + 1 => by
    rw [sumFr, sumFr_succ f a n, sumFr, show a + 1 + n = a + (n + 1) by omega]; omega
theorem runU_keeps {f : Nat → Int} {landed : Int} : ∀ (m k : Nat) (n u : Int) (h : Nat), landed ≤ k → u < k → 0 ≤ n → k ≤ h → (h : Int) ≤ runU f landed m k n u → sumFr f k (h - k + 1) ≤ n
  | 0, k, n, u, h, _, hu, _, hk, hr => by rw [runU] at hr; omega
  | m + 1, k, n, u, h, hl, hu, hn, hk, hr => by
    rw [runU, if_neg (by omega)] at hr
    by_cases h1 : n - f k < 0
    · rw [if_pos h1] at hr; omega
    · rw [if_neg h1] at hr
      by_cases e : h = k
      · subst e
        rw [Nat.sub_self]; simp [sumFr]; omega
      · have ih := runU_keeps m (k + 1) (n - f k) k h (by omega) (by omega) (by omega) (by omega) hr
        rw [show h - k + 1 = (h - (k + 1) + 1) + 1 by omega, sumFr_succ]
        omega
theorem until_keeps {d : Day} (hd : DayOk d) (f : Spn → Int) {l : Lot} (hl : lotOk d.hours l = true) {h : Nat} (h1 : l.landed ≤ h) (h2 : (h : Int) ≤ untilF d f l) : sumFr (fun k => f (d.heat.getD k ⟨0, 0⟩)) l.landed.toNat (h - l.landed.toNat + 1) ≤ l.keep := by
  have lo := lotOk_iff hl
  have hh := hd.hours
  unfold untilF at h2
  rw [show d.hours.toNat = l.landed.toNat + (d.hours.toNat - l.landed.toNat) by omega, runU_skip _ _ 0 (by omega), Nat.zero_add] at h2
  exact runU_keeps _ _ _ _ h (by omega) (by omega) (by omega) (by omega) h2
theorem sumFr_le {f g : Nat → Int} (h : ∀ k, f k ≤ g k) (a : Nat) : ∀ n, sumFr f a n ≤ sumFr g a n
  | 0 => Int.le_refl _
  | n + 1 => by have := sumFr_le h a n; have := h (a + n); simp only [sumFr]; omega
end Go.Proofs.Ytimikmfkdaoaaaa
namespace Go.Proofs.Ytimikmfkdaoaaaa
open Go Go.AL
theorem plans_same (d : Day) (b : Bool) (pl : List Task) (hs : Small d) (hw : (pl.length : Int) ≤ 9223372036854775807) : ∃ x i e, Ans Try.prog 21 [.agg d.c, .sl b .any (pl.map Task.c)] (.tup [.int x, .bool i, .int e]) ∧ Ans Try.prog 22 [.agg d.c, .sl b .any (pl.map Task.c)] (.tup [.int x, .bool i, .int e]) := by
  have h1 := isPlan_t d b pl hs hw
  have h2 := rIsPlan_t d b pl hs hw
  unfold isPlanR at h1
  unfold rPlanR at h2
  by_cases hok : d.ok = true
  · rw [if_pos hok] at h1 h2
    rw [plan_is (.of hok)] at h1
    cases e : rPlanV d pl with
    | none => rw [e] at h1 h2; exact ⟨_, _, _, h1, h2⟩
    | some n => rw [e] at h1 h2; exact ⟨_, _, _, h1, h2⟩
  · rw [if_neg hok] at h1 h2
    exact ⟨_, _, _, h1, h2⟩
theorem best_lost (d : Day) (hs : Small d) : ∃ P n e, Ans Try.prog 23 [.agg d.c] (.tup [planA P, .int n, .int e]) ∧ Ans Try.prog 24 [.agg d.c] (.tup [.int n, .int e]) ∧
    ((d.ok = true ∧ e = 0 ∧ P = planF d ∧ n = lostE d Spn.hi) ∨ (d.ok = false ∧ e = 50 ∧ P = [] ∧ n = 0)) := by
  have h1 := best_t d hs
  have h2 := rLost_t d hs
  unfold bestR at h1
  unfold rLostR at h2
  by_cases hok : d.ok = true
  · rw [if_pos hok] at h1 h2
    rw [← lost_gre (.of hok)] at h2
    exact ⟨_, _, _, h1, h2, .inl ⟨hok, rfl, rfl, rfl⟩⟩
  · rw [if_neg hok] at h1 h2
    exact ⟨_, _, _, h1, h2, .inr ⟨by simpa using hok, rfl, rfl, rfl⟩⟩
theorem planA_free (l : List Task) : Free (planA l) := free_map Task.free _ _ _
set_option maxHeartbeats 1000000 in
theorem law_plans (d : Day) (b : Bool) (pl : List Task) (hs : Small d) (hw : (pl.length : Int) ≤ 9223372036854775807) : Ans Try.prog 4 [.agg d.c, .sl b .any (pl.map Task.c)] (.bool true) := by
  obtain ⟨x, i, e, h1, h2⟩ := plans_same d b pl hs hw
  obtain ⟨P, n, e2, h3, h4, hc⟩ := best_lost d hs
  refine told Try.func4 rfl rfl (Pure.of tab_ok Try.func4 rfl Try.ntmps4 rfl (allC (.agg _ d.free) (all1 (free_map Task.free _ _ _))) (allC (fun _ => rfl) (all1 (fun _ => rfl))) (by first | exact .s _ | assumption | exact .tup _ (by intro x hx; simp only [List.mem_cons, List.not_mem_nil, or_false] at hx; rcases hx with rfl | rfl | rfl | rfl <;> first | exact .s _ | (simp_all; done))) fun E hE => ?_)
  refine Aw.sm tab_ok mb0 [] rfl rfl ?zo ?zk
  case zo =>
    repeat' apply AllP.cons
    all_goals first | exact trivial
  case zk =>
  refine Aw.sm tab_ok mb0 [(2, [.tup [.int x, .bool i, .int e]])] rfl rfl ?zo ?zk
  case zo =>
    repeat' apply AllP.cons
    all_goals first | exact trivial | exact Nat.le_of_ble_eq_true rfl | exact h1
  case zk =>
  refine Aw.sm tab_ok mb0 [(2, [.tup [.int x, .bool i, .int e]])] rfl rfl ?zo ?zk
  case zo =>
    repeat' apply AllP.cons
    all_goals first | exact trivial | exact Nat.le_of_ble_eq_true rfl | exact h2
  case zk =>
  refine Aw.seq ?_
  refine Aw.sm tab_ok mb0 [] rfl rfl ?zo ?zk
  case zo =>
    repeat' apply AllP.cons
    all_goals first | exact trivial | exact id | exact fun _ => rfl | exact gq_f
  case zk =>
  refine Aw.cond rfl (fun h => absurd (show cond (cond (!(x == x)) true (i != i)) true (!(e == e)) = true from h) (by simp)) (fun _ => Aw.skip ?_)
  refine Aw.sm tab_ok mb0 [(1, [.tup [planA P, .int n, .int e2]])] rfl rfl ?zo ?zk
  case zo =>
    repeat' apply AllP.cons
    all_goals first | exact trivial | exact Nat.le_of_ble_eq_true rfl | exact h3
  case zk =>
  refine Aw.sm tab_ok mb0 [(1, [.tup [.int n, .int e2]])] rfl rfl ?zo ?zk
  case zo =>
    repeat' apply AllP.cons
    all_goals first | exact trivial | exact Nat.le_of_ble_eq_true rfl | exact h4
  case zk =>
  refine Aw.seq ?_
  refine Aw.sm tab_ok mb0 [] rfl rfl ?zo ?zk
  case zo =>
    repeat' apply AllP.cons
    all_goals first | exact trivial | exact id | exact fun _ => rfl | exact gq_f
  case zk =>
  refine Aw.cond rfl (fun h => absurd (show cond (!(n == n)) true (!(e2 == e2)) = true from h) (by simp)) (fun _ => Aw.skip ?_)
  refine Aw.seq ?_
  refine Aw.sm tab_ok mb0 [] rfl rfl ?zo ?zk
  case zo =>
    repeat' apply AllP.cons
    all_goals first | exact trivial
  case zk =>
  rcases hc with ⟨hok, rfl, rfl, rfl⟩ | ⟨hno, rfl, rfl, rfl⟩
  · refine Aw.cond rfl (fun h => by cases h) (fun _ => Aw.skip ?_)
    have hb : rPlanR d (planF d) = [.int (lostE d Spn.hi), .bool true, .int 0] := by simp only [rPlanR, hok, best_is (.of hok)]; rfl
    have h5 := rIsPlan_t d (planF d).isEmpty (planF d) hs (by have := best_len (.of hok); omega)
    rw [hb] at h5
    refine Aw.sm tab_ok mb0 [(2, [.tup [.int (lostE d Spn.hi), .bool true, .int 0]])] rfl rfl ?zo ?zk
    case zo =>
      repeat' apply AllP.cons
      all_goals first | exact trivial | exact Nat.le_of_ble_eq_true rfl | exact le2 h5 (.refl _) (.any _ _ _)
    case zk =>
    refine Aw.sm tab_ok mb0 [(7, [.bool true])] rfl rfl ?zo ?zk
    case zo =>
      repeat' apply AllP.cons
      all_goals first | exact trivial | exact id | exact fun _ => rfl | exact fun _ => works_t
    case zk =>
    refine Aw.ret ⟨_, .cons (.tmp _) .nil, ?_⟩
    show A.bool (cond (cond true (lostE d Spn.hi == lostE d Spn.hi) false) true false) = .bool true
    simp
  · refine Aw.cond rfl (fun _ => ?_) (fun h => by cases h)
    refine Aw.sm tab_ok mb0 [(4, [.bool true])] rfl rfl ?zo ?zk
    case zo =>
      repeat' apply AllP.cons
      all_goals first | exact trivial | exact id | exact fun _ => rfl | exact fun _ => works_t
    case zk =>
    exact Aw.ret ⟨_, .cons (.tmp _) .nil, rfl⟩
end Go.Proofs.Ytimikmfkdaoaaaa
namespace Go.Proofs.Ytimikmfkdaoaaaa
open Go Go.AL
theorem best_can {d : Day} (hd : DayOk d) {t : Task} (ht : t ∈ planF d) : Good d t ∧ 1 ≤ t.crans ∧ t.crans ≤ 20 ∧ tCan d t = true := by
  obtain ⟨i, p, h⟩ := best_mem hd ht
  obtain ⟨h1, hg, _⟩ := h.good hd (plan_inv hd Spn.hi).ok
  have h2 := best_pos hd t ht
  refine ⟨hg, h2.1, h2.2, ?_⟩
  unfold rBad at h1
  cases e : tCan d t with
  | true => rfl
  | false => rw [e] at h1; cases e2 : rBad4 d t <;> rw [e2] at h1 <;> cases h1
theorem best_keeps {d : Day} (hd : DayOk d) {t : Task} (ht : t ∈ planF d) (bits : List Int) : (tLot d t).landed ≤ t.hour ∧ sumFr (warm d bits) (tLot d t).landed.toNat (t.hour.toNat - (tLot d t).landed.toNat + 1) ≤ (tLot d t).keep := by
  obtain ⟨hg, _, _, hc⟩ := best_can hd ht
  have g1 := tLot_get hg.1
  have hl := hd.lots _ (List.mem_of_getElem? g1.2.2)
  have lo := lotOk_iff hl
  have h3 := wi_iff.1 (ac2 hc)
  have h4 := wi_iff.1 hg.2.2
  refine ⟨h3.1, Int.le_trans (sumFr_le (fun k => (warm_in hd bits k).2.1) _ _) ?_⟩
  exact until_keeps hd Spn.hi hl (h := t.hour.toNat) (by omega) (by rw [Int.toNat_of_nonneg h4.1]; exact h3.2)
set_option maxHeartbeats 4000000 in
theorem law_fresh (d : Day) (b : Bool) (bits : List Int) (hs : Small d) (hw : (bits.length : Int) ≤ 9223372036854775807) : Ans Try.prog 7 [.agg d.c, .sl b .any (ints bits)] (.bool true) := by
  obtain ⟨P, n, e2, h3, _, hc⟩ := best_lost d hs
  refine told Try.func7 rfl rfl (Pure.of tab_ok Try.func7 rfl Try.ntmps7 rfl (allC (.agg _ d.free) (all1 (free_ints _ _ _))) (allC (fun _ => rfl) (all1 (fun _ => rfl))) (by first | exact .s _ | assumption | exact .tup _ (by intro x hx; simp only [List.mem_cons, List.not_mem_nil, or_false] at hx; rcases hx with rfl | rfl | rfl | rfl <;> first | exact .s _ | (simp_all; done))) fun E hE => ?_)
  have udc : Under 0 (A.pt d.c) := (Free.pt _ d.free).under
  refine Aw.sm tab_ok mb0 [] rfl rfl ?zo ?zk
  case zo =>
    repeat' apply AllP.cons
    all_goals first | exact trivial
  case zk =>
  refine Aw.sm tab_ok mb0 [(1, [.tup [planA P, .int n, .int e2]])] rfl rfl ?zo ?zk
  case zo =>
    repeat' apply AllP.cons
    all_goals first | exact trivial | exact Nat.le_of_ble_eq_true rfl | exact h3
  case zk =>
  refine Aw.seq ?_
  refine Aw.sm tab_ok mb0 [(4, [.bool d.ok])] rfl rfl ?zo ?zk
  case zo =>
    repeat' apply AllP.cons
    all_goals first | exact trivial | exact id | exact fun _ => rfl | exact fun _ => Nat.le_of_ble_eq_true rfl | exact fun _ => sound_t d hs | exact gq_f
  case zk =>
  rcases hc with ⟨hok, rfl, rfl, rfl⟩ | ⟨hno, rfl, rfl, rfl⟩
  case inr =>
    refine Aw.cond rfl (fun _ => ?_) (fun h => by cases h)
    refine Aw.sm tab_ok mb0 [(12, [.bool true])] rfl rfl ?zo ?zk
    case zo =>
      repeat' apply AllP.cons
      all_goals first | exact trivial | exact id | exact fun _ => rfl | exact fun _ => works_t
    case zk =>
    exact Aw.ret ⟨_, .cons (.tmp _) .nil, rfl⟩
  have hd := DayOk.of hok
  have hh := hd.hours
  have hht := hd.heat
  have nl := hd.nl
  have nw := hd.nw
  have ll : ((d.lots.map Lot.c).length : Int) = d.lots.length := by simp
  have lw : ((d.wks.map Wk.c).length : Int) = d.wks.length := by simp
  have lpl : (((planF d).map Task.c).length : Int) = (planF d).length := by simp
  have hbl := best_len hd
  refine Aw.cond rfl (fun h => by rw [hok] at h; cases h) (fun _ => Aw.skip ?_)
  refine Aw.sm tab_ok mb0 [(2, [outW (warmL d bits d.heat.length)])] rfl rfl ?zo ?zk
  case zo =>
    repeat' apply AllP.cons
    all_goals first | exact trivial | exact Nat.le_of_ble_eq_true rfl | exact warmed_w d b bits hd hw
  case zk =>
  refine Aw.seq ?_
  refine Aw.sm tab_ok mb0 [] rfl rfl ?zo ?zk
  case zo =>
    repeat' apply AllP.cons
    all_goals first | exact trivial
  case zk =>
  refine Aw.block (Aw.rounds 0 hE [(2, .pt d.c), (5, planA (planF d)), (8, outW (warmL d bits d.heat.length))] (fun i : Nat => [(9, .int i)]) (fun _ => []) (fun i => i ≤ (planF d).length) (fun i => (planF d).length - i) 0
    (Nat.zero_le _) ⟨⟨.refl _, .refl _, .refl _, trivial⟩, ⟨.refl _, trivial⟩, trivial, Nat.zero_le _⟩ ⟨udc, (planA_free _).under, (outW_free _).under, trivial⟩ (fun _ _ => ⟨.s _, trivial⟩) (fun _ _ => trivial) fun i hi => ?_)
  refine Aw.seq ?_
  refine Aw.sm tab_ok mb0 [] rfl rfl ?zo ?zk
  case zo =>
    repeat' apply AllP.cons
    all_goals first | exact trivial
  case zk =>
  refine Aw.cond rfl (fun h1 => Aw.skip ?_) (fun h1 => ?_)
  · have hlt : i < (planF d).length := by have := of_decide_eq_true h1; omega
    have hmem := List.getElem_mem hlt
    have hget := get_map (f := Task.c) hlt
    generalize (planF d)[i] = t at *
    obtain ⟨hg, hc1, hc2, hcan⟩ := best_can hd hmem
    have hkeep := best_keeps hd hmem bits
    have g1 := tLot_get hg.1
    have g2 := tWk_get hg.2.1
    have g3 := wi_iff.1 hg.2.2
    have hlg : (d.lots.map Lot.c)[t.lot.toNat]? = some (tLot d t).c := by rw [List.getElem?_map, g1.2.2]; rfl
    have hwg : (d.wks.map Wk.c)[t.worker.toNat]? = some (tWk d t).c := by rw [List.getElem?_map, g2.2.2]; rfl
    have hlo := lotOk_iff (hd.lots _ (List.mem_of_getElem? g1.2.2))
    have hwo := wkOk_iff (hd.wks _ (List.mem_of_getElem? g2.2.2))
    have hb1 := ac1 (ac1 hcan)
    have hb2 := ac2 (ac1 hcan)
    generalize tLot d t = l at *
    generalize tWk d t = w at *
    refine Aw.seq (Aw.block ?_)
    refine Aw.sm tab_ok mb0 [(2, t.c)] rfl rfl ?zo ?zk
    case zo =>
      repeat' apply AllP.cons
      all_goals first | exact trivial | exact rfl | exact Nat.le_of_ble_eq_true rfl | exact Int.natCast_nonneg _ | exact hget
    case zk =>
    refine Aw.seq ?_
    refine Aw.sm tab_ok mb0 [(6, [.bool (lotIn d t)]), (15, [.bool (wkIn d t)]), (24, [.bool (hourIn d t)])] rfl rfl ?zo ?zk
    case zo =>
      repeat' apply AllP.cons
      all_goals first | exact trivial | exact id | exact fun _ => rfl | exact Nat.le_of_ble_eq_true rfl | exact fun _ => Nat.le_of_ble_eq_true rfl | exact in_t _ _ _ | exact (in_t _ _ _).un | exact (by simp only [Ob.of, inR]; omega) | exact gq_f
    case zk =>
    refine Aw.cond rfl (fun h2 => ?_) (fun h2 => Aw.skip ?_)
    · have h2 : cond (cond (cond (!lotIn d t) true (!wkIn d t)) true (!hourIn d t)) true (decide (t.crans < 1)) = true := h2
      rw [hg.1, hg.2.1, hg.2.2, decide_eq_false (by omega)] at h2
      cases h2
    refine Aw.sd tab_ok mixed mb0 [(4, l.c), (10, w.c)] rfl (by kernel_rfl) rfl rfl ?zo ?zk
    case zo =>
      repeat' apply AllP.cons
      all_goals first | exact trivial | exact rfl | exact Nat.le_of_ble_eq_true rfl | exact hlg | exact hwg | exact g1.1 | exact g2.1
    case zk =>
    refine Aw.sm tab_ok mb0 [] rfl rfl ?zo ?zk
    case zo =>
      repeat' apply AllP.cons
      all_goals first | exact trivial
    case zk =>
    refine Aw.seq ?_
    refine Aw.sm tab_ok mb0 [] rfl rfl ?zo ?zk
    case zo =>
      repeat' apply AllP.cons
      all_goals first | exact trivial | exact Nat.le_of_ble_eq_true rfl
    case zk =>
    have h15 : ∀ id, 15 ≤ id → E.φ0 id = none := fun id h => hE id (by omega)
    have HU : UnderH 15 [(0, .cells t.c), (13, .cells l.c), (14, .cells w.c)] := ⟨⟨by decide, .cells _ fun x hx => (t.free x hx).under⟩, ⟨by decide, .cells _ fun x hx => (l.free x hx).under⟩, ⟨by decide, .cells _ fun x hx => (w.free x hx).under⟩, trivial⟩
    have hla : l.landed = ((l.landed.toNat : Nat) : Int) := (Int.toNat_of_nonneg hlo.2.1.1).symm
    have hho : t.hour = ((t.hour.toNat : Nat) : Int) := (Int.toNat_of_nonneg g3.1).symm
    generalize l.landed.toNat = a at *
    have hwm : ∀ j, 0 ≤ sumFr (warm d bits) a j ∧ sumFr (warm d bits) a j ≤ 100 * j := fun j => by
      induction j with
      | zero => simp [sumFr]
      | succ j ih =>
        have := warm_in hd bits (a + j)
        rw [sumFr]; push_cast; omega
    refine Aw.block (Aw.rounds 15 h15 [(2, .pt d.c), (5, planA (planF d)), (8, outW (warmL d bits d.heat.length)), (9, .int i), (10, .ref 0 0), (11, .ref 13 0), (12, .ref 14 0)] (fun j : Nat => [(13, .int (sumFr (warm d bits) a j)), (14, .int ((a + j : Nat) : Int))]) (fun _ => [(0, .cells t.c), (13, .cells l.c), (14, .cells w.c)])
      (fun j => a + j ≤ t.hour.toNat + 1) (fun j => t.hour.toNat + 1 - (a + j)) 0
      (by omega) ⟨⟨.refl _, .refl _, .refl _, .refl _, .refl _, .refl _, .refl _, trivial⟩, ⟨.refl _, .of_eq (show A.int ((a + 0 : Nat) : Int) = .int l.landed by rw [hla]; rfl), trivial⟩, ⟨rfl, rfl, rfl, trivial⟩, Nat.le_of_ble_eq_true rfl⟩
      ⟨(Free.pt _ d.free).under, (planA_free _).under, (outW_free _).under, .s _, .ref _ _ (by decide), .ref _ _ (by decide), .ref _ _ (by decide), trivial⟩ (fun _ _ => ⟨.s _, .s _, trivial⟩) (fun _ _ => HU) fun j hj => ?_)
    refine Aw.seq ?_
    refine Aw.sm tab_ok mb0 [] rfl rfl ?zo ?zk
    case zo =>
      repeat' apply AllP.cons
      all_goals first | exact trivial | exact Nat.le_of_ble_eq_true rfl
    case zk =>
    refine Aw.cond rfl (fun h4 => Aw.skip ?_) (fun h4 => ?_)
    · have hlt2 : a + j ≤ t.hour.toNat := by have := of_decide_eq_true h4; omega
      have hlt3 : a + j < d.heat.length := by omega
      have hwg2 : (ints (warmL d bits d.heat.length))[(((a + j : Nat) : Int)).toNat]? = some [.int (warm d bits (a + j))] := by
        rw [Int.toNat_natCast, ints_get (by rw [warmL_len]; exact hlt3)]
        simp [warmL]
      have s1 := hwm j
      have s2 := hwm (j + 1)
      have s3 : sumFr (warm d bits) a (j + 1) = sumFr (warm d bits) a j + warm d bits (a + j) := rfl
      refine Aw.seq (Aw.block ?_)
      refine Aw.em tab_ok mb0 [(3, [.int (warm d bits (a + j))])] rfl rfl ?zo ?zk
      case zo =>
        repeat' apply AllP.cons
        all_goals first | exact trivial | exact rfl | exact Nat.le_of_ble_eq_true rfl | exact Int.natCast_nonneg _ | exact hwg2 | exact (show inR (sumFr (warm d bits) a j + warm d bits (a + j)) by rw [← s3]; simp only [inR]; omega)
      case zk =>
      refine Aw.em tab_ok mb0 [] rfl rfl ?zo ?zk
      case zo =>
        repeat' apply AllP.cons
        all_goals first | exact trivial | exact (by simp only [Ob.of, inR]; omega)
      case zk =>
      exact ⟨j + 1, by omega, by omega, ⟨.refl _, .refl _, .refl _, .refl _, .refl _, .refl _, .refl _, trivial⟩, ⟨.of_eq (congrArg A.int s3), .of_eq (show A.int ((a + (j + 1) : Nat) : Int) = A.int (((a + j : Nat) : Int) + 1) from congrArg A.int (by omega)), trivial⟩, ⟨rfl, rfl, rfl, trivial⟩, Nat.le_of_ble_eq_true rfl⟩
    · have hend : a + j = t.hour.toNat + 1 := by have := of_decide_eq_false h4; omega
      have hj2 : j = t.hour.toNat - a + 1 := by omega
      subst hj2
      refine Aw.exit2 ?_
      refine Aw.sm tab_ok mb0 [(16, [.bool (iand (l.fit.fdiv (2 ^ (min w.kind.toNat 64))) 1 == 1)]), (26, [.bool (wi t.hour w.fr w.to)])] rfl rfl ?zo ?zk
      case zo =>
        repeat' apply AllP.cons
        all_goals first | exact trivial | exact id | exact fun _ => rfl | exact Nat.le_of_ble_eq_true rfl | exact fun _ => Nat.le_of_ble_eq_true rfl | exact (in_t _ _ _).un | exact fun _ => bit_t _ _ hwo.1.1 | exact gq_f
      case zk =>
      refine Aw.cond rfl (fun h5 => ?_) (fun h5 => Aw.skip ?_)
      · have h5 : cond (cond (cond (decide (t.hour < l.landed)) true (decide (sumFr (warm d bits) a (t.hour.toNat - a + 1) > l.keep))) true (!(iand (l.fit.fdiv (2 ^ (min w.kind.toNat 64))) 1 == 1))) true (!(wi t.hour w.fr w.to)) = true := h5
        rw [hb1, hb2, decide_eq_false (by omega), decide_eq_false (by omega)] at h5
        cases h5
      refine Aw.em tab_ok mb0 [] rfl rfl ?zo ?zk
      case zo =>
        repeat' apply AllP.cons
        all_goals first | exact trivial | exact (by simp only [Ob.of, inR]; omega)
      case zk =>
      exact ⟨i + 1, hlt, by omega, ⟨.refl _, .refl _, .refl _, trivial⟩, ⟨.refl _, trivial⟩, trivial, Nat.zero_le _⟩
  · refine Aw.exit2 ?_
    refine Aw.sm tab_ok mb0 [(0, [.bool true])] rfl rfl ?zo ?zk
    case zo =>
      repeat' apply AllP.cons
      all_goals first | exact trivial | exact works_t
    case zk =>
    exact Aw.ret ⟨_, .cons (.tmp _) .nil, rfl⟩
end Go.Proofs.Ytimikmfkdaoaaaa
namespace Go.Proofs.Ytimikmfkdaoaaaa
open Go Go.AL
structure QInv (d : Day) (pre : List Task) (tk bk : List Int) : Prop where
  len : tk.length = d.lots.length
  len2 : bk.length = d.wks.length * d.hours.toNat
  of : ∀ t, Good d t → tk.getD t.lot.toNat 0 = ofL pre t
  by' : ∀ t, Good d t → bk.getD (slotP d t) 0 = byL pre t
theorem slotP_lt {d : Day} {t : Task} (ht : Good d t) : slotP d t < d.wks.length * d.hours.toNat := by
  have g2 := tWk_get ht.2.1
  have g3 := wi_iff.1 ht.2.2
  have : (t.worker.toNat + 1) * d.hours.toNat ≤ d.wks.length * d.hours.toNat := Nat.mul_le_mul_right _ g2.2.1
  rw [Nat.succ_mul] at this
  unfold slotP; omega
theorem QInv.next {d : Day} {pre : List Task} {tk bk : List Int} (h : QInv d pre tk bk) {t : Task} (ht : Good d t) :
    QInv d (pre ++ [t]) (tk.set t.lot.toNat (tk.getD t.lot.toNat 0 + t.crans)) (bk.set (slotP d t) (bk.getD (slotP d t) 0 + t.crans)) := by
  have hlt : t.lot.toNat < tk.length := by rw [h.len]; exact (tLot_get ht.1).2.1
  have hlt2 : slotP d t < bk.length := by rw [h.len2]; exact slotP_lt ht
  refine ⟨by rw [List.length_set]; exact h.len, by rw [List.length_set]; exact h.len2, fun x hx => ?_, fun x hx => ?_⟩
  · rw [getD_set' _ _ _ _ hlt]
    have e : ofL (pre ++ [t]) x = ofL pre x + ofT x t := by unfold ofL; rw [List.map_append, List.sum_append]; simp
    rw [e, ← h.of x hx]
    have := (tLot_get ht.1).1
    have := (tLot_get hx.1).1
    unfold ofT
    by_cases e1 : t.lot = x.lot
    · rw [if_pos (by rw [e1]), if_pos (by simp [e1]), e1]
    · rw [if_neg (by omega), if_neg (by simp [e1])]; omega
  · rw [getD_set' _ _ _ _ hlt2]
    have e : byL (pre ++ [t]) x = byL pre x + byT' x t := by unfold byL; rw [List.map_append, List.sum_append]; simp
    rw [e, ← h.by' x hx]
    have hi := slotP_inj ht hx
    unfold byT'
    by_cases e1 : slotP d t = slotP d x
    · rw [if_pos e1, if_pos (by simp [hi.1 e1]), e1]
    · rw [if_neg e1]
      have : cond (t.worker == x.worker) (t.hour == x.hour) false = false := by
        cases e2 : cond (t.worker == x.worker) (t.hour == x.hour) false with
        | false => rfl
        | true => rw [c_and, Bool.and_eq_true, beq_iff_eq, beq_iff_eq] at e2; exact absurd (hi.2 e2) e1
      rw [this, if_neg (by decide)]; omega
theorem zeros_cells (n : Nat) : ((List.range (Int.toNat (n : Int) * 1)).map fun j => (tab.zr 3).getD (j % 1) .un).map A.down = (List.replicate n 0).map A.int := by
  rw [Int.toNat_natCast, Nat.mul_one, List.map_map, List.map_replicate]
  refine List.eq_replicate_iff.2 ⟨by simp, fun x hx => ?_⟩
  obtain ⟨j, _, rfl⟩ := List.mem_map.1 hx
  simp only [Function.comp, Nat.mod_one]; rfl
theorem ldl_of {tk : List Int} {k : Nat} (h : k < tk.length) : (List.getD (tk.map A.int) (0 + k * 1) .un).down = .int (tk.getD k 0) := by
  rw [Nat.mul_one, Nat.zero_add]
  simp [List.getD_eq_getElem?_getD, h, A.down]
theorem stl_of {tk : List Int} {k : Nat} (h : k < tk.length) (x : Int) : setSeg (tk.map A.int) (0 + k * 1) [A.int x] = (tk.set k x).map A.int := by
  rw [Nat.mul_one, Nat.zero_add, setSeg_set h]
theorem hofb0 {d : Day} {l : List Task} (t : Task) (h : ∀ x ∈ l, 0 ≤ x.crans ∧ x.crans ≤ 50) (hl : l.length ≤ 400) : (0 ≤ ofL l t ∧ ofL l t ≤ 20000) ∧ (0 ≤ byL l t ∧ byL l t ≤ 20000) :=
  ⟨sum_bd2 (fun x hx => by have := h x hx; unfold ofT; split <;> omega) hl, sum_bd2 (fun x hx => by have := h x hx; unfold byT'; split <;> omega) hl⟩
theorem isPlan_best {d : Day} (hs : Small d) (hok : d.ok = true) : Ans Try.prog 21 [.agg d.c, planA (planF d)] (.tup [.int (lostE d Spn.hi), .bool true, .int 0]) := by
  have hb : isPlanR d (planF d) = [.int (lostE d Spn.hi), .bool true, .int 0] := by simp only [isPlanR, hok, plan_is (.of hok), best_is (.of hok)]; rfl
  have h5 := isPlan_t d (planF d).isEmpty (planF d) hs (by have := best_len (.of hok); omega)
  rw [hb] at h5
  exact le2 h5 (.refl _) (.any _ _ _)
set_option maxHeartbeats 4000000 in
theorem law_counted (d : Day) (hs : Small d) : Ans Try.prog 8 [.agg d.c] (.bool true) := by
  obtain ⟨P, n, e2, h3, _, hc⟩ := best_lost d hs
  refine told Try.func8 rfl rfl (Pure.of tab_ok Try.func8 rfl Try.ntmps8 rfl (all1 (.agg _ d.free)) (all1 (fun _ => rfl)) (by first | exact .s _ | assumption | exact .tup _ (by intro x hx; simp only [List.mem_cons, List.not_mem_nil, or_false] at hx; rcases hx with rfl | rfl | rfl | rfl <;> first | exact .s _ | (simp_all; done))) fun E hE => ?_)
  have udc : Under 0 (A.pt d.c) := (Free.pt _ d.free).under
  refine Aw.sm tab_ok mb0 [] rfl rfl ?zo ?zk
  case zo =>
    repeat' apply AllP.cons
    all_goals first | exact trivial
  case zk =>
  refine Aw.sm tab_ok mb0 [(1, [.tup [planA P, .int n, .int e2]])] rfl rfl ?zo ?zk
  case zo =>
    repeat' apply AllP.cons
    all_goals first | exact trivial | exact Nat.le_of_ble_eq_true rfl | exact h3
  case zk =>
  refine Aw.seq ?_
  refine Aw.sm tab_ok mb0 [(4, [.bool d.ok])] rfl rfl ?zo ?zk
  case zo =>
    repeat' apply AllP.cons
    all_goals first | exact trivial | exact id | exact fun _ => rfl | exact fun _ => Nat.le_of_ble_eq_true rfl | exact fun _ => sound_t d hs | exact gq_f
  case zk =>
  rcases hc with ⟨hok, rfl, rfl, rfl⟩ | ⟨hno, rfl, rfl, rfl⟩
  case inr =>
    refine Aw.cond rfl (fun _ => ?_) (fun h => by cases h)
    refine Aw.sm tab_ok mb0 [(12, [.bool true])] rfl rfl ?zo ?zk
    case zo =>
      repeat' apply AllP.cons
      all_goals first | exact trivial | exact id | exact fun _ => rfl | exact fun _ => works_t
    case zk =>
    exact Aw.ret ⟨_, .cons (.tmp _) .nil, rfl⟩
  have hd := DayOk.of hok
  have hh := hd.hours
  have hht := hd.heat
  have nl := hd.nl
  have nw := hd.nw
  have ll : ((d.lots.map Lot.c).length : Int) = d.lots.length := by simp
  have lw : ((d.wks.map Wk.c).length : Int) = d.wks.length := by simp
  have lpl : (((planF d).map Task.c).length : Int) = (planF d).length := by simp
  have hbl := best_len hd
  refine Aw.cond rfl (fun h => by rw [hok] at h; cases h) (fun _ => Aw.skip ?_)
  have hP : ((d.wks.map Wk.c).length : Int) * d.hours = ((d.wks.length * d.hours.toNat : Nat) : Int) := by
    rw [lw]; push_cast; rw [Int.toNat_of_nonneg (by omega)]
  have hP2 : d.wks.length * d.hours.toNat ≤ 168 := Nat.mul_le_mul (show d.wks.length ≤ 7 from nw) (show d.hours.toNat ≤ 24 by omega)
  refine Aw.sm tab_ok mb0 [] rfl rfl ?zo ?zk
  case zo =>
    repeat' apply AllP.cons
    all_goals first | exact trivial | exact rfl | exact Nat.le_of_ble_eq_true rfl | exact Int.natCast_nonneg _ | exact (by simp only [Ob.of]; rw [ll]; unfold maxLen; omega) | exact (show ((8 : Nat) : Int) * ((d.lots.map Lot.c).length : Int) ≤ 140737488355328 by rw [ll]; omega)
  case zk =>
  refine Aw.sm tab_ok mb0 [] rfl rfl ?zo ?zk
  case zo =>
    repeat' apply AllP.cons
    all_goals first | exact trivial | exact rfl | exact Nat.le_of_ble_eq_true rfl | exact (show inR (((d.wks.map Wk.c).length : Int) * d.hours) by rw [hP]; simp only [inR]; omega) | exact (show (0 : Int) ≤ ((d.wks.map Wk.c).length : Int) * d.hours by rw [hP]; omega) | exact (show ((d.wks.map Wk.c).length : Int) * d.hours ≤ maxLen by rw [hP]; unfold maxLen; omega) | exact (show ((8 : Nat) : Int) * (((d.wks.map Wk.c).length : Int) * d.hours) ≤ 140737488355328 by rw [hP]; omega)
  case zk =>
  refine Aw.sm tab_ok mb0 [] rfl rfl ?zo ?zk
  case zo =>
    repeat' apply AllP.cons
    all_goals first | exact trivial
  case zk =>
  refine Aw.seq ?_
  refine Aw.sm tab_ok mb0 [] rfl rfl ?zo ?zk
  case zo =>
    repeat' apply AllP.cons
    all_goals first | exact trivial
  case zk =>
  refine Aw.cond rfl (fun h => by have := of_decide_eq_true (show decide ((((planF d).map Task.c).length : Int) > 400) = true from h); omega) (fun _ => Aw.skip ?_)
  refine Aw.seq ?_
  refine Aw.sm tab_ok mb0 [] rfl rfl ?zo ?zk
  case zo =>
    repeat' apply AllP.cons
    all_goals first | exact trivial
  case zk =>
  have h2E : ∀ id, 2 ≤ id → E.φ0 id = none := fun id h => hE id (by omega)
  have uints : ∀ (n : Nat) (x : List Int), UnderB n (.cells (x.map A.int)) := fun n x => .cells _ fun y hy => by obtain ⟨v, _, rfl⟩ := List.mem_map.1 hy; exact .s _
  have HU : ∀ (m : Nat) (tk bk : List Int), 2 ≤ m → UnderH m [(0, .cells (tk.map A.int)), (1, .cells (bk.map A.int))] := fun m tk bk h => ⟨⟨by omega, uints _ _⟩, ⟨by omega, uints _ _⟩, trivial⟩
  have utc : ∀ (m : Nat) (t : Task), UnderB m (.cells t.c) := fun m t => .cells _ fun x hx => (t.free x hx).under
  refine Aw.block (Aw.rounds (ι := Nat × List Int × List Int) 2 h2E [(1, .pt d.c), (3, planA (planF d)), (4, .int (lostE d Spn.hi)), (6, .ms 0 0 d.lots.length), (7, .ms 1 0 (d.wks.length * d.hours.toNat))] (fun i => [(8, .int (crT ((planF d).take i.1))), (9, .int i.1)])
    (fun i => [(0, .cells (i.2.1.map A.int)), (1, .cells (i.2.2.map A.int))]) (fun i => i.1 ≤ (planF d).length ∧ QInv d ((planF d).take i.1) i.2.1 i.2.2) (fun i => (planF d).length - i.1) (0, List.replicate d.lots.length 0, List.replicate (d.wks.length * d.hours.toNat) 0)
    ⟨Nat.zero_le _, by simp, by simp, fun t _ => by rw [getD_rep]; rfl, fun t _ => by rw [getD_rep]; rfl⟩
    ⟨⟨.refl _, .refl _, .refl _, .of_eq (show A.ms 0 0 d.lots.length = .ms 0 0 (Int.toNat ((d.lots.map Lot.c).length : Int)) by rw [ll, Int.toNat_natCast]), .of_eq (show A.ms 1 0 (d.wks.length * d.hours.toNat) = .ms 1 0 (Int.toNat (((d.wks.map Wk.c).length : Int) * d.hours)) by rw [hP, Int.toNat_natCast]), trivial⟩, ⟨.refl _, .refl _, trivial⟩,
      ⟨congrArg (fun x => some (B.cells x)) (show ((List.range (Int.toNat ((d.lots.map Lot.c).length : Int) * 1)).map fun j => (tab.zr 3).getD (j % 1) .un).map A.down = _ by rw [ll]; exact zeros_cells _), congrArg (fun x => some (B.cells x)) (show ((List.range (Int.toNat (((d.wks.map Wk.c).length : Int) * d.hours) * 1)).map fun j => (tab.zr 3).getD (j % 1) .un).map A.down = _ by rw [hP]; exact zeros_cells _), trivial⟩, Nat.le_of_ble_eq_true rfl⟩
    ⟨(Free.pt _ d.free).under, (planA_free _).under, .s _, .ms _ _ _ (by decide), .ms _ _ _ (by decide), trivial⟩ (fun _ _ => ⟨.s _, .s _, trivial⟩) (fun _ _ => HU 2 _ _ (by decide)) ?_)
  rintro ⟨i, tk, bk⟩ ⟨hi, hq⟩
  simp only at hi hq
  refine Aw.seq ?_
  refine Aw.sm tab_ok mb0 [] rfl rfl ?zo ?zk
  case zo =>
    repeat' apply AllP.cons
    all_goals first | exact trivial
  case zk =>
  refine Aw.cond rfl (fun h1 => Aw.skip ?_) (fun h1 => ?_)
  · have hlt : i < (planF d).length := by have := of_decide_eq_true h1; omega
    have hmem := List.getElem_mem hlt
    have hget := get_map (f := Task.c) hlt
    have htk1 : (planF d).take (i + 1) = (planF d).take i ++ [(planF d)[i]] := List.take_succ_eq_append_getElem hlt
    have hcT : crT ((planF d).take (i + 1)) = crT ((planF d).take i) + (planF d)[i].crans := take_map_succ hlt _
    have hpos : ∀ x ∈ planF d, 0 ≤ x.crans ∧ x.crans ≤ 50 := fun x hx => by have := best_pos hd x hx; omega
    have hcb : 0 ≤ crT ((planF d).take i) ∧ crT ((planF d).take i) ≤ 20000 := sum_bd2 (g := Task.crans) (fun x hx => hpos x (List.mem_of_mem_take hx)) (by rw [List.length_take]; omega)
    generalize (planF d)[i] = t at *
    obtain ⟨hg, hc1, hc2, hcan⟩ := best_can hd hmem
    have hov := best_over hd hmem
    have hq2 := hq.next hg
    rw [← htk1] at hq2
    have o1 := sum_take_le (l := planF d) (g := ofT t) (fun x hx => by unfold ofT; split; exact (hpos x hx).1; exact Int.le_refl _) (i + 1)
    have o2 := sum_take_le (l := planF d) (g := byT' t) (fun x hx => by unfold byT'; split; exact (hpos x hx).1; exact Int.le_refl _) (i + 1)
    have o3 := hq2.of t hg
    have o4 := hq2.by' t hg
    have b1 := hofb0 (d := d) t (fun x hx => hpos x (List.mem_of_mem_take hx)) (show ((planF d).take i).length ≤ 400 by rw [List.length_take]; omega)
    rw [← hq.of t hg, ← hq.by' t hg] at b1
    have g1 := tLot_get hg.1
    have g2 := tWk_get hg.2.1
    have g3 := wi_iff.1 hg.2.2
    have hlg : (d.lots.map Lot.c)[t.lot.toNat]? = some (tLot d t).c := by rw [List.getElem?_map, g1.2.2]; rfl
    have hwg : (d.wks.map Wk.c)[t.worker.toNat]? = some (tWk d t).c := by rw [List.getElem?_map, g2.2.2]; rfl
    have k1 : t.lot.toNat < tk.length := by rw [hq.len]; exact g1.2.1
    have k2 : slotP d t < bk.length := by rw [hq.len2]; exact slotP_lt hg
    have hsp : t.worker * d.hours + t.hour = ((slotP d t : Nat) : Int) := by
      unfold slotP; push_cast
      rw [Int.toNat_of_nonneg g2.1, Int.toNat_of_nonneg (by omega), Int.toNat_of_nonneg g3.1]
    have hsl := slotP_lt hg
    have hwh : 0 ≤ t.worker * d.hours ∧ t.worker * d.hours ≤ 168 := by
      have : t.worker * d.hours = ((t.worker.toNat * d.hours.toNat : Nat) : Int) := by push_cast; rw [Int.toNat_of_nonneg g2.1, Int.toNat_of_nonneg (by omega)]
      have h5 : t.worker.toNat * d.hours.toNat ≤ slotP d t := by unfold slotP; omega
      omega
    have ofLe : (tk.set t.lot.toNat (tk.getD t.lot.toNat 0 + t.crans)).getD t.lot.toNat 0 = tk.getD t.lot.toNat 0 + t.crans := by rw [getD_set' _ _ _ _ k1, if_pos rfl]
    have byLe : (bk.set (slotP d t) (bk.getD (slotP d t) 0 + t.crans)).getD (slotP d t) 0 = bk.getD (slotP d t) 0 + t.crans := by rw [getD_set' _ _ _ _ k2, if_pos rfl]
    rw [ofLe] at o3
    rw [byLe] at o4
    have hlen := hq.len
    have hlen2 := hq.len2
    generalize crT ((planF d).take i) = cT at *
    generalize tLot d t = l at *
    generalize tWk d t = w at *
    generalize hx : tk.getD t.lot.toNat 0 + t.crans = x at *
    generalize hy : bk.getD (slotP d t) 0 + t.crans = y at *
    generalize hslp : slotP d t = sp at *
    refine Aw.seq (Aw.block ?_)
    refine Aw.sm tab_ok mb0 [(2, t.c)] rfl rfl ?zo ?zk
    case zo =>
      repeat' apply AllP.cons
      all_goals first | exact trivial | exact rfl | exact Nat.le_of_ble_eq_true rfl | exact Int.natCast_nonneg _ | exact hget
    case zk =>
    refine Aw.seq ?_
    refine Aw.sm tab_ok mb0 [(6, [.bool (lotIn d t)]), (15, [.bool (wkIn d t)]), (24, [.bool (hourIn d t)]), (30, [.bool (wi t.crans 1 50)])] rfl rfl ?zo ?zk
    case zo =>
      repeat' apply AllP.cons
      all_goals first | exact trivial | exact id | exact fun _ => rfl | exact Nat.le_of_ble_eq_true rfl | exact fun _ => Nat.le_of_ble_eq_true rfl | exact in_t _ _ _ | exact (in_t _ _ _).un | exact (by simp only [Ob.of, inR]; omega) | exact gq_f
    case zk =>
    refine Aw.cond rfl (fun h2 => ?_) (fun h2 => Aw.skip ?_)
    · have h2 : cond (cond (cond (!lotIn d t) true (!wkIn d t)) true (!hourIn d t)) true (!wi t.crans 1 50) = true := h2
      rw [hg.1, hg.2.1, hg.2.2, wi_iff.2 (show 1 ≤ t.crans ∧ t.crans ≤ 50 by omega)] at h2
      cases h2
    have e1 := stl_of k1 x
    have e2 := stl_of k2 y
    generalize htk2 : tk.set t.lot.toNat x = tk2 at *
    generalize hbk2 : bk.set sp y = bk2 at *
    have l2 : tk2.length = d.lots.length := hq2.len
    have l3 : bk2.length = d.wks.length * d.hours.toNat := hq2.len2
    have h3E : ∀ id, 3 ≤ id → E.φ0 id = none := fun id h => hE id (by omega)
    refine Aw.sd tab_ok mixed mb0 [(4, [.int (tk.getD t.lot.toNat 0)])] rfl (by kernel_rfl) rfl rfl ?zo ?zk
    case zo =>
      repeat' apply AllP.cons
      all_goals first | exact trivial | exact rfl | exact Nat.le_of_ble_eq_true rfl | exact ldl_of k1 | exact (show 0 + t.lot.toNat * 1 < (tk.map A.int).length by rw [List.length_map]; omega) | exact (show t.lot < (d.lots.length : Nat) by omega) | exact g1.1 | exact (show inR (tk.getD t.lot.toNat 0 + t.crans) by rw [hx]; simp only [inR]; omega)
    case zk =>
    refine Aw.keep (n := 3) (cst := [(1, .pt d.c), (3, planA (planF d)), (4, .int (lostE d Spn.hi)), (6, .ms 0 0 d.lots.length), (7, .ms 1 0 (d.wks.length * d.hours.toNat)), (8, .int cT), (9, .int i), (10, .ref 2 0)]) (v := []) (Hl := [(2, .cells t.c), (0, .cells (tk2.map A.int)), (1, .cells (bk.map A.int))]) h3E
      ⟨(Free.pt _ d.free).under, (planA_free _).under, .s _, .ms _ _ _ (by decide), .ms _ _ _ (by decide), .s _, .s _, .ref _ _ (by decide), trivial⟩ trivial ⟨⟨by decide, utc _ _⟩, ⟨by decide, uints _ _⟩, ⟨by decide, uints _ _⟩, trivial⟩
      ⟨⟨.refl _, .refl _, .refl _, .refl _, .refl _, .refl _, .refl _, .refl _, trivial⟩, trivial, ⟨rfl, congrArg (fun x => some (B.cells x)) (show setSeg (tk.map A.int) (0 + t.lot.toNat * 1) [A.int (tk.getD t.lot.toNat 0 + t.crans)] = _ by rw [hx]; exact e1), rfl, trivial⟩, Nat.le_of_ble_eq_true rfl⟩ ?_
    have q1 : (List.getD (bk.map A.int) (0 + (t.worker * d.hours + t.hour).toNat * 1) .un).down = .int (bk.getD sp 0) := by rw [hsp, Int.toNat_natCast]; exact ldl_of k2
    have q2 : 0 + (t.worker * d.hours + t.hour).toNat * 1 < (bk.map A.int).length := by rw [hsp, Int.toNat_natCast, List.length_map]; omega
    have q3 : t.worker * d.hours + t.hour < ((d.wks.length * d.hours.toNat : Nat) : Int) := by rw [hsp]; omega
    have q4 : 0 ≤ t.worker * d.hours + t.hour := by rw [hsp]; omega
    refine Aw.sd tab_ok mixed mb0 [(10, [.int (bk.getD sp 0)])] rfl (by kernel_rfl) rfl rfl ?zo ?zk
    case zo =>
      repeat' apply AllP.cons
      all_goals first | exact trivial | exact rfl | exact Nat.le_of_ble_eq_true rfl | exact q1 | exact q2 | exact q3 | exact q4 | exact (show inR (t.worker * d.hours) by simp only [inR]; omega) | exact (show inR (t.worker * d.hours + t.hour) by rw [hsp]; simp only [inR]; omega) | exact (show inR (bk.getD sp 0 + t.crans) by rw [hy]; simp only [inR]; omega)
    case zk =>
    refine Aw.keep (n := 3) (cst := [(1, .pt d.c), (3, planA (planF d)), (4, .int (lostE d Spn.hi)), (6, .ms 0 0 d.lots.length), (7, .ms 1 0 (d.wks.length * d.hours.toNat)), (8, .int cT), (9, .int i), (10, .ref 2 0)]) (v := []) (Hl := [(2, .cells t.c), (0, .cells (tk2.map A.int)), (1, .cells (bk2.map A.int))]) h3E
      ⟨(Free.pt _ d.free).under, (planA_free _).under, .s _, .ms _ _ _ (by decide), .ms _ _ _ (by decide), .s _, .s _, .ref _ _ (by decide), trivial⟩ trivial ⟨⟨by decide, utc _ _⟩, ⟨by decide, uints _ _⟩, ⟨by decide, uints _ _⟩, trivial⟩
      ⟨⟨.refl _, .refl _, .refl _, .refl _, .refl _, .refl _, .refl _, .refl _, trivial⟩, trivial, ⟨rfl, rfl, congrArg (fun x => some (B.cells x)) (show setSeg (bk.map A.int) (0 + (t.worker * d.hours + t.hour).toNat * 1) [A.int (bk.getD sp 0 + t.crans)] = _ by rw [hy, hsp, Int.toNat_natCast]; exact e2), trivial⟩, Nat.le_of_ble_eq_true rfl⟩ ?_
    refine Aw.sm tab_ok mb0 [] rfl rfl ?zo ?zk
    case zo =>
      repeat' apply AllP.cons
      all_goals first | exact trivial | exact Nat.le_of_ble_eq_true rfl | exact (by simp only [Ob.of, inR]; omega)
    case zk =>
    have r1 : (List.getD (tk2.map A.int) (0 + t.lot.toNat * 1) .un).down = .int x := by
      rw [ldl_of (by omega), ofLe]
    have r2 : 0 + t.lot.toNat * 1 < (tk2.map A.int).length := by rw [List.length_map]; omega
    have r3 : (List.getD (bk2.map A.int) (0 + (t.worker * d.hours + t.hour).toNat * 1) .un).down = .int y := by
      rw [hsp, Int.toNat_natCast, ldl_of (by omega), byLe]
    have r4 : 0 + (t.worker * d.hours + t.hour).toNat * 1 < (bk2.map A.int).length := by rw [hsp, Int.toNat_natCast, List.length_map]; omega
    refine Aw.sd tab_ok mixed mb0 [(4, [.int x]), (9, l.c), (24, [.int y]), (29, w.c)] rfl (by kernel_rfl) rfl rfl ?zo ?zk
    case zo =>
      repeat' apply AllP.cons
      all_goals first | exact trivial | exact id | exact rfl | exact fun _ => rfl | exact Nat.le_of_ble_eq_true rfl | exact fun _ => Nat.le_of_ble_eq_true rfl | exact r1 | exact r2 | exact fun _ => r3 | exact fun _ => r4 | exact (show t.lot < (d.lots.length : Nat) by omega) | exact g1.1 | exact hlg | exact fun _ => hwg | exact fun _ => g2.1 | exact fun _ => q3 | exact fun _ => q4 | exact gq_f | exact fun _ => (show inR (t.worker * d.hours) by simp only [inR]; omega) | exact fun _ => (show inR (t.worker * d.hours + t.hour) by rw [hsp]; simp only [inR]; omega)
    case zk =>
    refine Aw.cond rfl (fun h4 => ?_) (fun h4 => Aw.skip ?_)
    · have h4 : cond (decide (x > l.crans)) true (decide (y > w.rate)) = true := h4
      rw [decide_eq_false (show ¬ x > l.crans by unfold ofL at *; omega), decide_eq_false (show ¬ y > w.rate by unfold byL at *; omega)] at h4
      cases h4
    refine Aw.em tab_ok mb0 [] rfl rfl ?zo ?zk
    case zo =>
      repeat' apply AllP.cons
      all_goals first | exact trivial | exact (by simp only [Ob.of, inR]; omega)
    case zk =>
    exact ⟨(i + 1, tk2, bk2), ⟨hlt, hq2⟩, by show (planF d).length - (i + 1) < (planF d).length - i; omega, ⟨.refl _, .refl _, .refl _, .refl _, .refl _, trivial⟩, ⟨.of_eq (congrArg A.int hcT), .refl _, trivial⟩, ⟨rfl, rfl, trivial⟩, Nat.le_of_ble_eq_true rfl⟩
  · have hend : i = (planF d).length := by have := of_decide_eq_false h1; omega
    subst hend
    have hls := lost_sum hd
    have hcr := crans_bd hd d.lots.length
    unfold cransL at hcr
    rw [List.take_length] at hcr
    have hcr : 0 ≤ cransOf d ∧ cransOf d ≤ 400 := hcr
    rw [List.take_length]
    refine Aw.exit2 ?_
    refine Aw.sm tab_ok mb0 [(2, [.tup [.int (lostE d Spn.hi), .bool true, .int 0]])] rfl rfl ?zo ?zk
    case zo =>
      repeat' apply AllP.cons
      all_goals first | exact trivial | exact Nat.le_of_ble_eq_true rfl | exact isPlan_best hs hok
    case zk =>
    have hsum : crT (planF d) + lostE d Spn.hi = cransOf d := by omega
    refine Aw.sm tab_ok mb0 [(15, [.int (cransOf d)]), (19, [.bool true])] rfl rfl ?zo ?zk
    case zo =>
      repeat' apply AllP.cons
      all_goals first | exact trivial | exact id | exact fun _ => rfl | exact fun _ => Nat.le_of_ble_eq_true rfl | exact fun _ => works_t | exact fun _ => lcrans_t d hd | exact fun _ => (show inR (crT (planF d) + lostE d Spn.hi) by rw [hsum]; simp only [inR]; omega)
    case zk =>
    refine Aw.ret ⟨_, .cons (.tmp _) .nil, ?_⟩
    show A.bool (cond (cond (cond (cond ((0 : Int) == 0) true false) (lostE d Spn.hi == lostE d Spn.hi) false) (crT (planF d) + lostE d Spn.hi == cransOf d) false) true false) = .bool true
    rw [hsum]; simp
end Go.Proofs.Ytimikmfkdaoaaaa
