/- What the proof leans on, part 5: X2 R1 R2 G13 G14 G15 R3 W1 L1 X3 X5. -/
import Derived.Test.YtimikmfkdaoaaaaK4
import Derived.ProofKit
import Derived.Test.YtimikmfkdaoaaaaRows
set_option linter.all false
namespace Go.Proofs.Ytimikmfkdaoaaaa
open Go Go.AL
def fld (n : String) (t o b : Nat) : Field := ⟨n, t, o, false, "", "", b⟩
theorem u26 : Try.prog.underlying 26 = some (.struct #[fld "Hours" 3 0 0, fld "Heat" 22 1 8, fld "Lots" 23 2 32, fld "Workers" 24 3 56]) := by kernel_rfl
theorem u47 : Try.prog.underlying 47 = some (.struct #[fld "Low" 3 0 0, fld "High" 3 1 8]) := by kernel_rfl
theorem u59 : Try.prog.underlying 59 = some (.struct #[fld "Crans" 3 0 0, fld "Landed" 3 1 8, fld "Keep" 3 2 16, fld "Fit" 3 3 24]) := by kernel_rfl
theorem u61 : Try.prog.underlying 61 = some (.struct #[fld "Kind" 3 0 0, fld "From" 3 1 8, fld "To" 3 2 16, fld "Rate" 3 3 24]) := by kernel_rfl
theorem u56 : Try.prog.underlying 56 = some (.struct #[fld "Lot" 3 0 0, fld "Worker" 3 1 8, fld "Hour" 3 2 16, fld "Crans" 3 3 24]) := by kernel_rfl
theorem u3 : Try.prog.underlying 3 = some (.int .i64) := by kernel_rfl
theorem u22 : Try.prog.underlying 22 = some (.slice 47) := by kernel_rfl
theorem u23 : Try.prog.underlying 23 = some (.slice 59) := by kernel_rfl
theorem u24 : Try.prog.underlying 24 = some (.slice 61) := by kernel_rfl
theorem u33 : Try.prog.underlying 33 = some (.slice 56) := by kernel_rfl
theorem u41 : Try.prog.underlying 41 = some (.slice 3) := by kernel_rfl
theorem ct26 : Try.prog.cellTypes Try.prog.depth 26 = some [3, 22, 23, 24] := by kernel_rfl
theorem c3 : Try.prog.cellsOf 3 = 1 := by kernel_rfl
theorem c26 : Try.prog.cellsOf 26 = 4 := by kernel_rfl
theorem c47 : Try.prog.cellsOf 47 = 2 := by kernel_rfl
theorem c59 : Try.prog.cellsOf 59 = 4 := by kernel_rfl
theorem c61 : Try.prog.cellsOf 61 = 4 := by kernel_rfl
theorem c56 : Try.prog.cellsOf 56 = 4 := by kernel_rfl
section
variable {H : Type} {enc : TypeId × Value → H} {w : World} {base : Nat} {spare : Nat → Bool} {held : Bool}
theorem n3 : Nums enc Try.prog w base spare held 3 1 := nums1 u3
theorem four {a b c e : String} (i : Nat) (f : Field) (h : (#[fld a 3 0 0, fld b 3 1 8, fld c 3 2 16, fld e 3 3 24] : Array Field)[i]? = some f) : f.offset = i ∧ Try.prog.underlying f.type = some (.int .i64) ∧ Try.prog.cellsOf f.type = 1 := by
  rcases i with _ | _ | _ | _ | i <;> first | (have h := Option.some.inj h; subst h; exact ⟨rfl, u3, c3⟩) | (simp at h)
theorem n47 : Nums enc Try.prog w base spare held 47 2 := numsS (fs := #[fld "Low" 3 0 0, fld "High" 3 1 8]) u47 (fun i f h => by
  rcases i with _ | _ | i <;> first | (have h := Option.some.inj h; subst h; exact ⟨rfl, u3, c3⟩) | (simp at h)) c47
theorem n59 : Nums enc Try.prog w base spare held 59 4 := numsS u59 four c59
theorem n61 : Nums enc Try.prog w base spare held 61 4 := numsS u61 four c61
theorem n56 : Nums enc Try.prog w base spare held 56 4 := numsS u56 four c56
end
end Go.Proofs.Ytimikmfkdaoaaaa
namespace Go.Proofs.Ytimikmfkdaoaaaa
open Go Go.AL
theorem in_t (n a b : Int) : Ans Try.prog 36 [.int n, .int a, .int b] (.bool (wi n a b)) := by
  refine told Try.func36 rfl rfl (Pure.of tab_ok Try.func36 rfl Try.ntmps36 rfl (allC (.s _) (allC (.s _) (all1 (.s _)))) (allC (fun _ => rfl) (allC (fun _ => rfl) (all1 (fun _ => rfl)))) (by first | exact .s _ | assumption | exact .tup _ (by intro x hx; simp only [List.mem_cons, List.not_mem_nil, or_false] at hx; rcases hx with rfl | rfl | rfl | rfl <;> first | exact .s _ | (simp_all; done))) fun E hE => ?_)
  refine Aw.sm tab_ok mb0 [] rfl rfl ?zo ?zk
  case zo =>
    repeat' apply AllP.cons
    all_goals first | exact trivial
  case zk =>
  refine Aw.sm tab_ok mb0 [] rfl rfl ?zo ?zk
  case zo =>
    repeat' apply AllP.cons
    all_goals first | exact trivial | exact id | exact fun _ => rfl
  case zk =>
  exact Aw.ret ⟨_, .cons (.tmp _) .nil, rfl⟩
theorem spanned_t (s : Spn) (a b : Int) : Ans Try.prog 47 [.agg s.c, .int a, .int b] (.bool (cond (wi s.lo a b) (wi s.hi s.lo b) false)) := by
  refine told Try.func47 rfl rfl (Pure.of tab_ok Try.func47 rfl Try.ntmps47 rfl (allC (.agg _ s.free) (allC (.s _) (all1 (.s _)))) (allC (fun _ => rfl) (allC (fun _ => rfl) (all1 (fun _ => rfl)))) (by first | exact .s _ | assumption | exact .tup _ (by intro x hx; simp only [List.mem_cons, List.not_mem_nil, or_false] at hx; rcases hx with rfl | rfl | rfl | rfl <;> first | exact .s _ | (simp_all; done))) fun E hE => ?_)
  refine Aw.sm tab_ok mb0 [] rfl rfl ?zo ?zk
  case zo =>
    repeat' apply AllP.cons
    all_goals first | exact trivial
  case zk =>
  refine Aw.sm tab_ok mb0 [(4, [.bool (wi s.lo a b)]), (11, [.bool (wi s.hi s.lo b)])] rfl rfl ?zo ?zk
  case zo =>
    repeat' apply AllP.cons
    all_goals first | exact trivial | exact id | exact fun _ => rfl | exact Nat.le_of_ble_eq_true rfl | exact fun _ => Nat.le_of_ble_eq_true rfl | exact in_t _ _ _ | exact (in_t _ _ _).un
  case zk =>
  exact Aw.ret ⟨_, .cons (.tmp _) .nil, rfl⟩
theorem heat_in (s : Spn) : cond (wi s.lo 0 100) (wi s.hi s.lo 100) false = heatOk s := by
  rw [Bool.eq_iff_iff]
  simp only [c_and, Bool.and_eq_true, wi_iff, heatOk, decide_eq_true_eq]
  omega
theorem heat_t (s : Spn) : Ans Try.prog 47 [.agg s.c, .int 0, .int 100] (.bool (heatOk s)) := heat_in s ▸ spanned_t s 0 100
def workerIn (w : Wk) (h : Int) : Bool := cond (cond (cond (wi w.kind 0 2) (wi w.fr 0 (h - 1)) false) (wi w.to w.fr (h - 1)) false) (wi w.rate 0 20) false
theorem worker_in (w : Wk) (h : Int) : workerIn w h = isWorker w h := by
  rw [Bool.eq_iff_iff]
  simp only [workerIn, isWorker, c_and, Bool.and_eq_true, wi_iff]
  omega
theorem worker_t (w : Wk) (hours : Int) (hh : inR (hours - 1)) : Ans Try.prog 55 [.agg w.c, .int hours] (.bool (isWorker w hours)) := by
  rw [← worker_in]
  refine told Try.func55 rfl rfl (Pure.of tab_ok Try.func55 rfl Try.ntmps55 rfl (allC (.agg _ w.free) (all1 (.s _))) (allC (fun _ => rfl) (all1 (fun _ => rfl))) (by first | exact .s _ | assumption | exact .tup _ (by intro x hx; simp only [List.mem_cons, List.not_mem_nil, or_false] at hx; rcases hx with rfl | rfl | rfl | rfl <;> first | exact .s _ | (simp_all; done))) fun E hE => ?_)
  refine Aw.sm tab_ok mb0 [] rfl rfl ?zo ?zk
  case zo =>
    repeat' apply AllP.cons
    all_goals first | exact trivial
  case zk =>
  refine Aw.sm tab_ok mb0 [(2, [.bool (wi w.kind 0 2)]), (8, [.bool (wi w.fr 0 (hours - 1))]), (17, [.bool (wi w.to w.fr (hours - 1))]), (22, [.bool (wi w.rate 0 20)])] rfl rfl ?zo ?zk
  case zo =>
    repeat' apply AllP.cons
    all_goals first | exact trivial | exact id | exact fun _ => rfl | exact Nat.le_of_ble_eq_true rfl | exact fun _ => Nat.le_of_ble_eq_true rfl | exact in_t _ _ _ | exact (in_t _ _ _).un | exact fun _ => hh
  case zk =>
  exact Aw.ret ⟨_, .cons (.tmp _) .nil, rfl⟩
theorem bit_t (n k : Int) (h : 0 ≤ k) : Ans Try.prog 37 [.int n, .int k] (.bool (iand (n.fdiv (2 ^ (min k.toNat 64))) 1 == 1)) := by
  refine told Try.func37 rfl rfl (Pure.of tab_ok Try.func37 rfl Try.ntmps37 rfl (allC (.s _) (all1 (.s _))) (allC (fun _ => rfl) (all1 (fun _ => rfl))) (by first | exact .s _ | assumption | exact .tup _ (by intro x hx; simp only [List.mem_cons, List.not_mem_nil, or_false] at hx; rcases hx with rfl | rfl | rfl | rfl <;> first | exact .s _ | (simp_all; done))) fun E hE => ?_)
  refine Aw.sm tab_ok mb0 [] rfl rfl ?zo ?zk
  case zo =>
    repeat' apply AllP.cons
    all_goals first | exact trivial
  case zk =>
  refine Aw.sm tab_ok mb0 [] rfl rfl ?zo ?zk
  case zo =>
    repeat' apply AllP.cons
    all_goals first | exact trivial | exact h
  case zk =>
  exact Aw.ret ⟨_, .cons (.tmp _) .nil, rfl⟩
def andAll {α : Type} (b : Bool) (p : α → Bool) (l : List α) (k : Nat) : Bool := cond b ((l.take k).all p) false
theorem andAll_succ {α : Type} {b : Bool} {p : α → Bool} {l : List α} {k : Nat} (h : k < l.length) (hb : andAll b p l k = true) : andAll b p l (k + 1) = p l[k] := by
  unfold andAll at *
  rw [all_take_succ h]
  cases b with
  | false => cases hb
  | true => have hb : (l.take k).all p = true := hb; show ((l.take k).all p && p l[k]) = _; rw [hb]; rfl
theorem andAll_end {α : Type} {b : Bool} {p : α → Bool} {l : List α} {k : Nat} (h : andAll b p l k = false ∨ k = l.length) (hk : k ≤ l.length) : andAll b p l k = cond b (l.all p) false := by
  rcases h with h | h
  · rw [h]
    unfold andAll at h
    cases b with
    | false => rfl
    | true =>
      have h : (l.take k).all p = false := h
      show false = l.all p
      cases e : l.all p with
      | false => rfl
      | true =>
        have : (l.take k).all p = true := List.all_eq_true.2 fun x hx => List.all_eq_true.1 e x (List.mem_of_mem_take hx)
        rw [h] at this; cases this
  · subst h; unfold andAll; rw [List.take_length]
theorem rcheck_t (d : Day) (hs : Small d) : Ans Try.prog 19 [.agg d.c] (.int d.errA) := by
  refine told Try.func19 rfl rfl (Pure.of tab_ok Try.func19 rfl Try.ntmps19 rfl (all1 (.agg _ d.free)) (all1 (fun _ => rfl)) (by first | exact .s _ | assumption | exact .tup _ (by intro x hx; simp only [List.mem_cons, List.not_mem_nil, or_false] at hx; rcases hx with rfl | rfl | rfl | rfl <;> first | exact .s _ | (simp_all; done))) fun E hE => ?_)
  have inr : ∀ k : Nat, (k : Int) ≤ 9223372036854775806 → inR ((k : Int) + 1) := fun k hk => by simp only [inR]; omega
  have hl1 := hs.h
  have hl2 := hs.l
  have hl3 := hs.w
  have l1 : ((d.heat.map Spn.c).length : Int) = d.heat.length := by simp
  have l2 : ((d.lots.map Lot.c).length : Int) = d.lots.length := by simp
  have l3 : ((d.wks.map Wk.c).length : Int) = d.wks.length := by simp
  have udc : Under 0 (A.pt d.c) := (Free.pt _ d.free).under
  refine Aw.sm tab_ok mb0 [] rfl rfl ?zo ?zk
  case zo =>
    repeat' apply AllP.cons
    all_goals first | exact trivial
  case zk =>
  refine Aw.sm tab_ok mb0 [(2, [.bool (wi d.hours 1 24)])] rfl rfl ?zo ?zk
  case zo =>
    repeat' apply AllP.cons
    all_goals first | exact trivial | exact id | exact fun _ => rfl | exact Nat.le_of_ble_eq_true rfl | exact fun _ => Nat.le_of_ble_eq_true rfl | exact in_t _ _ _
  case zk =>
  refine Aw.seq ?_
  refine Aw.sm tab_ok mb0 [] rfl rfl ?zo ?zk
  case zo =>
    repeat' apply AllP.cons
    all_goals first | exact trivial
  case zk =>
  refine Aw.block (Aw.rounds 0 hE [(1, .pt d.c)] (fun k : Nat => [(3, .bool (andAll d.head heatOk d.heat k)), (4, .int k)]) (fun _ => []) (fun k => k ≤ d.heat.length) (fun k => d.heat.length - k) 0
    (Nat.zero_le _) ⟨⟨.refl _, trivial⟩, ⟨.of_eq (show A.bool (andAll d.head heatOk d.heat 0) = A.bool d.head by unfold andAll; cases d.head <;> rfl), .refl _, trivial⟩, trivial, Nat.le_refl _⟩ ⟨udc, trivial⟩ (fun _ _ => ⟨.s _, .s _, trivial⟩) (fun _ _ => trivial) fun k hk => ?_)
  refine Aw.seq ?_
  refine Aw.sm tab_ok mb0 [] rfl rfl ?zo ?zk
  case zo =>
    repeat' apply AllP.cons
    all_goals first | exact trivial | exact id | exact fun _ => rfl | exact fun _ => Nat.le_of_ble_eq_true rfl
  case zk =>
  refine Aw.cond rfl (fun h1 => Aw.skip ?_) (fun h1 => ?_)
  · have h1 : cond (andAll d.head heatOk d.heat k) (decide ((k : Int) < ((d.heat.map Spn.c).length : Int))) false = true := h1
    have hb := ac1 h1
    have hlt : k < d.heat.length := by have := of_decide_eq_true (ac2 h1); omega
    refine Aw.seq (Aw.block ?_)
    refine Aw.em tab_ok mb0 [(3, d.heat[k].c), (5, [.bool (heatOk d.heat[k])])] rfl rfl ?zo ?zk
    case zo =>
      repeat' apply AllP.cons
      all_goals first | exact trivial | exact rfl | exact Nat.le_of_ble_eq_true rfl | exact Int.natCast_nonneg _ | exact get_map hlt | exact heat_t _
    case zk =>
    refine Aw.em tab_ok mb0 [] rfl rfl ?zo ?zk
    case zo =>
      repeat' apply AllP.cons
      all_goals first | exact trivial | exact inr k (by omega)
    case zk =>
    exact ⟨k + 1, hlt, by omega, ⟨.refl _, trivial⟩, ⟨.of_eq (congrArg A.bool (andAll_succ hlt hb)), .refl _, trivial⟩, trivial, Nat.zero_le _⟩
  have h1 : cond (andAll d.head heatOk d.heat k) (decide ((k : Int) < ((d.heat.map Spn.c).length : Int))) false = false := h1
  have hend : andAll d.head heatOk d.heat k = cond d.head (d.heat.all heatOk) false := andAll_end (by
    cases e : andAll d.head heatOk d.heat k with
    | false => exact .inl rfl
    | true => rw [e] at h1; have := of_decide_eq_false h1; exact .inr (by omega)) hk
  refine Aw.exit2 ?_
  generalize hb1 : cond d.head (d.heat.all heatOk) false = b1 at *
  have hb1h : b1 = true → 1 ≤ d.hours ∧ d.hours ≤ 24 := fun h => head_hours (by rw [← hb1, c_and, Bool.and_eq_true] at h; exact h.1)
  refine Aw.keep (n := 0) (cst := [(1, .pt d.c)]) (v := [(3, .bool b1)]) (Hl := []) hE ⟨udc, trivial⟩ ⟨.s _, trivial⟩ trivial ⟨⟨.refl _, trivial⟩, ⟨.of_eq (congrArg A.bool hend.symm), trivial⟩, trivial, Nat.zero_le _⟩ ?_
  refine Aw.seq ?_
  refine Aw.sm tab_ok mb0 [] rfl rfl ?zo ?zk
  case zo =>
    repeat' apply AllP.cons
    all_goals first | exact trivial
  case zk =>
  refine Aw.block (Aw.rounds 0 hE [(1, .pt d.c)] (fun k : Nat => [(3, .bool (andAll b1 (lotOk d.hours) d.lots k)), (5, .int k)]) (fun _ => []) (fun k => k ≤ d.lots.length) (fun k => d.lots.length - k) 0
    (Nat.zero_le _) ⟨⟨.refl _, trivial⟩, ⟨.of_eq (show A.bool (andAll b1 (lotOk d.hours) d.lots 0) = A.bool b1 by unfold andAll; cases b1 <;> rfl), .refl _, trivial⟩, trivial, Nat.zero_le _⟩ ⟨udc, trivial⟩ (fun _ _ => ⟨.s _, .s _, trivial⟩) (fun _ _ => trivial) fun k hk => ?_)
  refine Aw.seq ?_
  refine Aw.sm tab_ok mb0 [] rfl rfl ?zo ?zk
  case zo =>
    repeat' apply AllP.cons
    all_goals first | exact trivial | exact id | exact fun _ => rfl | exact fun _ => Nat.le_of_ble_eq_true rfl
  case zk =>
  refine Aw.cond rfl (fun h1 => Aw.skip ?_) (fun h1 => ?_)
  · have h1 : cond (andAll b1 (lotOk d.hours) d.lots k) (decide ((k : Int) < ((d.lots.map Lot.c).length : Int))) false = true := h1
    have hb := ac1 h1
    have hb1t : b1 = true := by unfold andAll at hb; exact ac1 hb
    have hlt : k < d.lots.length := by have := of_decide_eq_true (ac2 h1); omega
    refine Aw.seq (Aw.block ?_)
    refine Aw.sm tab_ok mb0 [(3, d.lots[k].c)] rfl rfl ?zo ?zk
    case zo =>
      repeat' apply AllP.cons
      all_goals first | exact trivial | exact rfl | exact Nat.le_of_ble_eq_true rfl | exact Int.natCast_nonneg _ | exact get_map hlt
    case zk =>
    refine Aw.em tab_ok mb0 [(2, [.bool (wi d.lots[k].crans 1 50)]), (9, [.bool (wi d.lots[k].landed 0 (d.hours - 1))]), (14, [.bool (wi d.lots[k].keep 0 10000)]), (19, [.bool (wi d.lots[k].fit 0 7)])] rfl rfl ?zo ?zk
    case zo =>
      repeat' apply AllP.cons
      all_goals first | exact trivial | exact id | exact fun _ => rfl | exact Nat.le_of_ble_eq_true rfl | exact fun _ => Nat.le_of_ble_eq_true rfl | exact in_t _ _ _ | exact (in_t _ _ _).un | exact fun _ => inr1 _ (hb1h hb1t)
    case zk =>
    refine Aw.em tab_ok mb0 [] rfl rfl ?zo ?zk
    case zo =>
      repeat' apply AllP.cons
      all_goals first | exact trivial | exact inr k (by omega)
    case zk =>
    exact ⟨k + 1, hlt, by omega, ⟨.refl _, trivial⟩, ⟨.of_eq (congrArg A.bool (andAll_succ hlt hb)), .refl _, trivial⟩, trivial, Nat.zero_le _⟩
  have h1 : cond (andAll b1 (lotOk d.hours) d.lots k) (decide ((k : Int) < ((d.lots.map Lot.c).length : Int))) false = false := h1
  have hend2 : andAll b1 (lotOk d.hours) d.lots k = cond b1 (d.lots.all (lotOk d.hours)) false := andAll_end (by
    cases e : andAll b1 (lotOk d.hours) d.lots k with
    | false => exact .inl rfl
    | true => rw [e] at h1; have := of_decide_eq_false h1; exact .inr (by omega)) hk
  refine Aw.exit2 ?_
  generalize hb2 : cond b1 (d.lots.all (lotOk d.hours)) false = b2 at *
  have hb2h : b2 = true → 1 ≤ d.hours ∧ d.hours ≤ 24 := fun h => hb1h (by rw [← hb2, c_and, Bool.and_eq_true] at h; exact h.1)
  refine Aw.keep (n := 0) (cst := [(1, .pt d.c)]) (v := [(3, .bool b2)]) (Hl := []) hE ⟨udc, trivial⟩ ⟨.s _, trivial⟩ trivial ⟨⟨.refl _, trivial⟩, ⟨.of_eq (congrArg A.bool hend2.symm), trivial⟩, trivial, Nat.zero_le _⟩ ?_
  refine Aw.seq ?_
  refine Aw.sm tab_ok mb0 [] rfl rfl ?zo ?zk
  case zo =>
    repeat' apply AllP.cons
    all_goals first | exact trivial
  case zk =>
  refine Aw.block (Aw.rounds 0 hE [(1, .pt d.c)] (fun k : Nat => [(3, .bool (andAll b2 (fun w => isWorker w d.hours) d.wks k)), (7, .int k)]) (fun _ => []) (fun k => k ≤ d.wks.length) (fun k => d.wks.length - k) 0
    (Nat.zero_le _) ⟨⟨.refl _, trivial⟩, ⟨.of_eq (show A.bool (andAll b2 (fun w => isWorker w d.hours) d.wks 0) = A.bool b2 by unfold andAll; cases b2 <;> rfl), .refl _, trivial⟩, trivial, Nat.zero_le _⟩ ⟨udc, trivial⟩ (fun _ _ => ⟨.s _, .s _, trivial⟩) (fun _ _ => trivial) fun k hk => ?_)
  refine Aw.seq ?_
  refine Aw.sm tab_ok mb0 [] rfl rfl ?zo ?zk
  case zo =>
    repeat' apply AllP.cons
    all_goals first | exact trivial | exact id | exact fun _ => rfl | exact fun _ => Nat.le_of_ble_eq_true rfl
  case zk =>
  refine Aw.cond rfl (fun h1 => Aw.skip ?_) (fun h1 => ?_)
  · have h1 : cond (andAll b2 (fun w => isWorker w d.hours) d.wks k) (decide ((k : Int) < ((d.wks.map Wk.c).length : Int))) false = true := h1
    have hb := ac1 h1
    have hb2t : b2 = true := by unfold andAll at hb; exact ac1 hb
    have hlt : k < d.wks.length := by have := of_decide_eq_true (ac2 h1); omega
    refine Aw.seq (Aw.block ?_)
    refine Aw.ed tab_ok mixed mb0 [(3, d.wks[k].c), (7, [.bool (isWorker d.wks[k] d.hours)])] rfl (by kernel_rfl) rfl rfl ?zo ?zk
    case zo =>
      repeat' apply AllP.cons
      all_goals first | exact trivial | exact rfl | exact Nat.le_of_ble_eq_true rfl | exact Int.natCast_nonneg _ | exact get_map hlt | exact worker_t _ _ (inr1 _ (hb2h hb2t))
    case zk =>
    refine Aw.em tab_ok mb0 [] rfl rfl ?zo ?zk
    case zo =>
      repeat' apply AllP.cons
      all_goals first | exact trivial | exact inr k (by omega)
    case zk =>
    exact ⟨k + 1, hlt, by omega, ⟨.refl _, trivial⟩, ⟨.of_eq (congrArg A.bool (andAll_succ hlt hb)), .refl _, trivial⟩, trivial, Nat.zero_le _⟩
  have h1 : cond (andAll b2 (fun w => isWorker w d.hours) d.wks k) (decide ((k : Int) < ((d.wks.map Wk.c).length : Int))) false = false := h1
  have hend3 : andAll b2 (fun w => isWorker w d.hours) d.wks k = cond b2 (d.wks.all fun w => isWorker w d.hours) false := andAll_end (by
    cases e : andAll b2 (fun w => isWorker w d.hours) d.wks k with
    | false => exact .inl rfl
    | true => rw [e] at h1; have := of_decide_eq_false h1; exact .inr (by omega)) hk
  refine Aw.exit2 ?_
  have hok : cond b2 (d.wks.all fun w => isWorker w d.hours) false = d.ok := by rw [← hb2, ← hb1]; rfl
  rw [hok] at hend3
  refine Aw.keep (n := 0) (cst := []) (v := [(3, .bool d.ok)]) (Hl := []) hE trivial ⟨.s _, trivial⟩ trivial ⟨trivial, ⟨.of_eq (congrArg A.bool hend3.symm), trivial⟩, trivial, Nat.zero_le _⟩ ?_
  refine Aw.seq ?_
  refine Aw.sm tab_ok mb0 [] rfl rfl ?zo ?zk
  case zo =>
    repeat' apply AllP.cons
    all_goals first | exact trivial
  case zk =>
  refine Aw.cond rfl (fun h1 => ?_) (fun h1 => Aw.skip ?_)
  · refine Aw.sm tab_ok mb0 [] rfl rfl ?zo ?zk
    case zo =>
      repeat' apply AllP.cons
      all_goals first | exact trivial
    case zk =>
    refine Aw.ret ⟨_, .cons (.tmp _) .nil, ?_⟩
    have h1 : (!d.ok) = true := h1
    simp only [Bool.not_eq_true'] at h1
    simp only [Day.errA, h1]; rfl
  · refine Aw.sm tab_ok mb0 [] rfl rfl ?zo ?zk
    case zo =>
      repeat' apply AllP.cons
      all_goals first | exact trivial
    case zk =>
    refine Aw.ret ⟨_, .cons (.tmp _) .nil, ?_⟩
    have h1 : (!d.ok) = false := h1
    simp only [Bool.not_eq_false'] at h1
    simp only [Day.errA, h1]; rfl
end Go.Proofs.Ytimikmfkdaoaaaa
namespace Go.Proofs.Ytimikmfkdaoaaaa
open Go Go.AL
def rfU (f : Nat → Int) (keep : Int) : Nat → Nat → Int → Int → Int
  | 0, _, _, last => last
  | m + 1, h, s, last => rfU f keep m (h + 1) (s + f h) (if s + f h ≤ keep then (h : Int) else last)
theorem rfU_over {f : Nat → Int} {keep : Int} (hf : ∀ k, 0 ≤ f k) : ∀ (m h : Nat) (s last : Int), keep < s → rfU f keep m h s last = last
  | 0, _, _, _, _ => rfl
  | m + 1, h, s, last, hs => by
    have := hf h
    rw [rfU, if_neg (by omega)]
    exact rfU_over hf m (h + 1) _ last (by omega)
theorem rfU_run {f : Nat → Int} {keep landed : Int} (hf : ∀ k, 0 ≤ f k) : ∀ (m h : Nat) (s last : Int), landed ≤ h → s ≤ keep → rfU f keep m h s last = runU f landed m h (keep - s) last
  | 0, _, _, _, _, _ => rfl
  | m + 1, h, s, last, hl, hs => by
    rw [rfU, runU, if_neg (show ¬ (h : Int) < landed by omega)]
    by_cases h1 : s + f h ≤ keep
    · rw [if_pos h1, if_neg (show ¬ keep - s - f h < 0 by omega), rfU_run (landed := landed) hf m (h + 1) _ _ (by omega) h1]
      congr 1; omega
    · rw [if_neg h1, if_pos (show keep - s - f h < 0 by omega), rfU_over hf m (h + 1) _ last (by omega)]
theorem runU_skip {f : Nat → Int} {landed n u : Int} : ∀ (j m k : Nat), (k : Int) + j = landed → runU f landed (j + m) k n u = runU f landed m (k + j) n u
  | 0, m, k, h => by simp
  | j + 1, m, k, h => by
    rw [show j + 1 + m = (j + m) + 1 by omega, runU, if_pos (by omega), runU_skip j m (k + 1) (by omega), show k + 1 + j = k + (j + 1) by omega]
theorem heat_ge {d : Day} (hd : DayOk d) (b : Bool) (k : Nat) : 0 ≤ (if b then Spn.lo else Spn.hi) (d.heat.getD k ⟨0, 0⟩) ∧ (if b then Spn.lo else Spn.hi) (d.heat.getD k ⟨0, 0⟩) ≤ 100 := by
  rw [List.getD_eq_getElem?_getD]
  cases e : d.heat[k]? with
  | none => cases b <;> simp
  | some s =>
    have := hd.heats s (List.mem_of_getElem? e)
    simp only [heatOk, c_and, Bool.and_eq_true, decide_eq_true_eq] at this
    cases b <;> simp <;> omega
theorem ruf_until {d : Day} (hd : DayOk d) (b : Bool) {l : Lot} (hl : lotOk d.hours l = true) :
    rfU (fun k => (if b then Spn.lo else Spn.hi) (d.heat.getD k ⟨0, 0⟩)) l.keep (d.hours.toNat - l.landed.toNat) l.landed.toNat 0 (l.landed - 1) = untilF d (if b then Spn.lo else Spn.hi) l := by
  have lo := lotOk_iff hl
  rw [rfU_run (landed := l.landed) (fun k => (heat_ge hd b k).1) _ _ _ _ (by omega) (by omega)]
  unfold untilF
  rw [show d.hours.toNat = l.landed.toNat + (d.hours.toNat - l.landed.toNat) by omega, runU_skip _ _ 0 (by omega)]
  congr 1 <;> omega
theorem runtil_t (d : Day) (lot : Int) (b : Bool) (l : Lot) (hd : DayOk d) (h0 : 0 ≤ lot) (hl : d.lots[lot.toNat]? = some l) : Ans Try.prog 53 [.agg d.c, .int lot, .bool b] (.int (untilF d (if b then Spn.lo else Spn.hi) l)) := by
  have hlk := hd.lots l (List.mem_of_getElem? hl)
  have lo := lotOk_iff hlk
  have hh := hd.hours
  have hu := ruf_until hd b hlk
  rw [← hu]
  have hge := heat_ge hd b
  generalize hg : (fun k => (if b then Spn.lo else Spn.hi) (d.heat.getD k ⟨0, 0⟩)) = g at *
  have hgk : ∀ k, 0 ≤ g k ∧ g k ≤ 100 := fun k => by rw [← hg]; exact hge k
  have hlget : (d.lots.map Lot.c)[lot.toNat]? = some l.c := by rw [List.getElem?_map, hl]; rfl
  refine told Try.func53 rfl rfl (Pure.of tab_ok Try.func53 rfl Try.ntmps53 rfl (allC (.agg _ d.free) (allC (.s _) (all1 (.s _)))) (allC (fun _ => rfl) (allC (fun _ => rfl) (all1 (fun _ => rfl)))) (by first | exact .s _ | assumption | exact .tup _ (by intro x hx; simp only [List.mem_cons, List.not_mem_nil, or_false] at hx; rcases hx with rfl | rfl | rfl | rfl <;> first | exact .s _ | (simp_all; done))) fun E hE => ?_)
  refine Aw.sm tab_ok mb0 [] rfl rfl ?zo ?zk
  case zo =>
    repeat' apply AllP.cons
    all_goals first | exact trivial
  case zk =>
  refine Aw.sm tab_ok mb0 [(3, l.c)] rfl rfl ?zo ?zk
  case zo =>
    repeat' apply AllP.cons
    all_goals first | exact trivial | exact rfl | exact Nat.le_of_ble_eq_true rfl | exact hlget | exact h0
  case zk =>
  refine Aw.sm tab_ok mb0 [] rfl rfl ?zo ?zk
  case zo =>
    repeat' apply AllP.cons
    all_goals first | exact trivial | exact Nat.le_of_ble_eq_true rfl | exact (by simp only [Ob.of, inR]; omega)
  case zk =>
  generalize hR : rfU g l.keep (d.hours.toNat - l.landed.toNat) l.landed.toNat 0 (l.landed - 1) = R
  refine Aw.seq ?_
  refine Aw.sm tab_ok mb0 [] rfl rfl ?zo ?zk
  case zo =>
    repeat' apply AllP.cons
    all_goals first | exact trivial | exact Nat.le_of_ble_eq_true rfl
  case zk =>
  have h1E : ∀ id, 1 ≤ id → E.φ0 id = none := fun id h => hE id (by omega)
  refine Aw.block (Aw.rounds (ι := Nat × Int × Int) 1 h1E [(2, .bool b), (3, .pt d.c), (7, .ref 0 0)] (fun i => [(8, .int i.2.1), (9, .int i.2.2), (10, .int i.1)]) (fun _ => [(0, .cells l.c)])
    (fun i => (i.1 : Int) ≤ d.hours ∧ 0 ≤ i.2.1 ∧ i.2.1 ≤ 100 * i.1 ∧ rfU g l.keep (d.hours.toNat - i.1) i.1 i.2.1 i.2.2 = R) (fun i => d.hours.toNat - i.1) (l.landed.toNat, 0, l.landed - 1)
    ⟨by show ((l.landed.toNat : Nat) : Int) ≤ _; omega, Int.le_refl _, by show (0 : Int) ≤ 100 * ((l.landed.toNat : Nat) : Int); omega, hR⟩ ⟨⟨.refl _, .refl _, .refl _, trivial⟩, ⟨.refl _, .refl _, .of_eq (show A.int ((l.landed.toNat : Nat) : Int) = .int l.landed by rw [Int.toNat_of_nonneg lo.2.1.1]), trivial⟩, ⟨rfl, trivial⟩, Nat.le_of_ble_eq_true rfl⟩
    ⟨.s _, (Free.pt _ d.free).under, .ref _ _ (by decide), trivial⟩ (fun _ _ => ⟨.s _, .s _, .s _, trivial⟩) (fun _ _ => ⟨⟨by decide, .cells _ fun x hx => (l.free x hx).under⟩, trivial⟩) ?_)
  rintro ⟨h, sum, last⟩ ⟨hh1, hs0, hs1, hrun⟩
  simp only at hh1 hs0 hs1 hrun
  refine Aw.seq ?_
  refine Aw.sm tab_ok mb0 [] rfl rfl ?zo ?zk
  case zo =>
    repeat' apply AllP.cons
    all_goals first | exact trivial | exact Nat.le_of_ble_eq_true rfl
  case zk =>
  refine Aw.cond rfl (fun h2 => Aw.skip ?_) (fun h2 => ?_)
  · have hlt : (h : Int) < d.hours := of_decide_eq_true h2
    have hh2 : h < d.heat.length := by have := hd.heat; omega
    rw [show d.hours.toNat - h = (d.hours.toNat - (h + 1)) + 1 by omega, rfU] at hrun
    refine Aw.seq (Aw.block ?_)
    refine Aw.seq ?_
    refine Aw.sm tab_ok mb0 [] rfl rfl ?zo ?zk
    case zo =>
      repeat' apply AllP.cons
      all_goals first | exact trivial
    case zk =>
    cases b with
    | true =>
      have hgh : g h = d.heat[h].lo := by rw [← hg]; simp [List.getD_eq_getElem?_getD, hh2]
      have hgb := hgk h
      rw [hgh] at hrun hgb
      refine Aw.cond rfl (fun _ => ?_) (fun h => by cases h)
      refine Aw.em tab_ok mb0 [(4, d.heat[h].c)] rfl rfl ?zo ?zk
      case zo =>
        repeat' apply AllP.cons
        all_goals first | exact trivial | exact rfl | exact Nat.le_of_ble_eq_true rfl | exact Int.natCast_nonneg _ | exact get_map hh2 | exact (by simp only [Ob.of, inR]; omega)
      case zk =>
      refine Aw.sm tab_ok mb0 [] rfl rfl ?zo ?zk
      case zo =>
        repeat' apply AllP.cons
        all_goals first | exact trivial | exact Nat.le_of_ble_eq_true rfl
      case zk =>
      refine Aw.cond rfl (fun h3 => ?_) (fun h3 => Aw.skip ?_)
      · have h3' : sum + d.heat[h].lo ≤ l.keep := of_decide_eq_true h3
        rw [if_pos h3'] at hrun
        refine Aw.em tab_ok mb0 [] rfl rfl ?zo ?zk
        case zo =>
          repeat' apply AllP.cons
          all_goals first | exact trivial
        case zk =>
        refine Aw.em tab_ok mb0 [] rfl rfl ?zo ?zk
        case zo =>
          repeat' apply AllP.cons
          all_goals first | exact trivial | exact (by simp only [Ob.of, inR]; omega)
        case zk =>
        exact ⟨(h + 1, sum + d.heat[h].lo, (h : Int)), ⟨by show ((h + 1 : Nat) : Int) ≤ _; omega, by show 0 ≤ sum + d.heat[h].lo; omega, by show sum + d.heat[h].lo ≤ 100 * ((h + 1 : Nat) : Int); omega, hrun⟩, by show d.hours.toNat - (h + 1) < d.hours.toNat - h; omega, ⟨⟨.refl _, .refl _, .refl _, trivial⟩, ⟨.refl _, .refl _, .refl _, trivial⟩, ⟨rfl, trivial⟩, Nat.le_of_ble_eq_true rfl⟩⟩
      · have h3' : ¬ sum + d.heat[h].lo ≤ l.keep := of_decide_eq_false h3
        rw [if_neg h3'] at hrun
        refine Aw.em tab_ok mb0 [] rfl rfl ?zo ?zk
        case zo =>
          repeat' apply AllP.cons
          all_goals first | exact trivial | exact (by simp only [Ob.of, inR]; omega)
        case zk =>
        exact ⟨(h + 1, sum + d.heat[h].lo, last), ⟨by show ((h + 1 : Nat) : Int) ≤ _; omega, by show 0 ≤ sum + d.heat[h].lo; omega, by show sum + d.heat[h].lo ≤ 100 * ((h + 1 : Nat) : Int); omega, hrun⟩, by show d.hours.toNat - (h + 1) < d.hours.toNat - h; omega, ⟨⟨.refl _, .refl _, .refl _, trivial⟩, ⟨.refl _, .refl _, .refl _, trivial⟩, ⟨rfl, trivial⟩, Nat.le_of_ble_eq_true rfl⟩⟩
    | false =>
      have hgh : g h = d.heat[h].hi := by rw [← hg]; simp [List.getD_eq_getElem?_getD, hh2]
      have hgb := hgk h
      rw [hgh] at hrun hgb
      refine Aw.cond rfl (fun h => by cases h) (fun _ => ?_)
      refine Aw.em tab_ok mb0 [(4, d.heat[h].c)] rfl rfl ?zo ?zk
      case zo =>
        repeat' apply AllP.cons
        all_goals first | exact trivial | exact rfl | exact Nat.le_of_ble_eq_true rfl | exact Int.natCast_nonneg _ | exact get_map hh2 | exact (by simp only [Ob.of, inR]; omega)
      case zk =>
      refine Aw.sm tab_ok mb0 [] rfl rfl ?zo ?zk
      case zo =>
        repeat' apply AllP.cons
        all_goals first | exact trivial | exact Nat.le_of_ble_eq_true rfl
      case zk =>
      refine Aw.cond rfl (fun h3 => ?_) (fun h3 => Aw.skip ?_)
      · have h3' : sum + d.heat[h].hi ≤ l.keep := of_decide_eq_true h3
        rw [if_pos h3'] at hrun
        refine Aw.em tab_ok mb0 [] rfl rfl ?zo ?zk
        case zo =>
          repeat' apply AllP.cons
          all_goals first | exact trivial
        case zk =>
        refine Aw.em tab_ok mb0 [] rfl rfl ?zo ?zk
        case zo =>
          repeat' apply AllP.cons
          all_goals first | exact trivial | exact (by simp only [Ob.of, inR]; omega)
        case zk =>
        exact ⟨(h + 1, sum + d.heat[h].hi, (h : Int)), ⟨by show ((h + 1 : Nat) : Int) ≤ _; omega, by show 0 ≤ sum + d.heat[h].hi; omega, by show sum + d.heat[h].hi ≤ 100 * ((h + 1 : Nat) : Int); omega, hrun⟩, by show d.hours.toNat - (h + 1) < d.hours.toNat - h; omega, ⟨⟨.refl _, .refl _, .refl _, trivial⟩, ⟨.refl _, .refl _, .refl _, trivial⟩, ⟨rfl, trivial⟩, Nat.le_of_ble_eq_true rfl⟩⟩
      · have h3' : ¬ sum + d.heat[h].hi ≤ l.keep := of_decide_eq_false h3
        rw [if_neg h3'] at hrun
        refine Aw.em tab_ok mb0 [] rfl rfl ?zo ?zk
        case zo =>
          repeat' apply AllP.cons
          all_goals first | exact trivial | exact (by simp only [Ob.of, inR]; omega)
        case zk =>
        exact ⟨(h + 1, sum + d.heat[h].hi, last), ⟨by show ((h + 1 : Nat) : Int) ≤ _; omega, by show 0 ≤ sum + d.heat[h].hi; omega, by show sum + d.heat[h].hi ≤ 100 * ((h + 1 : Nat) : Int); omega, hrun⟩, by show d.hours.toNat - (h + 1) < d.hours.toNat - h; omega, ⟨⟨.refl _, .refl _, .refl _, trivial⟩, ⟨.refl _, .refl _, .refl _, trivial⟩, ⟨rfl, trivial⟩, Nat.le_of_ble_eq_true rfl⟩⟩
  · have hend : ¬ (h : Int) < d.hours := of_decide_eq_false h2
    rw [show d.hours.toNat - h = 0 by omega, rfU] at hrun
    subst hrun
    refine Aw.exit2 ?_
    refine Aw.sm tab_ok mb0 [] rfl rfl ?zo ?zk
    case zo =>
      repeat' apply AllP.cons
      all_goals first | exact trivial
    case zk =>
    exact Aw.ret ⟨_, .cons (.tmp _) .nil, rfl⟩
theorem rUntil_t (d : Day) (lot : Int) (hs : Small d) : Ans Try.prog 17 [.agg d.c, .int lot] (.tup (untilR d lot)) := by
  have hfr : Free (.tup (untilR d lot)) := .tup _ (by
    unfold untilR; split
    · split <;> exact allC (.s _) (allC (.s _) (all1 (.s _)))
    · exact allC (.s _) (allC (.s _) (all1 (.s _))))
  refine told Try.func17 rfl rfl (Pure.of tab_ok Try.func17 rfl Try.ntmps17 rfl (allC (.agg _ d.free) (all1 (.s _))) (allC (fun _ => rfl) (all1 (fun _ => rfl))) (by first | exact .s _ | assumption | exact .tup _ (by intro x hx; simp only [List.mem_cons, List.not_mem_nil, or_false] at hx; rcases hx with rfl | rfl | rfl | rfl <;> first | exact .s _ | (simp_all; done))) fun E hE => ?_)
  refine Aw.sm tab_ok mb0 [] rfl rfl ?zo ?zk
  case zo =>
    repeat' apply AllP.cons
    all_goals first | exact trivial
  case zk =>
  refine Aw.seq ?_
  refine Aw.sm tab_ok mb0 [(1, [.int d.errA])] rfl rfl ?zo ?zk
  case zo =>
    repeat' apply AllP.cons
    all_goals first | exact trivial | exact Nat.le_of_ble_eq_true rfl | exact rcheck_t d hs
  case zk =>
  refine Aw.sm tab_ok mb0 [] rfl rfl ?zo ?zk
  case zo =>
    repeat' apply AllP.cons
    all_goals first | exact trivial
  case zk =>
  refine Aw.cond rfl (fun h1 => ?_) (fun h1 => Aw.skip ?_)
  · have hno : d.ok = false := by
      cases h : d.ok with
      | false => rfl
      | true => rw [err_ok h] at h1; exact absurd h1 (by decide)
    refine Aw.sm tab_ok mb0 [] rfl rfl ?zo ?zk
    case zo =>
      repeat' apply AllP.cons
      all_goals first | exact trivial
    case zk =>
    exact Aw.ret ⟨_, .cons (.tmp _) (.cons (.tmp _) (.cons (.tmp _) .nil)), by simp only [untilR, hno]; rw [err_no hno]; rfl⟩
  have hok : d.ok = true := by
    cases h : d.ok with
    | true => rfl
    | false => rw [err_no h] at h1; exact absurd h1 (by decide)
  have hd := DayOk.of hok
  have ll : ((d.lots.map Lot.c).length : Int) = d.lots.length := by simp
  have nl := hd.nl
  refine Aw.seq ?_
  refine Aw.sm tab_ok mb0 [(5, [.bool (wi lot 0 (((d.lots.map Lot.c).length) - 1))])] rfl rfl ?zo ?zk
  case zo =>
    repeat' apply AllP.cons
    all_goals first | exact trivial | exact Nat.le_of_ble_eq_true rfl | exact in_t _ _ _ | exact (by simp only [Ob.of, inR]; omega)
  case zk =>
  refine Aw.cond rfl (fun h2 => ?_) (fun h2 => Aw.skip ?_)
  · have h2' : ¬ (0 ≤ lot ∧ lot ≤ ((d.lots.map Lot.c).length : Int) - 1) := fun h => by
      have := wi_iff.2 h; rw [this] at h2; exact absurd h2 (by decide)
    have hnone : lotAt d lot = none := by
      unfold lotAt; split
      · exact List.getElem?_eq_none (by omega)
      · rfl
    refine Aw.sm tab_ok mb0 [] rfl rfl ?zo ?zk
    case zo =>
      repeat' apply AllP.cons
      all_goals first | exact trivial
    case zk =>
    exact Aw.ret ⟨_, .cons (.tmp _) (.cons (.tmp _) (.cons (.tmp _) .nil)), by simp only [untilR, hok, hnone]; rfl⟩
  have h2' : 0 ≤ lot ∧ lot ≤ ((d.lots.map Lot.c).length : Int) - 1 := wi_iff.1 (by simpa using h2)
  have hlt : lot.toNat < d.lots.length := by omega
  obtain ⟨l, hl⟩ : ∃ l, d.lots[lot.toNat]? = some l := ⟨d.lots[lot.toNat], by simp [hlt]⟩
  have hsome : lotAt d lot = some l := by unfold lotAt; rw [if_pos h2'.1, hl]
  refine Aw.sd tab_ok mixed mb0 [(2, [.int (untilF d Spn.hi l)]), (5, [.int (untilF d Spn.lo l)])] rfl (by kernel_rfl) rfl rfl ?zo ?zk
  case zo =>
    repeat' apply AllP.cons
    all_goals first | exact trivial | exact Nat.le_of_ble_eq_true rfl | exact runtil_t d lot false l hd h2'.1 hl | exact runtil_t d lot true l hd h2'.1 hl
  case zk =>
  exact Aw.ret ⟨_, .cons (.tmp _) (.cons (.tmp _) (.cons (.tmp _) .nil)), by simp only [untilR, hok, hsome]; rfl⟩
end Go.Proofs.Ytimikmfkdaoaaaa
namespace Go.Proofs.Ytimikmfkdaoaaaa
open Go Go.AL
def dfS (d : Day) : List Nat → Int × Sn → Int × Sn
  | [], s => s
  | p :: ps, s => if isSeen s.2 p then dfS d ps s else dfS d ps (s.1 - rateAt d p, mput s.2 p true)
def crAt (d : Day) (i : Int) : Int := match d.lots[i.toNat]? with | some l => l.crans | none => 0
def dfL (cd : CDay) : List Int → Int × Sn → Int × Sn
  | [], s => s
  | i :: is, s => dfL cd is (dfS cd.g (slotsOf cd i.toNat) (s.1 + crAt cd.g i, s.2))
def deficitV (cd : CDay) (l : List Int) : Int := (dfL cd l (0, [])).1
theorem eg93 : Try.prog.eqGuardType Try.prog.depth 93 = false := by kernel_rfl
set_option maxRecDepth 100000 in
theorem ne93 (x y : Operand) (a b c d : Int) : EqIs tab .neq 93 x y (.agg [.int a, .int b]) (.agg [.int c, .int d]) (!(a == c && b == d)) := by
  refine ⟨.agg #[.int .i64 a, .int .i64 b], .agg #[.int .i64 c, .int .i64 d], rfl, rfl, (congrFun (congrFun (congrFun (congrFun (congrFun (congrFun (show tab.eqv = pureEq Try.prog from rfl) _) _) _) _) _) _).trans ?_⟩
  have hp : pureRun Try.prog program = some Try.prog := rfl
  have pp : ∀ {α : Type} (x : α), pureRun Try.prog (pure x) = some x := fun x => rfl
  have e1 : pureRun Try.prog (eqGuard .neq 93 x y (.agg #[.int .i64 a, .int .i64 b]) (.agg #[.int .i64 c, .int .i64 d])) = some () := by
    simp [eqGuard, pureRun_bind, hp, eg93, pp]
  have e2 : pureRun Try.prog (binOp .neq 93 (.agg #[.int .i64 a, .int .i64 b]) (.agg #[.int .i64 c, .int .i64 d])) = some (.bool (!(a == c && b == d))) := by
    have : binOp .neq 93 (.agg #[.int .i64 a, .int .i64 b]) (.agg #[.int .i64 c, .int .i64 d]) = (Op.equal 93 (.agg #[.int .i64 a, .int .i64 b]) (.agg #[.int .i64 c, .int .i64 d]) >>= fun b => pure (.bool (!b))) := rfl
    rw [this, pureRun_bind, eq93]; rfl
  unfold pureEq
  rw [pureRun_bind, e1]
  exact e2
def notLast (d : Day) (p : Nat) : Bool := !((((p / d.hours.toNat : Nat) : Int)) == -1 && (((p % d.hours.toNat : Nat) : Int)) == -1)
theorem notLast_true (d : Day) (p : Nat) : notLast d p = true := by
  have h : (((p / d.hours.toNat : Nat) : Int) == -1) = false := beq_eq_false_iff_ne.2 (by have := Int.natCast_nonneg (p / d.hours.toNat); omega)
  unfold notLast; rw [h]; rfl
theorem ne_last (d : Day) (x y : Operand) (p : Nat) : EqIs tab .neq 93 x y (.agg [.int ((p / d.hours.toNat : Nat) : Int), .int ((p % d.hours.toNat : Nat) : Int)]) (.agg [.int (-1), .int (-1)]) true := by
  have h := ne93 x y ((p / d.hours.toNat : Nat) : Int) ((p % d.hours.toNat : Nat) : Int) (-1) (-1)
  have e : (!((((p / d.hours.toNat : Nat) : Int)) == -1 && (((p % d.hours.toNat : Nat) : Int)) == -1)) = true := notLast_true d p
  rw [e] at h; exact h
def dfH (cd : CDay) (n : Int) (met : Sn) : List (Nat × B) := [(0, .cells [.int n]), (1, .map (encM (slotE cd.g) valB met)), (2, .cells [.mp 1])]
theorem dfH_under (cd : CDay) (n : Int) (met : Sn) {k : Nat} (h : 3 ≤ k) : UnderH k (dfH cd n met) :=
  ⟨⟨by omega, .cells _ (all1 (.s _))⟩, ⟨by omega, encB_under _ _ _⟩, ⟨by omega, .cells _ (all1 (.mp _ (by omega)))⟩, trivial⟩
theorem rate_ge {d : Day} (hd : DayOk d) : ∀ p, 0 ≤ rateAt d p := fun p => by
  unfold rateAt
  simp only [List.getD_eq_getElem?_getD]
  cases e : d.wks[p / d.hours.toNat]? with
  | none => simp [wkD]
  | some w => exact (wkOk_iff (hd.wks w (List.mem_of_getElem? e))).2.2.2.1
theorem deficit_t (cd : CDay) (hd : DayOk cd.g) (h8 : cd.u.length = 8) (b : Bool) (l : List Int) (hl8 : l.length ≤ 8) (hl : ∀ i ∈ l, 0 ≤ i ∧ i < cd.g.lots.length) : Ans Try.prog 65 [.agg cd.c, .sl b .any (ints l)] (.int (deficitV cd l)) := by
  refine told Try.func65 rfl rfl (Pure.of tab_ok Try.func65 rfl Try.ntmps65 rfl (allC (.agg _ cd.free) (all1 (free_ints _ _ _))) (allC (fun _ => rfl) (all1 (fun _ => rfl))) (by first | exact .s _ | assumption | exact .tup _ (by intro x hx; simp only [List.mem_cons, List.not_mem_nil, or_false] at hx; rcases hx with rfl | rfl | rfl | rfl <;> first | exact .s _ | (simp_all; done))) fun E hE => ?_)
  refine Aw.sm tab_ok mb0 [] rfl rfl ?zo ?zk
  case zo =>
    repeat' apply AllP.cons
    all_goals first | exact trivial
  case zk =>
  refine Aw.sm tab_ok mb0 [] rfl rfl ?zo ?zk
  case zo =>
    repeat' apply AllP.cons
    all_goals first | exact trivial | exact rfl | exact Nat.le_of_ble_eq_true rfl
  case zk =>
  refine Aw.sm tab_ok mb0 [] rfl rfl ?zo ?zk
  case zo =>
    repeat' apply AllP.cons
    all_goals first | exact trivial | exact rfl | exact Nat.le_of_ble_eq_true rfl
  case zk =>
  refine Aw.seq ?_
  refine Aw.sm tab_ok mb0 [] rfl rfl ?zo ?zk
  case zo =>
    repeat' apply AllP.cons
    all_goals first | exact trivial
  case zk =>
  have h3E : ∀ id, 3 ≤ id → E.φ0 id = none := fun id h => hE id (by omega)
  have lz : ((ints l).length : Int) = l.length := by simp [ints]
  have ucd : ∀ {n : Nat}, Under n (.pt cd.c) := .pt _ fun x hx => (cd.free x hx).under
  have ull : ∀ {n : Nat}, Under n (.sl b .any (ints l)) := (free_ints _ _ _).under
  unfold deficitV
  generalize hR : dfL cd l (0, []) = R
  refine Aw.block (Aw.rounds (ι := Nat × Int × Sn) 3 h3E [(2, .pt cd.c), (5, .ref 0 0), (6, .ref 2 0), (12, .sl b .any (ints l)), (13, .int (ints l).length)] (fun i => [(14, .int i.1)]) (fun i => dfH cd i.2.1 i.2.2)
    (fun i => i.1 ≤ l.length ∧ -(3360 * i.1 : Int) ≤ i.2.1 ∧ i.2.1 ≤ 50 * i.1 ∧ dfL cd (l.drop i.1) i.2 = R) (fun i => l.length - i.1) (0, 0, [])
    ⟨Nat.zero_le _, Int.le_refl _, Int.le_refl _, by rw [List.drop_zero]; exact hR⟩ ⟨⟨.refl _, .refl _, .refl _, .refl _, .refl _, trivial⟩, ⟨.refl _, trivial⟩, ⟨rfl, rfl, rfl, trivial⟩, Nat.le_of_ble_eq_true rfl⟩
    ⟨ucd, .ref _ _ (by decide), .ref _ _ (by decide), ull, .s _, trivial⟩ (fun _ _ => ⟨.s _, trivial⟩) (fun i _ => dfH_under cd i.2.1 i.2.2 (Nat.le_refl _)) ?_)
  rintro ⟨k, n, met⟩ ⟨hk, hn1, hn2, hrun⟩
  simp only at hk hn1 hn2 hrun
  refine Aw.sm tab_ok mb0 [] rfl rfl ?zo ?zk
  case zo =>
    repeat' apply AllP.cons
    all_goals first | exact trivial
  case zk =>
  refine Aw.seq (Aw.cond rfl (fun h1 => Aw.skip1 ?_) (fun h1 => Aw.exit2 ?_))
  · have hlt : k < l.length := by have := of_decide_eq_true h1; omega
    rw [List.drop_eq_getElem_cons hlt, dfL] at hrun
    have hget := ints_get hlt
    have hin := hl _ (List.getElem_mem hlt)
    generalize l[k] = i at *
    have hi1 : i.toNat < cd.g.lots.length := by omega
    have nl := hd.nl
    obtain ⟨lt, hlt2⟩ : ∃ x, cd.g.lots[i.toNat]? = some x := ⟨cd.g.lots[i.toNat], by simp [hi1]⟩
    obtain ⟨u, hu⟩ : ∃ x, cd.u[i.toNat]? = some x := ⟨cd.u[i.toNat]'(by omega), by simp [show i.toNat < cd.u.length by omega]⟩
    have hso : slotsOf cd i.toNat = slotL cd.g lt u := by simp only [slotsOf, hlt2, hu]
    have hcr : crAt cd.g i = lt.crans := by simp only [crAt, hlt2]
    rw [hso, hcr] at hrun
    have lo := lotOk_iff (hd.lots lt (List.mem_of_getElem? hlt2))
    have hlget : (cd.g.lots.map Lot.c)[i.toNat]? = some lt.c := by rw [List.getElem?_map, hlt2]; rfl
    refine Aw.seq (Aw.block ?_)
    refine Aw.sm tab_ok mb0 [(0, [.int i])] rfl rfl ?zo ?zk
    case zo =>
      repeat' apply AllP.cons
      all_goals first | exact trivial | exact rfl | exact Nat.le_of_ble_eq_true rfl | exact Int.natCast_nonneg _ | exact hget
    case zk =>
    refine Aw.sd tab_ok mixed mb0 [(5, lt.c)] rfl (by kernel_rfl) rfl rfl ?zo ?zk
    case zo =>
      repeat' apply AllP.cons
      all_goals first | exact trivial | exact rfl | exact Nat.le_of_ble_eq_true rfl | exact hlget | exact hin.1 | exact (by simp only [Ob.of, inR]; omega)
    case zk =>
    refine Aw.sm tab_ok mb0 [(0, [.agg cd.c]), (2, [.fn (.func 72) [] [.pt cd.c, .pt [.int i]]])] rfl rfl ?zo ?zk
    case zo =>
      repeat' apply AllP.cons
      all_goals first | exact trivial | exact slots_t cd i | exact (show A.agg (List.take 12 cd.c) = .agg cd.c by rw [List.take_of_length_le (by rw [CDay.len h8]; exact Nat.le_refl _)]) | exact (show 12 ≤ cd.c.length by rw [CDay.len h8]; exact Nat.le_refl _)
    case zk =>
    have ufn : Under 3 (A.fn (.func 72) [] [.pt cd.c, .pt [.int i]]) := .fn _ _ _ (fun _ h => by cases h) (allC ucd (all1 (.pt _ (all1 (.s _)))))
    have ucst : UnderL 3 [(2, .pt cd.c), (5, .ref 0 0), (6, .ref 2 0), (12, .sl b .any (ints l)), (13, .int (ints l).length), (14, .int k)] := ⟨ucd, .ref _ _ (by decide), .ref _ _ (by decide), ull, .s _, .s _, trivial⟩
    refine Aw.keep (n := 3) (cst := [(2, .pt cd.c), (5, .ref 0 0), (6, .ref 2 0), (12, .sl b .any (ints l)), (13, .int (ints l).length), (14, .int k)]) (v := [(29, .fn (.func 72) [] [.pt cd.c, .pt [.int i]])]) (Hl := dfH cd (n + lt.crans) met) h3E ucst ⟨ufn, trivial⟩ (dfH_under cd _ met (Nat.le_refl _))
      ⟨⟨.refl _, .refl _, .refl _, .refl _, .refl _, .refl _, trivial⟩, ⟨.refl _, trivial⟩, ⟨rfl, rfl, rfl, trivial⟩, Nat.le_of_ble_eq_true rfl⟩ ?_
    have hlm : ((slotL cd.g lt u).map fun p => [slotA cd.g p]).length = (slotL cd.g lt u).length := List.length_map _
    have hs168 := slotL_len cd.g lt u hd
    generalize hm0 : n + lt.crans = m0 at *
    refine Aw.block (Aw.iter rfl (enters_of Try.func72 rfl rfl) ((slotL cd.g lt u).map fun p => [slotA cd.g p])
      (fun j H => ∃ m met2, H = ofH (dfH cd m met2) ∧ m0 - 20 * j ≤ m ∧ m ≤ m0 ∧ dfL cd (l.drop (k + 1)) (dfS cd.g ((slotL cd.g lt u).drop j) (m, met2)) = R)
      (fun _ _ => False) rfl (fun z h => by obtain ⟨p, _, rfl⟩ := List.mem_map.1 h; rfl) (ofL2_under (UnderL.app (l := [(29, .fn (.func 72) [] [.pt cd.c, .pt [.int i]])]) ⟨ufn, trivial⟩ ucst))
      (by rintro j H ⟨m, met2, rfl, _⟩; exact UnderH.ofH (dfH_under cd m met2 (Nat.le_refl _))) (fun _ _ h => h.elim)
      (fun it H hI => by rw [hlm]; exact slots1_t cd i lt u hd hin.1 hlt2 hu h8 it (Nat.lt_succ_self _) hI)
      ⟨m0, met, rfl, by show m0 - 20 * (0 : Int) ≤ m0; omega, Int.le_refl _, by rw [List.drop_zero]; exact hrun⟩ ?_ ?_ (fun _ _ _ _ ⟨_, h, _⟩ => h.elim))
    · intro lpB ulp j as' ha H hI E2 b2 hE2
      obtain ⟨m, met2, rfl, hm1, hm2, hrun'⟩ := hI
      obtain ⟨p, hp, rfl⟩ : ∃ p, (slotL cd.g lt u)[j]? = some p ∧ [slotA cd.g p] = as' := by
        rw [List.getElem?_map] at ha
        cases e : (slotL cd.g lt u)[j]? with
        | none => rw [e] at ha; cases ha
        | some p => rw [e] at ha; exact ⟨p, rfl, by simpa using ha⟩
      obtain ⟨hj, e⟩ := List.getElem?_eq_some_iff.1 hp
      have hdrop : (slotL cd.g lt u).drop j = p :: (slotL cd.g lt u).drop (j + 1) := by rw [List.drop_eq_getElem_cons hj, e]
      rw [hdrop, dfS] at hrun'
      refine Aw.em tab_ok mb0 [] rfl rfl ?zo ?zk
      case zo =>
        repeat' apply AllP.cons
        all_goals first | exact trivial | exact rfl | exact Nat.le_of_ble_eq_true rfl
      case zk =>
      refine ⟨rfl, rfl, ?_⟩
      have hpin : p < cd.g.wks.length * cd.g.hours.toNat := by
        have := List.mem_of_getElem? hp
        exact List.mem_range.1 (List.mem_filter.1 this).1
      have hwlt : p / cd.g.hours.toNat < cd.g.wks.length := Nat.div_lt_of_lt_mul (by rw [Nat.mul_comm]; exact hpin)
      obtain ⟨wk, hwk⟩ : ∃ wk, cd.g.wks[p / cd.g.hours.toNat]? = some wk := ⟨cd.g.wks[p / cd.g.hours.toNat], by simp [hwlt]⟩
      have hrt : rateAt cd.g p = wk.rate := by simp only [rateAt, List.getD_eq_getElem?_getD, hwk, Option.getD_some]
      have hr1 := rate_ge hd p
      have hr2 := rate_le hd p
      have hwget : (cd.g.wks.map Wk.c)[Int.toNat ((p / cd.g.hours.toNat : Nat) : Int)]? = some wk.c := by rw [Int.toNat_natCast, List.getElem?_map, hwk]; rfl
      refine Aw.block ?_
      refine Aw.sm tab_ok mb0 [] rfl rfl ?zo ?zk
      case zo =>
        repeat' apply AllP.cons
        all_goals first | exact trivial | exact rfl | exact Nat.le_of_ble_eq_true rfl
      case zk =>
      refine Aw.sm tab_ok mb0 [(2, [.bool true]), (6, [.bool (isSeen met2 p), .bool (mget met2 p).isSome])] rfl rfl ?zo ?zk
      case zo =>
        repeat' apply AllP.cons
        all_goals first | exact trivial | exact id | exact fun _ => rfl | exact Nat.le_of_ble_eq_true rfl | exact fun _ => Nat.le_of_ble_eq_true rfl | exact ne_last _ _ _ _ | exact fun _ => lk_seen cd met2 p
      case zk =>
      refine Aw.cond rfl (fun h2 => ?_) (fun h2 => Aw.skip ?_)
      · have h2' : isSeen met2 p = false := by
          have h2 : (!isSeen met2 p) = true := h2
          simpa using h2
        rw [if_neg (by rw [h2']; decide), hrt] at hrun'
        rw [hrt] at hr1 hr2
        have hup := (kty cd.g).up valB met2 p true
        refine Aw.sm tab_ok mb0 [] rfl rfl ?zo ?zk
        case zo =>
          repeat' apply AllP.cons
          all_goals first | exact trivial | exact Nat.le_of_ble_eq_true rfl | exact (kty cd.g).has valB met2 p
        case zk =>
        refine Aw.ed tab_ok mixed mb0 [(6, wk.c)] rfl (by kernel_rfl) rfl rfl ?zo ?zk
        case zo =>
          repeat' apply AllP.cons
          all_goals first | exact trivial | exact rfl | exact Nat.le_of_ble_eq_true rfl | exact Int.natCast_nonneg _ | exact hwget | exact (by simp only [Ob.of, inR]; omega)
        case zk =>
        exact ⟨⟨_, _, rfl⟩, Nat.le_of_ble_eq_true rfl, _, ⟨m - wk.rate, mput met2 p true, rfl, by push_cast; omega, by omega, hrun'⟩, HasH.ofH (l := dfH cd (m - wk.rate) (mput met2 p true)) ⟨rfl, congrArg (fun x => some (B.map x)) hup, rfl, trivial⟩⟩
      · have h2' : isSeen met2 p = true := by
          have h2 : (!isSeen met2 p) = false := h2
          simpa using h2
        rw [if_pos h2'] at hrun'
        exact ⟨⟨_, _, rfl⟩, Nat.le_of_ble_eq_true rfl, _, ⟨m, met2, rfl, by push_cast; omega, hm2, hrun'⟩, HasH.ofH (l := dfH cd m met2) ⟨rfl, rfl, rfl, trivial⟩⟩
    · rintro H c' hc ⟨H0, ⟨m, met2, rfl, hm1, hm2, hrun'⟩, hs⟩
      rw [hlm] at hm1 hrun'
      rw [List.drop_length, dfS] at hrun'
      have hH := hasH_of_sub (l := dfH cd m met2) rfl hs
      refine Aw.keep (n := 3) (cst := [(2, .pt cd.c), (5, .ref 0 0), (6, .ref 2 0), (12, .sl b .any (ints l)), (13, .int (ints l).length)]) (v := [(14, .int k)]) (Hl := dfH cd m met2) h3E ⟨ucd, .ref _ _ (by decide), .ref _ _ (by decide), ull, .s _, trivial⟩ ⟨.s _, trivial⟩ (dfH_under cd m met2 (Nat.le_refl _))
        ⟨⟨.refl _, .refl _, .refl _, .refl _, .refl _, trivial⟩, ⟨.refl _, trivial⟩, hH, hc⟩ ?_
      refine Aw.em tab_ok mb0 [] rfl rfl ?zo ?zk
      case zo =>
        repeat' apply AllP.cons
        all_goals first | exact trivial | exact (by simp only [Ob.of, inR]; omega)
      case zk =>
      exact ⟨(k + 1, m, met2), ⟨hlt, by show -(3360 * ((k + 1 : Nat) : Int)) ≤ m; omega, by show m ≤ 50 * ((k + 1 : Nat) : Int); omega, hrun'⟩, by show l.length - (k + 1) < l.length - k; omega, ⟨.refl _, .refl _, .refl _, .refl _, .refl _, trivial⟩, ⟨.refl _, trivial⟩, ⟨rfl, rfl, rfl, trivial⟩, Nat.le_of_ble_eq_true rfl⟩
  · have hend : k = l.length := by have := of_decide_eq_false h1; omega
    subst hend
    rw [List.drop_length, dfL] at hrun
    subst hrun
    refine Aw.sm tab_ok mb0 [] rfl rfl ?zo ?zk
    case zo =>
      repeat' apply AllP.cons
      all_goals first | exact trivial | exact Nat.le_of_ble_eq_true rfl
    case zk =>
    exact Aw.ret ⟨_, .cons (.tmp _) .nil, rfl⟩
end Go.Proofs.Ytimikmfkdaoaaaa
namespace Go.Proofs.Ytimikmfkdaoaaaa
open Go Go.AL
def risingF (n : Int) : Int → List Int → Bool
  | _, [] => true
  | last, i :: is => cond (wi i (last + 1) (n - 1)) (risingF n i is) false
theorem rising_in {n : Int} : ∀ {l : List Int} {last : Int}, risingF n last l = true → -1 ≤ last → last < n → (∀ i ∈ l, last < i ∧ i < n) ∧ (l.length : Int) ≤ n - 1 - last
  | [], last, _, h1, h2 => ⟨(fun _ h => nomatch h), by simp; omega⟩
  | i :: is, last, h, h1, h2 => by
    unfold risingF at h
    cases e : wi i (last + 1) (n - 1) with
    | false => rw [e] at h; cases h
    | true =>
      rw [e] at h
      have g := wi_iff.1 e
      obtain ⟨k1, k2⟩ := rising_in (l := is) h (by omega) (by omega)
      refine ⟨fun j hj => ?_, by simp only [List.length_cons]; push_cast; omega⟩
      rcases List.mem_cons.1 hj with rfl | hj
      · omega
      · have := k1 j hj; omega
def nLots (d : Day) : Int := (d.lots.map Lot.c).length
def deficitR (d : Day) (l : List Int) : List A := if d.ok then (if risingF (nLots d) (-1) l then [.int (deficitV (opened d Spn.hi) l), .int 0] else [.int 0, .int 51]) else [.int 0, .int 50]
theorem Deficit_t (d : Day) (b : Bool) (l : List Int) (hs : Small d) (hw : (l.length : Int) ≤ 9223372036854775807) : Ans Try.prog 25 [.agg d.c, .sl b .any (ints l)] (.tup (deficitR d l)) := by
  have hfr : Free (.tup (deficitR d l)) := .tup _ (by
    unfold deficitR; split
    · split <;> exact allC (.s _) (all1 (.s _))
    · exact allC (.s _) (all1 (.s _)))
  refine told Try.func25 rfl rfl (Pure.of tab_ok Try.func25 rfl Try.ntmps25 rfl (allC (.agg _ d.free) (all1 (free_ints _ _ _))) (allC (fun _ => rfl) (all1 (fun _ => rfl))) (by first | exact .s _ | assumption | exact .tup _ (by intro x hx; simp only [List.mem_cons, List.not_mem_nil, or_false] at hx; rcases hx with rfl | rfl | rfl | rfl <;> first | exact .s _ | (simp_all; done))) fun E hE => ?_)
  refine Aw.sm tab_ok mb0 [] rfl rfl ?zo ?zk
  case zo =>
    repeat' apply AllP.cons
    all_goals first | exact trivial
  case zk =>
  refine Aw.seq ?_
  refine Aw.sm tab_ok mb0 [(1, [.int d.errA])] rfl rfl ?zo ?zk
  case zo =>
    repeat' apply AllP.cons
    all_goals first | exact trivial | exact Nat.le_of_ble_eq_true rfl | exact check_s hs
  case zk =>
  refine Aw.sm tab_ok mb0 [] rfl rfl ?zo ?zk
  case zo =>
    repeat' apply AllP.cons
    all_goals first | exact trivial
  case zk =>
  refine Aw.cond rfl (fun h1 => ?_) (fun h1 => Aw.skip ?_)
  · have hno : d.ok = false := by
      cases h : d.ok with
      | false => rfl
      | true => rw [err_ok h] at h1; exact absurd h1 (by decide)
    refine Aw.sm tab_ok mb0 [] rfl rfl ?zo ?zk
    case zo =>
      repeat' apply AllP.cons
      all_goals first | exact trivial
    case zk =>
    exact Aw.ret ⟨_, .cons (.tmp _) (.cons (.tmp _) .nil), by simp only [deficitR, hno]; rw [err_no hno]; rfl⟩
  have hok : d.ok = true := by
    cases h : d.ok with
    | true => rfl
    | false => rw [err_no h] at h1; exact absurd h1 (by decide)
  have hd := DayOk.of hok
  have nl := hd.nl
  have hR : deficitR d l = if risingF (nLots d) (-1) l then [.int (deficitV (opened d Spn.hi) l), .int 0] else [.int 0, .int 51] := by simp only [deficitR, hok]; rfl
  rw [hR]
  generalize hRb : risingF (nLots d) (-1) l = R
  have lz : ((ints l).length : Int) = l.length := by simp [ints]
  have ll : nLots d = d.lots.length := by simp [nLots]
  have udc : ∀ {n : Nat}, Under n (.pt d.c) := .pt _ fun x hx => (d.free x hx).under
  have ull : ∀ {n : Nat}, Under n (.sl b .any (ints l)) := (free_ints _ _ _).under
  refine Aw.sm tab_ok mb0 [] rfl rfl ?zo ?zk
  case zo =>
    repeat' apply AllP.cons
    all_goals first | exact trivial
  case zk =>
  refine Aw.seq ?_
  refine Aw.sm tab_ok mb0 [] rfl rfl ?zo ?zk
  case zo =>
    repeat' apply AllP.cons
    all_goals first | exact trivial
  case zk =>
  refine Aw.block (Aw.rounds (ι := Nat × Int) 0 hE [(1, .sl b .any (ints l)), (2, .pt d.c), (15, .sl b .any (ints l)), (16, .int (ints l).length)] (fun i => [(7, .int i.2), (17, .int i.1)]) (fun _ => [])
    (fun i => i.1 ≤ l.length ∧ -1 ≤ i.2 ∧ i.2 ≤ 8 ∧ risingF (nLots d) i.2 (l.drop i.1) = R) (fun i => l.length - i.1) (0, -1)
    ⟨Nat.zero_le _, Int.le_refl _, by show (-1 : Int) ≤ 8; decide, by rw [List.drop_zero]; exact hRb⟩ ⟨⟨.refl _, .refl _, .refl _, .refl _, trivial⟩, ⟨.refl _, .refl _, trivial⟩, trivial, Nat.le_refl _⟩
    ⟨ull, udc, ull, .s _, trivial⟩ (fun _ _ => ⟨.s _, .s _, trivial⟩) (fun _ _ => trivial) ?_)
  rintro ⟨k, last⟩ ⟨hk, hl1, hl2, hrun⟩
  simp only at hk hl1 hl2 hrun
  refine Aw.sm tab_ok mb0 [] rfl rfl ?zo ?zk
  case zo =>
    repeat' apply AllP.cons
    all_goals first | exact trivial
  case zk =>
  refine Aw.seq (Aw.cond rfl (fun h2 => Aw.skip1 ?_) (fun h2 => Aw.exit2 ?_))
  · have hlt : k < l.length := by have := of_decide_eq_true h2; omega
    rw [List.drop_eq_getElem_cons hlt, risingF] at hrun
    have hget := ints_get hlt
    generalize l[k] = i at *
    refine Aw.seq (Aw.block ?_)
    refine Aw.sm tab_ok mb0 [(0, [.int i])] rfl rfl ?zo ?zk
    case zo =>
      repeat' apply AllP.cons
      all_goals first | exact trivial | exact rfl | exact Nat.le_of_ble_eq_true rfl | exact Int.natCast_nonneg _ | exact hget
    case zk =>
    refine Aw.seq ?_
    refine Aw.sm tab_ok mb0 [(7, [.bool (wi i (last + 1) (nLots d - 1))])] rfl rfl ?zo ?zk
    case zo =>
      repeat' apply AllP.cons
      all_goals first | exact trivial | exact Nat.le_of_ble_eq_true rfl | exact within_t _ _ _ | exact (by simp only [Ob.of, inR]; omega) | exact (show inR (nLots d - 1) by simp only [inR]; omega)
    case zk =>
    refine Aw.cond rfl (fun h3 => ?_) (fun h3 => Aw.skip ?_)
    · have h3' : wi i (last + 1) (nLots d - 1) = false := by simpa using h3
      rw [h3'] at hrun
      have hrun : false = R := hrun
      subst hrun
      refine Aw.sm tab_ok mb0 [] rfl rfl ?zo ?zk
      case zo =>
        repeat' apply AllP.cons
        all_goals first | exact trivial
      case zk =>
      exact Aw.ret ⟨_, .cons (.tmp _) (.cons (.tmp _) .nil), rfl⟩
    have h3' : wi i (last + 1) (nLots d - 1) = true := by simpa using h3
    rw [h3'] at hrun
    have g := wi_iff.1 h3'
    refine Aw.em tab_ok mb0 [] rfl rfl ?zo ?zk
    case zo =>
      repeat' apply AllP.cons
      all_goals first | exact trivial
    case zk =>
    refine Aw.em tab_ok mb0 [] rfl rfl ?zo ?zk
    case zo =>
      repeat' apply AllP.cons
      all_goals first | exact trivial | exact (by simp only [Ob.of, inR]; omega)
    case zk =>
    exact ⟨(k + 1, i), ⟨hlt, by show -1 ≤ i; omega, by show i ≤ 8; omega, hrun⟩, by show l.length - (k + 1) < l.length - k; omega, ⟨.refl _, .refl _, .refl _, .refl _, trivial⟩, ⟨.refl _, .refl _, trivial⟩, trivial, Nat.zero_le _⟩
  · have hend : k = l.length := by have := of_decide_eq_false h2; omega
    subst hend
    rw [List.drop_length, risingF] at hrun
    subst hrun
    have g8 := opened8 hd Spn.hi
    obtain ⟨r1, r2⟩ := rising_in hRb (by decide) (by omega)
    have hdf : Ans Try.prog 65 [.agg (opened d Spn.hi).c, .sl b .any (ints l)] (.int (deficitV (opened d Spn.hi) l)) :=
      deficit_t (opened d Spn.hi) hd g8 b l (by omega) fun i hi => by
        have := r1 i hi
        exact ⟨by omega, by show i < d.lots.length; omega⟩
    refine Aw.sd tab_ok mixed mb0 [(1, [.agg (endC 69)]), (2, [.agg (opened d Spn.hi).c]), (4, [.int (deficitV (opened d Spn.hi) l)])] rfl (by kernel_rfl) rfl rfl ?zo ?zk
    case zo =>
      repeat' apply AllP.cons
      all_goals first | exact trivial | exact Nat.le_of_ble_eq_true rfl | exact surely_t | exact opened_t d 69 _ surely_ok hd | exact hdf
    case zk =>
    exact Aw.ret ⟨_, .cons (.tmp _) (.cons (.tmp _) .nil), rfl⟩
end Go.Proofs.Ytimikmfkdaoaaaa
namespace Go.Proofs.Ytimikmfkdaoaaaa
open Go Go.AL
def outA : List Int → A
  | [] => .sl true .exact []
  | x :: l => .sl false .any (ints (x :: l))
theorem outA_free : ∀ l : List Int, Free (outA l)
  | [] => .sl _ _ _ (fun _ h => by cases h)
  | x :: l => free_ints _ _ _
def fromN (l : List Int) : Nat := match l.getLast? with | none => 0 | some x => (x + 1).toNat
abbrev Pst := Int × List Int
def chGo (rec : List Int → Pst → Pst) (l : List Int) : List Nat → Pst → Pst
  | [], s => s
  | i :: is, s => chGo rec l is (rec (l ++ [(i : Int)]) s)
def chF (cd : CDay) : Nat → List Int → Pst → Pst
  | 0, l, s => if deficitV cd l > s.1 then (deficitV cd l, l) else s
  | f + 1, l, s => chGo (chF cd f) l ((List.range cd.g.lots.length).drop (fromN l)) s
def prGo (cd : CDay) : List Nat → Pst → Pst
  | [], s => s
  | k :: ks, s => prGo cd ks (chF cd (k + 1) [] s)
def proofV (d : Day) : List Int := (prGo (opened d Spn.hi) (List.range d.lots.length) (0, [])).2
def proofR (d : Day) : List A := if d.ok then [outA (proofV d), .int 0] else [outA [], .int 50]
def prFn : A := .fn (.func 67) [] [.ref 3 0, .ref 5 0, .ref 6 0, .ref 7 0]
def prH (cd : CDay) (s : Pst) : List (Nat × B) := [(3, .cells cd.c), (5, .cells [.int s.1]), (6, .cells [outA s.2]), (7, .cells [prFn])]
theorem prFn_under {n : Nat} (h : 8 ≤ n) : Under n prFn := .fn _ _ _ (fun _ h => by cases h) (allC (.ref _ _ (by omega)) (allC (.ref _ _ (by omega)) (allC (.ref _ _ (by omega)) (all1 (.ref _ _ (by omega))))))
theorem prH_under (cd : CDay) (s : Pst) {n : Nat} (h : 8 ≤ n) : UnderH n (prH cd s) :=
  ⟨⟨by omega, .cells _ fun x hx => (cd.free x hx).under⟩, ⟨by omega, .cells _ (all1 (.s _))⟩, ⟨by omega, .cells _ (all1 (outA_free _).under)⟩, ⟨by omega, .cells _ (all1 (prFn_under h))⟩, trivial⟩
def InPr (i : Nat) : Prop := i = 3 ∨ i = 5 ∨ i = 6 ∨ i = 7
theorem prH_dom (cd : CDay) (s : Pst) (i : Nat) : (ofH (prH cd s) i).isSome = true ↔ InPr i := by
  simp only [prH, ofH, updH_apply, InPr]
  by_cases h1 : i = 3 <;> by_cases h4 : i = 5 <;> by_cases h5 : i = 6 <;> by_cases h6 : i = 7 <;> simp [h1, h4, h5, h6]
theorem prFn_nms : Nms InPr prFn := .fn _ _ _ (fun _ h => by cases h) (allC (.ref _ _ (.inl rfl)) (allC (.ref _ _ (.inr (.inl rfl))) (allC (.ref _ _ (.inr (.inr (.inl rfl)))) (all1 (.ref _ _ (.inr (.inr (.inr rfl))))))))
theorem prH_nms (cd : CDay) (s : Pst) (i : Nat) (bx : B) (h : ofH (prH cd s) i = some bx) : InPr i ∧ NmsB InPr bx := by
  refine ⟨(prH_dom cd s i).1 (by rw [h]; rfl), ?_⟩
  simp only [prH, ofH, updH_apply] at h
  split at h
  · cases h; exact .cells _ fun x hx => (cd.free x hx).nms
  · split at h
    · cases h; exact .cells _ (all1 (.s _))
    · split at h
      · cases h; exact .cells _ (all1 (outA_free _).nms)
      · split at h
        · cases h; exact .cells _ (all1 prFn_nms)
        · cases h
theorem ch_frame {cd : CDay} {l : List Int} {many : Int} {s R : Pst} (h : SCall Try.prog 67 [outA l, .int many, .ref 3 0, .ref 5 0, .ref 6 0, .ref 7 0] (ofH (prH cd s)) 8 (fun v H' _ => v = .tup [] ∧ H' = ofH (prH cd R))) {H : Hp} {c : Nat} (hH : HasH H (prH cd s)) :
    SCall Try.prog 67 [outA l, .int many, .ref 3 0, .ref 5 0, .ref 6 0, .ref 7 0] H c fun v H1 c1 => v = .tup [] ∧ c1 = c ∧ H1 = overH H (ofH (prH cd s)) (ofH (prH cd R)) := by
  have dn : (fun i => (ofH (prH cd s) i).isSome = true) = InPr := by funext i; exact propext (prH_dom cd s i)
  refine (h.frame (H := H) (c := c) (fun id bx hb => ?_) (fun id bx hb => ?_) ?_ ?_).mono ?_
  · rcases (prH_nms cd s id bx hb).1 with rfl | rfl | rfl | rfl <;> decide
  · rw [dn]; exact ⟨(prH_nms cd s id bx hb).2, hH.ofH id bx hb⟩
  · rw [dn]
    exact allC (outA_free _).nms (allC (.s _) (allC (.ref _ _ (.inl rfl)) (allC (.ref _ _ (.inr (.inl rfl))) (allC (.ref _ _ (.inr (.inr (.inl rfl)))) (all1 (.ref _ _ (.inr (.inr (.inr rfl)))))))))
  · rintro v H' c' ⟨rfl, rfl⟩
    rw [dn]
    refine ⟨.tup _ (fun _ h => by cases h), fun id bx hb => ?_⟩
    have := prH_nms cd _ id bx hb
    exact ⟨(prH_dom cd s id).2 this.1, this.2⟩
  · rintro v H1 c1 ⟨H', c', ⟨rfl, rfl⟩, h2, h3⟩
    exact ⟨rfl, h3, h2⟩
theorem ch_frame' {cd : CDay} {l : List Int} {x : A} {many : Int} {s R : Pst} (hx : x = outA l) (h : SCall Try.prog 67 [x, .int many, .ref 3 0, .ref 5 0, .ref 6 0, .ref 7 0] (ofH (prH cd s)) 8 (fun v H' _ => v = .tup [] ∧ H' = ofH (prH cd R))) {H : Hp} {c : Nat} (hH : HasH H (prH cd s)) :
    SCall Try.prog 67 [x, .int many, .ref 3 0, .ref 5 0, .ref 6 0, .ref 7 0] H c fun v H1 c1 => v = .tup [] ∧ c1 = c ∧ H1 = overH H (ofH (prH cd s)) (ofH (prH cd R)) := by
  subst hx; exact ch_frame h hH
theorem choose_t (cd : CDay) (hd : DayOk cd.g) (h8 : cd.u.length = 8) : ∀ (f : Nat) (l : List Int) (s : Pst) (many : Nat), l.length + f = many → 1 ≤ many → many ≤ 8 → (∀ i ∈ l, 0 ≤ i ∧ i < cd.g.lots.length) →
    SCall Try.prog 67 [outA l, .int many, .ref 3 0, .ref 5 0, .ref 6 0, .ref 7 0] (ofH (prH cd s)) 8 (fun v H' _ => v = .tup [] ∧ H' = ofH (prH cd (chF cd f l s))) := by
  intro f
  induction f with
  | zero =>
    intro l s many hlen h1 hm hl
    have w12 : A.agg (((List.drop 0 cd.c).take 12).map A.down) = .agg cd.c := day12 cd h8
    have l12 : 0 + 12 ≤ cd.c.length := by rw [CDay.len h8]; exact Nat.le_refl _
    have hdf := deficit_t cd hd h8 false l (by omega) hl
    have hch : chF cd 0 l s = if deficitV cd l > s.1 then (deficitV cd l, l) else s := rfl
    rw [hch]
    have hz : ((ints l).length : Int) = many := by simp [ints]; omega
    have ho : outA l = .sl false .any (ints l) := by
      cases l with
      | nil => simp at hlen; omega
      | cons x l => rfl
    have hol := ho
    rw [ho]
    generalize deficitV cd l = v at *
    generalize hR : (if v > s.1 then (v, l) else s) = R
    refine SCall.drop (post := fun v H' _ => v = .tup [] ∧ HasH H' (prH cd R)) (SCall.of_bodyN tab_ok Try.func67 rfl Try.ntmps67 (Nat.le_of_ble_eq_true rfl) (allC (fun _ => rfl) (allC (fun _ => rfl) (allC (fun _ => rfl) (allC (fun _ => rfl) (allC (fun _ => rfl) (all1 fun _ => rfl)))))) fun E hE => ?_)
      (fun v H' c' h => ⟨_, h.2.ofH, h.1, rfl⟩)
    refine Aw.seq ?_
    refine Aw.sm tab_ok mb0 [] rfl rfl ?zo ?zk
    case zo =>
      repeat' apply AllP.cons
      all_goals first | exact trivial
    case zk =>
    have hq : (((ints l).length : Int) == many) = true := by rw [hz]; simp
    refine Aw.cond rfl (fun _ => ?_) (fun h2 => ?_)
    · refine Aw.seq ?_
      refine Aw.sm tab_ok mb0 [(0, [.agg cd.c]), (2, [.int v])] rfl rfl ?zo ?zk
      case zo =>
        repeat' apply AllP.cons
        all_goals first | exact trivial | exact w12 | exact l12 | exact hdf
      case zk =>
      refine Aw.sm tab_ok mb0 [] rfl rfl ?zo ?zk
      case zo =>
        repeat' apply AllP.cons
        all_goals first | exact trivial | exact Nat.le_of_ble_eq_true rfl
      case zk =>
      refine Aw.cond rfl (fun h2 => ?_) (fun h2 => Aw.skip ?_)
      · have h2' : v > s.1 := of_decide_eq_true h2
        rw [if_pos h2'] at hR
        subst hR
        refine Aw.em tab_ok mb0 [] rfl rfl ?zo ?zk
        case zo =>
          repeat' apply AllP.cons
          all_goals first | exact trivial | exact rfl | exact Nat.le_of_ble_eq_true rfl
        case zk =>
        exact Aw.ret ⟨_, .nil, rfl, ⟨rfl, rfl, congrArg (fun x => some (B.cells [x])) hol.symm, rfl, trivial⟩⟩
      · have h2' : ¬ v > s.1 := of_decide_eq_false h2
        rw [if_neg h2'] at hR
        subst hR
        exact Aw.ret ⟨_, .nil, rfl, ⟨rfl, rfl, rfl, rfl, trivial⟩⟩
    · have h2 : (((ints l).length : Int) == many) = false := h2
      rw [hq] at h2; cases h2
  | succ f ih =>
    intro l s many hlen h1 hm hl
    have hch : chF cd (f + 1) l s = chGo (chF cd f) l ((List.range cd.g.lots.length).drop (fromN l)) s := rfl
    rw [hch]
    generalize hR : chGo (chF cd f) l ((List.range cd.g.lots.length).drop (fromN l)) s = R
    have nl := hd.nl
    have hol : ∀ {n : Nat}, Under n (outA l) := (outA_free l).under
    have hfn : fromN l ≤ cd.g.lots.length := by
      unfold fromN
      cases e : l.getLast? with
      | none => exact Nat.zero_le _
      | some x => have := hl x (List.mem_of_getLast? e); show (x + 1).toNat ≤ _; omega
    refine SCall.drop (post := fun v H' _ => v = .tup [] ∧ HasH H' (prH cd R)) (SCall.of_bodyN tab_ok Try.func67 rfl Try.ntmps67 (Nat.le_of_ble_eq_true rfl) (allC (fun _ => by cases l <;> rfl) (allC (fun _ => rfl) (allC (fun _ => rfl) (allC (fun _ => rfl) (allC (fun _ => rfl) (all1 fun _ => rfl)))))) fun E hE => ?_)
      (fun v H' c' h => ⟨_, h.2.ofH, h.1, rfl⟩)
    have h8E : ∀ id, 8 ≤ id → E.φ0 id = none := hE
    have lts : ((cd.g.lots.map Lot.c).length : Int) = cd.g.lots.length := by simp
    have uc : UnderL 8 [(0, outA l), (1, .int many), (2, .ref 3 0), (5, .ref 7 0)] := ⟨hol, .s _, .ref _ _ (by decide), .ref _ _ (by decide), trivial⟩
    refine Aw.join1 8 h8E [(0, outA l), (1, .int many), (2, .ref 3 0), (5, .ref 7 0)] [] (prH cd s) uc trivial (prH_under cd s (Nat.le_refl _)) ?_ ?_
    · cases l with
      | nil =>
        refine Aw.sm tab_ok mb0 [] rfl rfl ?zo ?zk
        case zo =>
          repeat' apply AllP.cons
          all_goals first | exact trivial
        case zk =>
        refine Aw.cond rfl (fun h2 => ?_) (fun _ => Aw.skip ⟨⟨.refl _, .refl _, .refl _, .refl _, trivial⟩, trivial, ⟨rfl, rfl, rfl, rfl, trivial⟩, Nat.le_refl _⟩)
        have h2 : (((([] : List (List A)).length : Nat) : Int) == many) = true := h2
        simp at h2; omega
      | cons x l =>
        refine Aw.sm tab_ok mb0 [] rfl rfl ?zo ?zk
        case zo =>
          repeat' apply AllP.cons
          all_goals first | exact trivial
        case zk =>
        refine Aw.cond rfl (fun h2 => ?_) (fun _ => Aw.skip ⟨⟨.refl _, .refl _, .refl _, .refl _, trivial⟩, trivial, ⟨rfl, rfl, rfl, rfl, trivial⟩, Nat.le_refl _⟩)
        have h2 : ((((ints (x :: l)).length : Nat) : Int) == many) = true := h2
        simp [ints] at h2
        simp at hlen; omega
    refine Aw.sm tab_ok mb0 [] rfl rfl ?zo ?zk
    case zo =>
      repeat' apply AllP.cons
      all_goals first | exact trivial
    case zk =>
    refine Aw.join1 8 h8E [(0, outA l), (1, .int many), (2, .ref 3 0), (5, .ref 7 0)] [(9, .int (fromN l))] (prH cd s) uc ⟨.s _, trivial⟩ (prH_under cd s (Nat.le_refl _)) ?_ ?_
    · cases l with
      | nil =>
        refine Aw.sm tab_ok mb0 [] rfl rfl ?zo ?zk
        case zo =>
          repeat' apply AllP.cons
          all_goals first | exact trivial
        case zk =>
        exact Aw.cond rfl (fun h2 => by cases h2) (fun _ => Aw.skip ⟨⟨.refl _, .refl _, .refl _, .refl _, trivial⟩, ⟨.refl _, trivial⟩, ⟨rfl, rfl, rfl, rfl, trivial⟩, Nat.le_refl _⟩)
      | cons x l =>
        generalize hL : x :: l = L at *
        have hLl : L.length ≤ 8 ∧ 0 < L.length := by rw [← hL]; simp; rw [← hL] at hlen; simp at hlen; omega
        obtain ⟨y, hy⟩ : ∃ y, L[L.length - 1]? = some y := ⟨L[L.length - 1]'(by omega), by simp [show L.length - 1 < L.length by omega]⟩
        have hyb := hl y (List.mem_of_getElem? hy)
        have hfy : A.int (fromN L) = .int (y + 1) := by
          unfold fromN; rw [List.getLast?_eq_getElem?, hy]
          show A.int (((y + 1).toNat : Nat) : Int) = _
          rw [Int.toNat_of_nonneg (by omega)]
        have hlz : ((ints L).length : Int) = L.length := by simp [ints]
        have hyi : (ints L)[Int.toNat (((ints L).length : Int) - 1)]? = some [.int y] := by
          have : Int.toNat (((ints L).length : Int) - 1) = L.length - 1 := by omega
          rw [this]; simp [ints, hy]
        have hoL : outA L = .sl false .any (ints L) := by rw [← hL]; rfl
        rw [hoL]
        refine Aw.sm tab_ok mb0 [] rfl rfl ?zo ?zk
        case zo =>
          repeat' apply AllP.cons
          all_goals first | exact trivial
        case zk =>
        refine Aw.cond rfl (fun _ => ?_) (fun h2 => ?_)
        · refine Aw.em tab_ok mb0 [(4, [.int y])] rfl rfl ?zo ?zk
          case zo =>
            repeat' apply AllP.cons
            all_goals first | exact trivial | exact rfl | exact Nat.le_of_ble_eq_true rfl | exact hyi | exact (by simp only [Ob.of, inR]; omega)
          case zk =>
          exact ⟨⟨.refl _, .refl _, .refl _, .refl _, trivial⟩, ⟨.of_eq hfy, trivial⟩, ⟨rfl, rfl, rfl, rfl, trivial⟩, Nat.le_of_ble_eq_true rfl⟩
        · have h2 : decide (((ints L).length : Int) > 0) = false := h2
          have := of_decide_eq_false h2; omega
    refine Aw.sm tab_ok mb0 [] rfl rfl ?zo ?zk
    case zo =>
      repeat' apply AllP.cons
      all_goals first | exact trivial
    case zk =>
    refine Aw.block (Aw.rounds (ι := Nat × Pst) 8 h8E [(0, outA l), (1, .int many), (2, .ref 3 0), (5, .ref 7 0)] (fun i => [(10, .int i.1)]) (fun i => prH cd i.2)
      (fun i => i.1 ≤ cd.g.lots.length ∧ chGo (chF cd f) l ((List.range cd.g.lots.length).drop i.1) i.2 = R) (fun i => cd.g.lots.length - i.1) (fromN l, s)
      ⟨hfn, hR⟩ ⟨⟨.refl _, .refl _, .refl _, .refl _, trivial⟩, ⟨.refl _, trivial⟩, ⟨rfl, rfl, rfl, rfl, trivial⟩, Nat.le_refl _⟩ uc (fun _ _ => ⟨.s _, trivial⟩) (fun i _ => prH_under cd i.2 (Nat.le_refl _)) ?_)
    rintro ⟨i, s2⟩ ⟨hi, hrun⟩
    simp only at hi hrun
    refine Aw.seq ?_
    refine Aw.sm tab_ok mb0 [] rfl rfl ?zo ?zk
    case zo =>
      repeat' apply AllP.cons
      all_goals first | exact trivial | exact Nat.le_of_ble_eq_true rfl
    case zk =>
    refine Aw.cond rfl (fun h2 => Aw.skip ?_) (fun h2 => ?_)
    · have hlt : i < cd.g.lots.length := by have := of_decide_eq_true h2; omega
      have hdr : (List.range cd.g.lots.length).drop i = i :: (List.range cd.g.lots.length).drop (i + 1) := by
        rw [List.drop_eq_getElem_cons (by simpa using hlt)]; simp
      rw [hdr, chGo] at hrun
      have hz8 : (ints l).length ≤ 8 := by simp [ints]; omega
      have hcall := ih (l ++ [(i : Int)]) s2 many (by simp; omega) h1 hm (fun j hj => by
        rcases List.mem_append.1 hj with h | h
        · exact hl j h
        · simp at h; subst h; omega)
      generalize chF cd f (l ++ [(i : Int)]) s2 = s3 at *
      have hone : ∀ z ∈ [[A.int (i : Int)]], z.length = 1 := fun z hz => by simp at hz; subst hz; rfl
      have hzs : ∀ z ∈ ints l, z.length = 1 := fun z hz => by obtain ⟨i, _, rfl⟩ := List.mem_map.1 hz; rfl
      refine Aw.seq (Aw.block (SegW.start mixed ?_))
      cases l with
      | nil =>
        refine SegW.run (b := 0) tab_ok mb0 11 [] rfl (by kernel_rfl) rfl rfl ?zo ?zk
        case zo =>
          repeat' apply AllP.cons
          all_goals first | exact trivial | exact id | exact rfl | exact Nat.le_of_ble_eq_true rfl | exact hone | exact Int.le_refl _
        case zk =>
        refine SegW.step rfl (by kernel_rfl) rfl (fun i h1 h2 => by have h2 : i < 12 := h2; omega) (Does.raw rfl (DoesR.call rfl rfl (enters_of Try.func67 rfl rfl) (ch_frame hcall (H := _) (c := _) ⟨rfl, rfl, rfl, rfl, trivial⟩) ?_))
        rintro v H' c' ⟨rfl, rfl, rfl⟩
        refine SegW.done (by kernel_rfl) (Nat.le_of_ble_eq_true rfl) ?_
        refine Aw.em tab_ok mb0 [] rfl rfl ?zo ?zk
        case zo =>
          repeat' apply AllP.cons
          all_goals first | exact trivial | exact (by simp only [Ob.of, inR]; omega)
        case zk =>
        exact ⟨(i + 1, s3), ⟨hlt, hrun⟩, by show cd.g.lots.length - (i + 1) < cd.g.lots.length - i; omega, ⟨.refl _, .refl _, .refl _, .refl _, trivial⟩, ⟨.refl _, trivial⟩, ⟨rfl, rfl, rfl, rfl, trivial⟩, Nat.le_of_ble_eq_true rfl⟩
      | cons x l =>
        have hL : outA (x :: l) = .sl false .any (ints (x :: l)) := rfl
        generalize hgl : x :: l = L at *
        rw [hL]
        have hres : outA (L ++ [(i : Int)]) = .sl false .any ((ints L).take (Int.toNat ((ints L).length : Int)) ++ [[A.int (i : Int)]]) := by
          rw [Int.toNat_natCast, List.take_length, ← hgl]; simp [ints, outA]
        rw [hres] at hcall
        have ht : (ints L).take (Int.toNat ((ints L).length : Int)) = ints L := by rw [Int.toNat_natCast, List.take_length]
        have hb1 : ∀ z ∈ (ints L).take (Int.toNat ((ints L).length : Int)) ++ [[A.int (i : Int)]], z.length = 1 := fun z hz => by
          rw [ht] at hz
          rcases List.mem_append.1 hz with h | h
          · exact hzs z h
          · exact hone z h
        have hb2 : (((ints L).take (Int.toNat ((ints L).length : Int))).length + 1) * 8 ≤ 140737488355328 := by rw [ht]; omega
        have hb3 : ((ints L).take (Int.toNat ((ints L).length : Int))).length + 1 ≤ maxLen := by rw [ht]; unfold maxLen; omega
        refine SegW.run (b := 0) tab_ok mb0 11 [] rfl (by kernel_rfl) rfl rfl ?zo ?zk
        case zo =>
          repeat' apply AllP.cons
          all_goals first | exact trivial | exact id | exact rfl | exact Nat.le_of_ble_eq_true rfl | exact hb1 | exact hb2 | exact hb3 | exact Int.natCast_nonneg _ | exact Int.le_refl _
        case zk =>
        refine SegW.step rfl (by kernel_rfl) rfl (fun i h1 h2 => by have h2 : i < 12 := h2; omega) (Does.raw rfl (DoesR.call (fst := []) (cap := [.ref 3 0, .ref 5 0, .ref 6 0, .ref 7 0]) rfl rfl (enters_of Try.func67 rfl rfl) (ch_frame' hres.symm hcall (H := _) (c := _) ⟨rfl, rfl, rfl, rfl, trivial⟩) ?_))
        rintro v H' c' ⟨rfl, rfl, rfl⟩
        refine SegW.done (by kernel_rfl) (Nat.le_of_ble_eq_true rfl) ?_
        refine Aw.em tab_ok mb0 [] rfl rfl ?zo ?zk
        case zo =>
          repeat' apply AllP.cons
          all_goals first | exact trivial | exact (by simp only [Ob.of, inR]; omega)
        case zk =>
        exact ⟨(i + 1, s3), ⟨hlt, hrun⟩, by show cd.g.lots.length - (i + 1) < cd.g.lots.length - i; omega, ⟨.refl _, .refl _, .refl _, .refl _, trivial⟩, ⟨.refl _, trivial⟩, ⟨rfl, rfl, rfl, rfl, trivial⟩, Nat.le_of_ble_eq_true rfl⟩
    · have hend : i = cd.g.lots.length := by have := of_decide_eq_false h2; omega
      subst hend
      rw [List.drop_of_length_le (by simp), chGo] at hrun
      subst hrun
      exact Aw.exit2 ⟨_, .nil, rfl, ⟨rfl, rfl, rfl, rfl, trivial⟩⟩
theorem Proof_t (d : Day) (hs : Small d) : Ans Try.prog 27 [.agg d.c] (.tup (proofR d)) := by
  have hfr : Free (.tup (proofR d)) := .tup _ (by
    unfold proofR; split <;> exact allC (outA_free _) (all1 (.s _)))
  refine told Try.func27 rfl rfl (Pure.of tab_ok Try.func27 rfl Try.ntmps27 rfl (all1 (.agg _ d.free)) (all1 (fun _ => rfl)) (by first | exact .s _ | assumption | exact .tup _ (by intro x hx; simp only [List.mem_cons, List.not_mem_nil, or_false] at hx; rcases hx with rfl | rfl | rfl | rfl <;> first | exact .s _ | (simp_all; done))) fun E hE => ?_)
  refine Aw.sm tab_ok mb0 [] rfl rfl ?zo ?zk
  case zo =>
    repeat' apply AllP.cons
    all_goals first | exact trivial
  case zk =>
  refine Aw.seq ?_
  refine Aw.sm tab_ok mb0 [(1, [.int d.errA])] rfl rfl ?zo ?zk
  case zo =>
    repeat' apply AllP.cons
    all_goals first | exact trivial | exact Nat.le_of_ble_eq_true rfl | exact check_s hs
  case zk =>
  refine Aw.sm tab_ok mb0 [] rfl rfl ?zo ?zk
  case zo =>
    repeat' apply AllP.cons
    all_goals first | exact trivial
  case zk =>
  refine Aw.cond rfl (fun h1 => ?_) (fun h1 => Aw.skip ?_)
  · have hno : d.ok = false := by
      cases h : d.ok with
      | false => rfl
      | true => rw [err_ok h] at h1; exact absurd h1 (by decide)
    refine Aw.sm tab_ok mb0 [] rfl rfl ?zo ?zk
    case zo =>
      repeat' apply AllP.cons
      all_goals first | exact trivial
    case zk =>
    exact Aw.ret ⟨_, .cons (.tmp _) (.cons (.tmp _) .nil), by simp only [proofR, hno]; rw [err_no hno]; rfl⟩
  have hok : d.ok = true := by
    cases h : d.ok with
    | true => rfl
    | false => rw [err_no h] at h1; exact absurd h1 (by decide)
  have hd := DayOk.of hok
  have g8 := opened8 hd Spn.hi
  have hop : ∀ cd, cd = opened d Spn.hi → Ans Try.prog 50 [.agg d.c, .agg (endC 69)] (.agg cd.c) := fun cd h => h ▸ opened_t d 69 _ surely_ok hd
  have hR : proofR d = [outA (prGo (opened d Spn.hi) (List.range (opened d Spn.hi).g.lots.length) (0, [])).2, .int 0] := by simp only [proofR, hok]; rfl
  rw [hR]
  have hcg : (opened d Spn.hi).g = d := rfl
  generalize hcd : opened d Spn.hi = cd at *
  have hd' : DayOk cd.g := hcg ▸ hd
  have nl := hd'.nl
  generalize hRR : prGo cd (List.range cd.g.lots.length) (0, []) = R
  refine Aw.sd tab_ok mixed mb0 [(1, [.agg (endC 69)]), (2, [.agg cd.c])] rfl (by kernel_rfl) rfl rfl ?zo ?zk
  case zo =>
    repeat' apply AllP.cons
    all_goals first | exact trivial | exact Nat.le_of_ble_eq_true rfl | exact surely_t | exact hop _ rfl | exact CDay.len g8
  case zk =>
  refine Aw.sm tab_ok mb0 [] rfl rfl ?zo ?zk
  case zo =>
    repeat' apply AllP.cons
    all_goals first | exact trivial | exact rfl | exact Nat.le_of_ble_eq_true rfl
  case zk =>
  refine Aw.sm tab_ok mb0 [] rfl rfl ?zo ?zk
  case zo =>
    repeat' apply AllP.cons
    all_goals first | exact trivial
  case zk =>
  refine Aw.sm tab_ok mb0 [] rfl rfl ?zo ?zk
  case zo =>
    repeat' apply AllP.cons
    all_goals first | exact trivial
  case zk =>
  refine Aw.sm tab_ok mb0 [] rfl rfl ?zo ?zk
  case zo =>
    repeat' apply AllP.cons
    all_goals first | exact trivial | exact rfl | exact Nat.le_of_ble_eq_true rfl
  case zk =>
  have e81 : setSeg (List.map A.down (tab.zr 81)) 0 (cd.c.map A.down) = cd.c := by rw [CDay.down]; exact setSeg_all (by rw [CDay.len g8]; rfl)
  have h8E : ∀ id, 8 ≤ id → E.φ0 id = none := fun id h => hE id (by omega)
  refine Aw.keep (n := 8) (cst := [(5, .ref 3 0), (7, .ref 6 0), (8, .ref 7 0)]) (v := []) (Hl := prH cd (0, [])) h8E ⟨.ref _ _ (by decide), .ref _ _ (by decide), .ref _ _ (by decide), trivial⟩ trivial (prH_under cd _ (Nat.le_refl _))
    ⟨⟨.refl _, .refl _, .refl _, trivial⟩, trivial, ⟨congrArg (fun x => some (B.cells x)) e81, rfl, rfl, rfl, trivial⟩, Nat.le_of_ble_eq_true rfl⟩ ?_
  refine Aw.seq ?_
  refine Aw.sm tab_ok mb0 [] rfl rfl ?zo ?zk
  case zo =>
    repeat' apply AllP.cons
    all_goals first | exact trivial | exact Nat.le_of_ble_eq_true rfl
  case zk =>
  have lts : ((cd.g.lots.map Lot.c).length : Int) = cd.g.lots.length := by simp
  refine Aw.block (Aw.rounds (ι := Nat × Pst) 8 h8E [(7, .ref 6 0), (8, .ref 7 0), (22, .int (cd.g.lots.map Lot.c).length)] (fun i => [(23, .int i.1)]) (fun i => prH cd i.2)
    (fun i => i.1 ≤ cd.g.lots.length ∧ prGo cd ((List.range cd.g.lots.length).drop i.1) i.2 = R) (fun i => cd.g.lots.length - i.1) (0, 0, [])
    ⟨Nat.zero_le _, hRR⟩ ⟨⟨.refl _, .refl _, .refl _, trivial⟩, ⟨.refl _, trivial⟩, ⟨rfl, rfl, rfl, rfl, trivial⟩, Nat.le_refl _⟩ ⟨.ref _ _ (by decide), .ref _ _ (by decide), .s _, trivial⟩ (fun _ _ => ⟨.s _, trivial⟩) (fun i _ => prH_under cd i.2 (Nat.le_refl _)) ?_)
  rintro ⟨k, s⟩ ⟨hk, hrun⟩
  simp only at hk hrun
  refine Aw.sm tab_ok mb0 [] rfl rfl ?zo ?zk
  case zo =>
    repeat' apply AllP.cons
    all_goals first | exact trivial
  case zk =>
  refine Aw.seq (Aw.cond rfl (fun h2 => Aw.skip1 ?_) (fun h2 => Aw.exit2 ?_))
  · have hlt : k < cd.g.lots.length := by have := of_decide_eq_true h2; omega
    have hdr : (List.range cd.g.lots.length).drop k = k :: (List.range cd.g.lots.length).drop (k + 1) := by
      rw [List.drop_eq_getElem_cons (by simpa using hlt)]; simp
    rw [hdr, prGo] at hrun
    have hcall := choose_t cd hd' g8 (k + 1) [] s (k + 1) (by simp) (by omega) (by omega) (fun _ h => nomatch h)
    generalize chF cd (k + 1) [] s = s3 at *
    refine Aw.seq (Aw.block ?_)
    refine Aw.sm tab_ok mb0 [] rfl rfl ?zo ?zk
    case zo =>
      repeat' apply AllP.cons
      all_goals first | exact trivial
    case zk =>
    refine Aw.es rfl ?_
    rw [show (((k + 1 : Nat)) : Int) = (k : Int) + 1 from rfl] at hcall
    refine RegL.partE tab_ok mb0 false 3 0 [] ?_
    conv => arg 5; whnf
    refine PartK.mk ?zo ?zk
    case zo =>
      repeat' apply AllP.cons
      all_goals first | exact trivial | exact Nat.le_of_ble_eq_true rfl | exact (by simp only [Ob.of, inR]; omega)
    case zk =>
    refine Does.raw rfl (DoesR.call (fst := []) (cap := [.ref 3 0, .ref 5 0, .ref 6 0, .ref 7 0]) rfl rfl (enters_of Try.func67 rfl rfl) (ch_frame (l := []) hcall (H := _) (c := _) ⟨rfl, rfl, rfl, rfl, trivial⟩) ?_)
    rintro v H' c' ⟨rfl, rfl, rfl⟩
    refine RegL.partE tab_ok mb0 false 9 4 [] ?_
    conv => arg 5; whnf
    refine PartK.mk ?zo ?zk
    case zo =>
      repeat' apply AllP.cons
      all_goals first | exact trivial
    case zk =>
    refine Aw.em tab_ok mb0 [] rfl rfl ?zo ?zk
    case zo =>
      repeat' apply AllP.cons
      all_goals first | exact trivial | exact (by simp only [Ob.of, inR]; omega)
    case zk =>
    exact ⟨(k + 1, s3), ⟨hlt, hrun⟩, by show cd.g.lots.length - (k + 1) < cd.g.lots.length - k; omega, ⟨.refl _, .refl _, .refl _, trivial⟩, ⟨.refl _, trivial⟩, ⟨rfl, rfl, rfl, rfl, trivial⟩, Nat.le_of_ble_eq_true rfl⟩
  · have hend : k = cd.g.lots.length := by have := of_decide_eq_false h2; omega
    subst hend
    rw [List.drop_of_length_le (by simp), prGo] at hrun
    subst hrun
    obtain ⟨s1, s2⟩ := s
    cases s2 with
    | nil =>
      refine Aw.sm tab_ok mb0 [] rfl rfl ?zo ?zk
      case zo =>
        repeat' apply AllP.cons
        all_goals first | exact trivial | exact Nat.le_of_ble_eq_true rfl
      case zk =>
      exact Aw.ret ⟨_, .cons (.tmp _) (.cons (.tmp _) .nil), rfl⟩
    | cons x l =>
      refine Aw.sm tab_ok mb0 [] rfl rfl ?zo ?zk
      case zo =>
        repeat' apply AllP.cons
        all_goals first | exact trivial | exact Nat.le_of_ble_eq_true rfl
      case zk =>
      exact Aw.ret ⟨_, .cons (.tmp _) (.cons (.tmp _) .nil), rfl⟩
end Go.Proofs.Ytimikmfkdaoaaaa
namespace Go.Proofs.Ytimikmfkdaoaaaa
open Go Go.AL
theorem le_agg {cs cs' : List A} (hl : cs.length = cs'.length) (h : ∀ i, i < cs.length → A.Le (cs.getD i .un) (cs'.getD i .un)) : A.Le (.agg cs) (.agg cs') :=
  ⟨fun φ Z w v hv => by
    obtain ⟨vs, rfl, h1, h2, h3⟩ := inv_agg hv
    exact .agg _ _ (by rw [h1, hl]) (fun i hi => h2 i (by omega)) fun i hi => (h i hi).vr _ _ _ _ (h3 i (by omega)), fun v p hs => by simp [spareOf] at hs⟩
theorem task_t (a b c e : Int) : Ans Try.prog 43 [.int a, .int b, .int c, .int e] (.agg (Task.c ⟨a, b, c, e⟩)) := by
  have hfr : Free (.agg (Task.c ⟨a, b, c, e⟩)) := .agg _ (Task.free _)
  refine told Try.func43 rfl rfl (Pure.of tab_ok Try.func43 rfl Try.ntmps43 rfl (allC (.s _) (allC (.s _) (allC (.s _) (all1 (.s _))))) (allC (fun _ => rfl) (allC (fun _ => rfl) (allC (fun _ => rfl) (all1 (fun _ => rfl))))) (by first | exact .s _ | assumption | exact .tup _ (by intro x hx; simp only [List.mem_cons, List.not_mem_nil, or_false] at hx; rcases hx with rfl | rfl | rfl | rfl <;> first | exact .s _ | (simp_all; done))) fun E hE => ?_)
  refine Aw.sm tab_ok mb0 [] rfl rfl ?zo ?zk
  case zo =>
    repeat' apply AllP.cons
    all_goals first | exact trivial
  case zk =>
  refine Aw.sm tab_ok mb0 [] rfl rfl ?zo ?zk
  case zo =>
    repeat' apply AllP.cons
    all_goals first | exact trivial | exact rfl | exact Nat.le_of_ble_eq_true rfl
  case zk =>
  exact Aw.ret ⟨_, .cons (resC rfl rfl rfl rfl rfl) .nil, rfl⟩
theorem to_t (a b : Int) : Ans Try.prog 44 [.int a, .int b] (.agg (Spn.c ⟨a, b⟩)) := by
  have hfr : Free (.agg (Spn.c ⟨a, b⟩)) := .agg _ (Spn.free _)
  refine told Try.func44 rfl rfl (Pure.of tab_ok Try.func44 rfl Try.ntmps44 rfl (allC (.s _) (all1 (.s _))) (allC (fun _ => rfl) (all1 (fun _ => rfl))) (by first | exact .s _ | assumption | exact .tup _ (by intro x hx; simp only [List.mem_cons, List.not_mem_nil, or_false] at hx; rcases hx with rfl | rfl | rfl | rfl <;> first | exact .s _ | (simp_all; done))) fun E hE => ?_)
  refine Aw.sm tab_ok mb0 [] rfl rfl ?zo ?zk
  case zo =>
    repeat' apply AllP.cons
    all_goals first | exact trivial
  case zk =>
  refine Aw.sm tab_ok mb0 [] rfl rfl ?zo ?zk
  case zo =>
    repeat' apply AllP.cons
    all_goals first | exact trivial | exact rfl | exact Nat.le_of_ble_eq_true rfl
  case zk =>
  exact Aw.ret ⟨_, .cons (resC rfl rfl rfl rfl rfl) .nil, rfl⟩
def hiredL : List Wk := [⟨1, 1, 3, 1⟩, ⟨0, 4, 5, 3⟩]
theorem hired_t : Ans Try.prog 56 [] (.sl false .exact (hiredL.map Wk.c)) := by
  have hfr : Free (.sl false .exact (hiredL.map Wk.c)) := free_map Wk.free _ _ _
  refine told Try.func56 rfl rfl (Pure.of tab_ok Try.func56 rfl Try.ntmps56 rfl allN allN hfr fun E hE => ?_)
  refine Aw.sm tab_ok mb0 [] rfl rfl ?zo ?zk
  case zo =>
    repeat' apply AllP.cons
    all_goals first | exact trivial
  case zk =>
  refine Aw.sm tab_ok mb0 [] rfl rfl ?zo ?zk
  case zo =>
    repeat' apply AllP.cons
    all_goals first | exact trivial | exact Nat.le_of_ble_eq_true rfl
  case zk =>
  exact Aw.ret ⟨_, .cons (.tmp _) .nil, rfl⟩
def yardD (n : Nat) : Day := ⟨6, false, [⟨5, 6⟩, ⟨5, 8⟩, ⟨6, 10⟩, ⟨6, 10⟩, ⟨4, 8⟩, ⟨3, 6⟩], false, [⟨10, 0, 20, 1⟩, ⟨8, 1, 30, 3⟩, ⟨12, 2, 40, 5⟩].take n, false, [⟨0, 0, 3, 3⟩, ⟨1, 2, 5, 1⟩, ⟨2, 4, 4, 5⟩]⟩
def yardC (n : Nat) : List A := [.int 6, .sl false .exact ((yardD n).heat.map Spn.c), .sl false .any ((yardD n).lots.map Lot.c), .sl false .exact ((yardD n).wks.map Wk.c)]
theorem yard_le (n : Nat) : A.Le (.agg (yardD n).c) (.agg (yardC n)) := le_agg rfl fun i hi => by
  match i, hi with
  | 0, _ => exact .refl _
  | 1, _ => exact .any _ _ _
  | 2, _ => exact .refl _
  | 3, _ => exact .any _ _ _
set_option maxHeartbeats 2000000 in
theorem yard_t (n : Nat) (hn : n ≤ 3) : Ans Try.prog 48 [.int n] (.agg (yardC n)) := by
  have hfr : Free (.agg (yardC n)) := .agg _ (allC (.s _) (allC (free_map Spn.free _ _ _) (allC (free_map Lot.free _ _ _) (all1 (free_map Wk.free _ _ _)))))
  refine told Try.func48 rfl rfl (Pure.of tab_ok Try.func48 rfl Try.ntmps48 rfl (all1 (.s _)) (all1 (fun _ => rfl)) (by first | exact .s _ | assumption | exact .tup _ (by intro x hx; simp only [List.mem_cons, List.not_mem_nil, or_false] at hx; rcases hx with rfl | rfl | rfl | rfl <;> first | exact .s _ | (simp_all; done))) fun E hE => ?_)
  refine Aw.sm tab_ok mb0 [] rfl rfl ?zo ?zk
  case zo =>
    repeat' apply AllP.cons
    all_goals first | exact trivial
  case zk =>
  refine Aw.sd tab_ok mixed mb0 [(0, [.agg (Spn.c ⟨5, 6⟩)]), (1, [.agg (Spn.c ⟨5, 8⟩)]), (2, [.agg (Spn.c ⟨6, 10⟩)]), (3, [.agg (Spn.c ⟨6, 10⟩)]), (4, [.agg (Spn.c ⟨4, 8⟩)]), (5, [.agg (Spn.c ⟨3, 6⟩)])] rfl (by kernel_rfl) rfl rfl ?zo ?zk
  case zo =>
    repeat' apply AllP.cons
    all_goals first | exact trivial | exact rfl | exact Nat.le_of_ble_eq_true rfl | exact Int.natCast_nonneg _ | exact to_t _ _ | exact (show (n : Int) ≤ ((3 : Nat) : Int) by omega)
  case zk =>
  refine Aw.ret ⟨_, .cons (resC rfl rfl rfl rfl rfl) .nil, ?_⟩
  match n, hn with
  | 0, _ => exact rfl
  | 1, _ => exact rfl
  | 2, _ => exact rfl
  | 3, _ => exact rfl
theorem same_t (p q : Bool) (a b : List Int) (hl : (a.length : Int) ≤ 9223372036854775807) : Ans Try.prog 29 [.sl p .any (ints a), .sl q .any (ints b)] (.bool (a == b)) := by
  refine told Try.func29 rfl rfl (Pure.of tab_ok Try.func29 rfl Try.ntmps29 rfl (allC (free_ints _ _ _) (all1 (free_ints _ _ _))) (allC (fun _ => rfl) (all1 (fun _ => rfl))) (by first | exact .s _ | assumption | exact .tup _ (by intro x hx; simp only [List.mem_cons, List.not_mem_nil, or_false] at hx; rcases hx with rfl | rfl | rfl | rfl <;> first | exact .s _ | (simp_all; done))) fun E hE => ?_)
  have za : ((ints a).length : Int) = a.length := by simp [ints]
  have zb : ((ints b).length : Int) = b.length := by simp [ints]
  refine Aw.sm tab_ok mb0 [] rfl rfl ?zo ?zk
  case zo =>
    repeat' apply AllP.cons
    all_goals first | exact trivial
  case zk =>
  refine Aw.seq ?_
  refine Aw.sm tab_ok mb0 [] rfl rfl ?zo ?zk
  case zo =>
    repeat' apply AllP.cons
    all_goals first | exact trivial
  case zk =>
  refine Aw.cond rfl (fun h1 => ?_) (fun h1 => Aw.skip ?_)
  · have h1 : (((ints a).length : Int) != ((ints b).length : Int)) = true := h1
    have hne : (a == b) = false := by
      cases e : (a == b) with
      | false => rfl
      | true => rw [za, zb, eq_of_beq e] at h1; simp at h1
    rw [hne]
    refine Aw.sm tab_ok mb0 [] rfl rfl ?zo ?zk
    case zo =>
      repeat' apply AllP.cons
      all_goals first | exact trivial
    case zk =>
    exact Aw.ret ⟨_, .cons (.tmp _) .nil, rfl⟩
  have h1 : (((ints a).length : Int) != ((ints b).length : Int)) = false := h1
  have hlen : a.length = b.length := by
    rw [za, zb] at h1; simp at h1; omega
  generalize hR : (a == b) = R
  have ua : Under 0 (A.sl p .any (ints a)) := (free_ints _ _ _).under
  have ub : Under 0 (A.sl q .any (ints b)) := (free_ints _ _ _).under
  refine Aw.seq ?_
  refine Aw.sm tab_ok mb0 [] rfl rfl ?zo ?zk
  case zo =>
    repeat' apply AllP.cons
    all_goals first | exact trivial
  case zk =>
  refine Aw.block (Aw.rounds 0 hE [(0, .sl p .any (ints a)), (1, .sl q .any (ints b))] (fun k : Nat => [(5, .int k)]) (fun _ => []) (fun k => k ≤ a.length ∧ (a.drop k == b.drop k) = R) (fun k => a.length - k) 0
    ⟨Nat.zero_le _, by simpa using hR⟩ ⟨⟨.refl _, .refl _, trivial⟩, ⟨.refl _, trivial⟩, trivial, Nat.le_refl _⟩ ⟨ua, ub, trivial⟩ (fun _ _ => ⟨.s _, trivial⟩) (fun _ _ => trivial) ?_)
  rintro k ⟨hk, hrun⟩
  refine Aw.seq ?_
  refine Aw.sm tab_ok mb0 [] rfl rfl ?zo ?zk
  case zo =>
    repeat' apply AllP.cons
    all_goals first | exact trivial
  case zk =>
  refine Aw.cond rfl (fun h2 => Aw.skip ?_) (fun h2 => ?_)
  · have hlt : k < a.length := by have := of_decide_eq_true h2; omega
    have hlb : k < b.length := by omega
    rw [List.drop_eq_getElem_cons hlt, List.drop_eq_getElem_cons hlb, List.cons_beq_cons] at hrun
    refine Aw.seq (Aw.block ?_)
    refine Aw.sd tab_ok mixed mb0 [(2, [.int a[k]]), (6, [.int b[k]])] rfl (by kernel_rfl) rfl rfl ?zo ?zk
    case zo =>
      repeat' apply AllP.cons
      all_goals first | exact trivial | exact rfl | exact Nat.le_of_ble_eq_true rfl | exact Int.natCast_nonneg _ | exact ints_get hlt | exact ints_get hlb
    case zk =>
    refine Aw.cond rfl (fun h3 => ?_) (fun h3 => Aw.skip ?_)
    · have h3 : (a[k] != b[k]) = true := h3
      have h4 : (a[k] == b[k]) = false := by simpa using h3
      have : R = false := by rw [← hrun, h4]; rfl
      subst this
      refine Aw.sm tab_ok mb0 [] rfl rfl ?zo ?zk
      case zo =>
        repeat' apply AllP.cons
        all_goals first | exact trivial
      case zk =>
      exact Aw.ret ⟨_, .cons (.tmp _) .nil, rfl⟩
    · have h3 : (a[k] != b[k]) = false := h3
      have h4 : (a[k] == b[k]) = true := by simpa using h3
      rw [h4, Bool.true_and] at hrun
      refine Aw.em tab_ok mb0 [] rfl rfl ?zo ?zk
      case zo =>
        repeat' apply AllP.cons
        all_goals first | exact trivial | exact (by simp only [Ob.of, inR]; omega)
      case zk =>
      exact ⟨k + 1, ⟨hlt, hrun⟩, by omega, ⟨.refl _, .refl _, trivial⟩, ⟨.refl _, trivial⟩, trivial, Nat.zero_le _⟩
  · have hend : k = a.length := by have := of_decide_eq_false h2; omega
    have : R = true := by rw [← hrun, hend, List.drop_length, hlen, List.drop_length]; rfl
    subst this
    refine Aw.exit2 ?_
    refine Aw.sm tab_ok mb0 [] rfl rfl ?zo ?zk
    case zo =>
      repeat' apply AllP.cons
      all_goals first | exact trivial
    case zk =>
    exact Aw.ret ⟨_, .cons (.tmp _) .nil, rfl⟩
end Go.Proofs.Ytimikmfkdaoaaaa
namespace Go.Proofs.Ytimikmfkdaoaaaa
open Go Go.AL
theorem w1 : (yardD 3).ok = true := by decide +kernel
theorem w2 : lostE (yardD 3) Spn.hi = 11 := by decide +kernel
theorem w3 : lostE (yardD 3) Spn.lo = 9 := by decide +kernel
theorem w4 : helpF (yardD 3) hiredL 0 (0, 0) = (1, 5) := by decide +kernel
theorem w5 : helpOk (yardD 3) hiredL = true := by decide +kernel
theorem w6 : proofV (yardD 3) = [0, 1, 2] := by decide +kernel
theorem w7 : planV (yardD 3) [⟨0, 0, 0, 3⟩, ⟨0, 0, 1, 3⟩, ⟨2, 2, 4, 5⟩] = some 19 := by decide +kernel
theorem w8 : deficitV (opened (yardD 3) Spn.hi) [0, 2] = 5 := by decide +kernel
theorem w8r : risingF (nLots (yardD 3)) (-1) [0, 2] = true := by decide +kernel
theorem w9 : untilF (yardD 3) Spn.hi ⟨10, 0, 20, 1⟩ = 1 := by decide +kernel
theorem w10 : untilF (yardD 3) Spn.lo ⟨10, 0, 20, 1⟩ = 2 := by decide +kernel
theorem wsmall : Small (yardD 3) := ⟨by decide, by decide, by decide⟩
theorem le2 {f : FuncId} {a a' b b' v : A} (h : Ans Try.prog f [a, b] v) (ha : A.Le a a') (hb : A.Le b b') : Ans Try.prog f [a', b'] v := h.le rfl fun i hi => by
  match i, hi with
  | 0, _ => exact ha
  | 1, _ => exact hb
theorem x1 : Ans Try.prog 16 [.agg (yardC 3), .int 0] (.tup [.int 1, .int 2, .int 0]) := by
  have e : untilR (yardD 3) 0 = [.int 1, .int 2, .int 0] := by
    have hl : lotAt (yardD 3) 0 = some ⟨10, 0, 20, 1⟩ := rfl
    simp only [untilR, w1, hl, w9, w10]; rfl
  exact le2 (e ▸ until_t (yardD 3) 0 wsmall) (yard_le 3) (.refl _)
def plan0 : List Task := [⟨0, 0, 0, 3⟩, ⟨0, 0, 1, 3⟩, ⟨2, 2, 4, 5⟩]
theorem x2 : Ans Try.prog 21 [.agg (yardC 3), .sl false .exact (plan0.map Task.c)] (.tup [.int 19, .bool true, .int 0]) := by
  have e : isPlanR (yardD 3) plan0 = [.int 19, .bool true, .int 0] := by
    have h : planV (yardD 3) plan0 = some 19 := w7
    simp only [isPlanR, w1, h]; rfl
  exact le2 (e ▸ isPlan_t (yardD 3) false plan0 wsmall (by decide)) (yard_le 3) (.any _ _ _)
theorem x3 : Ans Try.prog 23 [.agg (yardC 3)] (.tup [planA (planF (yardD 3)), .int 11, .int 0]) := by
  have e : bestR (yardD 3) = [planA (planF (yardD 3)), .int 11, .int 0] := by simp only [bestR, w1, w2]; rfl
  exact (e ▸ best_t (yardD 3) wsmall).le1 (yard_le 3)
theorem x4 : Ans Try.prog 25 [.agg (yardC 3), .sl false .exact (ints [0, 2])] (.tup [.int 5, .int 0]) := by
  have e : deficitR (yardD 3) [0, 2] = [.int 5, .int 0] := by simp only [deficitR, w1, w8, w8r]; rfl
  exact le2 (e ▸ Deficit_t (yardD 3) false [0, 2] wsmall (by decide)) (yard_le 3) (.any _ _ _)
theorem x5 : Ans Try.prog 27 [.agg (yardC 3)] (.tup [.sl false .any (ints [0, 1, 2]), .int 0]) := by
  have e : proofR (yardD 3) = [.sl false .any (ints [0, 1, 2]), .int 0] := by simp only [proofR, w1, w6]; rfl
  exact (e ▸ Proof_t (yardD 3) wsmall).le1 (yard_le 3)
theorem x6 : Ans Try.prog 30 [.agg (yardC 3)] (.tup [.agg [.int 9, .int 11], .int 0]) := by
  have e : toldR (yardD 3) = [.agg [.int 9, .int 11], .int 0] := by simp only [toldR, w1, w2, w3]; rfl
  exact (e ▸ told_t (yardD 3) wsmall).le1 (yard_le 3)
theorem x7 : Ans Try.prog 32 [.agg (yardC 3), .sl false .exact (hiredL.map Wk.c)] (.tup [.int 1, .int 5, .int 0]) := by
  have e : helpR (yardD 3) hiredL = [.int 1, .int 5, .int 0] := by simp only [helpR, w1, w4, w5]; rfl
  exact le2 (e ▸ help_t (yardD 3) false hiredL wsmall (by decide)) (yard_le 3) (.any _ _ _)
theorem x8 : Ans Try.prog 29 [.sl false .any (ints [0, 1, 2]), .sl false .exact (ints [0, 1, 2])] (.bool true) :=
  le2 (same_t false false [0, 1, 2] [0, 1, 2] (by decide)) (.refl _) (.any _ _ _)
theorem eq47 (x y : Operand) : EqIs tab .eql 47 x y (.agg [.int 9, .int 11]) (.agg [.int 9, .int 11]) true := by
  refine ⟨.agg #[.int .i64 9, .int .i64 11], .agg #[.int .i64 9, .int .i64 11], rfl, rfl, (congrFun (congrFun (congrFun (congrFun (congrFun (congrFun (show tab.eqv = pureEq Try.prog from rfl) _) _) _) _) _) _).trans ?_⟩
  kernel_rfl
theorem works_t : Ans Try.prog 20 [] (.bool true) := by
  refine told Try.func20 rfl rfl (Pure.of tab_ok Try.func20 rfl Try.ntmps20 rfl allN allN (.s _) fun E hE => ?_)
  refine Aw.sm tab_ok mb0 [] rfl rfl ?zo ?zk
  case zo =>
    repeat' apply AllP.cons
    all_goals first | exact trivial
  case zk =>
  refine Aw.sm tab_ok mb0 [(0, [.agg (yardC 3)]), (1, [.tup [.int 1, .int 2, .int 0]])] rfl rfl ?zo ?zk
  case zo =>
    repeat' apply AllP.cons
    all_goals first | exact trivial | exact yard_t 3 (by decide) | exact x1
  case zk =>
  refine Aw.sm tab_ok mb0 [(0, [.agg (yardC 3)]), (1, [.agg (Task.c ⟨0, 0, 0, 3⟩)]), (2, [.agg (Task.c ⟨0, 0, 1, 3⟩)]), (3, [.agg (Task.c ⟨2, 2, 4, 5⟩)]), (5, [.tup [.int 19, .bool true, .int 0]])] rfl rfl ?zo ?zk
  case zo =>
    repeat' apply AllP.cons
    all_goals first | exact trivial | exact Nat.le_of_ble_eq_true rfl | exact yard_t 3 (by decide) | exact task_t _ _ _ _ | exact x2
  case zk =>
  refine Aw.sm tab_ok mb0 [(0, [.agg (yardC 3)]), (1, [.tup [planA (planF (yardD 3)), .int 11, .int 0]])] rfl rfl ?zo ?zk
  case zo =>
    repeat' apply AllP.cons
    all_goals first | exact trivial | exact yard_t 3 (by decide) | exact x3
  case zk =>
  refine Aw.sm tab_ok mb0 [(0, [.agg (yardC 3)]), (2, [.tup [.int 5, .int 0]])] rfl rfl ?zo ?zk
  case zo =>
    repeat' apply AllP.cons
    all_goals first | exact trivial | exact Nat.le_of_ble_eq_true rfl | exact yard_t 3 (by decide) | exact x4
  case zk =>
  refine Aw.seq ?_
  refine Aw.sm tab_ok mb0 [] rfl rfl ?zo ?zk
  case zo =>
    repeat' apply AllP.cons
    all_goals first | exact trivial | exact id | exact fun _ => rfl
  case zk =>
  refine Aw.cond rfl (fun h => by cases h) (fun _ => Aw.skip ?_)
  refine Aw.sm tab_ok mb0 [(0, [.agg (yardC 3)]), (1, [.tup [.sl false .any (ints [0, 1, 2]), .int 0]])] rfl rfl ?zo ?zk
  case zo =>
    repeat' apply AllP.cons
    all_goals first | exact trivial | exact yard_t 3 (by decide) | exact x5
  case zk =>
  refine Aw.sm tab_ok mb0 [(0, [.agg (yardC 3)]), (1, [.tup [.agg [.int 9, .int 11], .int 0]])] rfl rfl ?zo ?zk
  case zo =>
    repeat' apply AllP.cons
    all_goals first | exact trivial | exact rfl | exact Nat.le_of_ble_eq_true rfl | exact yard_t 3 (by decide) | exact x6
  case zk =>
  refine Aw.sm tab_ok mb0 [(0, [.agg (yardC 3)]), (1, [.sl false .exact (hiredL.map Wk.c)]), (2, [.tup [.int 1, .int 5, .int 0]])] rfl rfl ?zo ?zk
  case zo =>
    repeat' apply AllP.cons
    all_goals first | exact trivial | exact yard_t 3 (by decide) | exact hired_t | exact x7
  case zk =>
  refine Aw.sd tab_ok mixed mb0 [(13, [.bool true]), (17, [.agg (Spn.c ⟨9, 11⟩)]), (18, [.bool true])] rfl (by kernel_rfl) rfl rfl ?zo ?zk
  case zo =>
    repeat' apply AllP.cons
    all_goals first | exact trivial | exact id | exact fun _ => rfl | exact fun _ => Nat.le_of_ble_eq_true rfl | exact fun _ => x8 | exact fun _ => to_t 9 11 | exact fun _ => eq47 _ _
  case zk =>
  exact Aw.ret ⟨_, .cons (.tmp _) .nil, rfl⟩
end Go.Proofs.Ytimikmfkdaoaaaa
namespace Go.Proofs.Ytimikmfkdaoaaaa
open Go Go.AL
theorem untilR_three (d : Day) (lot : Int) : ∃ a b e : Int, untilR d lot = [.int a, .int b, .int e] := by
  unfold untilR; split
  · split <;> exact ⟨_, _, _, rfl⟩
  · exact ⟨_, _, _, rfl⟩
theorem law_untils (d : Day) (lot : Int) (hs : Small d) : Ans Try.prog 3 [.agg d.c, .int lot] (.bool true) := by
  obtain ⟨a, b, e, h⟩ := untilR_three d lot
  have h1 := until_t d lot hs
  have h2 := rUntil_t d lot hs
  rw [h] at h1 h2
  refine told Try.func3 rfl rfl (Pure.of tab_ok Try.func3 rfl Try.ntmps3 rfl (allC (.agg _ d.free) (all1 (.s _))) (allC (fun _ => rfl) (all1 (fun _ => rfl))) (by first | exact .s _ | assumption | exact .tup _ (by intro x hx; simp only [List.mem_cons, List.not_mem_nil, or_false] at hx; rcases hx with rfl | rfl | rfl | rfl <;> first | exact .s _ | (simp_all; done))) fun E hE => ?_)
  refine Aw.sm tab_ok mb0 [] rfl rfl ?zo ?zk
  case zo =>
    repeat' apply AllP.cons
    all_goals first | exact trivial
  case zk =>
  refine Aw.sm tab_ok mb0 [(2, [.tup [.int a, .int b, .int e]])] rfl rfl ?zo ?zk
  case zo =>
    repeat' apply AllP.cons
    all_goals first | exact trivial | exact Nat.le_of_ble_eq_true rfl | exact h1
  case zk =>
  refine Aw.sm tab_ok mb0 [(2, [.tup [.int a, .int b, .int e]])] rfl rfl ?zo ?zk
  case zo =>
    repeat' apply AllP.cons
    all_goals first | exact trivial | exact Nat.le_of_ble_eq_true rfl | exact h2
  case zk =>
  refine Aw.sd tab_ok mixed mb0 [(15, [.int d.errA]), (17, [.int d.errA]), (21, [.bool true])] rfl (by kernel_rfl) rfl rfl ?zo ?zk
  case zo =>
    repeat' apply AllP.cons
    all_goals first | exact trivial | exact id | exact fun _ => rfl | exact fun _ => Nat.le_of_ble_eq_true rfl | exact fun _ => check_s hs | exact fun _ => rcheck_t d hs | exact fun _ => works_t
  case zk =>
  refine Aw.ret ⟨_, .cons (.tmp _) .nil, ?_⟩
  show A.bool (cond (cond (cond (cond (a == a) (b == b) false) (e == e) false) (d.errA == d.errA) false) true false) = .bool true
  simp
end Go.Proofs.Ytimikmfkdaoaaaa
namespace Go.Proofs.Ytimikmfkdaoaaaa
open Go Go.AL
theorem rows2 : ∀ es : List (List Int), (∀ z ∈ es, z.length = 2) → ∃ l : List Spn, (es.map fun z => z.map A.int) = l.map Spn.c ∧ l.length = es.length
  | [], _ => ⟨[], rfl, rfl⟩
  | z :: es, h => by
    obtain ⟨l, h1, h2⟩ := rows2 es fun y hy => h y (List.mem_cons_of_mem _ hy)
    match z, h z (List.mem_cons_self ..) with
    | [a, b], _ => exact ⟨⟨a, b⟩ :: l, by rw [List.map_cons, h1]; rfl, by simp [h2]⟩
theorem rows4 {α : Type} (f : Int → Int → Int → Int → α) (c : α → List A) (hf : ∀ a b d e, c (f a b d e) = [.int a, .int b, .int d, .int e]) : ∀ es : List (List Int), (∀ z ∈ es, z.length = 4) → ∃ l : List α, (es.map fun z => z.map A.int) = l.map c ∧ l.length = es.length
  | [], _ => ⟨[], rfl, rfl⟩
  | z :: es, h => by
    obtain ⟨l, h1, h2⟩ := rows4 f c hf es fun y hy => h y (List.mem_cons_of_mem _ hy)
    match z, h z (List.mem_cons_self ..) with
    | [a, b, d, e], _ => exact ⟨f a b d e :: l, by rw [List.map_cons, h1, List.map_cons (f := c), hf]; rfl, by simp [h2]⟩
section
variable {H : Type} {enc : TypeId × Value → H} {w : World} {base : Nat} {spare : Nat → Bool} {held : Bool} {φ : Names}
theorem sl_one {Z : Still} {n : Bool} {c : Cap} {es : List (List A)} {v : Value} (h : VR φ Z w (.sl n c es) v) : v.oneCell' = true := by cases h <;> rfl
set_option maxRecDepth 100000 in
theorem open_day {cs : Array Value} {fuel : Nat} {x : DataW H × List MemPlace} {r : Reach} {b0 : Nat} (hok : Row.okWide Try.prog w r b0 26 cs) (h : DataW.trod enc Try.prog w base spare held fuel 26 cs.toList = some x) :
    ∃ d : Day, VR φ (allZ w) w (.agg d.c) (.agg cs) ∧ Small d := by
  obtain ⟨y0, y1, y2, y3, n, _, hl, h0, h1, h2, h3⟩ := Go.Joins.trod_struct4 u26 h
  rw [c26] at hl
  obtain ⟨l⟩ := cs
  have hl : l.length = 4 := hl
  match l, hl with
  | [v0, v1, v2, v3], _ =>
  obtain ⟨ts, hts, _, hc⟩ := hok
  rw [ct26] at hts; cases hts
  have k1 : Cell.okWide Try.prog w r b0 22 v1 := by obtain ⟨u, hu, hk⟩ := hc 1 v1 rfl; cases hu; exact hk
  have k2 : Cell.okWide Try.prog w r b0 23 v2 := by obtain ⟨u, hu, hk⟩ := hc 2 v2 rfl; cases hu; exact hk
  have k3 : Cell.okWide Try.prog w r b0 24 v3 := by obtain ⟨u, hu, hk⟩ := hc 3 v3 rfl; cases hu; exact hk
  have s22 : Try.prog.cellsOf 22 = 1 := by kernel_rfl
  have s23 : Try.prog.cellsOf 23 = 1 := by kernel_rfl
  have s24 : Try.prog.cellsOf 24 = 1 := by kernel_rfl
  have h0 : DataW.trod enc Try.prog w base spare held n 3 (([v0, v1, v2, v3].drop 0).take (Try.prog.cellsOf 3)) = some y0 := h0
  have h1 : DataW.trod enc Try.prog w base spare held n 22 (([v0, v1, v2, v3].drop 1).take (Try.prog.cellsOf 22)) = some y1 := h1
  have h2 : DataW.trod enc Try.prog w base spare held n 23 (([v0, v1, v2, v3].drop 2).take (Try.prog.cellsOf 23)) = some y2 := h2
  have h3 : DataW.trod enc Try.prog w base spare held n 24 (([v0, v1, v2, v3].drop 3).take (Try.prog.cellsOf 24)) = some y3 := h3
  rw [c3] at h0; rw [s22] at h1; rw [s23] at h2; rw [s24] at h3
  have h0 : DataW.trod enc Try.prog w base spare held n 3 [v0] = some y0 := h0
  have h1 : DataW.trod enc Try.prog w base spare held n 22 [v1] = some y1 := h1
  have h2 : DataW.trod enc Try.prog w base spare held n 23 [v2] = some y2 := h2
  have h3 : DataW.trod enc Try.prog w base spare held n 24 [v3] = some y3 := h3
  obtain ⟨z, hz, _, _⟩ := DataW.trod_int u3 h0
  cases hz
  obtain ⟨b1, e1, q1, l1, m1⟩ := open_nums (φ := φ) u22 c47 n47 k1 h1
  obtain ⟨b2, e2, q2, l2, m2⟩ := open_nums (φ := φ) u23 c59 n59 k2 h2
  obtain ⟨b3, e3, q3, l3, m3⟩ := open_nums (φ := φ) u24 c61 n61 k3 h3
  obtain ⟨heat, r1, p1⟩ := rows2 e1 l1
  obtain ⟨lots, r2, p2⟩ := rows4 Lot.mk Lot.c (fun _ _ _ _ => rfl) e2 l2
  obtain ⟨wks, r3, p3⟩ := rows4 Wk.mk Wk.c (fun _ _ _ _ => rfl) e3 l3
  rw [r1] at q1; rw [r2] at q2; rw [r3] at q3
  refine ⟨⟨z, b1, heat, b2, lots, b3, wks⟩, .agg _ _ rfl (fun i hi => ?_) (fun i hi => ?_), ⟨by rw [p1]; exact m1, by rw [p2]; exact m2, by rw [p3]; exact m3⟩⟩
  · match i, hi with
    | 0, _ => rfl
    | 1, _ => exact sl_one q1
    | 2, _ => exact sl_one q2
    | 3, _ => exact sl_one q3
  · match i, hi with
    | 0, _ => exact .s _
    | 1, _ => exact q1
    | 2, _ => exact q2
    | 3, _ => exact q3
end
end Go.Proofs.Ytimikmfkdaoaaaa
namespace Go.Proofs.Ytimikmfkdaoaaaa
open Go Go.AL Go.ChangeShapes Go.WideShapes Go.ChangeAt Go.RowKit
theorem own : ownKnob Try.prog.godebug = none := by kernel_rfl
theorem laidOut : laidOutB Try.prog = true := by kernel_rfl
theorem t26 : Try.prog.readableRec 26 = true ∧ 26 < Try.prog.types.size := ⟨by kernel_rfl, of_decide_eq_true (by kernel_rfl)⟩
theorem t3 : Try.prog.readableRec 3 = true ∧ 3 < Try.prog.types.size := ⟨by kernel_rfl, of_decide_eq_true (by kernel_rfl)⟩
theorem ty_ok {t : TypeId} (h : Try.prog.readableRec t = true) (h2 : decide (t < Try.prog.types.size) = true) : Try.prog.readableRec t = true ∧ t < Try.prog.types.size := ⟨h, of_decide_eq_true h2⟩
theorem t33 : Try.prog.readableRec 33 = true ∧ 33 < Try.prog.types.size := ty_ok (by kernel_rfl) (by kernel_rfl)
theorem t41 : Try.prog.readableRec 41 = true ∧ 41 < Try.prog.types.size := ty_ok (by kernel_rfl) (by kernel_rfl)
theorem t24 : Try.prog.readableRec 24 = true ∧ 24 < Try.prog.types.size := ty_ok (by kernel_rfl) (by kernel_rfl)
theorem t59 : Try.prog.readableRec 59 = true ∧ 59 < Try.prog.types.size := ty_ok (by kernel_rfl) (by kernel_rfl)
theorem t61 : Try.prog.readableRec 61 = true ∧ 61 < Try.prog.types.size := ty_ok (by kernel_rfl) (by kernel_rfl)
theorem t68 : Try.prog.readableRec 68 = true ∧ 68 < Try.prog.types.size := ty_ok (by kernel_rfl) (by kernel_rfl)
theorem uBool : Try.prog.underlying 4 = some .bool := by kernel_rfl
theorem all2 {p : Nat → Prop} {a b : Nat} (h : p a) (k : p b) : ∀ t ∈ (#[a, b] : Array Nat).toList, p t := fun t ht => by
  rcases List.mem_cons.1 ht with rfl | ht
  · exact h
  · rcases List.mem_cons.1 ht with rfl | ht
    · exact k
    · cases ht
section
variable {H : Type} {enc : TypeId × Value → H} {w : World} {base : Nat} {spare : Nat → Bool} {held : Bool} {φ : Names}
set_option maxRecDepth 100000 in
theorem arg_day {v : Value} {d : DataW H} {p : List MemPlace} {r : Reach} {b0 : Nat} (hok : Value.okWide Try.prog w r b0 26 v) (h : DataW.Trod enc Try.prog w base spare held 26 v d p) :
    ∃ y : Day, VR φ (allZ w) w (.agg y.c) v ∧ Small y := by
  obtain ⟨fuel, h⟩ := h
  unfold Value.okWide at hok
  rw [u26] at hok
  obtain ⟨cs, rfl, _, hrow⟩ := hok
  exact open_day hrow h
set_option maxRecDepth 100000 in
theorem arg_int {v : Value} {d : DataW H} {p : List MemPlace} {r : Reach} {b0 : Nat} (hok : Value.okWide Try.prog w r b0 3 v) (h : DataW.Trod enc Try.prog w base spare held 3 v d p) :
    ∃ n : Int, VR φ (allZ w) w (.int n) v := by
  obtain ⟨fuel, h⟩ := h
  have hc : v.cells.toList = [v] := by
    unfold Value.okWide at hok
    rw [u3] at hok
    have hok : Cell.okWide Try.prog w r b0 3 v := hok
    unfold Cell.okWide Cell.ok at hok
    rw [u3] at hok
    cases v <;> first | rfl | exact hok.elim
  obtain ⟨a, h1, _⟩ := DataW.trod_int u3 h
  rw [hc] at h1
  cases h1
  exact ⟨a, .s _⟩
theorem vrs1 {a : A} {v : Value} {Z : Still} (h : VR φ Z w a v) : VRs φ Z w [a] #[v] := ⟨rfl, fun i hi => by
  match i, hi with
  | 0, _ => exact h⟩
theorem vrs2 {a a' : A} {v v' : Value} {Z : Still} (h : VR φ Z w a v) (h' : VR φ Z w a' v') : VRs φ Z w [a, a'] #[v, v'] := ⟨rfl, fun i hi => by
  match i, hi with
  | 0, _ => exact h
  | 1, _ => exact h'⟩
theorem vrs3 {a a' a2 : A} {v v' v2 : Value} {Z : Still} (h : VR φ Z w a v) (h' : VR φ Z w a' v') (h2 : VR φ Z w a2 v2) : VRs φ Z w [a, a', a2] #[v, v', v2] := ⟨rfl, fun i hi => by
  match i, hi with
  | 0, _ => exact h
  | 1, _ => exact h'
  | 2, _ => exact h2⟩
end
end Go.Proofs.Ytimikmfkdaoaaaa
