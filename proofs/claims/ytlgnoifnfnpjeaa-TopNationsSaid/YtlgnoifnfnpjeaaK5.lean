/- What the proof leans on, part 5: US2 US3 US4 US5 US6 US7 US8 U13 U14 U15. -/
import Derived.Test.YtlgnoifnfnpjeaaK4
set_option linter.all false
namespace Go.Proofs.Ytlgnoifnfnpjeaa
open Go Go.AL Go.AL.Q
theorem isRace_t (r : Rce) (hf : r.Fit) : Ans Try.prog 15 [.agg r.c] (.bool r.ok) := by
  have h1 := hf.n
  have h2 := hf.k
  have h3 := hf.s
  have ln := ints_lenI r.numbers
  have lk := ints_lenI r.keep
  have ls := ints_lenI r.spawn
  have lm : (r.many : Int) = r.numbers.length := rfl
  have hm : r.many = r.numbers.length := rfl
  have urc : Under 0 (A.pt r.c) := (Free.pt _ r.free).under
  refine told Try.func15 rfl rfl (Pure.of tab_ok Try.func15 rfl Try.ntmps15 rfl (all1 (.agg _ r.free)) (all1 (fun _ => rfl)) (by first | exact .s _ | assumption | exact .tup _ (by intro x hx; simp only [List.mem_cons, List.not_mem_nil, or_false] at hx; rcases hx with rfl | rfl | rfl | rfl <;> first | exact .s _ | (simp_all; done))) fun E hE => ?_)
  refine Aw.sm tab_ok mb0 [] rfl rfl ?zo ?zk
  case zo =>
    repeat' apply AllP.cons
    all_goals first | exact trivial
  case zk =>
  refine Aw.sm tab_ok mb0 [] rfl rfl ?zo ?zk
  case zo =>
    repeat' apply AllP.cons
    all_goals first | exact trivial | exact Nat.le_of_ble_eq_true rfl
  case zk =>
  refine Aw.keep (n := 0) (cst := [(1, .pt r.c), (3, .int r.many)]) (v := []) (Hl := []) hE ⟨urc, .s _, trivial⟩ trivial trivial ⟨⟨.refl _, .of_eq (congrArg A.int ln.symm), trivial⟩, trivial, trivial, Nat.zero_le _⟩ ?_
  refine Aw.sm tab_ok mb0 [(1, [.bool (wi r.many 1 6)]), (22, [.bool (wi r.line 0 100000000)]), (30, [.bool (wi r.mesh 0 ((r.many:Int) - 1))])] rfl rfl ?zo ?zk
  case zo =>
    repeat' apply AllP.cons
    all_goals first | exact trivial | exact id | exact fun _ => rfl | exact fun _ => Nat.le_of_ble_eq_true rfl | exact within_t _ _ _ | exact (within_t _ _ _).un | exact fun _ => (by simp only [Ob.of, inR]; omega)
  case zk =>
  have hd : A.bool r.head = A.bool (cond (cond (cond (cond (wi r.many 1 6) (((ints r.keep).length : Int) == r.many) false) (((ints r.spawn).length : Int) == r.many) false) (wi r.line 0 100000000) false) (wi r.mesh 0 ((r.many:Int) - 1)) false) := by rw [lk, ls]; rfl
  refine Aw.seq ?_
  refine Aw.sm tab_ok mb0 [] rfl rfl ?zo ?zk
  case zo =>
    repeat' apply AllP.cons
    all_goals first | exact trivial
  case zk =>
  have lr : (List.range r.many).length = r.many := List.length_range
  refine Aw.block (Aw.rounds 0 hE [(1, .pt r.c), (3, .int r.many)] (fun k : Nat => [(4, .bool (andAll r.head r.ageOk (List.range r.many) k)), (5, .int k)]) (fun _ => []) (fun k => k ≤ r.many) (fun k => r.many - k) 0
    (Nat.zero_le _) ⟨⟨.refl _, .refl _, trivial⟩, ⟨.of_eq (by rw [andAll_zero]; exact hd), .refl _, trivial⟩, trivial, Nat.le_refl _⟩ ⟨urc, .s _, trivial⟩ (fun _ _ => ⟨.s _, .s _, trivial⟩) (fun _ _ => trivial) fun k hk => ?_)
  refine Aw.seq ?_
  refine Aw.sm tab_ok mb0 [] rfl rfl ?zo ?zk
  case zo =>
    repeat' apply AllP.cons
    all_goals first | exact trivial | exact id | exact fun _ => rfl
  case zk =>
  refine Aw.cond rfl (fun h1 => Aw.skip ?_) (fun h1 => ?_)
  · have h1 : cond (andAll r.head r.ageOk (List.range r.many) k) (decide ((k : Int) < r.many)) false = true := h1
    have hb := ac1 h1
    have hlt : k < r.many := by have := of_decide_eq_true (ac2 h1); omega
    have hh : r.head = true := by unfold andAll at hb; exact ac1 hb
    have hk1 : r.keep.length = r.many := by unfold Rce.head at hh; have := eq_of_beq (ac2 (ac1 (ac1 (ac1 hh)))); omega
    have hs1 : r.spawn.length = r.many := by unfold Rce.head at hh; have := eq_of_beq (ac2 (ac1 (ac1 hh))); omega
    refine Aw.seq (Aw.block ?_)
    refine Aw.em tab_ok mb0 [(4, [.int (r.numbers.getD k 0)]), (6, [.bool (wi (r.numbers.getD k 0) 0 100000)]), (12, [.int (r.keep.getD k 0)]), (14, [.bool (wi (r.keep.getD k 0) 0 1000)]), (21, [.int (r.spawn.getD k 0)]), (23, [.bool (wi (r.spawn.getD k 0) 0 100)])] rfl rfl ?zo ?zk
    case zo =>
      repeat' apply AllP.cons
      all_goals first | exact trivial | exact id | exact rfl | exact fun _ => rfl | exact Nat.le_of_ble_eq_true rfl | exact fun _ => Nat.le_of_ble_eq_true rfl | exact Int.natCast_nonneg _ | exact fun _ => Int.natCast_nonneg _ | exact within_t _ _ _ | exact (within_t _ _ _).un | exact ints_getD hlt | exact fun _ => ints_getD (by omega)
    case zk =>
    refine Aw.em tab_ok mb0 [] rfl rfl ?zo ?zk
    case zo =>
      repeat' apply AllP.cons
      all_goals first | exact trivial | exact inrk k (by omega)
    case zk =>
    have e : andAll r.head r.ageOk (List.range r.many) (k + 1) = r.ageOk k := by
      rw [andAll_succ (by rw [lr]; exact hlt) hb, List.getElem_range]
    exact ⟨k + 1, hlt, by omega, ⟨.refl _, .refl _, trivial⟩, ⟨.of_eq (congrArg A.bool e), .refl _, trivial⟩, trivial, Nat.zero_le _⟩
  have h1 : cond (andAll r.head r.ageOk (List.range r.many) k) (decide ((k : Int) < r.many)) false = false := h1
  have hend : andAll r.head r.ageOk (List.range r.many) k = r.ok := (andAll_end (by
    cases e : andAll r.head r.ageOk (List.range r.many) k with
    | false => exact .inl rfl
    | true => rw [e] at h1; have := of_decide_eq_false h1; exact .inr (by rw [lr]; omega)) (by rw [lr]; exact hk)).trans rfl
  rw [hend]
  refine Aw.exit2 ?_
  refine Aw.sm tab_ok mb0 [] rfl rfl ?zo ?zk
  case zo =>
    repeat' apply AllP.cons
    all_goals first | exact trivial
  case zk =>
  exact Aw.ret ⟨_, .cons (.tmp _) .nil, rfl⟩
def padL (l : List Int) : List Int := l ++ List.replicate (6 - l.length) 0
def arr (l : List Int) : A := .agg ((padL l).map A.int)
theorem padL_len {l : List Int} (h : l.length ≤ 6) : (padL l).length = 6 := by simp [padL]; omega
theorem padL_getD (l : List Int) (k : Nat) : (padL l).getD k 0 = l.getD k 0 := by
  unfold padL
  simp only [List.getD_eq_getElem?_getD, List.getElem?_append]
  split
  · rfl
  · rename_i h
    rw [List.getElem?_eq_none (by omega : l.length ≤ k), List.getElem?_replicate]
    split <;> rfl
theorem padL_set {l : List Int} {k : Nat} (h : k < l.length) (v : Int) : (padL l).set k v = padL (l.set k v) := by
  unfold padL
  rw [List.set_append_left _ _ h, List.length_set]
theorem arr_free (l : List Int) : Free (arr l) := .agg _ fun x hx => by obtain ⟨n, _, rfl⟩ := List.mem_map.1 hx; exact .s _
theorem cells_under {n : Nat} (l : List Int) : UnderB n (.cells (l.map A.int)) := .cells _ fun x hx => by obtain ⟨n, _, rfl⟩ := List.mem_map.1 hx; exact .s _
theorem cells_get {l : List Int} {k : Nat} (h : k < l.length) : ((l.map A.int).getD k .un).down = .int (l.getD k 0) := by simp [List.getD_eq_getElem?_getD, h, A.down]
theorem padL_inj {a b : List Int} (h : a.length = b.length) (e : padL a = padL b) : a = b := by
  unfold padL at e
  exact (List.append_inj e h).1
theorem six : ((tab.zr 65).map A.down) = (List.replicate 6 (0 : Int)).map A.int := rfl
theorem first_t (r : Rce) (hr : RceOk r) : Ans Try.prog 24 [.agg r.c] (arr r.numbers) := by
  have hfr := arr_free r.numbers
  have h1 := hr.m1
  have h6 := hr.m6
  have hm : r.many = r.numbers.length := rfl
  refine told Try.func24 rfl rfl (Pure.of tab_ok Try.func24 rfl Try.ntmps24 rfl (all1 (.agg _ r.free)) (all1 (fun _ => rfl)) (by first | exact .s _ | assumption | exact .tup _ (by intro x hx; simp only [List.mem_cons, List.not_mem_nil, or_false] at hx; rcases hx with rfl | rfl | rfl | rfl <;> first | exact .s _ | (simp_all; done))) fun E hE => ?_)
  refine Aw.sm tab_ok mb0 [] rfl rfl ?zo ?zk
  case zo =>
    repeat' apply AllP.cons
    all_goals first | exact trivial
  case zk =>
  refine Aw.sm tab_ok mb0 [] rfl rfl ?zo ?zk
  case zo =>
    repeat' apply AllP.cons
    all_goals first | exact trivial
  case zk =>
  refine Aw.seq (SegW.start mixed ?_)
  refine SegW.run (b := 0) tab_ok mb0 4 [] rfl (by kernel_rfl) rfl rfl ?zo ?zk
  case zo =>
    repeat' apply AllP.cons
    all_goals first | exact trivial | exact id | exact rfl | exact Nat.le_of_ble_eq_true rfl | trace_state
  case zk =>
  refine SegW.step rfl (by kernel_rfl) rfl (fun i h1 h2 => by have h2 : i < 5 := h2; omega) (Does.raw rfl (DoesP.toR (DoesP.copyMs tab_ok rfl rfl rfl (by decide) rfl rfl rfl rfl (fun e => by
    have := congrArg List.length e
    rw [ints_len] at this
    simp at this
    have : r.numbers.length = 0 := by simp [this]
    omega) (ints_one _) (by rw [ints_len]; omega) (by rw [ints_len]; show 0 + _ ≤ 6; omega) ?_)))
  refine SegW.done (by kernel_rfl) (Nat.le_of_ble_eq_true rfl) ?_
  have hs : setSeg ((tab.zr 65).map A.down) 0 ((ints r.numbers).flatten.map A.down) = (padL r.numbers).map A.int := by
    rw [ints_flatten, six]
    unfold setSeg padL
    rw [List.take_zero, List.nil_append, ← List.map_drop, List.length_map, Nat.zero_add, List.drop_replicate, List.map_append]
  refine Aw.keep (n := 2) (cst := [(2, .ref 0 0), (3, .ref 1 0)]) (v := []) (Hl := [(0, .cells ((List.replicate 6 (0 : Int)).map A.int)), (1, .cells ((padL r.numbers).map A.int))]) (fun id h => hE id (by omega)) ⟨.ref _ _ (by decide), .ref _ _ (by decide), trivial⟩ trivial ⟨⟨by decide, cells_under _⟩, ⟨by decide, cells_under _⟩, trivial⟩
    ⟨⟨.refl _, .refl _, trivial⟩, trivial, ⟨rfl, congrArg (fun x => some (B.cells x)) hs, trivial⟩, Nat.le_of_ble_eq_true rfl⟩ ?_
  have pl := padL_len (l := r.numbers) (by omega)
  have pm : ((padL r.numbers).map A.int).length = 6 := by rw [List.length_map, pl]
  have hld : A.agg (((((padL r.numbers).map A.int).drop 0).take 6).map A.down) = arr r.numbers := by
    rw [List.drop_zero, List.take_of_length_le (by omega), map_down_int]; rfl
  refine Aw.sm tab_ok mb0 [(0, [arr r.numbers])] rfl rfl ?zo ?zk
  case zo =>
    repeat' apply AllP.cons
    all_goals first | exact trivial | exact Nat.le_of_ble_eq_true rfl | exact hld | exact (show 0 + 6 ≤ ((padL r.numbers).map A.int).length by omega) | exact (show ((padL r.numbers).map A.int).length = 6 from pm)
  case zk =>
  have hst : setSeg ((List.replicate 6 (0 : Int)).map A.int) 0 ((((padL r.numbers).map A.int)).map A.down) = (padL r.numbers).map A.int := by
    rw [map_down_int]
    unfold setSeg
    rw [List.take_zero, List.nil_append, Nat.zero_add, pm, List.drop_eq_nil_of_le (by simp), List.append_nil]
  refine Aw.ret ⟨_, .cons (resC rfl (congrArg (fun x => some (B.cells x)) hst) (by decide) ?_ ?_) .nil, rfl⟩
  · show Nat.ble (0 + 6) ((padL r.numbers).map A.int).length = true
    rw [pm]; rfl
  · exact hld
end Go.Proofs.Ytlgnoifnfnpjeaa

namespace Go.Proofs.Ytlgnoifnfnpjeaa
open Go Go.AL Go.AL.Q
def dn : Nat → Int
  | 0 => -1
  | j + 1 => j
theorem dn_eq (k : Nat) : dn k = (k : Int) - 1 := by cases k <;> simp [dn]
theorem minI (a b : Int) : (if b < a then b else a) = min a b := by rw [Int.min_def]; split <;> split <;> omega
theorem padL_zero {n : Nat} (h : n ≤ 6) : padL (List.replicate n 0) = List.replicate 6 0 := by
  unfold padL
  rw [List.length_replicate, List.replicate_append_replicate]
  congr 1; omega
theorem spawnN_succ (r : Rce) (l : List Int) (k : Nat) : spawnN r l (k + 1) = spawnN r l k ++ [l.getD k 0 * r.spawn.getD k 0] := by
  unfold spawnN; rw [List.range_succ, List.map_append]; rfl
theorem spawnN_len (r : Rce) (l : List Int) (k : Nat) : (spawnN r l k).length = k := by simp [spawnN]
theorem mul_bd {a b x y : Int} (ha : 0 ≤ a ∧ a ≤ x) (hb : 0 ≤ b ∧ b ≤ y) : 0 ≤ a * b ∧ a * b ≤ x * y := by
  refine ⟨Int.mul_nonneg ha.1 hb.1, ?_⟩
  exact Int.le_trans (Int.mul_le_mul_of_nonneg_left hb.2 ha.1) (Int.mul_le_mul_of_nonneg_right ha.2 (by omega))
theorem year_t (r : Rce) (hr : RceOk r) (l : List Int) (b take x : Int) (hp : Pop r b l) (hb : b ≤ 10000000) (ht : 0 ≤ take ∧ take ≤ 1000000000) (hx : 0 ≤ x ∧ x ≤ 100000) :
    Ans Try.prog 23 [.agg r.c, arr l, .int take, .int x] (.tup [.int (yearF r l take x).1, arr (yearF r l take x).2]) := by
  have hfr : Free (.tup [.int (yearF r l take x).1, arr (yearF r l take x).2]) := .tup _ (allC (.s _) (all1 (arr_free _)))
  rw [show yearF r l take x = (spawnF r (caughtF r l take), winF r (caughtF r l take) x) from rfl] at hfr ⊢
  have m1 := hr.m1
  have m6 := hr.m6
  have hmesh := hr.h
  have hm : r.many = r.numbers.length := rfl
  have ln := ints_lenI r.numbers
  have z6 : UnderB 3 (.cells ((List.replicate 6 (0 : Int)).map A.int)) := cells_under _
  refine told Try.func23 rfl rfl (Pure.of tab_ok Try.func23 rfl Try.ntmps23 rfl (allC (.agg _ r.free) (allC (arr_free l) (allC (.s _) (all1 (.s _))))) (allC (fun _ => rfl) (allC (fun _ => rfl) (allC (fun _ => rfl) (all1 (fun _ => rfl))))) (by first | exact .s _ | assumption | exact .tup _ (by intro x hx; simp only [List.mem_cons, List.not_mem_nil, or_false] at hx; rcases hx with rfl | rfl | rfl | rfl <;> first | exact .s _ | (simp_all; done))) fun E hE => ?_)
  have hE2 : ∀ id, 2 ≤ id → E.φ0 id = none := fun id h => hE id (by omega)
  have hE3 : ∀ id, 3 ≤ id → E.φ0 id = none := fun id h => hE id (by omega)
  have urc : Under 2 (A.pt r.c) := (Free.pt _ r.free).under
  refine Aw.sm tab_ok (fun d => Nat.beq d 5) [] rfl rfl ?zo ?zk
  case zo =>
    repeat' apply AllP.cons
    all_goals first | exact trivial
  case zk =>
  refine Aw.sm tab_ok (fun d => Nat.beq d 5) [] rfl rfl ?zo ?zk
  case zo =>
    repeat' apply AllP.cons
    all_goals first | exact trivial | exact Nat.le_of_ble_eq_true rfl | exact (by simp only [Ob.of, inR]; omega)
  case zk =>
  refine Aw.seq ?_
  refine Aw.sm tab_ok (fun d => Nat.beq d 5) [] rfl rfl ?zo ?zk
  case zo =>
    repeat' apply AllP.cons
    all_goals first | exact trivial
  case zk =>
  refine Aw.block (Aw.rounds (ι := Nat × List Int × Int) 2 hE2 [(3, .int x), (4, .pt r.c), (5, .ref 0 0), (9, .ref 1 0), (10, .int (dn r.many))] (fun i => [(2, .int i.2.2), (11, .int (dn i.1))]) (fun i => [(0, .cells ((padL i.2.1).map A.int)), (1, .cells ((List.replicate 6 (0 : Int)).map A.int))])
    (fun i => i.1 ≤ r.many ∧ Pop r b i.2.1 ∧ (0 ≤ i.2.2 ∧ i.2.2 ≤ 1000000000) ∧ catchF i.2.1 r.mesh.toNat i.1 i.2.2 = caughtF r l take) (fun i => i.1) (r.many, l, take)
    ⟨Nat.le_refl _, hp, ht, rfl⟩ ⟨⟨.refl _, .refl _, .refl _, .refl _, .of_eq (congrArg A.int (by rw [dn_eq, ln, ← hm])), trivial⟩, ⟨.refl _, .of_eq (congrArg A.int (by rw [dn_eq, ln, ← hm])), trivial⟩, ⟨congrArg (fun x => some (B.cells x)) (map_down_int (padL l)), rfl, trivial⟩, Nat.le_of_ble_eq_true rfl⟩
    ⟨.s _, urc, .ref _ _ (by decide), .ref _ _ (by decide), .s _, trivial⟩ (fun _ _ => ⟨.s _, .s _, trivial⟩) (fun _ _ => ⟨⟨by decide, cells_under _⟩, ⟨by decide, cells_under _⟩, trivial⟩) ?_)
  rintro ⟨k, l1, tk⟩ ⟨hk, hpop, htk, hrun⟩
  simp only at hk hpop htk hrun
  refine Aw.seq ?_
  refine Aw.sm tab_ok (fun d => Nat.beq d 5) [] rfl rfl ?zo ?zk
  case zo =>
    repeat' apply AllP.cons
    all_goals first | exact trivial | exact Nat.le_of_ble_eq_true rfl
  case zk =>
  refine Aw.cond rfl (fun h1 => Aw.skip ?_) (fun h1 => ?_)
  · have h1' : dn k ≥ r.mesh := of_decide_eq_true h1
    obtain ⟨j, rfl⟩ : ∃ j, k = j + 1 := by cases k with
      | zero => have : (-1 : Int) ≥ r.mesh := h1'; omega
      | succ j => exact ⟨j, rfl⟩
    have h2 : r.mesh.toNat ≤ j := by have : (j : Int) ≥ r.mesh := h1'; omega
    rw [catchF, if_pos h2] at hrun
    have p6 := padL_len (l := l1) (by rw [hpop.len]; exact m6)
    have pj : j < ((padL l1).map A.int).length := by rw [List.length_map, p6]; omega
    have jl : j < l1.length := by rw [hpop.len]; omega
    have hg : (((padL l1).map A.int).getD j .un).down = .int (l1.getD j 0) := by rw [cells_get (by omega), padL_getD]
    have nn := getD_pos hpop.pos j
    have ns := sum_ge hpop.pos j
    have nsb := hpop.sum
    have hmn := minI (l1.getD j 0) tk
    have hg' : (((padL l1).map A.int).getD (0 + j * 1) .un).down = .int (l1.getD j 0) := by rw [Nat.zero_add, Nat.mul_one]; exact hg
    have pj' : 0 + j * 1 < ((padL l1).map A.int).length := by omega
    have pj2 : 0 + j * 1 + 1 ≤ ((padL l1).map A.int).length := by omega
    have j6 : (j : Int) < (6 : Nat) := by omega
    refine Aw.seq (Aw.block ?_)
    refine Aw.sm tab_ok (fun d => Nat.beq d 5) [(2, [.int (l1.getD j 0)])] rfl rfl ?zo ?zk
    case zo =>
      repeat' apply AllP.cons
      all_goals first | exact trivial | exact Int.natCast_nonneg _ | exact hg' | exact pj' | exact j6
    case zk =>
    have ob1 : inR (tk - (if tk < l1.getD j 0 then tk else l1.getD j 0)) := by rw [hmn]; simp only [inR]; omega
    have ob2 : inR (l1.getD j 0 - (if tk < l1.getD j 0 then tk else l1.getD j 0)) := by rw [hmn]; simp only [inR]; omega
    have hst : setSeg ((padL l1).map A.int) (0 + j * 1) [A.int (l1.getD j 0 - (if tk < l1.getD j 0 then tk else l1.getD j 0))] = (padL (l1.set j (l1.getD j 0 - min (l1.getD j 0) tk))).map A.int := by
      rw [hmn, Nat.zero_add, Nat.mul_one, setSeg_set (by rw [p6]; omega), padL_set jl]
    refine Aw.em tab_ok (fun d => Nat.beq d 5) [(3, [.int (l1.getD j 0)])] rfl rfl ?zo ?zk
    case zo =>
      repeat' apply AllP.cons
      all_goals first | exact trivial | exact rfl | exact Int.natCast_nonneg _ | exact hg' | exact pj' | exact j6 | exact ob1 | exact ob2
    case zk =>
    refine Aw.em tab_ok (fun d => Nat.beq d 5) [] rfl rfl ?zo ?zk
    case zo =>
      repeat' apply AllP.cons
      all_goals first | exact trivial | exact (show inR ((j : Int) - 1) by simp only [inR]; omega)
    case zk =>
    have hpop2 := catchF_pop (mesh := j) (j + 1) tk l1 hpop htk.1 hk
    rw [catchF, if_pos (Nat.le_refl _), show ∀ (l : List Int) (t : Int), catchF l j j t = l from fun l t => by cases j with
      | zero => rfl
      | succ i => rw [catchF, if_neg (by omega)]] at hpop2
    exact ⟨(j, l1.set j (l1.getD j 0 - min (l1.getD j 0) tk), tk - min (l1.getD j 0) tk), ⟨by show j ≤ _; omega, hpop2, by show 0 ≤ tk - min (l1.getD j 0) tk ∧ tk - min (l1.getD j 0) tk ≤ _; omega, hrun⟩, Nat.lt_succ_self j,
      ⟨.refl _, .refl _, .refl _, .refl _, .refl _, trivial⟩, ⟨.of_eq (show A.int (tk - min (l1.getD j 0) tk) = A.int (tk - (if tk < l1.getD j 0 then tk else l1.getD j 0)) by rw [hmn]), .of_eq (show A.int (dn j) = A.int ((j : Int) - 1) by rw [dn_eq]), trivial⟩,
      ⟨congrArg (fun x => some (B.cells x)) hst, rfl, trivial⟩, Nat.le_of_ble_eq_true rfl⟩
  have h1' : ¬ dn k ≥ r.mesh := of_decide_eq_false h1
  have hC : l1 = caughtF r l take := by
    rw [← hrun]
    cases k with
    | zero => rfl
    | succ j =>
      have : ¬ (j : Int) ≥ r.mesh := h1'
      rw [catchF, if_neg (by omega)]
  refine Aw.exit2 ?_
  generalize caughtF r l take = C at *
  subst hC
  clear hrun htk h1 h1' hk
  have hln := hpop.len
  have pc6 := padL_len (l := l1) (by omega)
  refine Aw.keep (n := 2) (cst := [(3, .int x), (4, .pt r.c), (5, .ref 0 0), (9, .ref 1 0), (10, .int (dn r.many))]) (v := []) (Hl := [(0, .cells ((padL l1).map A.int)), (1, .cells ((List.replicate 6 (0 : Int)).map A.int))]) hE2 ⟨.s _, urc, .ref _ _ (by decide), .ref _ _ (by decide), .s _, trivial⟩ trivial ⟨⟨by decide, cells_under _⟩, ⟨by decide, cells_under _⟩, trivial⟩
    ⟨⟨.refl _, .refl _, .refl _, .refl _, .refl _, trivial⟩, trivial, ⟨rfl, rfl, trivial⟩, Nat.le_of_ble_eq_true rfl⟩ ?_
  refine Aw.sm tab_ok (fun d => Nat.beq d 5) [] rfl rfl ?zo ?zk
  case zo =>
    repeat' apply AllP.cons
    all_goals first | exact trivial
  case zk =>
  refine Aw.sm tab_ok (fun d => Nat.beq d 5) [] rfl rfl ?zo ?zk
  case zo =>
    repeat' apply AllP.cons
    all_goals first | exact trivial
  case zk =>
  refine Aw.seq ?_
  have hdn := dn_eq r.many
  refine Aw.sm tab_ok (fun d => Nat.beq d 5) [] rfl rfl ?zo ?zk
  case zo =>
    repeat' apply AllP.cons
    all_goals first | exact trivial | exact (show inR (dn r.many + 1) by simp only [inR]; omega)
  case zk =>
  have uc3 : UnderL 3 [(3, A.int x), (4, .pt r.c), (5, .ref 0 0), (9, .ref 1 0), (10, .int (dn r.many)), (14, .ref 2 0), (45, .int r.many)] := ⟨.s _, (Free.pt _ r.free).under, .ref _ _ (by decide), .ref _ _ (by decide), .s _, .ref _ _ (by decide), .s _, trivial⟩
  refine Aw.block (Aw.rounds (ι := Nat) 3 hE3 [(3, .int x), (4, .pt r.c), (5, .ref 0 0), (9, .ref 1 0), (10, .int (dn r.many)), (14, .ref 2 0), (45, .int r.many)] (fun k => [(13, grL 3 (spawnN r l1 k)), (46, .int k)])
    (fun k => [(0, .cells ((padL l1).map A.int)), (1, .cells ((List.replicate 6 (0 : Int)).map A.int)), (2, .cells ((padL (winN r l1 k)).map A.int))]) (fun k => k ≤ r.many) (fun k => r.many - k) 0
    (Nat.zero_le _) ⟨⟨.refl _, .refl _, .refl _, .refl _, .refl _, .refl _, .of_eq (congrArg A.int (by omega)), trivial⟩, ⟨.refl _, .refl _, trivial⟩, ⟨rfl, rfl, congrArg (fun x : List Int => some (B.cells (x.map A.int))) (padL_zero m6).symm, trivial⟩, Nat.le_of_ble_eq_true rfl⟩
    uc3 (fun _ _ => ⟨grL_under _, .s _, trivial⟩) (fun _ _ => ⟨⟨by decide, cells_under _⟩, ⟨by decide, cells_under _⟩, ⟨by decide, cells_under _⟩, trivial⟩) fun k hk => ?_)
  refine Aw.sm tab_ok (fun d => Nat.beq d 5) [] rfl rfl ?zo ?zk
  case zo =>
    repeat' apply AllP.cons
    all_goals first | exact trivial
  case zk =>
  refine Aw.seq (Aw.cond rfl (fun h1 => Aw.skip1 ?_) (fun h1 => Aw.exit2 ?_))
  · have hlt : k < r.many := by have := of_decide_eq_true h1; omega
    have hw := winN_pop hr hpop k (by omega)
    have hkb := hr.kb k hlt
    have hsb := hr.sb k hlt
    have hc0 := getD_pos hpop.pos k
    have hc1 := sum_ge hpop.pos k
    have hc2 := hpop.sum
    have hkl := hr.k
    have hsl := hr.s
    have hcs := mul_bd (a := l1.getD k 0) (x := 10000000) ⟨hc0, by omega⟩ hsb
    have hck := mul_bd (a := l1.getD k 0) (x := 10000000) ⟨hc0, by omega⟩ hkb
    have hg' : (((padL l1).map A.int).getD (0 + k * 1) .un).down = .int (l1.getD k 0) := by rw [Nat.zero_add, Nat.mul_one, cells_get (by omega), padL_getD]
    have pk' : 0 + k * 1 < ((padL l1).map A.int).length := by rw [List.length_map]; omega
    have k6 : (k : Int) < (6 : Nat) := by omega
    have om : inR (l1.getD k 0 * r.spawn.getD k 0) := by simp only [inR]; omega
    have ok : inR (l1.getD k 0 * r.keep.getD k 0) := by simp only [inR]; omega
    have es := spawnN_succ r l1 k
    have el := spawnN_len r l1 k
    refine Aw.seq (Aw.block ?_)
    refine Aw.sm tab_ok (fun d => Nat.beq d 5) [] rfl rfl ?zo ?zk
    case zo =>
      repeat' apply AllP.cons
      all_goals first | exact trivial
    case zk =>
    refine Aw.join1 3 hE3 [(3, A.int x), (4, .pt r.c), (5, .ref 0 0), (9, .ref 1 0), (10, .int (dn r.many)), (14, .ref 2 0), (45, .int r.many), (46, .int k), (15, .int k)] [(13, grL 3 (spawnN r l1 (k + 1)))] [(0, .cells ((padL l1).map A.int)), (1, .cells ((List.replicate 6 (0 : Int)).map A.int)), (2, .cells ((padL (winN r l1 k)).map A.int))]
      ⟨.s _, (Free.pt _ r.free).under, .ref _ _ (by decide), .ref _ _ (by decide), .s _, .ref _ _ (by decide), .s _, .s _, .s _, trivial⟩ ⟨grL_under _, trivial⟩ ⟨⟨by decide, cells_under _⟩, ⟨by decide, cells_under _⟩, ⟨by decide, cells_under _⟩, trivial⟩ ?_ ?_
    · cases hsp : spawnN r l1 k with
      | nil =>
        rw [hsp] at es
        refine Aw.ed tab_ok mixed (fun d => Nat.beq d 5) [(3, [.int (l1.getD k 0)]), (8, [.int (r.spawn.getD k 0)])] rfl (by kernel_rfl) rfl rfl ?zo ?zk
        case zo =>
          repeat' apply AllP.cons
          all_goals first | exact trivial | exact rfl | exact Nat.le_of_ble_eq_true rfl | exact Int.natCast_nonneg _ | exact hg' | exact pk' | exact k6 | exact om | exact ints_getD (by omega) | exact (show ∀ z ∈ [] ++ [[A.int _]], z.length = 1 from fun z hz => by simp at hz; subst hz; rfl)
        case zk =>
        exact ⟨⟨.refl _, .refl _, .refl _, .refl _, .refl _, .refl _, .refl _, .refl _, .refl _, trivial⟩, ⟨.of_eq (show grL 3 (spawnN r l1 (k + 1)) = A.sl false (.own 3) ([] ++ [[A.int (l1.getD k 0 * r.spawn.getD k 0)]]) by rw [es]; rfl), trivial⟩, ⟨rfl, rfl, rfl, trivial⟩, Nat.le_of_ble_eq_true rfl⟩
      | cons y ys =>
        rw [hsp] at es el
        have hlen2 : (ints (y :: ys)).length = k := by rw [ints_len]; exact el
        have hz := ints_one (y :: ys)
        refine Aw.ed tab_ok mixed (fun d => Nat.beq d 5) [(3, [.int (l1.getD k 0)]), (8, [.int (r.spawn.getD k 0)])] rfl (by kernel_rfl) rfl rfl ?zo ?zk
        case zo =>
          repeat' apply AllP.cons
          all_goals first | exact trivial | exact rfl | exact Nat.le_of_ble_eq_true rfl | exact Int.natCast_nonneg _ | exact hg' | exact pk' | exact k6 | exact om | exact ints_getD (by omega) | exact (show ∀ z ∈ [[A.int _]], z.length = 1 from fun z hz => by simp at hz; subst hz; rfl) | exact hz | exact (show ((ints (y :: ys)).length + 1) * 8 ≤ 140737488355328 by omega) | exact (show (ints (y :: ys)).length + 1 ≤ maxLen by unfold maxLen; omega)
        case zk =>
        exact ⟨⟨.refl _, .refl _, .refl _, .refl _, .refl _, .refl _, .refl _, .refl _, .refl _, trivial⟩, ⟨.of_eq (show grL 3 (spawnN r l1 (k + 1)) = A.sl false (.own 3) (ints (y :: ys) ++ [[A.int (l1.getD k 0 * r.spawn.getD k 0)]]) by rw [es]; simp [grL, ints]), trivial⟩, ⟨rfl, rfl, rfl, trivial⟩, Nat.le_of_ble_eq_true rfl⟩
    obtain ⟨m, hm1⟩ : ∃ m : Nat, m = min (k + 1) (r.many - 1) := ⟨_, rfl⟩
    have hmi : (if dn r.many < (k : Int) + 1 then dn r.many else (k : Int) + 1) = (m : Int) := by split <;> omega
    have w6 := padL_len (l := winN r l1 k) (by rw [hw.len]; exact m6)
    have wl := hw.len
    have hwg : (((padL (winN r l1 k)).map A.int).getD (0 + Int.toNat (if dn r.many < (k : Int) + 1 then dn r.many else (k : Int) + 1) * 1) .un).down = .int ((winN r l1 k).getD m 0) := by
      rw [hmi, Int.toNat_natCast, Nat.zero_add, Nat.mul_one, cells_get (by omega), padL_getD]
    have wb := getD_pos hw.pos m
    have wg := sum_ge hw.pos m
    have ws := hw.sum
    have wt := sum_take_le hpop.pos k
    have lb := live_bd hc0 hkb
    have q1 : 0 + Int.toNat (if dn r.many < (k : Int) + 1 then dn r.many else (k : Int) + 1) * 1 + 1 ≤ ((padL (winN r l1 k)).map A.int).length := by rw [hmi, Int.toNat_natCast, List.length_map, w6]; omega
    have q2 : 0 + Int.toNat (if dn r.many < (k : Int) + 1 then dn r.many else (k : Int) + 1) * 1 < ((padL (winN r l1 k)).map A.int).length := q1
    have q3 : 0 ≤ (if dn r.many < (k : Int) + 1 then dn r.many else (k : Int) + 1) := by rw [hmi]; omega
    have q4 : (if dn r.many < (k : Int) + 1 then dn r.many else (k : Int) + 1) < (6 : Nat) := by rw [hmi]; omega
    have q5 : inR ((winN r l1 k).getD m 0 + (l1.getD k 0 * r.keep.getD k 0).tdiv 1000) := by simp only [inR]; omega
    have q6 : (1000 : Int) ≠ 0 ∧ inR ((l1.getD k 0 * r.keep.getD k 0).tdiv 1000) := ⟨by decide, by simp only [inR]; omega⟩
    have hst : setSeg ((padL (winN r l1 k)).map A.int) (0 + Int.toNat (if dn r.many < (k : Int) + 1 then dn r.many else (k : Int) + 1) * 1) [A.int ((winN r l1 k).getD m 0 + (l1.getD k 0 * r.keep.getD k 0).tdiv 1000)] = (padL (winN r l1 (k + 1))).map A.int := by
      rw [hmi, Int.toNat_natCast, Nat.zero_add, Nat.mul_one, setSeg_set (by rw [w6]; omega), padL_set (by omega), winN, ← hm1]
    refine Aw.ed tab_ok mixed (fun d => Nat.beq d 5) [(5, [.int ((winN r l1 k).getD m 0)]), (8, [.int (l1.getD k 0)]), (13, [.int (r.keep.getD k 0)])] rfl (by kernel_rfl) rfl rfl ?zo ?zk
    case zo =>
      repeat' apply AllP.cons
      all_goals first | exact trivial | exact rfl | exact Nat.le_of_ble_eq_true rfl | exact Int.natCast_nonneg _ | exact hg' | exact pk' | exact k6 | exact ok | exact hwg | exact ints_getD (by omega) | exact q1 | exact q3 | exact q4 | exact q5 | exact q6 | exact inrk k (by omega)
    case zk =>
    refine Aw.em tab_ok (fun d => Nat.beq d 5) [] rfl rfl ?zo ?zk
    case zo =>
      repeat' apply AllP.cons
      all_goals first | exact trivial | exact inrk k (by omega)
    case zk =>
    exact ⟨k + 1, hlt, by omega, ⟨.refl _, .refl _, .refl _, .refl _, .refl _, .refl _, .refl _, trivial⟩, ⟨.refl _, .refl _, trivial⟩, ⟨rfl, rfl, congrArg (fun x => some (B.cells x)) hst, trivial⟩, Nat.le_of_ble_eq_true rfl⟩
  have hle : k = r.many := by have := of_decide_eq_false h1; omega
  subst hle
  have hw := winN_pop hr hpop r.many (Nat.le_refl _)
  have wl := hw.len
  have w6 := padL_len (l := winN r l1 r.many) (by omega)
  have ws := hw.sum
  have wt := sum_take_le hpop.pos r.many
  have wg := sum_ge hw.pos 0
  have wb := getD_pos hw.pos 0
  have hps := hpop.sum
  have hg0 : (((padL (winN r l1 r.many)).map A.int).getD (0 + 0 * 1) .un).down = .int ((winN r l1 r.many).getD 0 0) := by rw [cells_get (by omega), padL_getD]
  have q2 : 0 + 0 * 1 < ((padL (winN r l1 r.many)).map A.int).length := by rw [List.length_map]; omega
  have q1 : 0 + 0 * 1 + 1 ≤ ((padL (winN r l1 r.many)).map A.int).length := q2
  have q5 : inR ((winN r l1 r.many).getD 0 0 + x) := by simp only [inR]; omega
  have hst : setSeg ((padL (winN r l1 r.many)).map A.int) (0 + 0 * 1) [A.int ((winN r l1 r.many).getD 0 0 + x)] = (padL (winF r l1 x)).map A.int := by
    rw [setSeg_set (by omega), padL_set (by omega)]; rfl
  refine Aw.sm tab_ok (fun d => Nat.beq d 5) [(1, [.int ((winN r l1 r.many).getD 0 0)])] rfl rfl ?zo ?zk
  case zo =>
    repeat' apply AllP.cons
    all_goals first | exact trivial | exact rfl | exact Int.natCast_nonneg _ | exact hg0 | exact q1 | exact q5
  case zk =>
  refine Aw.keep (n := 3) (cst := [(9, .ref 1 0), (13, grL 3 (spawnN r l1 r.many)), (14, .ref 2 0)]) (v := []) (Hl := [(1, .cells ((List.replicate 6 (0 : Int)).map A.int)), (2, .cells ((padL (winF r l1 x)).map A.int))]) hE3 ⟨.ref _ _ (by decide), grL_under _, .ref _ _ (by decide), trivial⟩ trivial ⟨⟨by decide, cells_under _⟩, ⟨by decide, cells_under _⟩, trivial⟩
    ⟨⟨.refl _, .refl _, .refl _, trivial⟩, trivial, ⟨rfl, congrArg (fun x => some (B.cells x)) hst, trivial⟩, Nat.le_of_ble_eq_true rfl⟩ ?_
  have el := spawnN_len r l1 r.many
  have hsb : ∀ y ∈ spawnN r l1 r.many, 0 ≤ y ∧ y ≤ 1000000000 := fun y hy => by
    obtain ⟨i, hi, rfl⟩ := List.mem_map.1 hy
    have hi := List.mem_range.1 hi
    have hc1 := sum_ge hpop.pos i
    exact mul_bd (x := 10000000) (y := 100) ⟨getD_pos hpop.pos i, by omega⟩ (hr.sb i hi)
  have hsum := sum_t false .any (spawnN r l1 r.many) (by omega) (sum_g _ 1000000000 (by omega) (by decide) hsb) (fun _ => rfl)
  have hsp : spawnF r l1 = (spawnN r l1 r.many).sum := rfl
  rw [hsp]
  have hgr : grL 3 (spawnN r l1 r.many) = .sl false (.own 3) (ints (spawnN r l1 r.many)) := by
    cases e : spawnN r l1 r.many with
    | nil => rw [e] at el; simp at el; omega
    | cons y ys => rfl
  rw [hgr]
  have f6 := padL_len (l := winF r l1 x) (by rw [(winF_pop hr hpop hx.1).len]; exact m6)
  have pm : ((padL (winF r l1 x)).map A.int).length = 6 := by rw [List.length_map, f6]
  have hld : A.agg (((((padL (winF r l1 x)).map A.int).drop 0).take 6).map A.down) = arr (winF r l1 x) := by
    rw [List.drop_zero, List.take_of_length_le (by omega), map_down_int]; rfl
  refine Aw.sd tab_ok mixed (fun d => Nat.beq d 5) [(1, [.int (spawnN r l1 r.many).sum]), (2, [arr (winF r l1 x)])] rfl (by kernel_rfl) rfl rfl ?zo ?zk
  case zo =>
    repeat' apply AllP.cons
    all_goals first | exact trivial | exact Nat.le_of_ble_eq_true rfl | exact hsum | exact hld | exact (show 0 + 6 ≤ ((padL (winF r l1 x)).map A.int).length by omega) | exact (show ((padL (winF r l1 x)).map A.int).length = 6 from pm)
  case zk =>
  have hst2 : setSeg ((List.replicate 6 (0 : Int)).map A.int) 0 ((((padL (winF r l1 x)).map A.int)).map A.down) = (padL (winF r l1 x)).map A.int := by
    rw [map_down_int]
    unfold setSeg
    rw [List.take_zero, List.nil_append, Nat.zero_add, pm, List.drop_eq_nil_of_le (by simp), List.append_nil]
  refine Aw.ret ⟨_, .cons (.tmp _) (.cons (resC rfl (congrArg (fun x => some (B.cells x)) hst2) (by decide) ?_ ?_) .nil), rfl⟩
  · show Nat.ble (0 + 6) ((padL (winF r l1 x)).map A.int).length = true
    rw [pm]; rfl
  · exact hld
end Go.Proofs.Ytlgnoifnfnpjeaa

namespace Go.Proofs.Ytlgnoifnfnpjeaa
open Go Go.AL Go.AL.Q
theorem arr_ld {l : List Int} (h : l.length ≤ 6) : A.agg ((((((padL l).map A.int)).drop 0).take 6).map A.down) = arr l := by
  have := padL_len h
  rw [List.drop_zero, List.take_of_length_le (by rw [List.length_map]; omega), map_down_int]; rfl
theorem arr_len {l : List Int} (h : l.length ≤ 6) : ((padL l).map A.int).length = 6 := by rw [List.length_map, padL_len h]
theorem arr_st {l m : List Int} (h : l.length ≤ 6) (hm : m.length ≤ 6) : setSeg ((padL m).map A.int) 0 ((((padL l).map A.int)).map A.down) = (padL l).map A.int := by
  rw [map_down_int]
  unfold setSeg
  rw [List.take_zero, List.nil_append, Nat.zero_add, arr_len h, List.drop_eq_nil_of_le (by rw [arr_len hm]; exact Nat.le_refl _), List.append_nil]
theorem arr_st0 {l : List Int} (h : l.length ≤ 6) : setSeg ((List.replicate 6 (0 : Int)).map A.int) 0 ((((padL l).map A.int)).map A.down) = (padL l).map A.int := by
  have := arr_st h (m := []) (by simp)
  exact this
theorem play_t (r : Rce) (hf : r.Fit) (p q : Bool) (takes recs : List Int) (ht : (takes.length : Int) ≤ 9223372036854775806) (hc : (recs.length : Int) ≤ 9223372036854775806) :
    Ans Try.prog 16 [.agg r.c, .sl p .any (ints takes), .sl q .any (ints recs)] (.tup (playR r takes recs)) := by
  have hfr : Free (.tup (playR r takes recs)) := .tup _ (by unfold playR; split <;> exact allC (outX_free _) (all1 (.s _)))
  have lt := ints_lenI takes
  have lc := ints_lenI recs
  have ut : ∀ {n}, Under n (A.sl p .any (ints takes)) := (free_ints _ _ _).under
  have uq : ∀ {n}, Under n (A.sl q .any (ints recs)) := (free_ints _ _ _).under
  have ur : ∀ {n}, UnderB n (.cells r.c) := .cells _ fun x hx => (r.free x hx).under
  refine told Try.func16 rfl rfl (Pure.of tab_ok Try.func16 rfl Try.ntmps16 rfl (allC (.agg _ r.free) (allC (free_ints _ _ _) (all1 (free_ints _ _ _)))) (allC (fun _ => rfl) (allC (fun _ => rfl) (all1 (fun _ => rfl)))) (by first | exact .s _ | assumption | exact .tup _ (by intro x hx; simp only [List.mem_cons, List.not_mem_nil, or_false] at hx; rcases hx with rfl | rfl | rfl | rfl <;> first | exact .s _ | (simp_all; done))) fun E hE => ?_)
  have hE1 : ∀ id, 1 ≤ id → E.φ0 id = none := fun id h => hE id (by omega)
  have hE2 : ∀ id, 2 ≤ id → E.φ0 id = none := fun id h => hE id (by omega)
  refine Aw.sm tab_ok (fun d => Nat.beq d 5) [] rfl rfl ?zo ?zk
  case zo =>
    repeat' apply AllP.cons
    all_goals first | exact trivial
  case zk =>
  refine Aw.sm tab_ok (fun d => Nat.beq d 5) [] rfl rfl ?zo ?zk
  case zo =>
    repeat' apply AllP.cons
    all_goals first | exact trivial | exact rfl | exact Nat.le_of_ble_eq_true rfl
  case zk =>
  refine Aw.sm tab_ok (fun d => Nat.beq d 5) [(1, [.bool r.ok]), (5, [.bool (wi (ints takes).length 1 10)])] rfl rfl ?zo ?zk
  case zo =>
    repeat' apply AllP.cons
    all_goals first | exact trivial | exact id | exact fun _ => rfl | exact Nat.le_of_ble_eq_true rfl | exact (within_t _ _ _).un | exact isRace_t r hf
  case zk =>
  have hd : A.bool (playHead r takes recs) = A.bool (cond (cond r.ok (wi (ints takes).length 1 10) false) (((ints recs).length : Int) == (ints takes).length) false) := by rw [lt, lc]; rfl
  refine Aw.seq ?_
  refine Aw.sm tab_ok (fun d => Nat.beq d 5) [] rfl rfl ?zo ?zk
  case zo =>
    repeat' apply AllP.cons
    all_goals first | exact trivial
  case zk =>
  have lr : (List.range takes.length).length = takes.length := List.length_range
  refine Aw.block (Aw.rounds 1 hE1 [(1, .sl p .any (ints takes)), (2, .sl q .any (ints recs)), (8, .ref 0 0)] (fun k : Nat => [(9, .bool (andAll (playHead r takes recs) (playYear takes recs) (List.range takes.length) k)), (10, .int k)]) (fun _ => [(0, .cells r.c)]) (fun k => k ≤ takes.length) (fun k => takes.length - k) 0
    (Nat.zero_le _) ⟨⟨.refl _, .refl _, .refl _, trivial⟩, ⟨.of_eq (by rw [andAll_zero]; exact hd), .refl _, trivial⟩, ⟨rfl, trivial⟩, Nat.le_refl _⟩ ⟨ut, uq, .ref _ _ (by decide), trivial⟩ (fun _ _ => ⟨.s _, .s _, trivial⟩) (fun _ _ => ⟨⟨by decide, ur⟩, trivial⟩) fun k hk => ?_)
  refine Aw.seq ?_
  refine Aw.sm tab_ok (fun d => Nat.beq d 5) [] rfl rfl ?zo ?zk
  case zo =>
    repeat' apply AllP.cons
    all_goals first | exact trivial | exact id | exact fun _ => rfl
  case zk =>
  refine Aw.cond rfl (fun h1 => Aw.skip ?_) (fun h1 => ?_)
  · have h1 : cond (andAll (playHead r takes recs) (playYear takes recs) (List.range takes.length) k) (decide ((k : Int) < (ints takes).length)) false = true := h1
    have hb := ac1 h1
    have hlt : k < takes.length := by have := of_decide_eq_true (ac2 h1); omega
    have hh : playHead r takes recs = true := by unfold andAll at hb; exact ac1 hb
    have hq : recs.length = takes.length := by unfold playHead at hh; have := eq_of_beq (ac2 hh); omega
    refine Aw.seq (Aw.block ?_)
    refine Aw.em tab_ok (fun d => Nat.beq d 5) [(2, [.int (takes.getD k 0)]), (4, [.bool (wi (takes.getD k 0) 0 100000000)]), (8, [.int (recs.getD k 0)]), (10, [.bool (wi (recs.getD k 0) 0 100000)])] rfl rfl ?zo ?zk
    case zo =>
      repeat' apply AllP.cons
      all_goals first | exact trivial | exact id | exact rfl | exact fun _ => rfl | exact Nat.le_of_ble_eq_true rfl | exact fun _ => Nat.le_of_ble_eq_true rfl | exact Int.natCast_nonneg _ | exact fun _ => Int.natCast_nonneg _ | exact within_t _ _ _ | exact (within_t _ _ _).un | exact ints_getD hlt | exact fun _ => ints_getD (by omega)
    case zk =>
    refine Aw.em tab_ok (fun d => Nat.beq d 5) [] rfl rfl ?zo ?zk
    case zo =>
      repeat' apply AllP.cons
      all_goals first | exact trivial | exact inrk k (by omega)
    case zk =>
    have e : andAll (playHead r takes recs) (playYear takes recs) (List.range takes.length) (k + 1) = playYear takes recs k := by
      rw [andAll_succ (by rw [lr]; exact hlt) hb, List.getElem_range]
    exact ⟨k + 1, hlt, by omega, ⟨.refl _, .refl _, .refl _, trivial⟩, ⟨.of_eq (congrArg A.bool e), .refl _, trivial⟩, ⟨rfl, trivial⟩, Nat.le_refl _⟩
  have h1 : cond (andAll (playHead r takes recs) (playYear takes recs) (List.range takes.length) k) (decide ((k : Int) < (ints takes).length)) false = false := h1
  have hend : andAll (playHead r takes recs) (playYear takes recs) (List.range takes.length) k = playOk r takes recs := (andAll_end (by
    cases e : andAll (playHead r takes recs) (playYear takes recs) (List.range takes.length) k with
    | false => exact .inl rfl
    | true => rw [e] at h1; have := of_decide_eq_false h1; exact .inr (by rw [lr]; omega)) (by rw [lr]; exact hk)).trans rfl
  rw [hend]
  refine Aw.exit2 ?_
  refine Aw.keep (n := 1) (cst := [(1, .sl p .any (ints takes)), (2, .sl q .any (ints recs)), (8, .ref 0 0), (9, .bool (playOk r takes recs))]) (v := []) (Hl := [(0, .cells r.c)]) hE1 ⟨ut, uq, .ref _ _ (by decide), .s _, trivial⟩ trivial ⟨⟨by decide, ur⟩, trivial⟩ ⟨⟨.refl _, .refl _, .refl _, .refl _, trivial⟩, trivial, ⟨rfl, trivial⟩, Nat.le_refl _⟩ ?_
  refine Aw.seq ?_
  refine Aw.sm tab_ok (fun d => Nat.beq d 5) [] rfl rfl ?zo ?zk
  case zo =>
    repeat' apply AllP.cons
    all_goals first | exact trivial
  case zk =>
  refine Aw.cond rfl (fun h1 => ?_) (fun h1 => Aw.skip ?_)
  · have hno : playOk r takes recs = false := by simpa using h1
    refine Aw.sm tab_ok (fun d => Nat.beq d 5) [] rfl rfl ?zo ?zk
    case zo =>
      repeat' apply AllP.cons
      all_goals first | exact trivial
    case zk =>
    exact Aw.ret ⟨_, .cons (.tmp _) (.cons (.tmp _) .nil), by simp only [playR, hno]; rfl⟩
  have hok : playOk r takes recs = true := by simpa using h1
  have hhead : playHead r takes recs = true := by unfold playOk at hok; exact ac1 hok
  have hr : RceOk r := RceOk.of (by unfold playHead at hhead; exact ac1 (ac1 hhead))
  have hl10 : 1 ≤ takes.length ∧ takes.length ≤ 10 := by unfold playHead at hhead; have := wi_iff.1 (ac2 (ac1 hhead)); omega
  have hrl : recs.length = takes.length := by unfold playHead at hhead; have := eq_of_beq (ac2 hhead); omega
  have hy : ∀ i, i < takes.length → (0 ≤ takes.getD i 0 ∧ takes.getD i 0 ≤ 100000000) ∧ (0 ≤ recs.getD i 0 ∧ recs.getD i 0 ≤ 100000) := fun i hi => by
    unfold playOk at hok
    have := List.all_eq_true.1 (ac2 hok) i (List.mem_range.2 hi)
    exact ⟨wi_iff.1 (ac1 this), wi_iff.1 (ac2 this)⟩
  have hR : playR r takes recs = [outX (playF r r.numbers takes recs), .int 0] := by unfold playR; rw [if_pos hok]
  rw [hR]
  have m6 : r.numbers.length ≤ 6 := hr.m6
  generalize hP : playF r r.numbers takes recs = P
  refine Aw.sm tab_ok (fun d => Nat.beq d 5) [] rfl rfl ?zo ?zk
  case zo =>
    repeat' apply AllP.cons
    all_goals first | exact trivial
  case zk =>
  refine Aw.sm tab_ok (fun d => Nat.beq d 5) [(0, [.agg r.c]), (1, [arr r.numbers])] rfl rfl ?zo ?zk
  case zo =>
    repeat' apply AllP.cons
    all_goals first | exact trivial | exact rfl | exact Nat.le_of_ble_eq_true rfl | exact first_t r hr | exact (show ((padL r.numbers).map A.int).length = 6 from arr_len m6)
  case zk =>
  refine Aw.sm tab_ok (fun d => Nat.beq d 5) [] rfl rfl ?zo ?zk
  case zo =>
    repeat' apply AllP.cons
    all_goals first | exact trivial
  case zk =>
  refine Aw.seq ?_
  refine Aw.sm tab_ok (fun d => Nat.beq d 5) [] rfl rfl ?zo ?zk
  case zo =>
    repeat' apply AllP.cons
    all_goals first | exact trivial
  case zk =>
  have uc : UnderL 2 [(1, .sl p .any (ints takes)), (2, A.sl q .any (ints recs)), (8, .ref 0 0), (11, .fn (.func 23) [] []), (12, .ref 1 0), (59, .int takes.length)] := ⟨ut, uq, .ref _ _ (by decide), .fn _ _ _ (fun _ h => nomatch h) (fun _ h => nomatch h), .ref _ _ (by decide), .s _, trivial⟩
  refine Aw.block (Aw.rounds (ι := Nat × List Int × List Int) 2 hE2 [(1, .sl p .any (ints takes)), (2, .sl q .any (ints recs)), (8, .ref 0 0), (11, .fn (.func 23) [] []), (12, .ref 1 0), (59, .int takes.length)] (fun i => [(13, grL 3 i.2.2), (60, .int i.1)])
    (fun i => [(0, .cells r.c), (1, .cells ((padL i.2.1).map A.int))]) (fun i => i.1 ≤ takes.length ∧ i.2.2.length = i.1 ∧ Pop r (600000 + 100000 * i.1) i.2.1 ∧ i.2.2 ++ playF r i.2.1 (takes.drop i.1) (recs.drop i.1) = P) (fun i => takes.length - i.1) (0, r.numbers, [])
    ⟨Nat.zero_le _, rfl, by simpa using first_pop hr, hP⟩ ⟨⟨.refl _, .refl _, .refl _, .refl _, .refl _, .of_eq (congrArg A.int lt.symm), trivial⟩, ⟨.refl _, .refl _, trivial⟩, ⟨rfl, congrArg (fun x => some (B.cells x)) (arr_st0 m6), trivial⟩, Nat.le_of_ble_eq_true rfl⟩
    uc (fun i _ => ⟨grL_under _, .s _, trivial⟩) (fun i _ => ⟨⟨by decide, ur⟩, ⟨by decide, cells_under _⟩, trivial⟩) ?_)
  rintro ⟨k, n, acc⟩ ⟨hk, hal, hpop, hrun⟩
  simp only at hk hal hpop hrun
  refine Aw.sm tab_ok (fun d => Nat.beq d 5) [] rfl rfl ?zo ?zk
  case zo =>
    repeat' apply AllP.cons
    all_goals first | exact trivial
  case zk =>
  refine Aw.seq (Aw.cond rfl (fun h1 => Aw.skip1 ?_) (fun h1 => Aw.exit2 ?_))
  · have hlt : k < takes.length := by have := of_decide_eq_true h1; omega
    have hyk := hy k hlt
    have t1 : takes.drop k = takes.getD k 0 :: takes.drop (k + 1) := by rw [List.drop_eq_getElem_cons hlt]; simp [List.getD_eq_getElem?_getD, hlt]
    have t2 : recs.drop k = recs.getD k 0 :: recs.drop (k + 1) := by rw [List.drop_eq_getElem_cons (by omega)]; simp [List.getD_eq_getElem?_getD, show k < recs.length by omega]
    rw [t1, t2, playF] at hrun
    have hcall := year_t r hr n (600000 + 100000 * k) (takes.getD k 0) (recs.getD k 0) hpop (by omega) ⟨hyk.1.1, by omega⟩ hyk.2
    have hpop2 := yearF_pop hr hpop hyk.1.1 hyk.2.1 (x := recs.getD k 0) (t := takes.getD k 0)
    generalize hY : yearF r n (takes.getD k 0) (recs.getD k 0) = Y at *
    have n6 : n.length ≤ 6 := by rw [hpop.len]; exact hr.m6
    have y6 : Y.2.length ≤ 6 := by rw [hpop2.len]; exact hr.m6
    refine Aw.seq (Aw.block ?_)
    refine Aw.sm tab_ok (fun d => Nat.beq d 5) [] rfl rfl ?zo ?zk
    case zo =>
      repeat' apply AllP.cons
      all_goals first | exact trivial
    case zk =>
    refine Aw.sd tab_ok mixed (fun d => Nat.beq d 5) [(1, [.agg r.c]), (2, [arr n]), (5, [.int (takes.getD k 0)]), (9, [.int (recs.getD k 0)]), (11, [.tup [.int Y.1, arr Y.2]])] rfl (by kernel_rfl) rfl rfl ?zo ?zk
    case zo =>
      repeat' apply AllP.cons
      all_goals first | exact trivial | exact rfl | exact Nat.le_of_ble_eq_true rfl | exact Int.natCast_nonneg _ | exact arr_ld n6 | exact (show 0 + 6 ≤ ((padL n).map A.int).length by rw [arr_len n6]; omega) | exact ints_getD hlt | exact ints_getD (by omega) | exact hcall | exact arr_len y6
    case zk =>
    have hst0 := arr_st0 y6
    have hst1 := arr_st y6 n6
    refine Aw.keep (n := 18) (cst := [(1, .sl p .any (ints takes)), (2, A.sl q .any (ints recs)), (8, .ref 0 0), (11, .fn (.func 23) [] []), (12, .ref 1 0), (59, .int takes.length), (60, .int k), (15, .int Y.1)]) (v := [(13, grL 3 acc), (16, .ref 17 0)]) (Hl := [(0, .cells r.c), (1, .cells ((padL n).map A.int)), (17, .cells ((padL Y.2).map A.int))]) (fun id h => hE id (by omega))
      ⟨ut, uq, .ref _ _ (by decide), .fn _ _ _ (fun _ h => nomatch h) (fun _ h => nomatch h), .ref _ _ (by decide), .s _, .s _, .s _, trivial⟩ ⟨grL_under _, .ref _ _ (by decide), trivial⟩ ⟨⟨by decide, ur⟩, ⟨by decide, cells_under _⟩, ⟨by decide, cells_under _⟩, trivial⟩
      ⟨⟨.refl _, .refl _, .refl _, .refl _, .refl _, .refl _, .refl _, .refl _, trivial⟩, ⟨.refl _, .refl _, trivial⟩, ⟨rfl, rfl, congrArg (fun x => some (B.cells x)) hst0, trivial⟩, Nat.le_of_ble_eq_true rfl⟩ ?_
    have hz := ints_one acc
    have hal2 : (ints acc).length = k := by rw [ints_len]; exact hal
    have hnext : (acc ++ [Y.1]) ++ playF r Y.2 (takes.drop (k + 1)) (recs.drop (k + 1)) = P := by rw [List.append_assoc]; exact hrun
    have hpop3 : Pop r (600000 + 100000 * ((k + 1 : Nat) : Int)) Y.2 := ⟨hpop2.len, hpop2.pos, by have := hpop2.sum; omega⟩
    have hlast : (acc ++ [Y.1]).length = k + 1 := by simp [hal]
    cases acc with
    | nil =>
      refine Aw.ed tab_ok mixed (fun d => Nat.beq d 5) [(4, [arr Y.2])] rfl (by kernel_rfl) rfl rfl ?zo ?zk
      case zo =>
        repeat' apply AllP.cons
        all_goals first | exact trivial | exact Nat.le_of_ble_eq_true rfl | exact arr_ld y6 | exact (show 0 + 6 ≤ ((padL Y.2).map A.int).length by rw [arr_len y6]; omega) | exact arr_len y6 | exact (show 0 + 6 ≤ ((padL n).map A.int).length by rw [arr_len n6]; omega) | exact (show ∀ z ∈ [] ++ [[A.int _]], z.length = 1 from fun z hz => by simp at hz; subst hz; rfl)
      case zk =>
      refine Aw.em tab_ok (fun d => Nat.beq d 5) [] rfl rfl ?zo ?zk
      case zo =>
        repeat' apply AllP.cons
        all_goals first | exact trivial | exact inrk k (by omega)
      case zk =>
      exact ⟨(k + 1, Y.2, [] ++ [Y.1]), ⟨hlt, hlast, hpop3, hnext⟩, by show takes.length - (k + 1) < takes.length - k; omega, ⟨.refl _, .refl _, .refl _, .refl _, .refl _, .refl _, trivial⟩, ⟨.refl _, .refl _, trivial⟩, ⟨rfl, congrArg (fun x => some (B.cells x)) hst1, trivial⟩, Nat.le_of_ble_eq_true rfl⟩
    | cons y ys =>
      refine Aw.ed tab_ok mixed (fun d => Nat.beq d 5) [(4, [arr Y.2])] rfl (by kernel_rfl) rfl rfl ?zo ?zk
      case zo =>
        repeat' apply AllP.cons
        all_goals first | exact trivial | exact Nat.le_of_ble_eq_true rfl | exact arr_ld y6 | exact (show 0 + 6 ≤ ((padL Y.2).map A.int).length by rw [arr_len y6]; omega) | exact arr_len y6 | exact (show 0 + 6 ≤ ((padL n).map A.int).length by rw [arr_len n6]; omega) | exact (show ∀ z ∈ [[A.int _]], z.length = 1 from fun z hz => by simp at hz; subst hz; rfl) | exact hz | exact (show ((ints (y :: ys)).length + 1) * 8 ≤ 140737488355328 by omega) | exact (show (ints (y :: ys)).length + 1 ≤ maxLen by unfold maxLen; omega)
      case zk =>
      refine Aw.em tab_ok (fun d => Nat.beq d 5) [] rfl rfl ?zo ?zk
      case zo =>
        repeat' apply AllP.cons
        all_goals first | exact trivial | exact inrk k (by omega)
      case zk =>
      exact ⟨(k + 1, Y.2, (y :: ys) ++ [Y.1]), ⟨hlt, hlast, hpop3, hnext⟩, by show takes.length - (k + 1) < takes.length - k; omega, ⟨.refl _, .refl _, .refl _, .refl _, .refl _, .refl _, trivial⟩, ⟨.of_eq (show grL 3 ((y :: ys) ++ [Y.1]) = A.sl false (.own 3) (ints (y :: ys) ++ [[A.int Y.1]]) by simp [grL, ints]), .refl _, trivial⟩, ⟨rfl, congrArg (fun x => some (B.cells x)) hst1, trivial⟩, Nat.le_of_ble_eq_true rfl⟩
  · have hle : k = takes.length := by have := of_decide_eq_false h1; omega
    subst hle
    have hP2 : acc = P := by rw [List.drop_length, show ∀ (n xs : List Int), playF r n [] xs = [] from fun _ xs => by cases xs <;> rfl, List.append_nil] at hrun; exact hrun
    subst hP2
    refine Aw.keep (n := 2) (cst := [(13, grL 3 acc)]) (v := []) (Hl := []) hE2 ⟨grL_under _, trivial⟩ trivial trivial ⟨⟨.refl _, trivial⟩, trivial, trivial, Nat.le_refl _⟩ ?_
    cases acc with
    | nil => simp at hal; omega
    | cons y ys =>
      have hz : ((ints (y :: ys)).length : Int).toNat = (ints (y :: ys)).length := Int.toNat_natCast _
      refine Aw.sm tab_ok (fun d => Nat.beq d 5) [] rfl rfl ?zo ?zk
      case zo =>
        repeat' apply AllP.cons
        all_goals first | exact trivial | exact rfl | exact Int.natCast_nonneg _ | exact Int.le_refl _
      case zk =>
      exact Aw.ret ⟨_, .cons (.tmp _) (.cons (.tmp _) .nil), by
        show A.tup [A.sl false .exact ((ints (y :: ys)).take ((ints (y :: ys)).length : Int).toNat), A.int 0] = _
        rw [hz, List.take_length]; rfl⟩
end Go.Proofs.Ytlgnoifnfnpjeaa

namespace Go.Proofs.Ytlgnoifnfnpjeaa
open Go Go.AL Go.AL.Q
theorem check_t (f : Fish) (hf : f.Fit) : Ans Try.prog 5 [.agg f.c] (.int f.err) := by
  have h1 := hf.r
  have h2 := hf.m
  have h3 := hf.s
  have lr : ((f.races.map Rce.c).length : Int) = f.many := by simp [Fish.many]
  have lm := ints_lenI f.most
  have ls : ((f.seasons.map NR.c).length : Int) = f.seasons.length := by simp
  have ufc : Under 0 (A.pt f.c) := (Free.pt _ f.free).under
  have usl : Under 0 (A.sl f.sn .any (f.seasons.map NR.c)) := (free_map NR.free _ _ _).under
  refine told Try.func5 rfl rfl (Pure.of tab_ok Try.func5 rfl Try.ntmps5 rfl (all1 (.agg _ f.free)) (all1 (fun _ => rfl)) (by first | exact .s _ | assumption | exact .tup _ (by intro x hx; simp only [List.mem_cons, List.not_mem_nil, or_false] at hx; rcases hx with rfl | rfl | rfl | rfl <;> first | exact .s _ | (simp_all; done))) fun E hE => ?_)
  refine Aw.sm tab_ok mb0 [] rfl rfl ?zo ?zk
  case zo =>
    repeat' apply AllP.cons
    all_goals first | exact trivial
  case zk =>
  refine Aw.sm tab_ok mb0 [] rfl rfl ?zo ?zk
  case zo =>
    repeat' apply AllP.cons
    all_goals first | exact trivial | exact Nat.le_of_ble_eq_true rfl
  case zk =>
  refine Aw.keep (n := 0) (cst := [(1, .pt f.c), (3, .int f.many)]) (v := []) (Hl := []) hE ⟨ufc, .s _, trivial⟩ trivial trivial ⟨⟨.refl _, .of_eq (congrArg A.int lr.symm), trivial⟩, trivial, trivial, Nat.zero_le _⟩ ?_
  refine Aw.sm tab_ok mb0 [(1, [.bool (wi f.many 1 3)]), (13, [.bool (wi (f.seasons.map NR.c).length 1 6)])] rfl rfl ?zo ?zk
  case zo =>
    repeat' apply AllP.cons
    all_goals first | exact trivial | exact id | exact fun _ => rfl | exact fun _ => Nat.le_of_ble_eq_true rfl | exact within_t _ _ _ | exact (within_t _ _ _).un
  case zk =>
  have hd : A.bool f.head = A.bool (cond (cond (wi f.many 1 3) (((ints f.most).length : Int) == f.many) false) (wi (f.seasons.map NR.c).length 1 6) false) := by rw [lm, ls]; rfl
  have lra : (List.range f.many).length = f.many := List.length_range
  refine Aw.seq ?_
  refine Aw.sm tab_ok mb0 [] rfl rfl ?zo ?zk
  case zo =>
    repeat' apply AllP.cons
    all_goals first | exact trivial
  case zk =>
  refine Aw.block (Aw.rounds 0 hE [(1, .pt f.c), (3, .int f.many)] (fun k : Nat => [(4, .bool (andAll f.head f.raceOk (List.range f.many) k)), (5, .int k)]) (fun _ => []) (fun k => k ≤ f.many) (fun k => f.many - k) 0
    (Nat.zero_le _) ⟨⟨.refl _, .refl _, trivial⟩, ⟨.of_eq (by rw [andAll_zero]; exact hd), .refl _, trivial⟩, trivial, Nat.le_refl _⟩ ⟨ufc, .s _, trivial⟩ (fun _ _ => ⟨.s _, .s _, trivial⟩) (fun _ _ => trivial) fun k hk => ?_)
  refine Aw.seq ?_
  refine Aw.sm tab_ok mb0 [] rfl rfl ?zo ?zk
  case zo =>
    repeat' apply AllP.cons
    all_goals first | exact trivial | exact id | exact fun _ => rfl
  case zk =>
  refine Aw.cond rfl (fun h1 => Aw.skip ?_) (fun h1 => ?_)
  · have h1 : cond (andAll f.head f.raceOk (List.range f.many) k) (decide ((k : Int) < f.many)) false = true := h1
    have hb := ac1 h1
    have hlt : k < f.many := by have := of_decide_eq_true (ac2 h1); omega
    have hh : f.head = true := by unfold andAll at hb; exact ac1 hb
    have hm1 : f.most.length = f.many := by unfold Fish.head at hh; have := eq_of_beq (ac2 (ac1 hh)); omega
    have hri : f.race k = f.races[k] := by unfold Fish.race; rw [List.getD_eq_getElem?_getD, List.getElem?_eq_getElem hlt]; rfl
    have hg : (f.races.map Rce.c)[k]? = some (f.race k).c := by rw [get_map hlt, hri]
    have hfit : (f.race k).Fit := by rw [hri]; exact hf.race _ (List.getElem_mem hlt)
    refine Aw.seq (Aw.block ?_)
    refine Aw.em tab_ok mb0 [(3, (f.race k).c), (6, [.bool (f.race k).ok]), (11, [.int (f.most.getD k 0)]), (13, [.bool (wi (f.most.getD k 0) 0 100)])] rfl rfl ?zo ?zk
    case zo =>
      repeat' apply AllP.cons
      all_goals first | exact trivial | exact id | exact rfl | exact fun _ => rfl | exact Nat.le_of_ble_eq_true rfl | exact fun _ => Nat.le_of_ble_eq_true rfl | exact Int.natCast_nonneg _ | exact fun _ => Int.natCast_nonneg _ | exact (within_t _ _ _).un | exact hg | exact isRace_t _ hfit | exact fun _ => ints_getD (by omega)
    case zk =>
    refine Aw.em tab_ok mb0 [] rfl rfl ?zo ?zk
    case zo =>
      repeat' apply AllP.cons
      all_goals first | exact trivial | exact inrk k (by omega)
    case zk =>
    have e : andAll f.head f.raceOk (List.range f.many) (k + 1) = f.raceOk k := by
      rw [andAll_succ (by rw [lra]; exact hlt) hb, List.getElem_range]
    exact ⟨k + 1, hlt, by omega, ⟨.refl _, .refl _, trivial⟩, ⟨.of_eq (congrArg A.bool e), .refl _, trivial⟩, trivial, Nat.zero_le _⟩
  have h1 : cond (andAll f.head f.raceOk (List.range f.many) k) (decide ((k : Int) < f.many)) false = false := h1
  have hend : andAll f.head f.raceOk (List.range f.many) k = f.b1 := (andAll_end (by
    cases e : andAll f.head f.raceOk (List.range f.many) k with
    | false => exact .inl rfl
    | true => rw [e] at h1; have := of_decide_eq_false h1; exact .inr (by rw [lra]; omega)) (by rw [lra]; exact hk)).trans rfl
  rw [hend]
  refine Aw.exit2 ?_
  have hb1 : f.b1 = true → 1 ≤ f.many := fun h => by
    unfold Fish.b1 at h
    have hh := ac1 h
    unfold Fish.head at hh
    have a1 := wi_iff.1 (ac1 (ac1 hh)); omega
  have hchk := check_eq f
  generalize f.b1 = B1 at *
  clear hd hend h1
  refine Aw.keep (n := 0) (cst := [(1, .pt f.c), (3, .int f.many)]) (v := [(4, .bool B1)]) (Hl := []) hE ⟨ufc, .s _, trivial⟩ ⟨.s _, trivial⟩ trivial ⟨⟨.refl _, .refl _, trivial⟩, ⟨.refl _, trivial⟩, trivial, Nat.zero_le _⟩ ?_
  refine Aw.seq ?_
  refine Aw.sm tab_ok mb0 [] rfl rfl ?zo ?zk
  case zo =>
    repeat' apply AllP.cons
    all_goals first | exact trivial | exact Nat.le_of_ble_eq_true rfl
  case zk =>
  refine Aw.block (Aw.rounds 0 hE [(1, .pt f.c), (3, .int f.many), (54, .sl f.sn .any (f.seasons.map NR.c)), (55, .int (f.seasons.map NR.c).length)] (fun k : Nat => [(4, .bool (andAll B1 (seasonOk' f.many f.years) f.seasons k)), (56, .int k)]) (fun _ => []) (fun k => k ≤ f.seasons.length) (fun k => f.seasons.length - k) 0
    (Nat.zero_le _) ⟨⟨.refl _, .refl _, .refl _, .refl _, trivial⟩, ⟨.of_eq (by rw [andAll_zero]; rfl), .refl _, trivial⟩, trivial, Nat.zero_le _⟩ ⟨ufc, .s _, usl, .s _, trivial⟩ (fun _ _ => ⟨.s _, .s _, trivial⟩) (fun _ _ => trivial) fun k hk => ?_)
  refine Aw.sm tab_ok mb0 [] rfl rfl ?zo ?zk
  case zo =>
    repeat' apply AllP.cons
    all_goals first | exact trivial
  case zk =>
  refine Aw.seq (Aw.cond rfl (fun h1 => Aw.skip1 ?_) (fun h1 => Aw.exit2 ?_))
  · have hlt : k < f.seasons.length := by have := of_decide_eq_true h1; omega
    have hstep := andAll_step (b := B1) (p := seasonOk' f.many f.years) hlt
    have hgk : (f.seasons.map NR.c)[k]? = some f.seasons[k].c := get_map hlt
    have h0s : 0 < f.seasons.length := by omega
    have hg0 : (f.seasons.map NR.c)[Int.toNat 0]? = some f.seasons[0].c := get_map h0s
    have hfs := hf.sea f.seasons[k] (List.getElem_mem hlt)
    have hfirst : andAll B1 (seasonOk' f.many f.years) f.seasons k = true → ((f.seasons[k].l.length : Int) == f.many) = true → f.seasons[0].l.length = f.many ∧ 1 ≤ f.many := fun ha hb => by
      have hB : B1 = true := by unfold andAll at ha; exact ac1 ha
      refine ⟨?_, hb1 hB⟩
      by_cases hk0 : k = 0
      · subst hk0; have := eq_of_beq hb; omega
      · unfold andAll at ha
        have := List.all_eq_true.1 (ac2 ha) f.seasons[0] (by rw [List.mem_take_iff_getElem]; exact ⟨0, by omega, rfl⟩)
        have := eq_of_beq (ac1 this); omega
    have hyears : 1 ≤ f.seasons[0].l.length → ∃ l0, (f.seasons[0].l.map NL.c)[Int.toNat 0]? = some (NL.c l0) ∧ l0.l.length = f.years := fun h => by
      refine ⟨f.seasons[0].l[0], get_map h, ?_⟩
      unfold Fish.years Fish.recs
      have e0 : f.seasons.getD 0 ⟨false, []⟩ = f.seasons[0] := by simp [List.getD_eq_getElem?_getD, h0s]
      rw [e0, List.getD_eq_getElem?_getD, List.getElem?_eq_getElem h]; rfl
    generalize f.seasons[k] = s at *
    generalize f.seasons[0] = s0 at *
    generalize andAll B1 (seasonOk' f.many f.years) f.seasons k = Bk at *
    have lsl : ((s.l.map NL.c).length : Int) = s.l.length := by simp
    have us2 : Under 0 (A.sl s.n .any (s.l.map NL.c)) := (free_map NL.free _ _ _).under
    refine Aw.seq (Aw.block ?_)
    refine Aw.sm tab_ok mb0 [(0, s.c)] rfl rfl ?zo ?zk
    case zo =>
      repeat' apply AllP.cons
      all_goals first | exact trivial | exact rfl | exact Nat.le_of_ble_eq_true rfl | exact Int.natCast_nonneg _ | exact hgk
    case zk =>
    refine Aw.sm tab_ok mb0 [] rfl rfl ?zo ?zk
    case zo =>
      repeat' apply AllP.cons
      all_goals first | exact trivial | exact id | exact fun _ => rfl
    case zk =>
    refine Aw.sm tab_ok mb0 [] rfl rfl ?zo ?zk
    case zo =>
      repeat' apply AllP.cons
      all_goals first | exact trivial
    case zk =>
    have hw : A.bool (cond Bk ((s.l.length : Int) == f.many) false) = A.bool (cond Bk (((s.l.map NL.c).length : Int) == f.many) false) := by rw [lsl]
    refine Aw.block (Aw.rounds 0 hE [(1, .pt f.c), (3, .int f.many), (54, .sl f.sn .any (f.seasons.map NR.c)), (55, .int (f.seasons.map NR.c).length), (56, .int k), (67, .sl s.n .any (s.l.map NL.c)), (68, .int (s.l.map NL.c).length)] (fun j : Nat => [(4, .bool (andAll (cond Bk ((s.l.length : Int) == f.many) false) (recOk' f.years) s.l j)), (69, .int j)]) (fun _ => []) (fun j => j ≤ s.l.length) (fun j => s.l.length - j) 0
      (Nat.zero_le _) ⟨⟨.refl _, .refl _, .refl _, .refl _, .refl _, .refl _, .refl _, trivial⟩, ⟨.of_eq (by rw [andAll_zero]; exact hw), .refl _, trivial⟩, trivial, Nat.zero_le _⟩ ⟨ufc, .s _, usl, .s _, .s _, us2, .s _, trivial⟩ (fun _ _ => ⟨.s _, .s _, trivial⟩) (fun _ _ => trivial) fun j hj => ?_)
    refine Aw.sm tab_ok mb0 [] rfl rfl ?zo ?zk
    case zo =>
      repeat' apply AllP.cons
      all_goals first | exact trivial
    case zk =>
    refine Aw.seq (Aw.cond rfl (fun h2 => Aw.skip1 ?_) (fun h2 => Aw.exit2 ?_))
    · have hjl : j < s.l.length := by have := of_decide_eq_true h2; omega
      have hstep2 := andAll_step (b := cond Bk ((s.l.length : Int) == f.many) false) (p := recOk' f.years) hjl
      have hgj : (s.l.map NL.c)[j]? = some s.l[j].c := get_map hjl
      have hfl : nlFit s.l[j] := hfs.2 _ (List.getElem_mem hjl)
      generalize s.l[j] = l at *
      have hbj' : andAll (cond Bk ((s.l.length : Int) == f.many) false) (recOk' f.years) s.l j = true → ∃ l0, (s0.l.map NL.c)[Int.toNat 0]? = some (NL.c l0) ∧ l0.l.length = f.years := fun h => by
        unfold andAll at h
        have := hfirst (ac1 (ac1 h)) (ac2 (ac1 h))
        exact hyears (by omega)
      generalize andAll (cond Bk ((s.l.length : Int) == f.many) false) (recOk' f.years) s.l j = Bj at *
      have lll := ints_lenI l.l
      have ul : Under 0 (A.sl l.n .any (ints l.l)) := (free_ints _ _ _).under
      refine Aw.seq (Aw.block ?_)
      refine Aw.sm tab_ok mb0 [(0, l.c)] rfl rfl ?zo ?zk
      case zo =>
        repeat' apply AllP.cons
        all_goals first | exact trivial | exact rfl | exact Nat.le_of_ble_eq_true rfl | exact Int.natCast_nonneg _ | exact hgj
      case zk =>
      obtain ⟨l0, hl0a, hl0b⟩ : ∃ l0 : NL, (Bj = true → (s0.l.map NL.c)[Int.toNat 0]? = some (NL.c l0)) ∧ (Bj = true → l0.l.length = f.years) := by
        cases Bj with
        | false => exact ⟨⟨false, []⟩, fun h => (by cases h), fun h => (by cases h)⟩
        | true => obtain ⟨l0, a, b⟩ := hbj' rfl; exact ⟨l0, fun _ => a, fun _ => b⟩
      refine Aw.sm tab_ok mb0 [(4, [.bool (wi (ints l.l).length 1 10)]), (11, s0.c), (13, l0.c)] rfl rfl ?zo ?zk
      case zo =>
        repeat' apply AllP.cons
        all_goals first | exact trivial | exact id | exact fun _ => rfl | exact fun _ => Nat.le_of_ble_eq_true rfl | exact fun _ => Int.natCast_nonneg _ | exact (within_t _ _ _).un | exact fun h => hl0a (ac1 (gq_of h)) | exact fun _ => hg0
      case zk =>
      have hv : cond (cond Bj (wi l.l.length 1 10) false) ((l.l.length : Int) == f.years) false = cond (cond Bj (wi (ints l.l).length 1 10) false) (((ints l.l).length : Int) == ((ints l0.l).length : Int)) false := by
        rw [lll, ints_lenI l0.l]
        cases Bj with
        | false => rfl
        | true => rw [hl0b rfl]
      refine Aw.sm tab_ok mb0 [] rfl rfl ?zo ?zk
      case zo =>
        repeat' apply AllP.cons
        all_goals first | exact trivial
      case zk =>
      refine Aw.block (Aw.rounds 0 hE [(1, .pt f.c), (3, .int f.many), (54, .sl f.sn .any (f.seasons.map NR.c)), (55, .int (f.seasons.map NR.c).length), (56, .int k), (67, .sl s.n .any (s.l.map NL.c)), (68, .int (s.l.map NL.c).length), (69, .int j), (91, .sl l.n .any (ints l.l)), (92, .int (ints l.l).length)] (fun i : Nat => [(4, .bool (andAll (cond (cond Bj (wi l.l.length 1 10) false) ((l.l.length : Int) == f.years) false) (fun n => wi n 0 100000) l.l i)), (93, .int i)]) (fun _ => []) (fun i => i ≤ l.l.length) (fun i => l.l.length - i) 0
        (Nat.zero_le _) ⟨⟨.refl _, .refl _, .refl _, .refl _, .refl _, .refl _, .refl _, .refl _, .refl _, .refl _, trivial⟩, ⟨.of_eq (by rw [andAll_zero]; exact congrArg A.bool hv), .refl _, trivial⟩, trivial, Nat.zero_le _⟩ ⟨ufc, .s _, usl, .s _, .s _, us2, .s _, .s _, ul, .s _, trivial⟩ (fun _ _ => ⟨.s _, .s _, trivial⟩) (fun _ _ => trivial) fun i hi => ?_)
      refine Aw.sm tab_ok mb0 [] rfl rfl ?zo ?zk
      case zo =>
        repeat' apply AllP.cons
        all_goals first | exact trivial
      case zk =>
      refine Aw.seq (Aw.cond rfl (fun h3 => Aw.skip1 ?_) (fun h3 => Aw.exit2 ?_))
      · have hil : i < l.l.length := by have := of_decide_eq_true h3; omega
        have hstep3 := andAll_step (b := cond (cond Bj (wi l.l.length 1 10) false) ((l.l.length : Int) == f.years) false) (p := fun n => wi n 0 100000) hil
        refine Aw.seq (Aw.block ?_)
        refine Aw.sm tab_ok mb0 [(0, [.int l.l[i]])] rfl rfl ?zo ?zk
        case zo =>
          repeat' apply AllP.cons
          all_goals first | exact trivial | exact rfl | exact Nat.le_of_ble_eq_true rfl | exact Int.natCast_nonneg _ | exact ints_get hil
        case zk =>
        refine Aw.em tab_ok mb0 [(3, [.bool (wi l.l[i] 0 100000)])] rfl rfl ?zo ?zk
        case zo =>
          repeat' apply AllP.cons
          all_goals first | exact trivial | exact id | exact fun _ => rfl | exact (within_t _ _ _).un
        case zk =>
        have hfl2 : (l.l.length : Int) ≤ 9223372036854775806 := hfl
        refine Aw.em tab_ok mb0 [] rfl rfl ?zo ?zk
        case zo =>
          repeat' apply AllP.cons
          all_goals first | exact trivial | exact inrk i (by omega)
        case zk =>
        exact ⟨i + 1, hil, by omega, ⟨.refl _, .refl _, .refl _, .refl _, .refl _, .refl _, .refl _, .refl _, .refl _, .refl _, trivial⟩, ⟨.of_eq (congrArg A.bool hstep3), .refl _, trivial⟩, trivial, Nat.zero_le _⟩
      have hle : i = l.l.length := by have := of_decide_eq_false h3; omega
      subst hle
      have hjl2 := hfs.1
      refine Aw.em tab_ok mb0 [] rfl rfl ?zo ?zk
      case zo =>
        repeat' apply AllP.cons
        all_goals first | exact trivial | exact inrk j (by omega)
      case zk =>
      exact ⟨j + 1, hjl, by omega, ⟨.refl _, .refl _, .refl _, .refl _, .refl _, .refl _, .refl _, trivial⟩, ⟨.of_eq (congrArg A.bool (by rw [hstep2, andAll_full]; unfold recOk'; rw [← cond_assoc, ← cond_assoc])), .refl _, trivial⟩, trivial, Nat.zero_le _⟩
    have hle : j = s.l.length := by have := of_decide_eq_false h2; omega
    subst hle
    refine Aw.em tab_ok mb0 [] rfl rfl ?zo ?zk
    case zo =>
      repeat' apply AllP.cons
      all_goals first | exact trivial | exact inrk k (by omega)
    case zk =>
    exact ⟨k + 1, hlt, by omega, ⟨.refl _, .refl _, .refl _, .refl _, trivial⟩, ⟨.of_eq (congrArg A.bool (by rw [hstep, andAll_full]; unfold seasonOk'; rw [← cond_assoc])), .refl _, trivial⟩, trivial, Nat.zero_le _⟩
  have hle : k = f.seasons.length := by have := of_decide_eq_false h1; omega
  subst hle
  rw [andAll_full, hchk]
  refine Aw.seq ?_
  refine Aw.sm tab_ok mb0 [] rfl rfl ?zo ?zk
  case zo =>
    repeat' apply AllP.cons
    all_goals first | exact trivial
  case zk =>
  refine Aw.cond rfl (fun h1 => ?_) (fun h1 => Aw.skip ?_)
  · have hno : f.ok = false := by simpa using h1
    refine Aw.sm tab_ok mb0 [] rfl rfl ?zo ?zk
    case zo =>
      repeat' apply AllP.cons
      all_goals first | exact trivial
    case zk =>
    exact Aw.ret ⟨_, .cons (.tmp _) .nil, by unfold Fish.err; rw [hno]; rfl⟩
  · have hok : f.ok = true := by simpa using h1
    refine Aw.sm tab_ok mb0 [] rfl rfl ?zo ?zk
    case zo =>
      repeat' apply AllP.cons
      all_goals first | exact trivial
    case zk =>
    exact Aw.ret ⟨_, .cons (.tmp _) .nil, by unfold Fish.err; rw [hok]; rfl⟩
end Go.Proofs.Ytlgnoifnfnpjeaa

namespace Go.Proofs.Ytlgnoifnfnpjeaa
open Go Go.AL Go.AL.Q
set_option maxRecDepth 100000 in
theorem eq3 (a b : Int) : pureRun Try.prog (Op.equalIn 9999 3 (.int .i64 a) (.int .i64 b)) = some (a == b) := by rfl
def ia (l : List Int) : Value := .agg (l.map (Value.int .i64)).toArray
set_option maxRecDepth 100000 in
theorem eqA (t : Nat) (h1 : pureRun Try.prog (underlying t) = some (.array 6 3)) (l m : List Int) (hl : l.length = 6) (hm : m.length = 6) : pureRun Try.prog (Op.equal t (ia l) (ia m)) = some (l == m) := by
  have h4 : pureRun Try.prog (sizeOf 3) = some 1 := rfl
  have h5 : pureRun Try.prog (isAgg 3) = some false := rfl
  have pp : ∀ {α : Type} (x : α), pureRun Try.prog (pure x) = some x := fun x => rfl
  have pt : ∀ (xs : Array Value) (i : Nat) (x : Value), xs[i]? = some x → pureRun Try.prog (part 3 xs i) = some x := fun xs i x h => by
    simp [part, pureRun_bind, h5, h, pp]
  rw [Op.equal, Op.maxDepth, show (10000 : Nat) = 9999 + 1 from rfl, Op.equalIn, pureRun_bind, h1]
  match l, m, hl, hm with
  | [a0, a1, a2, a3, a4, a5], [b0, b1, b2, b3, b4, b5], _, _ =>
  simp only [Option.bind_some, ia, pureRun_bind, h4, List.map]
  simp only [Std.Legacy.Range.forIn_eq_forIn_range', Std.Legacy.Range.size]
  have pts : ∀ (c0 c1 c2 c3 c4 c5 : Int) (i : Nat) (x : Value), [Value.int .i64 c0, Value.int .i64 c1, .int .i64 c2, .int .i64 c3, .int .i64 c4, .int .i64 c5][i]? = some x →
    pureRun Try.prog (part 3 (List.toArray [Value.int .i64 c0, Value.int .i64 c1, .int .i64 c2, .int .i64 c3, .int .i64 c4, .int .i64 c5]) i) = some x := fun c0 c1 c2 c3 c4 c5 i x h => pt _ _ _ (by simpa using h)
  have r8 : List.range' 0 ((6 - 0 + 1 - 1) / 1) = [0, 1, 2, 3, 4, 5] := rfl
  rw [r8]
  by_cases e0 : a0 = b0
  · subst e0
    by_cases e1 : a1 = b1
    · subst e1
      by_cases e2 : a2 = b2
      · subst e2
        by_cases e3 : a3 = b3
        · subst e3
          by_cases e4 : a4 = b4
          · subst e4
            by_cases e5 : a5 = b5
            · subst e5
              simp [pureRun_bind, pts, eq3, pp]
            · simp [pureRun_bind, pts, eq3, pp, e5]
          · simp [pureRun_bind, pts, eq3, pp, e4]
        · simp [pureRun_bind, pts, eq3, pp, e3]
      · simp [pureRun_bind, pts, eq3, pp, e2]
    · simp [pureRun_bind, pts, eq3, pp, e1]
  · simp [pureRun_bind, pts, eq3, pp, e0]
theorem conc_ints : ∀ l : List Int, concA (.agg (l.map A.int)) = some (ia l) := by
  have h : ∀ l : List Int, concCells (l.map A.int) = some (l.map (Value.int .i64)) := fun l => by
    induction l with
    | nil => rfl
    | cons a l ih => simp only [List.map_cons, concCells, concA, ih]
  intro l
  simp only [concA, h]; rfl
set_option maxRecDepth 100000 in
theorem und65 : pureRun Try.prog (underlying 65) = some (.array 6 3) := by
  have h : pureRun Try.prog (underlying 65) = Try.prog.underlying 65 := rfl
  rw [h, Try.underlying65]
theorem eg65 : Try.prog.eqGuardType Try.prog.depth 65 = false := by kernel_rfl
set_option maxRecDepth 100000 in
theorem eqArr (x y : Operand) {l m : List Int} (hl : l.length = 6) (hm : m.length = 6) : EqIs tab .eql 65 x y (.agg (l.map A.int)) (.agg (m.map A.int)) (l == m) := by
  refine ⟨_, _, conc_ints l, conc_ints m, (congrFun (congrFun (congrFun (congrFun (congrFun (congrFun (show tab.eqv = pureEq Try.prog from rfl) _) _) _) _) _) _).trans ?_⟩
  show pureEq Try.prog .eql 65 x y (ia l) (ia m) = _
  have h2 := eqA 65 und65 l m hl hm
  have hp : pureRun Try.prog program = some Try.prog := rfl
  have pp : ∀ {α : Type} (x : α), pureRun Try.prog (pure x) = some x := fun x => rfl
  have e1 : pureRun Try.prog (eqGuard .eql 65 x y (ia l) (ia m)) = some () := by
    simp [eqGuard, ia, pureRun_bind, hp, eg65, pp]
  have e2 : pureRun Try.prog (binOp .eql 65 (ia l) (ia m)) = some (.bool (l == m)) := by
    have : binOp .eql 65 (ia l) (ia m) = (Op.equal 65 (ia l) (ia m) >>= fun b => pure (.bool b)) := rfl
    rw [this, pureRun_bind, h2]; rfl
  unfold pureEq
  rw [pureRun_bind, e1]
  exact e2
theorem ne_t (n x : Int) : Ans Try.prog 34 [.int n, .pt [.int x]] (.bool (n != x)) := by
  refine told Try.func34 rfl rfl (Pure.of tab_ok Try.func34 rfl Try.ntmps34 rfl (allC (.s _) (all1 (.pt _ (all1 (.s _))))) (allC (fun _ => rfl) (all1 (fun _ => rfl))) (by first | exact .s _ | assumption | exact .tup _ (by intro x hx; simp only [List.mem_cons, List.not_mem_nil, or_false] at hx; rcases hx with rfl | rfl | rfl | rfl <;> first | exact .s _ | (simp_all; done))) fun E hE => ?_)
  refine Aw.sm tab_ok mb0 [] rfl rfl ?zo ?zk
  case zo =>
    repeat' apply AllP.cons
    all_goals first | exact trivial
  case zk =>
  refine Aw.sm tab_ok mb0 [] rfl rfl ?zo ?zk
  case zo =>
    repeat' apply AllP.cons
    all_goals first | exact trivial | exact Nat.le_of_ble_eq_true rfl
  case zk =>
  exact Aw.ret ⟨_, .cons (.tmp _) .nil, rfl⟩
theorem index_t (b : Bool) (c : Cap) (l : List Int) (x : Int) (hl : (l.length : Int) ≤ 9223372036854775806) (hc : ∀ u, spareOf (.sl b c (ints l)) u = none) : Ans Try.prog 40 [.sl b c (ints l), .fn (.func 34) [] [.pt [.int x]]] (.int (idxF (fun n => n != x) 0 l)) := by
  have hfn : Free (.fn (.func 34) [] [.pt [.int x]]) := .fn _ _ _ allN (all1 (.pt _ (all1 (.s _))))
  generalize hR : idxF (fun n => n != x) 0 l = R
  refine told Try.func40 rfl rfl (Pure.of tab_ok Try.func40 rfl Try.ntmps40 rfl (allC (free_ints _ _ _) (all1 hfn)) (allC hc (all1 fun _ => rfl)) (.s _) fun E hE => ?_)
  refine Aw.keep (n := 0) (cst := [(1, .fn (.func 34) [] [.pt [.int x]])]) (v := [(0, .sl b .any (ints l))]) (Hl := []) hE ⟨hfn.under, trivial⟩ ⟨(free_ints _ _ _).under, trivial⟩ trivial ⟨⟨.refl _, trivial⟩, ⟨.any _ _ _, trivial⟩, trivial, Nat.le_refl _⟩ ?_
  have lz := ints_lenI l
  refine Aw.sm tab_ok mb0 [] rfl rfl ?zo ?zk
  case zo =>
    repeat' apply AllP.cons
    all_goals first | exact trivial
  case zk =>
  refine Aw.seq ?_
  refine Aw.sm tab_ok mb0 [] rfl rfl ?zo ?zk
  case zo =>
    repeat' apply AllP.cons
    all_goals first | exact trivial
  case zk =>
  refine Aw.block (Aw.rounds 0 hE [(0, .sl b .any (ints l)), (1, .fn (.func 34) [] [.pt [.int x]]), (7, .int (ints l).length)] (fun k : Nat => [(8, .int k)]) (fun _ => []) (fun k => k ≤ l.length ∧ idxF (fun n => n != x) k (l.drop k) = R) (fun k => l.length - k) 0
    ⟨Nat.zero_le _, hR⟩ ⟨⟨.refl _, .refl _, .refl _, trivial⟩, ⟨.refl _, trivial⟩, trivial, Nat.le_refl _⟩ ⟨(free_ints _ _ _).under, hfn.under, .s _, trivial⟩ (fun _ _ => ⟨.s _, trivial⟩) (fun _ _ => trivial) fun k hk => ?_)
  obtain ⟨hk, hrun⟩ := hk
  refine Aw.sm tab_ok mb0 [] rfl rfl ?zo ?zk
  case zo =>
    repeat' apply AllP.cons
    all_goals first | exact trivial
  case zk =>
  refine Aw.seq (Aw.cond rfl (fun h1 => Aw.skip1 ?_) (fun h1 => Aw.exit2 ?_))
  · have hlt : k < l.length := by have := of_decide_eq_true h1; omega
    rw [List.drop_eq_getElem_cons hlt, idxF] at hrun
    refine Aw.seq (Aw.block ?_)
    refine Aw.sm tab_ok mb0 [] rfl rfl ?zo ?zk
    case zo =>
      repeat' apply AllP.cons
      all_goals first | exact trivial
    case zk =>
    refine Aw.sm tab_ok mb0 [(3, [.int l[k]]), (5, [.bool (l[k] != x)])] rfl rfl ?zo ?zk
    case zo =>
      repeat' apply AllP.cons
      all_goals first | exact trivial | exact rfl | exact Nat.le_of_ble_eq_true rfl | exact Int.natCast_nonneg _ | exact ints_get hlt | exact ne_t _ _
    case zk =>
    refine Aw.cond rfl (fun h2 => ?_) (fun h2 => Aw.skip ?_)
    · have h2' : (l[k] != x) = true := h2
      rw [if_pos h2'] at hrun
      refine Aw.sm tab_ok mb0 [] rfl rfl ?zo ?zk
      case zo =>
        repeat' apply AllP.cons
        all_goals first | exact trivial
      case zk =>
      exact Aw.ret ⟨_, .cons (.tmp _) .nil, congrArg A.int hrun⟩
    · have h2' : (l[k] != x) = false := h2
      rw [h2'] at hrun
      refine Aw.em tab_ok mb0 [] rfl rfl ?zo ?zk
      case zo =>
        repeat' apply AllP.cons
        all_goals first | exact trivial | exact inrk k (by omega)
      case zk =>
      exact ⟨k + 1, ⟨hlt, hrun⟩, by omega, ⟨.refl _, .refl _, .refl _, trivial⟩, ⟨.refl _, trivial⟩, trivial, Nat.zero_le _⟩
  · have hle : k = l.length := by have := of_decide_eq_false h1; omega
    subst hle
    rw [List.drop_length, idxF] at hrun
    refine Aw.sm tab_ok mb0 [] rfl rfl ?zo ?zk
    case zo =>
      repeat' apply AllP.cons
      all_goals first | exact trivial
    case zk =>
    exact Aw.ret ⟨_, .cons (.tmp _) .nil, congrArg A.int hrun⟩
theorem contains_t (b : Bool) (c : Cap) (l : List Int) (x : Int) (hl : (l.length : Int) ≤ 9223372036854775806) (hc : ∀ u, spareOf (.sl b c (ints l)) u = none) : Ans Try.prog 31 [.sl b c (ints l), .fn (.func 34) [] [.pt [.int x]]] (.bool (l.any fun n => n != x)) := by
  have hfn : Free (.fn (.func 34) [] [.pt [.int x]]) := .fn _ _ _ allN (all1 (.pt _ (all1 (.s _))))
  rw [← idxF_any l 0]
  refine told Try.func31 rfl rfl (Pure.of tab_ok Try.func31 rfl Try.ntmps31 rfl (allC (free_ints _ _ _) (all1 hfn)) (allC hc (all1 fun _ => rfl)) (.s _) fun E hE => ?_)
  refine Aw.keep (n := 0) (cst := [(1, .fn (.func 34) [] [.pt [.int x]])]) (v := [(0, .sl b .any (ints l))]) (Hl := []) hE ⟨hfn.under, trivial⟩ ⟨(free_ints _ _ _).under, trivial⟩ trivial ⟨⟨.refl _, trivial⟩, ⟨.any _ _ _, trivial⟩, trivial, Nat.le_refl _⟩ ?_
  refine Aw.sm tab_ok mb0 [] rfl rfl ?zo ?zk
  case zo =>
    repeat' apply AllP.cons
    all_goals first | exact trivial
  case zk =>
  refine Aw.sm tab_ok mb0 [(2, [.int (idxF (fun n => n != x) 0 l)])] rfl rfl ?zo ?zk
  case zo =>
    repeat' apply AllP.cons
    all_goals first | exact trivial | exact index_t b .any l x hl (fun _ => rfl)
  case zk =>
  exact Aw.ret ⟨_, .cons (.tmp _) .nil, rfl⟩
end Go.Proofs.Ytlgnoifnfnpjeaa

namespace Go.Proofs.Ytlgnoifnfnpjeaa
open Go Go.AL Go.AL.Q
def Fish.rl (f : Fish) (s r : Nat) : NL := (f.seasons.getD s ⟨false, []⟩).l.getD r ⟨false, []⟩
theorem fish_race {f : Fish} {r : Nat} (h : r < f.many) : (f.races.map Rce.c)[Int.toNat (r : Int)]? = some (f.race r).c := by
  rw [Int.toNat_natCast, get_map h]
  unfold Q.Fish.race; rw [List.getD_eq_getElem?_getD, List.getElem?_eq_getElem h]; rfl
theorem fish_sea {f : Fish} {s : Nat} (h : s < f.seasons.length) : (f.seasons.map NR.c)[Int.toNat (s : Int)]? = some (f.seasons.getD s ⟨false, []⟩).c := by
  rw [Int.toNat_natCast, get_map h, List.getD_eq_getElem?_getD, List.getElem?_eq_getElem h]; rfl
theorem fish_rec {f : Fish} (hf : FishOk f) {s r : Nat} (hs : s < f.seasons.length) (hr : r < f.many) : ((f.seasons.getD s ⟨false, []⟩).l.map NL.c)[Int.toNat (r : Int)]? = some (Fish.rl f s r).c := by
  have h := hf.sl s hs
  unfold Fish.rl
  rw [Int.toNat_natCast, get_map (by omega)]
  simp [List.getD_eq_getElem?_getD, show r < (f.seasons[s]?.getD ⟨false, []⟩).l.length by rw [← List.getD_eq_getElem?_getD]; omega]
theorem breaks_t (f : Fish) (hf : FishOk f) (r s : Nat) (q : Int) (hr : r < f.many) (hs : s < f.seasons.length) (hq : 0 ≤ q ∧ q ≤ 10001) : Ans Try.prog 22 [.agg f.c, .int r, .int s, .int q] (.int (f.breakY r s q)) := by
  have hrc := hf.race r hr
  have hmb := hf.mb r hr
  have hml := hf.most
  have hfr0 := fish_race hr
  have hfs0 := fish_sea hs
  have hfl0 := fish_rec hf hs hr
  have hrl := hf.rl s r hs hr
  have hrb := hf.rb s r hs hr
  have hy10 := hf.y10
  have hqm := mul_bd (a := q) (b := f.most.getD r 0) (x := 10001) (y := 100) hq hmb
  have htk : 0 ≤ takeF q (f.most.getD r 0) ∧ takeF q (f.most.getD r 0) ≤ 1000000000 := by
    refine ⟨take_nn hq.1 hmb.1, ?_⟩
    unfold takeF
    rw [Int.tdiv_eq_ediv_of_nonneg (by omega)]; omega
  have htq : inR (takeF q (f.most.getD r 0)) := by simp only [inR]; omega
  obtain ⟨hl, hL⟩ : ∃ hl : NL, Fish.rl f s r = hl := ⟨_, rfl⟩
  have hLl : f.recs s r = hl.l := by rw [← hL]; rfl
  have hR : f.breakY r s q = idxF (fun n => decide (n < (f.race r).line)) 0 (playF (f.race r) (f.race r).numbers (List.replicate hl.l.length (takeF q (f.most.getD r 0))) hl.l) := by rw [← hLl]; rfl
  rw [hLl] at hrl hrb
  rw [hL] at hfl0
  generalize f.breakY r s q = R at *
  have m6 : (f.race r).numbers.length ≤ 6 := hrc.m6
  have ll := ints_lenI hl.l
  have ul : ∀ {n}, Under n (A.sl hl.n .any (ints hl.l)) := (free_ints _ _ _).under
  have ufc : ∀ {n}, Under n (A.pt f.c) := (Free.pt _ f.free).under
  have ur : ∀ {n}, UnderB n (.cells (f.race r).c) := .cells _ fun x hx => ((f.race r).free x hx).under
  refine told Try.func22 rfl rfl (Pure.of tab_ok Try.func22 rfl Try.ntmps22 rfl (allC (.agg _ f.free) (allC (.s _) (allC (.s _) (all1 (.s _))))) (allC (fun _ => rfl) (allC (fun _ => rfl) (allC (fun _ => rfl) (all1 (fun _ => rfl))))) (by first | exact .s _ | assumption | exact .tup _ (by intro x hx; simp only [List.mem_cons, List.not_mem_nil, or_false] at hx; rcases hx with rfl | rfl | rfl | rfl <;> first | exact .s _ | (simp_all; done))) fun E hE => ?_)
  have hE15 : ∀ id, 15 ≤ id → E.φ0 id = none := fun id h => hE id (by omega)
  refine Aw.sm tab_ok mb0 [] rfl rfl ?zo ?zk
  case zo =>
    repeat' apply AllP.cons
    all_goals first | exact trivial
  case zk =>
  refine Aw.sm tab_ok mb0 [(4, (f.race r).c)] rfl rfl ?zo ?zk
  case zo =>
    repeat' apply AllP.cons
    all_goals first | exact trivial | exact rfl | exact Nat.le_of_ble_eq_true rfl | exact Int.natCast_nonneg _ | exact hfr0
  case zk =>
  refine Aw.sm tab_ok mb0 [(5, [.int (f.most.getD r 0)])] rfl rfl ?zo ?zk
  case zo =>
    repeat' apply AllP.cons
    all_goals first | exact trivial | exact rfl | exact Nat.le_of_ble_eq_true rfl | exact Int.natCast_nonneg _ | exact ints_getD (by omega) | exact (by simp only [Ob.of, inR]; omega) | exact (show (100 : Int) ≠ 0 ∧ inR (takeF q (f.most.getD r 0)) from ⟨by decide, htq⟩)
  case zk =>
  refine Aw.sd tab_ok mixed mb0 [(0, [.agg (f.race r).c]), (1, [arr (f.race r).numbers]), (6, (f.seasons.getD s ⟨false, []⟩).c), (9, hl.c)] rfl (by kernel_rfl) rfl rfl ?zo ?zk
  case zo =>
    repeat' apply AllP.cons
    all_goals first | exact trivial | exact rfl | exact Nat.le_of_ble_eq_true rfl | exact Int.natCast_nonneg _ | exact first_t _ hrc | exact hfs0 | exact hfl0 | exact arr_len m6
  case zk =>
  generalize f.race r = rc at *
  have st0 := arr_st0 m6
  refine Aw.keep (n := 15) (cst := [(9, .ref 0 0), (10, .int (takeF q (f.most.getD r 0))), (12, .sl hl.n .any (ints hl.l))]) (v := [(11, .ref 12 0)]) (Hl := [(0, .cells rc.c), (12, .cells ((padL rc.numbers).map A.int))]) hE15 ⟨.ref _ _ (by decide), .s _, ul, trivial⟩ ⟨.ref _ _ (by decide), trivial⟩ ⟨⟨by decide, ur⟩, ⟨by decide, cells_under _⟩, trivial⟩
    ⟨⟨.refl _, .refl _, .refl _, trivial⟩, ⟨.refl _, trivial⟩, ⟨rfl, congrArg (fun x => some (B.cells x)) st0, trivial⟩, Nat.le_of_ble_eq_true rfl⟩ ?_
  generalize takeF q (f.most.getD r 0) = tk at *
  have hz : hl.l.length ≤ 10 := by omega
  clear hfr0 hfs0 hfl0 hLl hL hqm htq hrl hmb hml ufc
  refine Aw.seq ?_
  refine Aw.sm tab_ok mb0 [] rfl rfl ?zo ?zk
  case zo =>
    repeat' apply AllP.cons
    all_goals first | exact trivial
  case zk =>
  have uc : UnderL 15 [(9, A.ref 0 0), (10, .int tk), (11, .ref 12 0), (12, .sl hl.n .any (ints hl.l)), (45, .sl hl.n .any (ints hl.l)), (46, .int hl.l.length)] := ⟨.ref _ _ (by decide), .s _, .ref _ _ (by decide), ul, ul, .s _, trivial⟩
  refine Aw.block (Aw.rounds (ι := Nat × List Int) 15 hE15 [(9, A.ref 0 0), (10, .int tk), (11, .ref 12 0), (12, .sl hl.n .any (ints hl.l)), (45, .sl hl.n .any (ints hl.l)), (46, .int hl.l.length)] (fun i => [(47, .int i.1)])
    (fun i => [(0, .cells rc.c), (12, .cells ((padL i.2).map A.int))]) (fun i => i.1 ≤ hl.l.length ∧ Pop rc (600000 + 100000 * i.1) i.2 ∧ idxF (fun n => decide (n < rc.line)) i.1 (playF rc i.2 (List.replicate (hl.l.drop i.1).length tk) (hl.l.drop i.1)) = R) (fun i => hl.l.length - i.1) (0, rc.numbers)
    ⟨Nat.zero_le _, by simpa using first_pop hrc, hR.symm⟩ ⟨⟨.refl _, .refl _, .refl _, .refl _, .refl _, .of_eq (congrArg A.int ll.symm), trivial⟩, ⟨.refl _, trivial⟩, ⟨rfl, rfl, trivial⟩, Nat.le_of_ble_eq_true rfl⟩
    uc (fun i _ => ⟨.s _, trivial⟩) (fun i _ => ⟨⟨by decide, ur⟩, ⟨by decide, cells_under _⟩, trivial⟩) ?_)
  rintro ⟨k, n⟩ ⟨hk, hpop, hrun⟩
  simp only at hk hpop hrun
  refine Aw.sm tab_ok mb0 [] rfl rfl ?zo ?zk
  case zo =>
    repeat' apply AllP.cons
    all_goals first | exact trivial
  case zk =>
  refine Aw.seq (Aw.cond rfl (fun h1 => Aw.skip1 ?_) (fun h1 => Aw.exit2 ?_))
  · have hlt : k < hl.l.length := by have := of_decide_eq_true h1; omega
    have hd : hl.l.drop k = hl.l.getD k 0 :: hl.l.drop (k + 1) := by rw [List.drop_eq_getElem_cons hlt]; simp [List.getD_eq_getElem?_getD, hlt]
    have hx : 0 ≤ hl.l.getD k 0 ∧ hl.l.getD k 0 ≤ 100000 := hrb _ (by rw [List.getD_eq_getElem?_getD, List.getElem?_eq_getElem hlt]; exact List.getElem_mem hlt)
    have hcall := year_t rc hrc n (600000 + 100000 * k) tk (hl.l.getD k 0) hpop (by omega) htk hx
    have hpop2 := yearF_pop hrc hpop htk.1 hx.1
    have hdk : hl.l.drop k = hl.l.getD k 0 :: hl.l.drop (k + 1) := hd
    rw [hd, List.length_cons, List.replicate_succ, playF, idxF] at hrun
    have hstill := fun h => still (r := rc) (l := n) (t := tk) (x := hl.l.getD k 0) h
    generalize hX : hl.l.getD k 0 = x at *
    generalize hY : yearF rc n tk x = Y at *
    have n6 : n.length ≤ 6 := by rw [hpop.len]; exact hrc.m6
    have y6 : Y.2.length ≤ 6 := by rw [hpop2.len]; exact hrc.m6
    have hpop3 : Pop rc (600000 + 100000 * ((k + 1 : Nat) : Int)) Y.2 := ⟨hpop2.len, hpop2.pos, by have := hpop2.sum; omega⟩
    have hg : (ints hl.l)[k]? = some [.int x] := by rw [← hX]; exact ints_getD hlt
    refine Aw.seq (Aw.block ?_)
    refine Aw.sm tab_ok mb0 [(1, [.int x])] rfl rfl ?zo ?zk
    case zo =>
      repeat' apply AllP.cons
      all_goals first | exact trivial | exact rfl | exact Nat.le_of_ble_eq_true rfl | exact Int.natCast_nonneg _ | exact hg
    case zk =>
    refine Aw.sm tab_ok mb0 [(0, [.agg rc.c]), (1, [arr n]), (3, [.int x]), (4, [.tup [.int Y.1, arr Y.2]])] rfl rfl ?zo ?zk
    case zo =>
      repeat' apply AllP.cons
      all_goals first | exact trivial | exact rfl | exact Nat.le_of_ble_eq_true rfl | exact arr_ld n6 | exact (show 0 + 6 ≤ ((padL n).map A.int).length by rw [arr_len n6]; omega) | exact hcall | exact arr_len y6
    case zk =>
    have hst0 := arr_st0 y6
    have hst1 := arr_st y6 n6
    refine Aw.keep (n := 17) (cst := [(9, A.ref 0 0), (10, .int tk), (11, .ref 12 0), (12, .sl hl.n .any (ints hl.l)), (45, .sl hl.n .any (ints hl.l)), (46, .int hl.l.length), (47, .int k), (13, .int k), (14, .ref 15 0), (15, .int Y.1), (16, .ref 16 0)]) (v := []) (Hl := [(0, .cells rc.c), (12, .cells ((padL n).map A.int)), (15, .cells [.int x]), (16, .cells ((padL Y.2).map A.int))]) (fun id h => hE id (by omega))
      ⟨.ref _ _ (by decide), .s _, .ref _ _ (by decide), ul, ul, .s _, .s _, .s _, .ref _ _ (by decide), .s _, .ref _ _ (by decide), trivial⟩ trivial ⟨⟨by decide, ur⟩, ⟨by decide, cells_under _⟩, ⟨by decide, .cells _ (all1 (.s _))⟩, ⟨by decide, cells_under _⟩, trivial⟩
      ⟨⟨.refl _, .refl _, .refl _, .refl _, .refl _, .refl _, .refl _, .refl _, .refl _, .refl _, .refl _, trivial⟩, trivial, ⟨rfl, rfl, rfl, congrArg (fun x => some (B.cells x)) hst0, trivial⟩, Nat.le_of_ble_eq_true rfl⟩ ?_
    refine Aw.seq ?_
    refine Aw.sm tab_ok mb0 [] rfl rfl ?zo ?zk
    case zo =>
      repeat' apply AllP.cons
      all_goals first | exact trivial | exact Nat.le_of_ble_eq_true rfl
    case zk =>
    refine Aw.cond rfl (fun h2 => ?_) (fun h2 => Aw.skip ?_)
    · have h2' : decide (Y.1 < rc.line) = true := h2
      rw [if_pos h2'] at hrun
      subst hrun
      refine Aw.sm tab_ok mb0 [] rfl rfl ?zo ?zk
      case zo =>
        repeat' apply AllP.cons
        all_goals first | exact trivial
      case zk =>
      exact Aw.ret ⟨_, .cons (.tmp _) .nil, rfl⟩
    have h2' : decide (Y.1 < rc.line) = false := h2
    rw [h2'] at hrun
    have hrun : idxF (fun n => decide (n < rc.line)) (k + 1) (playF rc Y.2 (List.replicate (hl.l.drop (k + 1)).length tk) (hl.l.drop (k + 1))) = R := hrun
    have hee : ((padL Y.2) == (padL n)) = decide (Y.2 = n) := by
      rw [Bool.eq_iff_iff, beq_iff_eq, decide_eq_true_eq]
      exact ⟨fun h => padL_inj (by rw [hpop2.len, hpop.len]) h, fun h => by rw [h]⟩
    have hdr : (ints hl.l).drop k = ints (hl.l.drop k) := by simp [ints, List.map_drop]
    have hcon := contains_t hl.n .any (hl.l.drop k) x (by simp; omega) (fun _ => rfl)
    rw [← hdr] at hcon
    have hkz : (k : Int) ≤ ((ints hl.l).length : Int) := by omega
    have l62 : 0 + 6 ≤ ((padL Y.2).map A.int).length := by rw [arr_len y6]; omega
    have l6n : 0 + 6 ≤ ((padL n).map A.int).length := by rw [arr_len n6]; omega
    refine Aw.seq ?_
    by_cases hsame : Y.2 = n
    · rw [decide_eq_true hsame] at hee
      refine Aw.seq (Aw.region rfl ?_)
      refine RegL.partE tab_ok mb0 true 8 0 [(0, [arr Y.2]), (1, [arr n]), (2, [.bool true])] ?_
      conv => arg 5; whnf
      refine PartK.mk ?zo ?zk
      case zo =>
        repeat' apply AllP.cons
        all_goals first | exact trivial | exact Int.natCast_nonneg _ | exact arr_ld y6 | exact arr_ld n6 | exact l62 | exact l6n | exact hee ▸ eqArr _ _ (padL_len y6) (padL_len n6) | exact hkz | exact ints_one _
      case zk =>
      refine Does.rawT (j := 3) (t := 69) (g := true) (want := true) rfl rfl rfl rfl (DoesP.toR (DoesP.callF tab_ok (g := 31) (fst := []) (cap := []) rfl rfl rfl hcon (.s _) ?_))
      refine RegL.partE tab_ok mb0 true 9 9 [] ?_
      conv => arg 5; whnf
      refine PartK.mk ?zo ?zk
      case zo =>
        repeat' apply AllP.cons
        all_goals first | exact trivial | exact id | exact fun _ => rfl
      case zk =>
      refine Aw.cond rfl (fun h3 => ?_) (fun h3 => Aw.skip ?_)
      · have h3 : (!(hl.l.drop k).any fun n => n != x) = true := h3
        have hall : ∀ y ∈ hl.l.drop (k + 1), y = x := fun y hy => by
          rw [Bool.not_eq_true'] at h3
          have := List.any_eq_false.1 h3 y (by rw [hd]; exact List.mem_cons_of_mem _ hy)
          simpa using this
        have hR1 : R = -1 := by
          rw [← hrun]
          refine idxF_none _ fun m hm => ?_
          rw [hsame] at hm
          have := hstill (by exact hsame) _ hall m hm
          rw [this]; exact h2'
        subst hR1
        refine Aw.exit (thenE (blkN rfl (thenE (thenE (blkE ?_)))))
        refine Aw.sm tab_ok mb0 [] rfl rfl ?zo ?zk
        case zo =>
          repeat' apply AllP.cons
          all_goals first | exact trivial
        case zk =>
        exact Aw.ret ⟨_, .cons (.tmp _) .nil, rfl⟩
      · refine Aw.em tab_ok mb0 [(0, [arr Y.2])] rfl rfl ?zo ?zk
        case zo =>
          repeat' apply AllP.cons
          all_goals first | exact trivial | exact arr_ld y6 | exact l62 | exact l6n | exact arr_len y6
        case zk =>
        refine Aw.em tab_ok mb0 [] rfl rfl ?zo ?zk
        case zo =>
          repeat' apply AllP.cons
          all_goals first | exact trivial | exact inrk k (by omega)
        case zk =>
        exact ⟨(k + 1, Y.2), ⟨hlt, hpop3, hrun⟩, by show hl.l.length - (k + 1) < hl.l.length - k; omega, ⟨.refl _, .refl _, .refl _, .refl _, .refl _, .refl _, trivial⟩, ⟨.refl _, trivial⟩, ⟨rfl, congrArg (fun x => some (B.cells x)) hst1, trivial⟩, Nat.le_of_ble_eq_true rfl⟩
    · rw [decide_eq_false hsame] at hee
      refine Aw.st tab_ok mb0 [(0, [arr Y.2]), (1, [arr n]), (2, [.bool false])] rfl rfl ?zo ?zk
      case zo =>
        repeat' apply AllP.cons
        all_goals first | exact trivial | exact arr_ld y6 | exact arr_ld n6 | exact l62 | exact l6n | exact hee ▸ eqArr _ _ (padL_len y6) (padL_len n6)
      case zk =>
      refine Aw.cond rfl (fun h3 => by cases h3) (fun h3 => Aw.skip ?_)
      refine Aw.em tab_ok mb0 [(0, [arr Y.2])] rfl rfl ?zo ?zk
      case zo =>
        repeat' apply AllP.cons
        all_goals first | exact trivial | exact arr_ld y6 | exact l62 | exact l6n | exact arr_len y6
      case zk =>
      refine Aw.em tab_ok mb0 [] rfl rfl ?zo ?zk
      case zo =>
        repeat' apply AllP.cons
        all_goals first | exact trivial | exact inrk k (by omega)
      case zk =>
      exact ⟨(k + 1, Y.2), ⟨hlt, hpop3, hrun⟩, by show hl.l.length - (k + 1) < hl.l.length - k; omega, ⟨.refl _, .refl _, .refl _, .refl _, .refl _, .refl _, trivial⟩, ⟨.refl _, trivial⟩, ⟨rfl, congrArg (fun x => some (B.cells x)) hst1, trivial⟩, Nat.le_of_ble_eq_true rfl⟩
  · have hle : k = hl.l.length := by have := of_decide_eq_false h1; omega
    subst hle
    have hR1 : R = -1 := by rw [← hrun, List.drop_length]; rfl
    subst hR1
    refine Aw.sm tab_ok mb0 [] rfl rfl ?zo ?zk
    case zo =>
      repeat' apply AllP.cons
      all_goals first | exact trivial
    case zk =>
    exact Aw.ret ⟨_, .cons (.tmp _) .nil, rfl⟩
def noBreak (f : Fish) (q : Int) (r s : Nat) : Bool := !decide (f.breakY r s q ≥ 0)
def noRace (f : Fish) (q : Int) (r : Nat) : Bool := (List.range f.seasons.length).all (noBreak f q r)
theorem all_drop {p : Nat → Bool} {n k : Nat} (h : k < n) : ((List.range n).drop k).all p = (p k && ((List.range n).drop (k + 1)).all p) := by
  rw [List.drop_eq_getElem_cons (by simpa using h)]; simp
theorem all_drop_end {p : Nat → Bool} {n : Nat} : ((List.range n).drop n).all p = true := by
  rw [List.drop_of_length_le (by simp)]; rfl
theorem holds_t (f : Fish) (hf : FishOk f) (q : Int) (hq : 0 ≤ q ∧ q ≤ 10001) : Ans Try.prog 13 [.agg f.c, .int q] (.bool (f.holds q)) := by
  have lr : ((f.races.map Rce.c).length : Int) = f.many := by simp [Q.Fish.many]
  have ls : ((f.seasons.map NR.c).length : Int) = f.seasons.length := by simp
  have m3 := hf.m3
  have s6 := hf.s6
  have ufc : ∀ {n}, Under n (A.pt f.c) := (Free.pt _ f.free).under
  have hR : f.holds q = (List.range f.many).all (noRace f q) := rfl
  rw [hR]
  generalize hRR : (List.range f.many).all (noRace f q) = R
  refine told Try.func13 rfl rfl (Pure.of tab_ok Try.func13 rfl Try.ntmps13 rfl (allC (.agg _ f.free) (all1 (.s _))) (allC (fun _ => rfl) (all1 (fun _ => rfl))) (by first | exact .s _ | assumption | exact .tup _ (by intro x hx; simp only [List.mem_cons, List.not_mem_nil, or_false] at hx; rcases hx with rfl | rfl | rfl | rfl <;> first | exact .s _ | (simp_all; done))) fun E hE => ?_)
  refine Aw.sm tab_ok mb0 [] rfl rfl ?zo ?zk
  case zo =>
    repeat' apply AllP.cons
    all_goals first | exact trivial
  case zk =>
  refine Aw.seq ?_
  refine Aw.sm tab_ok mb0 [] rfl rfl ?zo ?zk
  case zo =>
    repeat' apply AllP.cons
    all_goals first | exact trivial | exact Nat.le_of_ble_eq_true rfl
  case zk =>
  refine Aw.block (Aw.rounds (ι := Nat) 0 hE [(1, .int q), (2, .pt f.c), (10, .int f.many)] (fun k => [(11, .int k)]) (fun _ => []) (fun k => k ≤ f.many ∧ ((List.range f.many).drop k).all (noRace f q) = R) (fun k => f.many - k) 0
    ⟨Nat.zero_le _, hRR⟩ ⟨⟨.refl _, .refl _, .of_eq (congrArg A.int lr.symm), trivial⟩, ⟨.refl _, trivial⟩, trivial, Nat.zero_le _⟩ ⟨.s _, ufc, .s _, trivial⟩ (fun _ _ => ⟨.s _, trivial⟩) (fun _ _ => trivial) ?_)
  rintro k ⟨hk, hrun⟩
  refine Aw.sm tab_ok mb0 [] rfl rfl ?zo ?zk
  case zo =>
    repeat' apply AllP.cons
    all_goals first | exact trivial
  case zk =>
  refine Aw.seq (Aw.cond rfl (fun h1 => Aw.skip1 ?_) (fun h1 => Aw.exit2 ?_))
  · have hlt : k < f.many := by have := of_decide_eq_true h1; omega
    rw [all_drop hlt] at hrun
    refine Aw.seq (Aw.block ?_)
    refine Aw.sm tab_ok mb0 [] rfl rfl ?zo ?zk
    case zo =>
      repeat' apply AllP.cons
      all_goals first | exact trivial
    case zk =>
    refine Aw.sm tab_ok mb0 [] rfl rfl ?zo ?zk
    case zo =>
      repeat' apply AllP.cons
      all_goals first | exact trivial | exact Nat.le_of_ble_eq_true rfl
    case zk =>
    refine Aw.block (Aw.rounds (ι := Nat) 0 hE [(1, .int q), (2, .pt f.c), (5, .int k), (10, .int f.many), (11, .int k), (17, .int f.seasons.length)] (fun j => [(18, .int j)]) (fun _ => []) (fun j => j ≤ f.seasons.length ∧ (((List.range f.seasons.length).drop j).all (noBreak f q k) && ((List.range f.many).drop (k + 1)).all (noRace f q)) = R) (fun j => f.seasons.length - j) 0
      ⟨Nat.zero_le _, hrun⟩ ⟨⟨.refl _, .refl _, .refl _, .refl _, .refl _, .of_eq (congrArg A.int ls.symm), trivial⟩, ⟨.refl _, trivial⟩, trivial, Nat.zero_le _⟩ ⟨.s _, ufc, .s _, .s _, .s _, .s _, trivial⟩ (fun _ _ => ⟨.s _, trivial⟩) (fun _ _ => trivial) ?_)
    rintro j ⟨hj, hrun⟩
    refine Aw.sm tab_ok mb0 [] rfl rfl ?zo ?zk
    case zo =>
      repeat' apply AllP.cons
      all_goals first | exact trivial
    case zk =>
    refine Aw.seq (Aw.cond rfl (fun h2 => Aw.skip1 ?_) (fun h2 => Aw.exit2 ?_))
    · have hjl : j < f.seasons.length := by have := of_decide_eq_true h2; omega
      rw [all_drop hjl] at hrun
      refine Aw.seq (Aw.block ?_)
      refine Aw.sm tab_ok mb0 [] rfl rfl ?zo ?zk
      case zo =>
        repeat' apply AllP.cons
        all_goals first | exact trivial
      case zk =>
      refine Aw.sm tab_ok mb0 [(4, [.int (f.breakY k j q)])] rfl rfl ?zo ?zk
      case zo =>
        repeat' apply AllP.cons
        all_goals first | exact trivial | exact Nat.le_of_ble_eq_true rfl | exact breaks_t f hf k j q hlt hjl hq
      case zk =>
      refine Aw.cond rfl (fun h3 => ?_) (fun h3 => Aw.skip ?_)
      · have h3' : decide (f.breakY k j q ≥ 0) = true := h3
        have hR1 : R = false := by rw [← hrun]; unfold noBreak; rw [h3']; rfl
        subst hR1
        refine Aw.sm tab_ok mb0 [] rfl rfl ?zo ?zk
        case zo =>
          repeat' apply AllP.cons
          all_goals first | exact trivial
        case zk =>
        exact Aw.ret ⟨_, .cons (.tmp _) .nil, rfl⟩
      · have h3' : decide (f.breakY k j q ≥ 0) = false := h3
        have hrun2 : (((List.range f.seasons.length).drop (j + 1)).all (noBreak f q k) && ((List.range f.many).drop (k + 1)).all (noRace f q)) = R := by
          rw [← hrun]; unfold noBreak; rw [h3']; rfl
        refine Aw.em tab_ok mb0 [] rfl rfl ?zo ?zk
        case zo =>
          repeat' apply AllP.cons
          all_goals first | exact trivial | exact inrk j (by omega)
        case zk =>
        exact ⟨j + 1, ⟨hjl, hrun2⟩, by omega, ⟨.refl _, .refl _, .refl _, .refl _, .refl _, .refl _, trivial⟩, ⟨.refl _, trivial⟩, trivial, Nat.zero_le _⟩
    · have hle : j = f.seasons.length := by have := of_decide_eq_false h2; omega
      subst hle
      rw [all_drop_end, Bool.true_and] at hrun
      refine Aw.em tab_ok mb0 [] rfl rfl ?zo ?zk
      case zo =>
        repeat' apply AllP.cons
        all_goals first | exact trivial | exact inrk k (by omega)
      case zk =>
      exact ⟨k + 1, ⟨hlt, hrun⟩, by omega, ⟨.refl _, .refl _, .refl _, trivial⟩, ⟨.refl _, trivial⟩, trivial, Nat.zero_le _⟩
  · have hle : k = f.many := by have := of_decide_eq_false h1; omega
    subst hle
    rw [all_drop_end] at hrun
    subst hrun
    refine Aw.sm tab_ok mb0 [] rfl rfl ?zo ?zk
    case zo =>
      repeat' apply AllP.cons
      all_goals first | exact trivial
    case zk =>
    exact Aw.ret ⟨_, .cons (.tmp _) .nil, rfl⟩
theorem err_ok {f : Fish} (h : f.ok = true) : f.err = 0 := by unfold Q.Fish.err; rw [h]; rfl
theorem err_no {f : Fish} (h : f.ok = false) : f.err = 93 := by unfold Q.Fish.err; rw [h]; rfl
theorem quota_t (f : Fish) (hfit : f.Fit) : Ans Try.prog 4 [.agg f.c] (.tup f.quotaR) := by
  have hfr : Free (.tup f.quotaR) := .tup _ (by
    unfold Q.Fish.quotaR
    split
    · split <;> exact allC (.s _) (all1 (.s _))
    · exact allC (.s _) (all1 (.s _)))
  refine told Try.func4 rfl rfl (Pure.of tab_ok Try.func4 rfl Try.ntmps4 rfl (all1 (.agg _ f.free)) (all1 (fun _ => rfl)) (by first | exact .s _ | assumption | exact .tup _ (by intro x hx; simp only [List.mem_cons, List.not_mem_nil, or_false] at hx; rcases hx with rfl | rfl | rfl | rfl <;> first | exact .s _ | (simp_all; done))) fun E hE => ?_)
  refine Aw.sm tab_ok mb0 [] rfl rfl ?zo ?zk
  case zo =>
    repeat' apply AllP.cons
    all_goals first | exact trivial
  case zk =>
  refine Aw.seq ?_
  refine Aw.sm tab_ok mb0 [(1, [.int f.err])] rfl rfl ?zo ?zk
  case zo =>
    repeat' apply AllP.cons
    all_goals first | exact trivial | exact Nat.le_of_ble_eq_true rfl | exact check_t f hfit
  case zk =>
  refine Aw.sm tab_ok mb0 [] rfl rfl ?zo ?zk
  case zo =>
    repeat' apply AllP.cons
    all_goals first | exact trivial
  case zk =>
  refine Aw.cond rfl (fun h1 => ?_) (fun h1 => Aw.skip ?_)
  · have hno : f.ok = false := by
      cases h : f.ok with
      | false => rfl
      | true => rw [err_ok h] at h1; exact absurd h1 (by decide)
    refine Aw.sm tab_ok mb0 [] rfl rfl ?zo ?zk
    case zo =>
      repeat' apply AllP.cons
      all_goals first | exact trivial
    case zk =>
    exact Aw.ret ⟨_, .cons (.tmp _) (.cons (.tmp _) .nil), by unfold Q.Fish.quotaR; rw [hno, err_no hno]; rfl⟩
  have hok : f.ok = true := by
    cases h : f.ok with
    | true => rfl
    | false => rw [err_no h] at h1; exact absurd h1 (by decide)
  have hf := FishOk.of hok
  have ufn : ∀ {n}, Under n (A.fn (.func 13) [.agg f.c] []) := (Free.fn _ _ _ (all1 (.agg _ f.free)) allN).under
  have hR : f.quotaR = if f.holds 0 then [.int f.quota, .int 0] else [.int 0, .int 4] := by unfold Q.Fish.quotaR; rw [hok]; rfl
  rw [hR]
  refine Aw.sm tab_ok mb0 [] rfl rfl ?zo ?zk
  case zo =>
    repeat' apply AllP.cons
    all_goals first | exact trivial | exact Nat.le_of_ble_eq_true rfl
  case zk =>
  refine Aw.keep (n := 0) (cst := [(5, .fn (.func 13) [.agg f.c] [])]) (v := []) (Hl := []) hE ⟨ufn, trivial⟩ trivial trivial ⟨⟨.refl _, trivial⟩, trivial, trivial, Nat.zero_le _⟩ ?_
  refine Aw.seq ?_
  refine Aw.sm tab_ok mb0 [(1, [.bool (f.holds 0)])] rfl rfl ?zo ?zk
  case zo =>
    repeat' apply AllP.cons
    all_goals first | exact trivial | exact holds_t f hf 0 (by decide)
  case zk =>
  refine Aw.cond rfl (fun h1 => ?_) (fun h1 => Aw.skip ?_)
  · have hno : f.holds 0 = false := by simpa using h1
    refine Aw.sm tab_ok mb0 [] rfl rfl ?zo ?zk
    case zo =>
      repeat' apply AllP.cons
      all_goals first | exact trivial
    case zk =>
    exact Aw.ret ⟨_, .cons (.tmp _) (.cons (.tmp _) .nil), by rw [hno]; rfl⟩
  have hyes : f.holds 0 = true := by simpa using h1
  rw [hyes]
  have hq : f.quota = halve f.holds 10001 0 10001 := rfl
  generalize f.quota = R at *
  refine Aw.sm tab_ok mb0 [] rfl rfl ?zo ?zk
  case zo =>
    repeat' apply AllP.cons
    all_goals first | exact trivial
  case zk =>
  refine Aw.seq (Aw.block (Aw.rounds (ι := Nat × Int × Int) 0 hE [(5, .fn (.func 13) [.agg f.c] [])] (fun i => [(6, .int i.2.1), (7, .int i.2.2)]) (fun _ => []) (fun i => 0 ≤ i.2.1 ∧ i.2.1 < i.2.2 ∧ i.2.2 ≤ 10001 ∧ i.2.2 - i.2.1 ≤ i.1 ∧ halve f.holds i.1 i.2.1 i.2.2 = R) (fun i => (i.2.2 - i.2.1).toNat) (10001, 0, 10001)
    ⟨by decide, by decide, by decide, by decide, hq.symm⟩ ⟨⟨.refl _, trivial⟩, ⟨.refl _, .refl _, trivial⟩, trivial, Nat.zero_le _⟩ ⟨ufn, trivial⟩ (fun _ _ => ⟨.s _, .s _, trivial⟩) (fun _ _ => trivial) ?_))
  rintro ⟨n, lo, hi⟩ ⟨h1, h2, h3, h4, hrun⟩
  simp only at h1 h2 h3 h4 hrun
  refine Aw.seq ?_
  refine Aw.sm tab_ok mb0 [] rfl rfl ?zo ?zk
  case zo =>
    repeat' apply AllP.cons
    all_goals first | exact trivial | exact (by simp only [Ob.of, inR]; omega)
  case zk =>
  refine Aw.cond rfl (fun h5 => Aw.skip ?_) (fun h5 => ?_)
  · have h5' : hi - lo > 1 := of_decide_eq_true h5
    obtain ⟨n, rfl⟩ : ∃ m, n = m + 1 := ⟨n - 1, by omega⟩
    rw [halve, if_pos h5'] at hrun
    have hmid : lo < (lo + hi).tdiv 2 ∧ (lo + hi).tdiv 2 < hi := by rw [Int.tdiv_eq_ediv_of_nonneg (by omega)]; omega
    have ob1 : (2 : Int) ≠ 0 ∧ inR ((lo + hi).tdiv 2) := ⟨by decide, by simp only [inR]; omega⟩
    refine Aw.block ?_
    refine Aw.sm tab_ok mb0 [] rfl rfl ?zo ?zk
    case zo =>
      repeat' apply AllP.cons
      all_goals first | exact trivial | exact (by simp only [Ob.of, inR]; omega)
    case zk =>
    generalize (lo + hi).tdiv 2 = mid at *
    refine Aw.sm tab_ok mb0 [(2, [.bool (f.holds mid)])] rfl rfl ?zo ?zk
    case zo =>
      repeat' apply AllP.cons
      all_goals first | exact trivial | exact holds_t f hf mid (by omega)
    case zk =>
    refine Aw.cond rfl (fun h6 => ?_) (fun h6 => ?_)
    · have h6' : f.holds mid = true := h6
      rw [if_pos h6'] at hrun
      refine Aw.em tab_ok mb0 [] rfl rfl ?zo ?zk
      case zo =>
        repeat' apply AllP.cons
        all_goals first | exact trivial
      case zk =>
      exact ⟨(n, mid, hi), ⟨by show 0 ≤ mid; omega, hmid.2, h3, by show hi - mid ≤ n; omega, hrun⟩, by show (hi - mid).toNat < (hi - lo).toNat; omega, ⟨.refl _, trivial⟩, ⟨.refl _, .refl _, trivial⟩, trivial, Nat.zero_le _⟩
    · have h6' : f.holds mid = false := h6
      rw [h6'] at hrun
      refine Aw.em tab_ok mb0 [] rfl rfl ?zo ?zk
      case zo =>
        repeat' apply AllP.cons
        all_goals first | exact trivial
      case zk =>
      exact ⟨(n, lo, mid), ⟨h1, hmid.1, by show mid ≤ 10001; omega, by show mid - lo ≤ n; omega, hrun⟩, by show (mid - lo).toNat < (hi - lo).toNat; omega, ⟨.refl _, trivial⟩, ⟨.refl _, .refl _, trivial⟩, trivial, Nat.zero_le _⟩
  · have h5' : ¬ hi - lo > 1 := of_decide_eq_false h5
    have hR1 : R = lo := by
      rw [← hrun]
      cases n with
      | zero => rfl
      | succ n => rw [halve, if_neg h5']
    subst hR1
    refine Aw.exit2 ?_
    refine Aw.sm tab_ok mb0 [] rfl rfl ?zo ?zk
    case zo =>
      repeat' apply AllP.cons
      all_goals first | exact trivial
    case zk =>
    exact Aw.ret ⟨_, .cons (.tmp _) (.cons (.tmp _) .nil), rfl⟩
end Go.Proofs.Ytlgnoifnfnpjeaa

namespace Go.Proofs.Ytlgnoifnfnpjeaa
open Go Go.AL Go.AL.Q
theorem range_drop {n k : Nat} (h : k < n) : (List.range n).drop k = k :: (List.range n).drop (k + 1) := by
  rw [List.drop_eq_getElem_cons (by simpa using h)]; simp
theorem range_end {n : Nat} : (List.range n).drop n = [] := List.drop_of_length_le (by simp)
theorem First_t (f : Fish) (hfit : f.Fit) (q : Int) : Ans Try.prog 11 [.agg f.c, .int q] (.tup (f.firstR q)) := by
  have hfr : Free (.tup (f.firstR q)) := .tup _ (by
    have h4 : ∀ a b c d : Int, ∀ x ∈ [A.int a, .int b, .int c, .int d], Free x := fun _ _ _ _ => allC (.s _) (allC (.s _) (allC (.s _) (all1 (.s _))))
    unfold Q.Fish.firstR
    split
    · split
      · split <;> exact h4 _ _ _ _
      · exact h4 _ _ _ _
    · exact h4 _ _ _ _)
  have lr : ((f.races.map Rce.c).length : Int) = f.many := by simp [Q.Fish.many]
  have ls : ((f.seasons.map NR.c).length : Int) = f.seasons.length := by simp
  refine told Try.func11 rfl rfl (Pure.of tab_ok Try.func11 rfl Try.ntmps11 rfl (allC (.agg _ f.free) (all1 (.s _))) (allC (fun _ => rfl) (all1 (fun _ => rfl))) (by first | exact .s _ | assumption | exact .tup _ (by intro x hx; simp only [List.mem_cons, List.not_mem_nil, or_false] at hx; rcases hx with rfl | rfl | rfl | rfl <;> first | exact .s _ | (simp_all; done))) fun E hE => ?_)
  have hE1 : ∀ id, 1 ≤ id → E.φ0 id = none := fun id h => hE id (by omega)
  refine Aw.sm tab_ok mb0 [] rfl rfl ?zo ?zk
  case zo =>
    repeat' apply AllP.cons
    all_goals first | exact trivial
  case zk =>
  refine Aw.seq ?_
  refine Aw.sm tab_ok mb0 [(1, [.int f.err])] rfl rfl ?zo ?zk
  case zo =>
    repeat' apply AllP.cons
    all_goals first | exact trivial | exact Nat.le_of_ble_eq_true rfl | exact check_t f hfit
  case zk =>
  refine Aw.sm tab_ok mb0 [] rfl rfl ?zo ?zk
  case zo =>
    repeat' apply AllP.cons
    all_goals first | exact trivial
  case zk =>
  refine Aw.cond rfl (fun h1 => ?_) (fun h1 => Aw.skip ?_)
  · have hno : f.ok = false := by
      cases h : f.ok with
      | false => rfl
      | true => rw [err_ok h] at h1; exact absurd h1 (by decide)
    refine Aw.sm tab_ok mb0 [] rfl rfl ?zo ?zk
    case zo =>
      repeat' apply AllP.cons
      all_goals first | exact trivial
    case zk =>
    exact Aw.ret ⟨_, .cons (.tmp _) (.cons (.tmp _) (.cons (.tmp _) (.cons (.tmp _) .nil))), by unfold Q.Fish.firstR; rw [hno, err_no hno]; rfl⟩
  have hok : f.ok = true := by
    cases h : f.ok with
    | true => rfl
    | false => rw [err_no h] at h1; exact absurd h1 (by decide)
  have hf := FishOk.of hok
  have m3 := hf.m3
  have s6 := hf.s6
  refine Aw.seq ?_
  refine Aw.sm tab_ok mb0 [(1, [.bool (wi q 0 10000)])] rfl rfl ?zo ?zk
  case zo =>
    repeat' apply AllP.cons
    all_goals first | exact trivial | exact within_t _ _ _
  case zk =>
  refine Aw.cond rfl (fun h1 => ?_) (fun h1 => Aw.skip ?_)
  · have hno : wi q 0 10000 = false := by simpa using h1
    refine Aw.sm tab_ok mb0 [] rfl rfl ?zo ?zk
    case zo =>
      repeat' apply AllP.cons
      all_goals first | exact trivial
    case zk =>
    exact Aw.ret ⟨_, .cons (.tmp _) (.cons (.tmp _) (.cons (.tmp _) (.cons (.tmp _) .nil))), by unfold Q.Fish.firstR; rw [hok, hno]; rfl⟩
  have hyes : wi q 0 10000 = true := by simpa using h1
  have hq := wi_iff.1 hyes
  have hR : f.firstR q = if (f.first q).2.2 < 0 then [.int 0, .int 0, .int 0, .int 4] else [.int (f.first q).1, .int (f.first q).2.1, .int (f.first q).2.2, .int 0] := by unfold Q.Fish.firstR; rw [hok, hyes]; rfl
  rw [hR]
  have hfirst : f.first q = firstR f q (List.range f.many) (0, 0, -1) := rfl
  generalize f.first q = R at *
  have ufc : ∀ {n}, UnderB n (.cells f.c) := .cells _ fun x hx => (f.free x hx).under
  have h3z : 0 + 3 ≤ f.c.length := Nat.le_refl _
  refine Aw.sm tab_ok mb0 [] rfl rfl ?zo ?zk
  case zo =>
    repeat' apply AllP.cons
    all_goals first | exact trivial | exact rfl | exact Nat.le_of_ble_eq_true rfl
  case zk =>
  refine Aw.sm tab_ok mb0 [] rfl rfl ?zo ?zk
  case zo =>
    repeat' apply AllP.cons
    all_goals first | exact trivial
  case zk =>
  refine Aw.seq ?_
  refine Aw.sm tab_ok mb0 [] rfl rfl ?zo ?zk
  case zo =>
    repeat' apply AllP.cons
    all_goals first | exact trivial | exact Nat.le_of_ble_eq_true rfl
  case zk =>
  refine Aw.block (Aw.rounds (ι := Nat × Int × Int × Int) 1 hE1 [(1, .int q), (9, .ref 0 0), (26, .int f.many)] (fun i => [(4, .int i.2.1), (5, .int i.2.2.1), (6, .int i.2.2.2), (27, .int i.1)]) (fun _ => [(0, .cells f.c)]) (fun i => i.1 ≤ f.many ∧ firstR f q ((List.range f.many).drop i.1) i.2 = R) (fun i => f.many - i.1) (0, 0, 0, -1)
    ⟨Nat.zero_le _, hfirst.symm⟩ ⟨⟨.refl _, .refl _, .of_eq (congrArg A.int lr.symm), trivial⟩, ⟨.refl _, .refl _, .refl _, .refl _, trivial⟩, ⟨rfl, trivial⟩, Nat.le_of_ble_eq_true rfl⟩ ⟨.s _, .ref _ _ (by decide), .s _, trivial⟩ (fun _ _ => ⟨.s _, .s _, .s _, .s _, trivial⟩) (fun _ _ => ⟨⟨by decide, ufc⟩, trivial⟩) ?_)
  rintro ⟨k, b⟩ ⟨hk, hrun⟩
  simp only at hk hrun
  refine Aw.sm tab_ok mb0 [] rfl rfl ?zo ?zk
  case zo =>
    repeat' apply AllP.cons
    all_goals first | exact trivial
  case zk =>
  refine Aw.seq (Aw.cond rfl (fun h1 => Aw.skip1 ?_) (fun h1 => Aw.exit2 ?_))
  · have hlt : k < f.many := by have := of_decide_eq_true h1; omega
    rw [range_drop hlt, firstR] at hrun
    refine Aw.seq (Aw.block ?_)
    refine Aw.sm tab_ok mb0 [] rfl rfl ?zo ?zk
    case zo =>
      repeat' apply AllP.cons
      all_goals first | exact trivial
    case zk =>
    refine Aw.sm tab_ok mb0 [] rfl rfl ?zo ?zk
    case zo =>
      repeat' apply AllP.cons
      all_goals first | exact trivial | exact Nat.le_of_ble_eq_true rfl
    case zk =>
    refine Aw.block (Aw.rounds (ι := Nat × Int × Int × Int) 1 hE1 [(1, .int q), (9, .ref 0 0), (10, .int k), (26, .int f.many), (27, .int k), (33, .int f.seasons.length)] (fun i => [(4, .int i.2.1), (5, .int i.2.2.1), (6, .int i.2.2.2), (34, .int i.1)]) (fun _ => [(0, .cells f.c)])
      (fun i => i.1 ≤ f.seasons.length ∧ firstR f q ((List.range f.many).drop (k + 1)) (firstS f q k ((List.range f.seasons.length).drop i.1) i.2) = R) (fun i => f.seasons.length - i.1) (0, b)
      ⟨Nat.zero_le _, hrun⟩ ⟨⟨.refl _, .refl _, .refl _, .refl _, .refl _, .of_eq (congrArg A.int ls.symm), trivial⟩, ⟨.refl _, .refl _, .refl _, .refl _, trivial⟩, ⟨rfl, trivial⟩, Nat.le_of_ble_eq_true rfl⟩ ⟨.s _, .ref _ _ (by decide), .s _, .s _, .s _, .s _, trivial⟩ (fun _ _ => ⟨.s _, .s _, .s _, .s _, trivial⟩) (fun _ _ => ⟨⟨by decide, ufc⟩, trivial⟩) ?_)
    rintro ⟨j, b⟩ ⟨hj, hrun⟩
    simp only at hj hrun
    refine Aw.sm tab_ok mb0 [] rfl rfl ?zo ?zk
    case zo =>
      repeat' apply AllP.cons
      all_goals first | exact trivial
    case zk =>
    refine Aw.seq (Aw.cond rfl (fun h2 => Aw.skip1 ?_) (fun h2 => Aw.exit2 ?_))
    · have hjl : j < f.seasons.length := by have := of_decide_eq_true h2; omega
      rw [range_drop hjl, firstS] at hrun
      refine Aw.seq (Aw.block ?_)
      refine Aw.sm tab_ok mb0 [] rfl rfl ?zo ?zk
      case zo =>
        repeat' apply AllP.cons
        all_goals first | exact trivial
      case zk =>
      refine Aw.sm tab_ok mb0 [(0, [.agg f.c]), (4, [.int (f.breakY k j q)])] rfl rfl ?zo ?zk
      case zo =>
        repeat' apply AllP.cons
        all_goals first | exact trivial | exact rfl | exact Nat.le_of_ble_eq_true rfl | exact breaks_t f hf k j q hlt hjl (by omega)
      case zk =>
      generalize f.breakY k j q = y at *
      refine Aw.sm tab_ok mb0 [] rfl rfl ?zo ?zk
      case zo =>
        repeat' apply AllP.cons
        all_goals first | exact trivial | exact id | exact fun _ => rfl | exact fun _ _ => rfl | exact fun h1 h2 => gq_c h1 h2
      case zk =>
      have hc : cond (decide (y ≥ 0)) (cond (decide (b.2.2 < 0)) true (decide (y < b.2.2))) false = decide (y ≥ 0 ∧ (b.2.2 < 0 ∨ y < b.2.2)) := by
        rw [Bool.eq_iff_iff]; simp only [c_and, c_or, Bool.and_eq_true, Bool.or_eq_true, decide_eq_true_eq]
      refine Aw.cond rfl (fun h3 => ?_) (fun h3 => Aw.skip ?_)
      · have h3' : y ≥ 0 ∧ (b.2.2 < 0 ∨ y < b.2.2) := of_decide_eq_true (hc.symm.trans h3)
        rw [if_pos h3'] at hrun
        refine Aw.em tab_ok mb0 [] rfl rfl ?zo ?zk
        case zo =>
          repeat' apply AllP.cons
          all_goals first | exact trivial
        case zk =>
        refine Aw.em tab_ok mb0 [] rfl rfl ?zo ?zk
        case zo =>
          repeat' apply AllP.cons
          all_goals first | exact trivial | exact inrk j (by omega)
        case zk =>
        exact ⟨(j + 1, (k : Int), (j : Int), y), ⟨hjl, hrun⟩, by show f.seasons.length - (j + 1) < f.seasons.length - j; omega, ⟨.refl _, .refl _, .refl _, .refl _, .refl _, .refl _, trivial⟩, ⟨.refl _, .refl _, .refl _, .refl _, trivial⟩, ⟨rfl, trivial⟩, Nat.le_of_ble_eq_true rfl⟩
      · have h3' : ¬ (y ≥ 0 ∧ (b.2.2 < 0 ∨ y < b.2.2)) := of_decide_eq_false (hc.symm.trans h3)
        rw [if_neg h3'] at hrun
        refine Aw.em tab_ok mb0 [] rfl rfl ?zo ?zk
        case zo =>
          repeat' apply AllP.cons
          all_goals first | exact trivial | exact inrk j (by omega)
        case zk =>
        exact ⟨(j + 1, b), ⟨hjl, hrun⟩, by show f.seasons.length - (j + 1) < f.seasons.length - j; omega, ⟨.refl _, .refl _, .refl _, .refl _, .refl _, .refl _, trivial⟩, ⟨.refl _, .refl _, .refl _, .refl _, trivial⟩, ⟨rfl, trivial⟩, Nat.le_of_ble_eq_true rfl⟩
    · have hle : j = f.seasons.length := by have := of_decide_eq_false h2; omega
      subst hle
      rw [range_end, firstS] at hrun
      refine Aw.em tab_ok mb0 [] rfl rfl ?zo ?zk
      case zo =>
        repeat' apply AllP.cons
        all_goals first | exact trivial | exact inrk k (by omega)
      case zk =>
      exact ⟨(k + 1, b), ⟨hlt, hrun⟩, by show f.many - (k + 1) < f.many - k; omega, ⟨.refl _, .refl _, .refl _, trivial⟩, ⟨.refl _, .refl _, .refl _, .refl _, trivial⟩, ⟨rfl, trivial⟩, Nat.le_of_ble_eq_true rfl⟩
  · have hle : k = f.many := by have := of_decide_eq_false h1; omega
    subst hle
    rw [range_end, firstR] at hrun
    subst hrun
    refine Aw.seq ?_
    refine Aw.sm tab_ok mb0 [] rfl rfl ?zo ?zk
    case zo =>
      repeat' apply AllP.cons
      all_goals first | exact trivial
    case zk =>
    refine Aw.cond rfl (fun h3 => ?_) (fun h3 => Aw.skip ?_)
    · have h3' : b.2.2 < 0 := of_decide_eq_true h3
      rw [if_pos h3']
      refine Aw.sm tab_ok mb0 [] rfl rfl ?zo ?zk
      case zo =>
        repeat' apply AllP.cons
        all_goals first | exact trivial
      case zk =>
      exact Aw.ret ⟨_, .cons (.tmp _) (.cons (.tmp _) (.cons (.tmp _) (.cons (.tmp _) .nil))), rfl⟩
    · have h3' : ¬ b.2.2 < 0 := of_decide_eq_false h3
      rw [if_neg h3']
      refine Aw.sm tab_ok mb0 [] rfl rfl ?zo ?zk
      case zo =>
        repeat' apply AllP.cons
        all_goals first | exact trivial
      case zk =>
      exact Aw.ret ⟨_, .cons (.tmp _) (.cons (.tmp _) (.cons (.tmp _) (.cons (.tmp _) .nil))), rfl⟩
end Go.Proofs.Ytlgnoifnfnpjeaa

namespace Go.Proofs.Ytlgnoifnfnpjeaa
open Go Go.AL Go.AL.Q Go.AL.Sh
def cwP (n : Int) : Bool := !wi n 0 100000
theorem cw_t (n : Int) : Ans Try.prog 32 [.int n] (.bool (cwP n)) := by
  refine told Try.func32 rfl rfl (Pure.of tab_ok Try.func32 rfl Try.ntmps32 rfl (all1 (.s _)) (all1 (fun _ => rfl)) (by first | exact .s _ | assumption | exact .tup _ (by intro x hx; simp only [List.mem_cons, List.not_mem_nil, or_false] at hx; rcases hx with rfl | rfl | rfl | rfl <;> first | exact .s _ | (simp_all; done))) fun E hE => ?_)
  refine Aw.sm tab_ok mb0 [] rfl rfl ?zo ?zk
  case zo =>
    repeat' apply AllP.cons
    all_goals first | exact trivial
  case zk =>
  refine Aw.sm tab_ok mb0 [(1, [.bool (wi n 0 100000)])] rfl rfl ?zo ?zk
  case zo =>
    repeat' apply AllP.cons
    all_goals first | exact trivial | exact withinT_t _ _ _
  case zk =>
  exact Aw.ret ⟨_, .cons (.tmp _) .nil, rfl⟩
theorem indexW_t (b : Bool) (c : Cap) (l : List Int) (hl : (l.length : Int) ≤ 9223372036854775806) (hc : ∀ u, spareOf (.sl b c (ints l)) u = none) : Ans Try.prog 40 [.sl b c (ints l), .fn (.func 32) [] []] (.int (idxF cwP 0 l)) := by
  have hfn : Free (.fn (.func 32) [] []) := .fn _ _ _ allN allN
  generalize hR : idxF cwP 0 l = R
  refine told Try.func40 rfl rfl (Pure.of tab_ok Try.func40 rfl Try.ntmps40 rfl (allC (free_ints _ _ _) (all1 hfn)) (allC hc (all1 fun _ => rfl)) (.s _) fun E hE => ?_)
  refine Aw.keep (n := 0) (cst := [(1, .fn (.func 32) [] [])]) (v := [(0, .sl b .any (ints l))]) (Hl := []) hE ⟨hfn.under, trivial⟩ ⟨(free_ints _ _ _).under, trivial⟩ trivial ⟨⟨.refl _, trivial⟩, ⟨.any _ _ _, trivial⟩, trivial, Nat.le_refl _⟩ ?_
  have lz := ints_lenI l
  refine Aw.sm tab_ok mb0 [] rfl rfl ?zo ?zk
  case zo =>
    repeat' apply AllP.cons
    all_goals first | exact trivial
  case zk =>
  refine Aw.seq ?_
  refine Aw.sm tab_ok mb0 [] rfl rfl ?zo ?zk
  case zo =>
    repeat' apply AllP.cons
    all_goals first | exact trivial
  case zk =>
  refine Aw.block (Aw.rounds 0 hE [(0, .sl b .any (ints l)), (1, .fn (.func 32) [] []), (7, .int (ints l).length)] (fun k : Nat => [(8, .int k)]) (fun _ => []) (fun k => k ≤ l.length ∧ idxF cwP k (l.drop k) = R) (fun k => l.length - k) 0
    ⟨Nat.zero_le _, hR⟩ ⟨⟨.refl _, .refl _, .refl _, trivial⟩, ⟨.refl _, trivial⟩, trivial, Nat.le_refl _⟩ ⟨(free_ints _ _ _).under, hfn.under, .s _, trivial⟩ (fun _ _ => ⟨.s _, trivial⟩) (fun _ _ => trivial) fun k hk => ?_)
  obtain ⟨hk, hrun⟩ := hk
  refine Aw.sm tab_ok mb0 [] rfl rfl ?zo ?zk
  case zo =>
    repeat' apply AllP.cons
    all_goals first | exact trivial
  case zk =>
  refine Aw.seq (Aw.cond rfl (fun h1 => Aw.skip1 ?_) (fun h1 => Aw.exit2 ?_))
  · have hlt : k < l.length := by have := of_decide_eq_true h1; omega
    rw [List.drop_eq_getElem_cons hlt, idxF] at hrun
    refine Aw.seq (Aw.block ?_)
    refine Aw.sm tab_ok mb0 [] rfl rfl ?zo ?zk
    case zo =>
      repeat' apply AllP.cons
      all_goals first | exact trivial
    case zk =>
    refine Aw.sm tab_ok mb0 [(3, [.int l[k]]), (5, [.bool (cwP l[k])])] rfl rfl ?zo ?zk
    case zo =>
      repeat' apply AllP.cons
      all_goals first | exact trivial | exact rfl | exact Nat.le_of_ble_eq_true rfl | exact Int.natCast_nonneg _ | exact ints_get hlt | exact cw_t _
    case zk =>
    refine Aw.cond rfl (fun h2 => ?_) (fun h2 => Aw.skip ?_)
    · have h2' : (cwP l[k]) = true := h2
      rw [if_pos h2'] at hrun
      refine Aw.sm tab_ok mb0 [] rfl rfl ?zo ?zk
      case zo =>
        repeat' apply AllP.cons
        all_goals first | exact trivial
      case zk =>
      exact Aw.ret ⟨_, .cons (.tmp _) .nil, congrArg A.int hrun⟩
    · have h2' : (cwP l[k]) = false := h2
      rw [h2'] at hrun
      refine Aw.em tab_ok mb0 [] rfl rfl ?zo ?zk
      case zo =>
        repeat' apply AllP.cons
        all_goals first | exact trivial | exact inrk k (by omega)
      case zk =>
      exact ⟨k + 1, ⟨hlt, hrun⟩, by omega, ⟨.refl _, .refl _, .refl _, trivial⟩, ⟨.refl _, trivial⟩, trivial, Nat.zero_le _⟩
  · have hle : k = l.length := by have := of_decide_eq_false h1; omega
    subst hle
    rw [List.drop_length, idxF] at hrun
    refine Aw.sm tab_ok mb0 [] rfl rfl ?zo ?zk
    case zo =>
      repeat' apply AllP.cons
      all_goals first | exact trivial
    case zk =>
    exact Aw.ret ⟨_, .cons (.tmp _) .nil, congrArg A.int hrun⟩
theorem containsW_t (b : Bool) (c : Cap) (l : List Int) (hl : (l.length : Int) ≤ 9223372036854775806) (hc : ∀ u, spareOf (.sl b c (ints l)) u = none) : Ans Try.prog 31 [.sl b c (ints l), .fn (.func 32) [] []] (.bool (l.any cwP)) := by
  have hfn : Free (.fn (.func 32) [] []) := .fn _ _ _ allN allN
  rw [← idxF_any l 0]
  refine told Try.func31 rfl rfl (Pure.of tab_ok Try.func31 rfl Try.ntmps31 rfl (allC (free_ints _ _ _) (all1 hfn)) (allC hc (all1 fun _ => rfl)) (.s _) fun E hE => ?_)
  refine Aw.keep (n := 0) (cst := [(1, .fn (.func 32) [] [])]) (v := [(0, .sl b .any (ints l))]) (Hl := []) hE ⟨hfn.under, trivial⟩ ⟨(free_ints _ _ _).under, trivial⟩ trivial ⟨⟨.refl _, trivial⟩, ⟨.any _ _ _, trivial⟩, trivial, Nat.le_refl _⟩ ?_
  refine Aw.sm tab_ok mb0 [] rfl rfl ?zo ?zk
  case zo =>
    repeat' apply AllP.cons
    all_goals first | exact trivial
  case zk =>
  refine Aw.sm tab_ok mb0 [(2, [.int (idxF cwP 0 l)])] rfl rfl ?zo ?zk
  case zo =>
    repeat' apply AllP.cons
    all_goals first | exact trivial | exact indexW_t b .any l hl (fun _ => rfl)
  case zk =>
  exact Aw.ret ⟨_, .cons (.tmp _) .nil, rfl⟩
theorem sumT_t (b : Bool) (l : List Int) (hl : (l.length : Int) ≤ 9223372036854775806) (h : ∀ k, k ≤ l.length → inR (l.take k).sum) : Ans Try.prog 20 [.sl b .any (ints l)] (.int l.sum) := by
  have ul : ∀ {n : Nat}, Under n (A.sl b .any (ints l)) := (free_ints _ _ _).under
  have ll := ints_lenI l
  refine told Try.func20 rfl rfl (Pure.of tab_ok Try.func20 rfl Try.ntmps20 rfl (all1 (free_ints _ _ _)) (all1 (fun _ => rfl)) (by first | exact .s _ | assumption | exact .tup _ (by intro x hx; simp only [List.mem_cons, List.not_mem_nil, or_false] at hx; rcases hx with rfl | rfl | rfl | rfl <;> first | exact .s _ | (simp_all; done))) fun E hE => ?_)
  refine Aw.sm tab_ok mb0 [] rfl rfl ?zo ?zk
  case zo =>
    repeat' apply AllP.cons
    all_goals first | exact trivial
  case zk =>
  refine Aw.seq ?_
  refine Aw.sm tab_ok mb0 [] rfl rfl ?zo ?zk
  case zo =>
    repeat' apply AllP.cons
    all_goals first | exact trivial
  case zk =>
  refine Aw.block (Aw.rounds 0 hE [(5, .sl b .any (ints l)), (6, .int l.length)] (fun k : Nat => [(2, .int (l.take k).sum), (7, .int k)]) (fun k => []) (fun k => k ≤ l.length) (fun k => l.length - k) 0 ?zg ⟨?zc, ?zv, ?zh, Nat.le_of_ble_eq_true rfl⟩ ?zu (fun k zhk => ?zw) (fun k zhk => ?zx) fun k hk => ?zr)
  case zg =>
    (repeat' (first | exact Nat.zero_le _))
  case zc =>
    (repeat' (first | (refine And.intro ?_ ?_) | exact trivial | exact A.Le.refl _ | exact .of_eq (congrArg A.int ll.symm)))
  case zv =>
    (repeat' (first | (refine And.intro ?_ ?_) | exact trivial | exact A.Le.refl _))
  case zh =>
    (repeat' (first | exact trivial))
  case zu =>
    (repeat' (first | exact trivial | exact Under.s _ | exact (free_ints _ _ _).under | (refine And.intro ?_ ?_)))
  case zw =>
    (repeat' (first | exact trivial | exact Under.s _ | (refine And.intro ?_ ?_)))
  case zx =>
    (repeat' (first | exact trivial))
  case zr =>
  refine Aw.sm tab_ok mb0 [] rfl rfl ?zo ?zk
  case zo =>
    repeat' apply AllP.cons
    all_goals first | exact trivial
  case zk =>
  refine Aw.seq (Aw.cond rfl (fun h1 => Aw.skip1 ?_) (fun h1 => Aw.exit2 ?_))
  · have hlt : k < l.length := by have := of_decide_eq_true h1; omega
    have ht := sum_take_succ hlt
    refine Aw.seq (Aw.block ?_)
    refine Aw.sm tab_ok mb0 [(0, [.int l[k]])] rfl rfl ?zo ?zk
    case zo =>
      repeat' apply AllP.cons
      all_goals first | exact trivial | exact rfl | exact Nat.le_of_ble_eq_true rfl | exact Int.natCast_nonneg _ | exact ints_get hlt
    case zk =>
    refine Aw.em tab_ok mb0 [] rfl rfl ?zo ?zk
    case zo =>
      repeat' apply AllP.cons
      all_goals first | exact trivial | exact ht ▸ h (k + 1) hlt
    case zk =>
    refine Aw.em tab_ok mb0 [] rfl rfl ?zo ?zk
    case zo =>
      repeat' apply AllP.cons
      all_goals first | exact trivial | exact inrk k (by omega)
    case zk =>
    refine ⟨k + 1, ?zg, ?zm, ⟨?zc, ?zv, ?zh, Nat.le_of_ble_eq_true rfl⟩⟩
    case zg =>
      (repeat' (first | assumption))
    case zm =>
      (repeat' (first | omega))
    case zc =>
      (repeat' (first | (refine And.intro ?_ ?_) | exact trivial | exact A.Le.refl _))
    case zv =>
      (repeat' (first | (refine And.intro ?_ ?_) | exact trivial | exact A.Le.refl _ | exact .of_eq (by rw [ht]; rfl)))
    case zh =>
      (repeat' (first | exact trivial))
  have hle : k = l.length := by have := of_decide_eq_false h1; omega
  subst hle
  refine Aw.sm tab_ok mb0 [] rfl rfl ?zo ?zk
  case zo =>
    repeat' apply AllP.cons
    all_goals first | exact trivial
  case zk =>
  exact Aw.ret ⟨_, .cons (.tmp _) .nil, by rw [List.take_length]; rfl⟩
theorem sumTM_s (l : List Int) (hl : l.length ≤ 1000) (h : ∀ k, k ≤ l.length → inR (l.take k).sum) : SCall Try.prog 20 [.ms 0 0 l.length] (ofH [(0, iB l)]) 1 (fun v H' _ => v = .int l.sum ∧ H' = ofH [(0, iB l)]) := by
  have ums : Under 1 (A.ms 0 0 l.length) := .ms _ _ _ (by decide)
  refine SCall.drop (post := fun v H' _ => v = .int l.sum ∧ HasH H' [(0, iB l)]) (SCall.of_bodyN tab_ok Try.func20 rfl Try.ntmps20 (Nat.le_of_ble_eq_true rfl) (all1 fun _ => rfl) fun E hE => ?_)
    (fun v H' c' h => ⟨_, h.2.ofH, h.1, rfl⟩)
  refine Aw.sm tab_ok mb0 [] rfl rfl ?zo ?zk
  case zo =>
    repeat' apply AllP.cons
    all_goals first | exact trivial
  case zk =>
  refine Aw.seq ?_
  refine Aw.sm tab_ok mb0 [] rfl rfl ?zo ?zk
  case zo =>
    repeat' apply AllP.cons
    all_goals first | exact trivial
  case zk =>
  refine Aw.block (Aw.rounds 1 hE [(5, .ms 0 0 l.length), (6, .int l.length)] (fun k : Nat => [(2, .int (l.take k).sum), (7, .int k)]) (fun k => [(0, iB l)]) (fun k => k ≤ l.length) (fun k => l.length - k) 0 ?zg ⟨?zc, ?zv, ?zh, Nat.le_of_ble_eq_true rfl⟩ ?zu (fun k zhk => ?zw) (fun k zhk => ?zx) fun k hk => ?zr)
  case zg =>
    (repeat' (first | exact Nat.zero_le _))
  case zc =>
    (repeat' (first | (refine And.intro ?_ ?_) | exact trivial | exact A.Le.refl _))
  case zv =>
    (repeat' (first | (refine And.intro ?_ ?_) | exact trivial | exact A.Le.refl _))
  case zh =>
    (repeat' (first | (refine And.intro ?_ ?_) | exact trivial | exact rfl))
  case zu =>
    (repeat' (first | exact trivial | exact Under.s _ | assumption | (refine And.intro ?_ ?_)))
  case zw =>
    (repeat' (first | exact trivial | exact Under.s _ | (refine And.intro ?_ ?_)))
  case zx =>
    (repeat' (first | exact trivial | exact Nat.le_of_ble_eq_true rfl | exact iB_under _ | (refine And.intro ?_ ?_)))
  case zr =>
  refine Aw.sm tab_ok mb0 [] rfl rfl ?zo ?zk
  case zo =>
    repeat' apply AllP.cons
    all_goals first | exact trivial
  case zk =>
  refine Aw.seq (Aw.cond rfl (fun h1 => Aw.skip1 ?_) (fun h1 => Aw.exit2 ?_))
  · have hlt : k < l.length := by have := of_decide_eq_true h1; omega
    have ht := sum_take_succ hlt
    have ha := iB_at hlt
    have hv : l.getD k 0 = l[k] := by simp [List.getD_eq_getElem?_getD, hlt]
    rw [hv] at ha
    refine Aw.seq (Aw.block ?_)
    refine Aw.sm tab_ok mb0 [(1, [.int l[k]])] rfl rfl ?zo ?zk
    case zo =>
      repeat' apply AllP.cons
      all_goals first | exact trivial | exact Int.natCast_nonneg _ | exact ha | exact (show (k : Int) < (l.length : Int) by omega) | exact (show 0 + Int.toNat (k : Int) * 1 < (l.map A.int).length by rw [List.length_map]; omega)
    case zk =>
    refine Aw.em tab_ok mb0 [] rfl rfl ?zo ?zk
    case zo =>
      repeat' apply AllP.cons
      all_goals first | exact trivial | exact ht ▸ h (k + 1) hlt
    case zk =>
    refine Aw.em tab_ok mb0 [] rfl rfl ?zo ?zk
    case zo =>
      repeat' apply AllP.cons
      all_goals first | exact trivial | exact inrk k (by omega)
    case zk =>
    refine ⟨k + 1, ?zg, ?zm, ⟨?zc, ?zv, ?zh, Nat.le_of_ble_eq_true rfl⟩⟩
    case zg =>
      (repeat' (first | assumption))
    case zm =>
      (repeat' (first | omega))
    case zc =>
      (repeat' (first | (refine And.intro ?_ ?_) | exact trivial | exact A.Le.refl _))
    case zv =>
      (repeat' (first | (refine And.intro ?_ ?_) | exact trivial | exact A.Le.refl _ | exact .of_eq (by rw [ht]; rfl)))
    case zh =>
      (repeat' (first | (refine And.intro ?_ ?_) | exact trivial | exact rfl))
  have hle : k = l.length := by have := of_decide_eq_false h1; omega
  subst hle
  refine Aw.sm tab_ok mb0 [] rfl rfl ?zo ?zk
  case zo =>
    repeat' apply AllP.cons
    all_goals first | exact trivial
  case zk =>
  exact Aw.ret ⟨_, .cons (.tmp _) .nil, by rw [List.take_length]; rfl, rfl, trivial⟩
theorem sumB_t (b : Bool) (l : List Int) (hl : (l.length : Int) ≤ 9223372036854775806) (h : ∀ k, k ≤ l.length → inR (l.take k).sum) : Ans Try.prog 10 [.sl b .any (ints l)] (.int l.sum) := by
  have ul : ∀ {n : Nat}, Under n (A.sl b .any (ints l)) := (free_ints _ _ _).under
  have ll := ints_lenI l
  refine told Try.func10 rfl rfl (Pure.of tab_ok Try.func10 rfl Try.ntmps10 rfl (all1 (free_ints _ _ _)) (all1 (fun _ => rfl)) (by first | exact .s _ | assumption | exact .tup _ (by intro x hx; simp only [List.mem_cons, List.not_mem_nil, or_false] at hx; rcases hx with rfl | rfl | rfl | rfl <;> first | exact .s _ | (simp_all; done))) fun E hE => ?_)
  refine Aw.sm tab_ok mb0 [] rfl rfl ?zo ?zk
  case zo =>
    repeat' apply AllP.cons
    all_goals first | exact trivial
  case zk =>
  refine Aw.sm tab_ok mb0 [] rfl rfl ?zo ?zk
  case zo =>
    repeat' apply AllP.cons
    all_goals first | exact trivial
  case zk =>
  refine Aw.seq ?_
  refine Aw.sm tab_ok mb0 [] rfl rfl ?zo ?zk
  case zo =>
    repeat' apply AllP.cons
    all_goals first | exact trivial
  case zk =>
  refine Aw.block (Aw.rounds 0 hE [(0, .sl b .any (ints l))] (fun k : Nat => [(3, .int (l.take k).sum), (4, .int k)]) (fun k => []) (fun k => k ≤ l.length) (fun k => l.length - k) 0 ?zg ⟨?zc, ?zv, ?zh, Nat.le_of_ble_eq_true rfl⟩ ?zu (fun k zhk => ?zw) (fun k zhk => ?zx) fun k hk => ?zr)
  case zg =>
    (repeat' (first | exact Nat.zero_le _))
  case zc =>
    (repeat' (first | (refine And.intro ?_ ?_) | exact trivial | exact A.Le.refl _))
  case zv =>
    (repeat' (first | (refine And.intro ?_ ?_) | exact trivial | exact A.Le.refl _))
  case zh =>
    (repeat' (first | exact trivial))
  case zu =>
    (repeat' (first | exact trivial | exact (free_ints _ _ _).under | (refine And.intro ?_ ?_)))
  case zw =>
    (repeat' (first | exact trivial | exact Under.s _ | (refine And.intro ?_ ?_)))
  case zx =>
    (repeat' (first | exact trivial))
  case zr =>
  refine Aw.seq ?_
  refine Aw.sm tab_ok mb0 [] rfl rfl ?zo ?zk
  case zo =>
    repeat' apply AllP.cons
    all_goals first | exact trivial
  case zk =>
  refine Aw.cond rfl (fun h1 => Aw.skip ?_) (fun h1 => ?_)
  · have hlt : k < l.length := by have := of_decide_eq_true h1; omega
    have ht := sum_take_succ hlt
    refine Aw.seq (Aw.block ?_)
    refine Aw.em tab_ok mb0 [(3, [.int l[k]])] rfl rfl ?zo ?zk
    case zo =>
      repeat' apply AllP.cons
      all_goals first | exact trivial | exact rfl | exact Nat.le_of_ble_eq_true rfl | exact Int.natCast_nonneg _ | exact ints_get hlt | exact ht ▸ h (k + 1) hlt
    case zk =>
    refine Aw.em tab_ok mb0 [] rfl rfl ?zo ?zk
    case zo =>
      repeat' apply AllP.cons
      all_goals first | exact trivial | exact inrk k (by omega)
    case zk =>
    refine ⟨k + 1, ?zg, ?zm, ⟨?zc, ?zv, ?zh, Nat.le_of_ble_eq_true rfl⟩⟩
    case zg =>
      (repeat' (first | assumption))
    case zm =>
      (repeat' (first | omega))
    case zc =>
      (repeat' (first | (refine And.intro ?_ ?_) | exact trivial | exact A.Le.refl _))
    case zv =>
      (repeat' (first | (refine And.intro ?_ ?_) | exact trivial | exact A.Le.refl _ | exact .of_eq (by rw [ht]; rfl)))
    case zh =>
      (repeat' (first | exact trivial))
  have hle : k = l.length := by have := of_decide_eq_false h1; omega
  subst hle
  refine Aw.exit2 ?_
  refine Aw.sm tab_ok mb0 [] rfl rfl ?zo ?zk
  case zo =>
    repeat' apply AllP.cons
    all_goals first | exact trivial
  case zk =>
  exact Aw.ret ⟨_, .cons (.tmp _) .nil, by rw [List.take_length]; rfl⟩
def clC (b : Bool) (q : Int) (r : List Int) : List A := [.int q, .sl b .any (ints r)]
theorem clC_free (b : Bool) (q : Int) (r : List Int) : ∀ x ∈ clC b q r, Free x := allC (.s _) (all1 (free_ints _ _ _))
theorem sum_gT {q : Int} {r : List Int} (h : Cl q r) : ∀ k, k ≤ r.length → inR (r.take k).sum := sum_g r 10000 (by have := h.n8; omega) (by decide) h.r
theorem checkC_t (b : Bool) (q : Int) (r : List Int) (h : Cl q r) : Ans Try.prog 19 [.agg (clC b q r)] (.int (if r.sum < q then 100 else 0)) := by
  have hlen := h.n8
  have hl := ints_lenI r
  have hw1 : wi (r.length : Int) 1 8 = true := wi_iff.2 ⟨by have := h.n1; omega, by omega⟩
  have hw2 : r.any cwP = false := List.any_eq_false.2 fun x hx => by
    have := h.r x hx
    unfold cwP
    rw [wi_iff.2 ⟨this.1, by omega⟩]; decide
  have hc := containsW_t b .any r (by omega) (fun _ => rfl)
  have hs := sumT_t b r (by omega) (sum_gT h)
  rw [hw2] at hc
  have hq := h.q
  refine told Try.func19 rfl rfl (Pure.of tab_ok Try.func19 rfl Try.ntmps19 rfl (all1 (.agg _ (clC_free b q r))) (all1 (fun _ => rfl)) (by first | exact .s _ | assumption | exact .tup _ (by intro x hx; simp only [List.mem_cons, List.not_mem_nil, or_false] at hx; rcases hx with rfl | rfl | rfl | rfl <;> first | exact .s _ | (simp_all; done))) fun E hE => ?_)
  refine Aw.sm tab_ok mb0 [] rfl rfl ?zo ?zk
  case zo =>
    repeat' apply AllP.cons
    all_goals first | exact trivial
  case zk =>
  refine Aw.seq ?_
  refine Aw.sd tab_ok mixed mb0 [(3, [.bool (wi ((ints r).length : Int) 1 8)]), (8, [.bool false]), (15, [.int r.sum]), (16, [.bool (wi q 0 r.sum)])] rfl (by kernel_rfl) rfl rfl ?zo ?zk
  case zo =>
    repeat' apply AllP.cons
    all_goals first | exact trivial | exact id | exact fun _ => rfl | exact Nat.le_of_ble_eq_true rfl | exact fun _ => Nat.le_of_ble_eq_true rfl | exact withinT_t _ _ _ | exact (withinT_t _ _ _).un | exact gq_f | exact fun _ => hc | exact fun _ => hs
  case zk =>
  refine Aw.cond rfl (fun h1 => ?_) (fun h1 => Aw.skip ?_)
  all_goals
    have h1 := h1
  · have h1 : cond (cond (!wi ((ints r).length : Int) 1 8) true false) true (!wi q 0 r.sum) = true := h1
    rw [hl, hw1] at h1
    have h1 : wi q 0 r.sum = false := by simpa using h1
    have hn : r.sum < q := by
      rcases Int.lt_or_le r.sum q with h2 | h2
      · exact h2
      · rw [wi_iff.2 ⟨hq.1, h2⟩] at h1; cases h1
    rw [if_pos hn]
    refine Aw.sm tab_ok mb0 [] rfl rfl ?zo ?zk
    case zo =>
      repeat' apply AllP.cons
      all_goals first | exact trivial
    case zk =>
    exact Aw.ret ⟨_, .cons (.tmp _) .nil, rfl⟩
  · have h1 : cond (cond (!wi ((ints r).length : Int) 1 8) true false) true (!wi q 0 r.sum) = false := h1
    rw [hl, hw1] at h1
    have h1 : wi q 0 r.sum = true := by simpa using h1
    have := wi_iff.1 h1
    rw [if_neg (by omega)]
    refine Aw.sm tab_ok mb0 [] rfl rfl ?zo ?zk
    case zo =>
      repeat' apply AllP.cons
      all_goals first | exact trivial
    case zk =>
    exact Aw.ret ⟨_, .cons (.tmp _) .nil, rfl⟩
theorem gets_t (b : Bool) (q : Int) (r : List Int) (k : Nat) (hk : k < r.length) (lv : Int) : Ans Try.prog 33 [.agg (clC b q r), .int k, .int lv] (.int (min (r.getD k 0) lv)) := by
  have hg := ints_getD hk
  refine told Try.func33 rfl rfl (Pure.of tab_ok Try.func33 rfl Try.ntmps33 rfl (allC (.agg _ (clC_free b q r)) (allC (.s _) (all1 (.s _)))) (allC (fun _ => rfl) (allC (fun _ => rfl) (all1 (fun _ => rfl)))) (by first | exact .s _ | assumption | exact .tup _ (by intro x hx; simp only [List.mem_cons, List.not_mem_nil, or_false] at hx; rcases hx with rfl | rfl | rfl | rfl <;> first | exact .s _ | (simp_all; done))) fun E hE => ?_)
  refine Aw.sm tab_ok mb0 [] rfl rfl ?zo ?zk
  case zo =>
    repeat' apply AllP.cons
    all_goals first | exact trivial
  case zk =>
  refine Aw.sm tab_ok mb0 [(4, [.int (r.getD k 0)])] rfl rfl ?zo ?zk
  case zo =>
    repeat' apply AllP.cons
    all_goals first | exact trivial | exact rfl | exact Nat.le_of_ble_eq_true rfl | exact Int.natCast_nonneg _ | exact hg
  case zk =>
  exact Aw.ret ⟨_, .cons (.tmp _) .nil, congrArg A.int (minI _ _)⟩
end Go.Proofs.Ytlgnoifnfnpjeaa

namespace Go.Proofs.Ytlgnoifnfnpjeaa
open Go Go.AL Go.AL.Q Go.AL.Sh
theorem atL_take {r : List Int} {lv : Int} {k : Nat} (h : k < r.length) : (atL r lv).take (k + 1) = (atL r lv).take k ++ [min (r.getD k 0) lv] := by
  have h' : k < (atL r lv).length := by rw [atL_len]; exact h
  rw [List.take_succ_eq_append_getElem h']
  simp [atL, List.getD_eq_getElem?_getD, h]
theorem at_t (b : Bool) (q : Int) (r : List Int) (h : Cl q r) (lv : Int) : Ans Try.prog 21 [.agg (clC b q r), .int lv] (.sl false .any (ints (atL r lv))) := by
  have h1 := h.n1
  have h8 := h.n8
  have ll := ints_lenI r
  have hfr : Free (.sl false .any (ints (atL r lv))) := free_ints _ _ _
  have upc : ∀ {n : Nat}, Under n (A.pt (clC b q r)) := (Free.pt _ (clC_free b q r)).under
  have ufn : ∀ {n : Nat}, Under n (A.fn (.func 33) [] []) := (Free.fn _ _ _ allN allN).under
  have hS := fun k => atL_take (r := r) (lv := lv) (k := k)
  have hal := atL_len r lv
  refine told Try.func21 rfl rfl (Pure.of tab_ok Try.func21 rfl Try.ntmps21 rfl (allC (.agg _ (clC_free b q r)) (all1 (.s _))) (allC (fun _ => rfl) (all1 (fun _ => rfl))) (by first | exact .s _ | assumption | exact .tup _ (by intro x hx; simp only [List.mem_cons, List.not_mem_nil, or_false] at hx; rcases hx with rfl | rfl | rfl | rfl <;> first | exact .s _ | (simp_all; done))) fun E hE => ?_)
  refine Aw.sm tab_ok mb0 [] rfl rfl ?zo ?zk
  case zo =>
    repeat' apply AllP.cons
    all_goals first | exact trivial
  case zk =>
  refine Aw.sm tab_ok mb0 [] rfl rfl ?zo ?zk
  case zo =>
    repeat' apply AllP.cons
    all_goals first | exact trivial
  case zk =>
  refine Aw.sm tab_ok mb0 [] rfl rfl ?zo ?zk
  case zo =>
    repeat' apply AllP.cons
    all_goals first | exact trivial
  case zk =>
  refine Aw.seq ?_
  refine Aw.sm tab_ok mb0 [] rfl rfl ?zo ?zk
  case zo =>
    repeat' apply AllP.cons
    all_goals first | exact trivial | exact Nat.le_of_ble_eq_true rfl
  case zk =>
  refine Aw.block (Aw.rounds 0 hE [(1, .int lv), (2, .pt (clC b q r)), (5, .fn (.func 33) [] []), (11, .int r.length)] (fun k : Nat => [(6, grL 3 ((atL r lv).take k)), (12, .int k)]) (fun k => []) (fun k => k ≤ r.length) (fun k => r.length - k) 0 ?zg ⟨?zc, ?zv, ?zh, Nat.le_of_ble_eq_true rfl⟩ ?zu (fun k zhk => ?zw) (fun k zhk => ?zx) fun k hk => ?zr)
  case zg =>
    (repeat' (first | exact Nat.zero_le _))
  case zc =>
    (repeat' (first | (refine And.intro ?_ ?_) | exact trivial | exact A.Le.refl _ | exact .of_eq (congrArg A.int ll.symm)))
  case zv =>
    (repeat' (first | (refine And.intro ?_ ?_) | exact trivial | exact A.Le.refl _))
  case zh =>
    (repeat' (first | exact trivial))
  case zu =>
    (repeat' (first | exact trivial | exact Under.s _ | exact upc | exact ufn | (refine And.intro ?_ ?_)))
  case zw =>
    (repeat' (first | exact trivial | exact Under.s _ | exact grL_under _ | (refine And.intro ?_ ?_)))
  case zx =>
    (repeat' (first | exact trivial))
  case zr =>
  refine Aw.sm tab_ok mb0 [] rfl rfl ?zo ?zk
  case zo =>
    repeat' apply AllP.cons
    all_goals first | exact trivial
  case zk =>
  refine Aw.seq (Aw.cond rfl (fun h1 => Aw.skip1 ?_) (fun h1 => Aw.exit2 ?_))
  · have hlt : k < r.length := by have := of_decide_eq_true h1; omega
    have hSk := hS k hlt
    have hg := gets_t b q r k hlt lv
    have hlk : ((atL r lv).take k).length = k := by rw [List.length_take]; omega
    generalize min (r.getD k 0) lv = x at *
    generalize hv1 : (atL r lv).take (k + 1) = G1 at *
    generalize (atL r lv).take k = G at *
    have hone : ∀ z ∈ [[A.int x]], z.length = 1 := fun z hz => by simp at hz; subst hz; rfl
    refine Aw.seq (Aw.block ?_)
    refine Aw.sm tab_ok mb0 [] rfl rfl ?zo ?zk
    case zo =>
      repeat' apply AllP.cons
      all_goals first | exact trivial
    case zk =>
    cases G with
    | nil =>
      refine Aw.em tab_ok mb0 [(5, [.int x])] rfl rfl ?zo ?zk
      case zo =>
        repeat' apply AllP.cons
        all_goals first | exact trivial | exact Nat.le_of_ble_eq_true rfl | exact hg | exact hone
      case zk =>
      refine Aw.em tab_ok mb0 [] rfl rfl ?zo ?zk
      case zo =>
        repeat' apply AllP.cons
        all_goals first | exact trivial | exact inrk k (by omega)
      case zk =>
      refine ⟨k + 1, ?zg, ?zm, ⟨?zc, ?zv, ?zh, Nat.le_of_ble_eq_true rfl⟩⟩
      case zg =>
        (repeat' (first | assumption))
      case zm =>
        (repeat' (first | omega))
      case zc =>
        (repeat' (first | (refine And.intro ?_ ?_) | exact trivial | exact A.Le.refl _))
      case zv =>
        (repeat' (first | (refine And.intro ?_ ?_) | exact trivial | exact A.Le.refl _ | exact .of_eq (by rw [hv1, hSk]; rfl)))
      case zh =>
        (repeat' (first | exact trivial))
    | cons y t =>
      have hl1 : (ints (y :: t)).length ≤ 10 := by rw [ints_len]; omega
      have hz := ints_one (y :: t)
      refine Aw.em tab_ok mb0 [(5, [.int x])] rfl rfl ?zo ?zk
      case zo =>
        repeat' apply AllP.cons
        all_goals first | exact trivial | exact Nat.le_of_ble_eq_true rfl | exact hg | exact hone | exact hz | exact (show ((ints (y :: t)).length + 1) * 8 ≤ 140737488355328 by omega) | exact (show (ints (y :: t)).length + 1 ≤ maxLen by unfold maxLen; omega)
      case zk =>
      refine Aw.em tab_ok mb0 [] rfl rfl ?zo ?zk
      case zo =>
        repeat' apply AllP.cons
        all_goals first | exact trivial | exact inrk k (by omega)
      case zk =>
      refine ⟨k + 1, ?zg, ?zm, ⟨?zc, ?zv, ?zh, Nat.le_of_ble_eq_true rfl⟩⟩
      case zg =>
        (repeat' (first | assumption))
      case zm =>
        (repeat' (first | omega))
      case zc =>
        (repeat' (first | (refine And.intro ?_ ?_) | exact trivial | exact A.Le.refl _))
      case zv =>
        (repeat' (first | (refine And.intro ?_ ?_) | exact trivial | exact A.Le.refl _ | exact .of_eq (show grL 3 ((atL r lv).take (k + 1)) = A.sl false (.own 3) (ints (y :: t) ++ [[A.int x]]) by rw [hv1, hSk]; simp [grL, ints])))
      case zh =>
        (repeat' (first | exact trivial))
  have hle : k = r.length := by have := of_decide_eq_false h1; omega
  subst hle
  rw [show (atL r lv).take r.length = atL r lv from List.take_of_length_le (by omega)]
  obtain ⟨x, t, hW⟩ : ∃ x t, atL r lv = x :: t := by
    cases hq : atL r lv with
    | nil => rw [hq] at hal; simp at hal; omega
    | cons x t => exact ⟨x, t, rfl⟩
  rw [hW]
  refine Aw.keep (n := 0) (cst := []) (v := [(6, .sl false .any (ints (x :: t)))]) (Hl := []) hE trivial ⟨(free_ints _ _ _).under, trivial⟩ trivial ⟨trivial, ⟨.any _ _ _, trivial⟩, trivial, Nat.zero_le _⟩ ?_
  refine Aw.sm tab_ok mb0 [] rfl rfl ?zo ?zk
  case zo =>
    repeat' apply AllP.cons
    all_goals first | exact trivial
  case zk =>
  exact Aw.ret ⟨_, .cons (.tmp _) .nil, rfl⟩
def grG : Nat → Nat → A
  | 0, _ => .sl true .exact []
  | k + 1, cap => .gs 0 (k + 1) cap
def cellG (l : List Int) (k cap : Nat) : B := .cells ((l.take k).map A.int ++ List.replicate (cap - k) A.un)
def grB (l : List Int) : Nat → Nat → List (Nat × B)
  | 0, _ => []
  | k + 1, cap => [(0, cellG l (k + 1) cap)]
theorem grG_under (k cap : Nat) : Under 1 (grG k cap) := by
  cases k with
  | zero => exact (Free.sl _ _ _ (fun _ h => by cases h)).under
  | succ k => exact .gs _ _ _ (by decide)
theorem cellG_free {l : List Int} {m : Nat} : ∀ x ∈ l.map A.int ++ List.replicate m A.un, Free x := fun x hx => by
  rcases List.mem_append.1 hx with h | h
  · obtain ⟨v, _, rfl⟩ := List.mem_map.1 h; exact .s _
  · rw [List.mem_replicate] at h; rw [h.2]; exact .un
theorem cellG_own {l : List Int} {m : Nat} : ∀ v ∈ l.map A.int ++ List.replicate m A.un, ∀ u, spareOf v u = none := fun v hv u => by
  rcases List.mem_append.1 hv with h | h
  · obtain ⟨v, _, rfl⟩ := List.mem_map.1 h; rfl
  · rw [List.mem_replicate] at h; rw [h.2]; rfl
theorem cellG_under (l : List Int) (k cap : Nat) {n : Nat} : UnderB n (cellG l k cap) := .cells _ fun x hx => (cellG_free x hx).under
theorem grB_under (l : List Int) (k cap : Nat) : UnderH 1 (grB l k cap) := by
  cases k with
  | zero => trivial
  | succ k => exact ⟨⟨by decide, cellG_under _ _ _⟩, trivial⟩
theorem growI1 {l : List Int} {k cap : Nat} {x : Int} (hk : k < l.length) (hs : l.take (k + 1) = l.take k ++ [x]) (hc : k + 1 ≤ cap) :
    setSeg ((l.take k).map A.int ++ List.replicate (cap - k) A.un) (k * 1) [A.int x] = (l.take (k + 1)).map A.int ++ List.replicate (cap - (k + 1)) A.un := by
  have h := setSeg_end (l := (l.take k).map A.int) (v := [A.int x]) (j := cap - k) (show 1 ≤ _ by omega)
  have e : ((l.take k).map A.int).length = k * 1 := by rw [List.length_map, List.length_take]; omega
  rw [e] at h
  rw [h, hs, List.map_append]
  show _ ++ List.replicate (cap - k - 1) A.un = _
  rw [show cap - k - 1 = cap - (k + 1) by omega]; rfl
theorem growI2 {l : List Int} {k cap cap' : Nat} {x : Int} (hk : k ≤ l.length) (hs : l.take (k + 1) = l.take k ++ [x]) :
    (((l.take k).map A.int ++ List.replicate (cap - k) A.un).take (k * 1)).map A.down ++ (([[A.int x]] : List (List A)).flatten.map A.down) ++ List.replicate ((cap' - (k + 1)) * 1) A.un = (l.take (k + 1)).map A.int ++ List.replicate (cap' - (k + 1)) A.un := by
  have e : ((l.take k).map A.int).length = k * 1 := by rw [List.length_map, List.length_take]; omega
  have e2 : ((l.take k).map A.int ++ List.replicate (cap - k) A.un).take (k * 1) = (l.take k).map A.int := by rw [← e]; exact List.take_left ..
  rw [e2, map_down_int, hs, List.map_append, Nat.mul_one]; rfl
theorem renI {X : Ctx} {r : Option Nat} {x : Code} {Q : Exit → St → Prop} {cst : List (Nat × A)} {n cap m j : Nat} {l : List Int} (h0 : X.φ0 0 = none) (hc : ∀ p ∈ cst, Nms (· ≠ 0) p.2) (ht : ofL2 cst [] j = .gs 1 n cap)
    (h : Aw X r x Q ⟨upd (ofL2 cst []) j (.gs 0 n cap), updH (updH (ofH [(1, .cells (l.map A.int ++ List.replicate m A.un))]) 1 none) 0 (some (.cells (l.map A.int ++ List.replicate m A.un))), 2⟩) :
    Aw X r x Q ⟨ofL2 cst [], ofH [(1, .cells (l.map A.int ++ List.replicate m A.un))], 2⟩ := by
  refine Aw.renameS (id1 := 1) (id2 := 0) (j := j) rfl ht (by decide) rfl h0 (Nat.le_of_ble_eq_true rfl) (nms_ofL (by simpa using hc)) (fun id bx hbx => ?_) cellG_own h
  simp only [ofH, updH_apply] at hbx
  split at hbx
  · cases hbx; exact .cells _ fun x hx => (cellG_free x hx).nms
  · cases hbx
set_option maxRecDepth 100000 in
set_option maxHeartbeats 4000000 in
theorem at_m (b : Bool) (q : Int) (r : List Int) (h : Cl q r) (lv : Int) : SCall Try.prog 21 [.agg (clC b q r), .int lv] (ofH []) 0 (fun v H' c' => ∃ cap, v = .gs 0 r.length cap ∧ H' 0 = some (cellG (atL r lv) r.length cap) ∧ 1 ≤ c') := by
  have h1 := h.n1
  have h8 := h.n8
  have ll := ints_lenI r
  have upc : ∀ {n : Nat}, Under n (A.pt (clC b q r)) := (Free.pt _ (clC_free b q r)).under
  have ufn : ∀ {n : Nat}, Under n (A.fn (.func 33) [] []) := (Free.fn _ _ _ allN allN).under
  have hS := fun k => atL_take (r := r) (lv := lv) (k := k)
  have hal := atL_len r lv
  have hnil : ∀ {n : Nat}, Under n (A.sl true .exact []) := (Free.sl _ _ _ (fun _ h => by cases h)).under
  refine SCall.of_bodyN tab_ok Try.func21 rfl Try.ntmps21 (Nat.le_of_ble_eq_true rfl) (allC (fun _ => rfl) (all1 fun _ => rfl)) fun E hE => ?_
  have e0 : E.φ0 0 = none := hE 0 (Nat.le_refl _)
  have h1e : ∀ id, 1 ≤ id → E.φ0 id = none := fun id _ => hE id (by omega)
  have h2e : ∀ id, 2 ≤ id → E.φ0 id = none := fun id _ => hE id (by omega)
  refine Aw.sm tab_ok mb0 [] rfl rfl ?zo ?zk
  case zo =>
    repeat' apply AllP.cons
    all_goals first | exact trivial
  case zk =>
  refine Aw.sm tab_ok mb0 [] rfl rfl ?zo ?zk
  case zo =>
    repeat' apply AllP.cons
    all_goals first | exact trivial
  case zk =>
  refine Aw.sm tab_ok mb0 [] rfl rfl ?zo ?zk
  case zo =>
    repeat' apply AllP.cons
    all_goals first | exact trivial
  case zk =>
  refine Aw.seq ?_
  refine Aw.sm tab_ok mb0 [] rfl rfl ?zo ?zk
  case zo =>
    repeat' apply AllP.cons
    all_goals first | exact trivial | exact Nat.le_of_ble_eq_true rfl
  case zk =>
  refine Aw.raise (c' := 1) (Nat.le_of_ble_eq_true rfl) ?_
  refine Aw.block (Aw.rounds 1 h1e [(1, .int lv), (2, .pt (clC b q r)), (5, .fn (.func 33) [] []), (11, .int r.length)] (fun i : (Nat×Nat) => [(6, grG i.1 i.2), (12, .int i.1)]) (fun i => grB (atL r lv) i.1 i.2) (fun i => i.1 ≤ r.length ∧ (i.1 ≠ 0 → i.1 ≤ i.2)) (fun i => r.length - i.1) (0, 0) ?zg ⟨?zc, ?zv, ?zh, Nat.le_of_ble_eq_true rfl⟩ ?zu (fun i zhk => ?zw) (fun i zhk => ?zx) fun i hk => ?zr)
  case zg =>
    (repeat' (first | exact ⟨Nat.zero_le _, fun h => absurd rfl h⟩))
  case zc =>
    (repeat' (first | (refine And.intro ?_ ?_) | exact trivial | exact A.Le.refl _ | exact .of_eq (congrArg A.int ll.symm)))
  case zv =>
    (repeat' (first | (refine And.intro ?_ ?_) | exact trivial | exact A.Le.refl _))
  case zh =>
    (repeat' (first | exact trivial))
  case zu =>
    (repeat' (first | exact trivial | exact Under.s _ | exact upc | exact ufn | (refine And.intro ?_ ?_)))
  case zw =>
    (repeat' (first | exact trivial | exact Under.s _ | exact grG_under _ _ | (refine And.intro ?_ ?_)))
  case zx =>
    (repeat' (first | exact grB_under _ _ _))
  case zr =>
  obtain ⟨k, cap⟩ := i
  obtain ⟨hk, hcap⟩ := hk
  simp only at hk hcap
  refine Aw.sm tab_ok mb0 [] rfl rfl ?zo ?zk
  case zo =>
    repeat' apply AllP.cons
    all_goals first | exact trivial
  case zk =>
  refine Aw.seq (Aw.cond rfl (fun h1 => Aw.skip1 ?_) (fun h1 => Aw.exit2 ?_))
  · have hlt : k < r.length := by have := of_decide_eq_true h1; omega
    have hSk := hS k hlt
    have hg := gets_t b q r k hlt lv
    generalize min (r.getD k 0) lv = x at *
    have hone : ∀ z ∈ [[A.int x]], z.length = 1 := fun z hz => by simp at hz; subst hz; rfl
    refine Aw.seq (Aw.block ?_)
    refine Aw.sm tab_ok mb0 [] rfl rfl ?zo ?zk
    case zo =>
      repeat' apply AllP.cons
      all_goals first | exact trivial
    case zk =>
    cases k with
    | zero =>
      refine Aw.es rfl ?_
      refine RegL.partE tab_ok mb0 false 7 0 [(5, [.int x])] ?_
      conv => arg 5; whnf
      refine PartK.mk ?zo ?zk
      case zo =>
        repeat' apply AllP.cons
        all_goals first | exact trivial | exact Nat.le_of_ble_eq_true rfl | exact hg
      case zk =>
      refine Does.raw rfl (DoesR.appNil tab_ok (ys := [[A.int x]]) rfl rfl rfl (fun h => by cases h) (by decide) rfl rfl (by simp) hone (Nat.le_of_ble_eq_true rfl) (Nat.le_of_ble_eq_true rfl) (fun cap1 hcap1 => ?_))
      refine RegL.partE tab_ok mb0 false 1 8 [] ?_
      conv => arg 5; whnf
      refine PartK.mk ?zo ?zk
      case zo =>
        repeat' apply AllP.cons
        all_goals first | exact trivial
      case zk =>
      have hcap1 : 0 + 1 ≤ cap1 := hcap1
      have hcell : (([[A.int x]] : List (List A)).flatten.map A.down ++ List.replicate ((cap1 - 1) * 1) A.un) = ((atL r lv).take (0 + 1)).map A.int ++ List.replicate (cap1 - (0 + 1)) A.un := by
        rw [hSk, Nat.mul_one]; rfl
      refine Aw.keep (n := 2) (cst := [(1, .int lv), (2, .pt (clC b q r)), (5, .fn (.func 33) [] []), (11, .int r.length), (12, .int ((0 : Nat) : Int)), (6, .gs 1 (0 + 1) cap1)]) (v := []) (Hl := [(1, .cells (((atL r lv).take (0 + 1)).map A.int ++ List.replicate (cap1 - (0 + 1)) A.un))]) h2e ?zu ?zw ?zx ⟨?zc, ?zv, ?zh, Nat.le_of_ble_eq_true rfl⟩ ?zr
      case zu =>
        (repeat' (first | exact trivial | exact Under.s _ | exact upc | exact ufn | exact .gs _ _ _ (by decide) | (refine And.intro ?_ ?_)))
      case zw =>
        (repeat' (first | exact trivial))
      case zx =>
        (repeat' (first | exact trivial | exact Nat.le_of_ble_eq_true rfl | exact cellG_under _ _ _ | (refine And.intro ?_ ?_)))
      case zc =>
        (repeat' (first | (refine And.intro ?_ ?_) | exact trivial | exact A.Le.refl _))
      case zv =>
        (repeat' (first | exact trivial))
      case zh =>
        (repeat' (first | (refine And.intro ?_ ?_) | exact trivial | exact congrArg (fun x => some (B.cells x)) hcell))
      case zr =>
      refine renI (j := 6) e0 (fun p hp => ?_) rfl ?_
      · simp only [List.mem_cons, List.not_mem_nil, or_false] at hp
        rcases hp with rfl | rfl | rfl | rfl | rfl | rfl
        · exact .s _
        · exact (Free.pt _ (clC_free b q r)).nms
        · exact (Free.fn _ _ _ allN allN).nms
        · exact .s _
        · exact .s _
        · exact .gs _ _ _ (by decide)
      refine Aw.em tab_ok mb0 [] rfl rfl ?zo ?zk
      case zo =>
        repeat' apply AllP.cons
        all_goals first | exact trivial | exact inrk _ (by omega)
      case zk =>
      refine ⟨(0 + 1, cap1), ?zg, ?zm, ⟨?zc, ?zv, ?zh, Nat.le_of_ble_eq_true rfl⟩⟩
      case zg =>
        (repeat' (first | omega))
      case zm =>
        (repeat' (first | omega))
      case zc =>
        (repeat' (first | (refine And.intro ?_ ?_) | exact trivial | exact A.Le.refl _))
      case zv =>
        (repeat' (first | (refine And.intro ?_ ?_) | exact trivial | exact A.Le.refl _))
      case zh =>
        (repeat' (first | (refine And.intro ?_ ?_) | exact trivial | exact rfl))
    | succ k =>
      have hcap := hcap (by omega)
      have hcl : (((atL r lv).take (k + 1)).map A.int ++ List.replicate (cap - (k + 1)) A.un).length = cap * 1 := by
        rw [List.length_append, List.length_map, List.length_take, List.length_replicate]; omega
      refine Aw.es rfl ?_
      refine RegL.partE tab_ok mb0 false 7 0 [(5, [.int x])] ?_
      conv => arg 5; whnf
      refine PartK.mk ?zo ?zk
      case zo =>
        repeat' apply AllP.cons
        all_goals first | exact trivial | exact Nat.le_of_ble_eq_true rfl | exact hg
      case zk =>
      refine Does.raw rfl (DoesR.appGs tab_ok (ys := [[A.int x]]) (id := 0) (n := k + 1) (cap := cap) rfl rfl rfl (fun h => by cases h) (by decide) rfl rfl hcl rfl (by simp) hone (show (k + 1 + 1) * 8 ≤ 140737488355328 by omega) (show k + 1 + 1 ≤ maxLen by unfold maxLen; omega) (fun hroom => ?_) (fun cap1 hcap1 => ?_))
      · have hroom : k + 1 + 1 ≤ cap := hroom
        have hcell := growI1 (l := atL r lv) (k := k + 1) (cap := cap) (x := x) (by omega) hSk hroom
        refine RegL.partE tab_ok mb0 false 1 8 [] ?_
        conv => arg 5; whnf
        refine PartK.mk ?zo ?zk
        case zo =>
          repeat' apply AllP.cons
          all_goals first | exact trivial
        case zk =>
        refine Aw.em tab_ok mb0 [] rfl rfl ?zo ?zk
        case zo =>
          repeat' apply AllP.cons
          all_goals first | exact trivial | exact inrk _ (by omega)
        case zk =>
        refine ⟨(k + 1 + 1, cap), ?zg, ?zm, ⟨?zc, ?zv, ?zh, Nat.le_of_ble_eq_true rfl⟩⟩
        case zg =>
          (repeat' (first | omega))
        case zm =>
          (repeat' (first | omega))
        case zc =>
          (repeat' (first | (refine And.intro ?_ ?_) | exact trivial | exact A.Le.refl _))
        case zv =>
          (repeat' (first | (refine And.intro ?_ ?_) | exact trivial | exact A.Le.refl _))
        case zh =>
          (repeat' (first | (refine And.intro ?_ ?_) | exact trivial | exact congrArg (fun x => some (B.cells x)) hcell))
      · have hcap1 : k + 1 + 1 ≤ cap1 := hcap1
        have hcell := growI2 (l := atL r lv) (k := k + 1) (cap := cap) (cap' := cap1) (x := x) (by omega) hSk
        refine RegL.partE tab_ok mb0 false 1 8 [] ?_
        conv => arg 5; whnf
        refine PartK.mk ?zo ?zk
        case zo =>
          repeat' apply AllP.cons
          all_goals first | exact trivial
        case zk =>
        refine Aw.keep (n := 2) (cst := [(1, .int lv), (2, .pt (clC b q r)), (5, .fn (.func 33) [] []), (11, .int r.length), (12, .int ((k + 1 : Nat) : Int)), (6, .gs 1 (k + 1 + 1) cap1)]) (v := []) (Hl := [(1, .cells (((atL r lv).take (k + 1 + 1)).map A.int ++ List.replicate (cap1 - (k + 1 + 1)) A.un))]) h2e ?zu ?zw ?zx ⟨?zc, ?zv, ?zh, Nat.le_of_ble_eq_true rfl⟩ ?zr
        case zu =>
          (repeat' (first | exact trivial | exact Under.s _ | exact upc | exact ufn | exact .gs _ _ _ (by decide) | (refine And.intro ?_ ?_)))
        case zw =>
          (repeat' (first | exact trivial))
        case zx =>
          (repeat' (first | exact trivial | exact Nat.le_of_ble_eq_true rfl | exact cellG_under _ _ _ | (refine And.intro ?_ ?_)))
        case zc =>
          (repeat' (first | (refine And.intro ?_ ?_) | exact trivial | exact A.Le.refl _))
        case zv =>
          (repeat' (first | exact trivial))
        case zh =>
          (repeat' (first | (refine And.intro ?_ ?_) | exact trivial | exact congrArg (fun x => some (B.cells x)) hcell))
        case zr =>
        refine renI (j := 6) e0 (fun p hp => ?_) rfl ?_
        · simp only [List.mem_cons, List.not_mem_nil, or_false] at hp
          rcases hp with rfl | rfl | rfl | rfl | rfl | rfl
          · exact .s _
          · exact (Free.pt _ (clC_free b q r)).nms
          · exact (Free.fn _ _ _ allN allN).nms
          · exact .s _
          · exact .s _
          · exact .gs _ _ _ (by decide)
        refine Aw.em tab_ok mb0 [] rfl rfl ?zo ?zk
        case zo =>
          repeat' apply AllP.cons
          all_goals first | exact trivial | exact inrk _ (by omega)
        case zk =>
        refine ⟨(k + 1 + 1, cap1), ?zg, ?zm, ⟨?zc, ?zv, ?zh, Nat.le_of_ble_eq_true rfl⟩⟩
        case zg =>
          (repeat' (first | omega))
        case zm =>
          (repeat' (first | omega))
        case zc =>
          (repeat' (first | (refine And.intro ?_ ?_) | exact trivial | exact A.Le.refl _))
        case zv =>
          (repeat' (first | (refine And.intro ?_ ?_) | exact trivial | exact A.Le.refl _))
        case zh =>
          (repeat' (first | (refine And.intro ?_ ?_) | exact trivial | exact rfl))
  obtain rfl : k = r.length := by have := of_decide_eq_false h1; omega
  obtain ⟨m, hm⟩ : ∃ m, r.length = m + 1 := ⟨r.length - 1, by omega⟩
  have hgv : grG r.length cap = .gs 0 r.length cap := by rw [hm]; rfl
  have hgc : grB (atL r lv) r.length cap = [(0, cellG (atL r lv) r.length cap)] := by rw [hm]; rfl
  have ugs : Under 1 (A.gs 0 r.length cap) := .gs _ _ _ (by decide)
  refine Aw.keep (n := 1) (cst := [(6, .gs 0 r.length cap)]) (v := []) (Hl := [(0, cellG (atL r lv) r.length cap)]) h1e ?zu ?zw ?zx ⟨?zc, ?zv, ?zh, Nat.le_of_ble_eq_true rfl⟩ ?zr
  case zu =>
    (repeat' (first | exact trivial | assumption | (refine And.intro ?_ ?_)))
  case zw =>
    (repeat' (first | exact trivial))
  case zx =>
    (repeat' (first | exact trivial | exact Nat.le_of_ble_eq_true rfl | exact cellG_under _ _ _ | (refine And.intro ?_ ?_)))
  case zc =>
    (repeat' (first | (refine And.intro ?_ ?_) | exact trivial | exact (by show A.Le _ (grG r.length cap); rw [hgv]; exact .refl _)))
  case zv =>
    (repeat' (first | exact trivial))
  case zh =>
    (repeat' (first | (refine And.intro ?_ ?_) | exact trivial | exact (show ofH (grB (atL r lv) r.length cap) 0 = _ by rw [hgc]; rfl)))
  case zr =>
  refine Aw.sm tab_ok mb0 [] rfl rfl ?zo ?zk
  case zo =>
    repeat' apply AllP.cons
    all_goals first | exact trivial
  case zk =>
  exact Aw.ret ⟨_, .cons (.tmp _) .nil, cap, rfl, rfl, Nat.le_refl _⟩
end Go.Proofs.Ytlgnoifnfnpjeaa

namespace Go.Proofs.Ytlgnoifnfnpjeaa
open Go Go.AL Go.AL.Q Go.AL.Sh
theorem sumTM_r (l : List Int) (hl : l.length ≤ 1000) (h : ∀ k, k ≤ l.length → inR (l.take k).sum) : RCall Try.prog 20 [.ms 0 0 l.length] (ofH [(0, iB l)]) (.int l.sum) := by
  have inn : Nms (fun i => (ofH [(0, iB l)] i).isSome = true) (.ms 0 0 l.length) := .ms _ _ _ rfl
  refine RCall.of (n := 1) (enters_of Try.func20 rfl rfl) (fun id bx h => by rw [(of0 h).1]; decide) (fun id bx h => ?_) (all1 inn) (.s _) (fun _ => rfl) ((sumTM_s l hl h).mono fun v H' c' h => ⟨h.1, fun id bx hb => by rw [h.2]; exact hb⟩)
  rw [(of0 h).2]
  exact (iB_under (n := 0) l).nmsA fun i hi => by omega
theorem at0 {cs : List Int} {g : FuncId} {args : List A} {v : A} (h : RCall Try.prog g args (ofH [(0, iB cs)]) v) {H : Hp} (hH : H 0 = some (iB cs)) : RCall Try.prog g args (onlyL H (idsOf [.mp 0])) v :=
  h.le rfl (fun _ _ => .refl _) fun id bx hb => by
    obtain ⟨rfl, rfl⟩ := of0 hb
    exact hH
def treatyA (q : Int) (r : List Int) : A := if r.sum < q then .tup [.sl true .exact [], .int 100] else .tup [.sl false .any (ints (treatyF q r)), .int 0]
theorem treatyA_free (q : Int) (r : List Int) : Free (treatyA q r) := by
  unfold treatyA
  split
  · exact .tup _ (allC (.sl _ _ _ (fun _ h => by cases h)) (all1 (.s _)))
  · exact .tup _ (allC (free_ints _ _ _) (all1 (.s _)))
set_option maxRecDepth 100000 in
set_option maxHeartbeats 4000000 in
theorem treaty_t (b : Bool) (q : Int) (r : List Int) (h : Cl q r) : Ans Try.prog 9 [.agg (clC b q r)] (treatyA q r) := by
  have h1 := h.n1
  have h8 := h.n8
  have hq := h.q
  have ll := ints_lenI r
  have hfr := treatyA_free q r
  have upc : ∀ {n : Nat}, Under n (A.pt (clC b q r)) := (Free.pt _ (clC_free b q r)).under
  have hck := checkC_t b q r h
  obtain ⟨lvok, -⟩ := lv_ok h
  refine told Try.func9 rfl rfl (Pure.of tab_ok Try.func9 rfl Try.ntmps9 rfl (all1 (.agg _ (clC_free b q r))) (all1 fun _ => rfl) hfr fun E hE => ?_)
  unfold treatyA
  refine Aw.sm tab_ok mb0 [] rfl rfl ?zo ?zk
  case zo =>
    repeat' apply AllP.cons
    all_goals first | exact trivial
  case zk =>
  refine Aw.seq ?_
  by_cases hs : r.sum < q
  · rw [if_pos hs] at hck
    rw [if_pos hs]
    refine Aw.sm tab_ok mb0 [(1, [.int 100])] rfl rfl ?zo ?zk
    case zo =>
      repeat' apply AllP.cons
      all_goals first | exact trivial | exact Nat.le_of_ble_eq_true rfl | exact hck
    case zk =>
    refine Aw.sm tab_ok mb0 [] rfl rfl ?zo ?zk
    case zo =>
      repeat' apply AllP.cons
      all_goals first | exact trivial
    case zk =>
    refine Aw.cond rfl (fun _ => ?_) (fun h => by cases h)
    refine Aw.sm tab_ok mb0 [] rfl rfl ?zo ?zk
    case zo =>
      repeat' apply AllP.cons
      all_goals first | exact trivial
    case zk =>
    exact Aw.ret ⟨_, .cons (.tmp _) (.cons (.tmp _) .nil), rfl⟩
  rw [if_neg hs] at hck
  rw [if_neg hs]
  refine Aw.sm tab_ok mb0 [(1, [.int 0])] rfl rfl ?zo ?zk
  case zo =>
    repeat' apply AllP.cons
    all_goals first | exact trivial | exact Nat.le_of_ble_eq_true rfl | exact hck
  case zk =>
  refine Aw.sm tab_ok mb0 [] rfl rfl ?zo ?zk
  case zo =>
    repeat' apply AllP.cons
    all_goals first | exact trivial
  case zk =>
  refine Aw.cond rfl (fun h => by cases h) (fun _ => Aw.skip ?_)
  refine Aw.sm tab_ok mb0 [] rfl rfl ?zo ?zk
  case zo =>
    repeat' apply AllP.cons
    all_goals first | exact trivial | exact rfl | exact Nat.le_of_ble_eq_true rfl
  case zk =>
  refine Aw.freeze (id := 0) (t := 5) (cs := clC b q r) rfl rfl ?_
  refine Aw.sm tab_ok mb0 [] rfl rfl ?zo ?zk
  case zo =>
    repeat' apply AllP.cons
    all_goals first | exact trivial
  case zk =>
  generalize hLV : lvF q r = lv at *
  have hlv : halfF (fits q r) 17 0 100001 = lv := hLV
  refine Aw.seq ?_
  refine Aw.block (Aw.rounds 0 hE [(5, .pt (clC b q r))] (fun i : (Nat×Int×Int) => [(6, .int i.2.1), (7, .int i.2.2)]) (fun i => []) (fun i => halfF (fits q r) i.1 i.2.1 i.2.2 = lv ∧ i.2.2 - i.2.1 ≤ 2 ^ i.1 ∧ 0 ≤ i.2.1 ∧ i.2.1 < i.2.2 ∧ i.2.2 ≤ 100001) (fun i => i.1) (17, 0, 100001) ?zg ⟨?zc, ?zv, ?zh, Nat.le_of_ble_eq_true rfl⟩ ?zu (fun i zhk => ?zw) (fun i zhk => ?zx) fun i hk => ?zr)
  case zg =>
    (repeat' (first | exact ⟨hlv, by decide, by decide, by decide, by decide⟩))
  case zc =>
    (repeat' (first | (refine And.intro ?_ ?_) | exact trivial | exact A.Le.refl _))
  case zv =>
    (repeat' (first | (refine And.intro ?_ ?_) | exact trivial | exact A.Le.refl _))
  case zh =>
    (repeat' (first | exact trivial))
  case zu =>
    (repeat' (first | exact trivial | exact upc | (refine And.intro ?_ ?_)))
  case zw =>
    (repeat' (first | exact trivial | exact Under.s _ | (refine And.intro ?_ ?_)))
  case zx =>
    (repeat' (first | exact trivial))
  case zr =>
  obtain ⟨f, lo, hi⟩ := i
  obtain ⟨hrun, hpw, hlo, hlh, hhi⟩ := hk
  simp only at hrun hpw hlo hlh hhi
  refine Aw.seq ?_
  refine Aw.sm tab_ok mb0 [] rfl rfl ?zo ?zk
  case zo =>
    repeat' apply AllP.cons
    all_goals first | exact trivial | exact (show inR (hi - lo) by simp only [inR]; omega)
  case zk =>
  refine Aw.cond rfl (fun h1 => Aw.skip ?_) (fun h1 => ?_)
  · have hgt : hi - lo > 1 := of_decide_eq_true h1
    cases f with
    | zero => exact absurd hpw (by rw [Int.pow_zero]; omega)
    | succ f =>
    rw [halfF, if_pos hgt] at hrun
    have hp : (2 : Int) ^ (f + 1) = 2 * 2 ^ f := by rw [Int.pow_succ]; omega
    have hm : (lo + hi).tdiv 2 = (lo + hi) / 2 := Int.tdiv_eq_ediv_of_nonneg (by omega)
    have hmr : inR ((lo + hi).tdiv 2) := by rw [hm]; simp only [inR]; omega
    obtain ⟨m, hme⟩ : ∃ m, (lo + hi).tdiv 2 = m := ⟨_, rfl⟩
    rw [hme] at hrun
    have g1 : lo < m := by omega
    have g2 : m < hi := by omega
    have g3 : hi - m ≤ 2 ^ f := by omega
    have g4 : m - lo ≤ 2 ^ f := by omega
    have g5 : 0 ≤ m := by omega
    have g6 : m ≤ 100001 := by omega
    have hat := at_t b q r h m
    have hb0 := atL_bd h (show 0 ≤ m by omega)
    have hall := atL_len r m
    have hsm := sumT_t false (atL r m) (by omega) (sum_g _ 10000 (by omega) (by decide) hb0)
    refine Aw.block ?_
    refine Aw.sm tab_ok mb0 [] rfl rfl ?zo ?zk
    case zo =>
      repeat' apply AllP.cons
      all_goals first | exact trivial | exact (show inR (lo + hi) by simp only [inR]; omega) | exact (show (2 : Int) ≠ 0 ∧ inR ((lo + hi).tdiv 2) from ⟨by decide, hmr⟩)
    case zk =>
    refine Aw.keep (n := 0) (cst := [(5, .pt (clC b q r)), (6, .int lo), (7, .int hi), (8, .int m)]) (v := []) (Hl := []) hE ?zu ?zw ?zx ⟨?zc, ?zv, ?zh, Nat.le_of_ble_eq_true rfl⟩ ?zr
    case zu =>
      (repeat' (first | exact trivial | exact Under.s _ | exact upc | (refine And.intro ?_ ?_)))
    case zw =>
      (repeat' (first | exact trivial))
    case zx =>
      (repeat' (first | exact trivial))
    case zc =>
      (repeat' (first | (refine And.intro ?_ ?_) | exact trivial | exact A.Le.refl _ | exact .of_eq (congrArg A.int hme.symm)))
    case zv =>
      (repeat' (first | exact trivial))
    case zh =>
      (repeat' (first | exact trivial))
    case zr =>
    refine Aw.sd tab_ok mixed mb0 [(2, [.sl false .any (ints (atL r m))]), (3, [.int (atL r m).sum])] rfl (by kernel_rfl) rfl rfl ?zo ?zk
    case zo =>
      repeat' apply AllP.cons
      all_goals first | exact trivial | exact Nat.le_of_ble_eq_true rfl | exact hat | exact hsm
    case zk =>
    refine Aw.cond rfl (fun h2 => ?_) (fun h2 => ?_)
    · have h2 : fits q r m = true := h2
      rw [if_pos h2] at hrun
      refine Aw.em tab_ok mb0 [] rfl rfl ?zo ?zk
      case zo =>
        repeat' apply AllP.cons
        all_goals first | exact trivial
      case zk =>
      refine ⟨(f, m, hi), ?zg, ?zm, ⟨?zc, ?zv, ?zh, Nat.le_of_ble_eq_true rfl⟩⟩
      case zg =>
        (repeat' (first | exact ⟨hrun, g3, g5, g2, hhi⟩))
      case zm =>
        (repeat' (first | omega))
      case zc =>
        (repeat' (first | (refine And.intro ?_ ?_) | exact trivial | exact A.Le.refl _))
      case zv =>
        (repeat' (first | (refine And.intro ?_ ?_) | exact trivial | exact A.Le.refl _))
      case zh =>
        (repeat' (first | exact trivial))
    · have h2 : fits q r m = false := h2
      rw [h2, if_neg (by decide)] at hrun
      refine Aw.em tab_ok mb0 [] rfl rfl ?zo ?zk
      case zo =>
        repeat' apply AllP.cons
        all_goals first | exact trivial
      case zk =>
      refine ⟨(f, lo, m), ?zg, ?zm, ⟨?zc, ?zv, ?zh, Nat.le_of_ble_eq_true rfl⟩⟩
      case zg =>
        (repeat' (first | exact ⟨hrun, g4, hlo, g1, g6⟩))
      case zm =>
        (repeat' (first | omega))
      case zc =>
        (repeat' (first | (refine And.intro ?_ ?_) | exact trivial | exact A.Le.refl _))
      case zv =>
        (repeat' (first | (refine And.intro ?_ ?_) | exact trivial | exact A.Le.refl _))
      case zh =>
        (repeat' (first | exact trivial))
  have hng : ¬ hi - lo > 1 := of_decide_eq_false h1
  have hle : lo = lv := by
    rw [← hrun]
    cases f with
    | zero => rfl
    | succ f => rw [halfF, if_neg hng]
  subst hle
  refine Aw.exit2 ?_
  have hal := atL_len r lo
  have hab := atL_bd h hlo
  have hgive := fun k hk => give_ok h k hk
  have hsucc := fun k => giveK_succ q r k
  unfold treatyF
  rw [hLV] at hsucc
  refine Aw.keep (n := 0) (cst := [(5, .pt (clC b q r)), (6, .int lo)]) (v := []) (Hl := []) hE ?zu ?zw ?zx ⟨?zc, ?zv, ?zh, Nat.le_of_ble_eq_true rfl⟩ ?zr
  case zu =>
    (repeat' (first | exact trivial | exact Under.s _ | exact upc | (refine And.intro ?_ ?_)))
  case zw =>
    (repeat' (first | exact trivial))
  case zx =>
    (repeat' (first | exact trivial))
  case zc =>
    (repeat' (first | (refine And.intro ?_ ?_) | exact trivial | exact A.Le.refl _))
  case zv =>
    (repeat' (first | exact trivial))
  case zh =>
    (repeat' (first | exact trivial))
  case zr =>
  refine Aw.ss rfl ?_
  refine RegL.partE tab_ok mb0 false 2 0 [] ?_
  conv => arg 5; whnf
  refine PartK.mk ?zo ?zk
  case zo =>
    repeat' apply AllP.cons
    all_goals first | exact trivial | exact Nat.le_of_ble_eq_true rfl
  case zk =>
  refine Does.raw rfl (DoesR.call (fst := []) (cap := []) rfl rfl (enters_of Try.func21 rfl rfl) (at_m b q r h lo) ?_)
  rintro v H' c' ⟨cap, rfl, hH, hc⟩
  refine RegL.partE tab_ok mb0 false 1 3 [] ?_
  conv => arg 5; whnf
  refine PartK.mk ?zo ?zk
  case zo =>
    repeat' apply AllP.cons
    all_goals first | exact trivial
  case zk =>
  have h1e : ∀ id, 1 ≤ id → E.φ0 id = none := fun id _ => hE id (by omega)
  have ums : ∀ {n : Nat}, 1 ≤ n → Under n (A.ms 0 0 r.length) := fun h => .ms _ _ _ (by omega)
  refine Aw.keep (n := 1) (cst := [(5, .pt (clC b q r)), (6, .int lo), (9, .ms 0 0 r.length)]) (v := []) (Hl := [(0, cellG (atL r lo) r.length cap)]) h1e ?zu ?zw ?zx ⟨?zc, ?zv, ?zh, hc⟩ ?zr
  case zu =>
    (repeat' (first | exact trivial | exact Under.s _ | exact Under.ms _ _ _ (by decide) | exact upc | (refine And.intro ?_ ?_)))
  case zw =>
    (repeat' (first | exact trivial))
  case zx =>
    (repeat' (first | exact trivial | exact Nat.le_of_ble_eq_true rfl | exact cellG_under _ _ _ | (refine And.intro ?_ ?_)))
  case zc =>
    (repeat' (first | (refine And.intro ?_ ?_) | exact trivial | exact A.Le.refl _ | exact A.Le.ms _ _ _))
  case zv =>
    (repeat' (first | exact trivial))
  case zh =>
    (repeat' (first | (refine And.intro ?_ ?_) | exact trivial | exact hH))
  case zr =>
  have htake : (atL r lo).take r.length = atL r lo := List.take_of_length_le (by omega)
  refine Aw.weaken (S' := _) (H' := ofH [(0, iB (atL r lo))]) (c' := 1) (fun _ => .refl _) (fun id bx hb => ?_) (Nat.le_refl _) ?_
  · obtain ⟨rfl, rfl⟩ := of0 hb
    exact ⟨_, rfl, by unfold cellG; rw [htake]; exact B.Le.fronts⟩
  have hrc := at0 (H := ofH [(0, iB (atL r lo))]) (sumTM_r (atL r lo) (by omega) (sum_g _ 10000 (by omega) (by decide) hab)) rfl
  rw [hal] at hrc
  have hsb := sum_bd hab
  have hfit := lvok.fit
  refine Aw.sd tab_ok mixed mb0 [(4, [.int (atL r lo).sum, .tup [.mp 0]])] rfl (by kernel_rfl) rfl rfl ?zo ?zk
  case zo =>
    repeat' apply AllP.cons
    all_goals first | exact trivial | exact Nat.le_of_ble_eq_true rfl | exact hrc | exact (show inR (q - (atL r lo).sum) by simp only [inR]; omega)
  case zk =>
  have hg0 : giveK q r 0 = (atL r lo, q - (atL r lo).sum) := by unfold giveK; rw [hLV]; rfl
  have hg1 : (giveK q r 0).1 = atL r lo := by rw [hg0]
  have hg2 : (giveK q r 0).2 = q - (atL r lo).sum := by rw [hg0]
  refine Aw.seq ?_
  refine Aw.sm tab_ok mb0 [] rfl rfl ?zo ?zk
  case zo =>
    repeat' apply AllP.cons
    all_goals first | exact trivial
  case zk =>
  refine Aw.block (Aw.rounds 1 h1e [(5, .pt (clC b q r)), (6, .int lo), (9, .ms 0 0 r.length), (47, .int r.length)] (fun k : Nat => [(10, .int (giveK q r k).2), (48, .int k)]) (fun k => [(0, iB (giveK q r k).1)]) (fun k => k ≤ r.length) (fun k => r.length - k) 0 ?zg ⟨?zc, ?zv, ?zh, Nat.le_of_ble_eq_true rfl⟩ ?zu (fun k zhk => ?zw) (fun k zhk => ?zx) fun k hk => ?zr)
  case zg =>
    (repeat' (first | exact Nat.zero_le _))
  case zc =>
    (repeat' (first | (refine And.intro ?_ ?_) | exact trivial | exact A.Le.refl _))
  case zv =>
    (repeat' (first | (refine And.intro ?_ ?_) | exact trivial | exact A.Le.refl _ | exact .of_eq (congrArg A.int hg2)))
  case zh =>
    (repeat' (first | (refine And.intro ?_ ?_) | exact trivial | exact congrArg (fun x => some (iB x)) hg1.symm))
  case zu =>
    (repeat' (first | exact trivial | exact Under.s _ | exact Under.ms _ _ _ (by decide) | exact upc | (refine And.intro ?_ ?_)))
  case zw =>
    (repeat' (first | exact trivial | exact Under.s _ | (refine And.intro ?_ ?_)))
  case zx =>
    (repeat' (first | exact trivial | exact Nat.le_of_ble_eq_true rfl | exact iB_under _ | (refine And.intro ?_ ?_)))
  case zr =>
  have ok := hgive k hk
  obtain ⟨olen, -, oleft, obd, -⟩ := ok
  rw [hLV] at oleft
  refine Aw.sm tab_ok mb0 [] rfl rfl ?zo ?zk
  case zo =>
    repeat' apply AllP.cons
    all_goals first | exact trivial
  case zk =>
  refine Aw.seq (Aw.cond rfl (fun h2 => Aw.skip1 ?_) (fun h2 => Aw.exit2 ?_))
  · have hlt : k < r.length := by have := of_decide_eq_true h2; omega
    have hsk := hsucc k
    have hg := ints_getD hlt
    unfold giveS at hsk
    generalize r.getD k 0 = x at *
    have ha := iB_at (l := (giveK q r k).1) (k := k) (by omega)
    have hvb : 0 ≤ (giveK q r k).1.getD k 0 ∧ (giveK q r k).1.getD k 0 ≤ 10000 + k := by
      rw [List.getD_eq_getElem?_getD, List.getElem?_eq_getElem (by omega)]; exact obd _ (List.getElem_mem _)
    generalize hO : giveK q r k = OL at *
    obtain ⟨O, lf⟩ := OL
    simp only at olen oleft hsk ha hvb
    generalize hv : O.getD k 0 = v at *
    have hput : setSeg (O.map A.int) (0 + Int.toNat (k : Int) * 1) [A.int (v + 1)] = (O.set k (v + 1)).map A.int := by
      rw [show 0 + Int.toNat (k : Int) * 1 = k by omega, setSeg_set (by omega)]
    refine Aw.seq (Aw.block ?_)
    refine Aw.sm tab_ok mb0 [] rfl rfl ?zo ?zk
    case zo =>
      repeat' apply AllP.cons
      all_goals first | exact trivial
    case zk =>
    refine Aw.sm tab_ok mb0 [(7, [.int x])] rfl rfl ?zo ?zk
    case zo =>
      repeat' apply AllP.cons
      all_goals first | exact trivial | exact id | exact fun _ => rfl | exact fun _ => Nat.le_of_ble_eq_true rfl | exact fun _ => Int.natCast_nonneg _ | exact fun _ => hg
    case zk =>
    refine Aw.cond rfl (fun h3 => ?_) (fun h3 => Aw.skip ?_)
    · have h3 : cond (decide (lf > 0)) (decide (x > lo)) false = true := h3
      rw [c_and, Bool.and_eq_true, decide_eq_true_eq, decide_eq_true_eq] at h3
      rw [if_pos ⟨h3.1, h3.2⟩] at hsk
      refine Aw.sm tab_ok mb0 [(3, [.int v])] rfl rfl ?zo ?zk
      case zo =>
        repeat' apply AllP.cons
        all_goals first | exact trivial | exact rfl | exact Int.natCast_nonneg _ | exact ha | exact (show (k : Int) < (r.length : Int) by omega) | exact (show 0 + Int.toNat (k : Int) * 1 < (O.map A.int).length by rw [List.length_map]; omega) | exact (show inR (v + 1) by simp only [inR]; omega)
      case zk =>
      refine Aw.em tab_ok mb0 [] rfl rfl ?zo ?zk
      case zo =>
        repeat' apply AllP.cons
        all_goals first | exact trivial | exact (show inR (lf - 1) by simp only [inR]; omega)
      case zk =>
      refine Aw.em tab_ok mb0 [] rfl rfl ?zo ?zk
      case zo =>
        repeat' apply AllP.cons
        all_goals first | exact trivial | exact inrk k (by omega)
      case zk =>
      have hput' := congrArg (fun x => some (B.cells x)) hput
      refine ⟨k + 1, ?zg, ?zm, ⟨?zc, ?zv, ?zh, Nat.le_of_ble_eq_true rfl⟩⟩
      case zg =>
        (repeat' (first | assumption))
      case zm =>
        (repeat' (first | omega))
      case zc =>
        (repeat' (first | (refine And.intro ?_ ?_) | exact trivial | exact A.Le.refl _))
      case zv =>
        (repeat' (first | (refine And.intro ?_ ?_) | exact trivial | exact A.Le.refl _ | exact .of_eq (by rw [hsk]; rfl)))
      case zh =>
        (repeat' (first | (refine And.intro ?_ ?_) | exact trivial | exact hput'.trans (by rw [hsk]; rfl)))
    · have h3 : cond (decide (lf > 0)) (decide (x > lo)) false = false := h3
      rw [c_and] at h3
      have hn : ¬ (0 < lf ∧ lo < x) := fun h => by
        rw [decide_eq_true (show lf > 0 from h.1), decide_eq_true (show x > lo from h.2)] at h3; cases h3
      rw [if_neg hn] at hsk
      refine Aw.em tab_ok mb0 [] rfl rfl ?zo ?zk
      case zo =>
        repeat' apply AllP.cons
        all_goals first | exact trivial | exact inrk k (by omega)
      case zk =>
      refine ⟨k + 1, ?zg, ?zm, ⟨?zc, ?zv, ?zh, Nat.le_of_ble_eq_true rfl⟩⟩
      case zg =>
        (repeat' (first | assumption))
      case zm =>
        (repeat' (first | omega))
      case zc =>
        (repeat' (first | (refine And.intro ?_ ?_) | exact trivial | exact A.Le.refl _))
      case zv =>
        (repeat' (first | (refine And.intro ?_ ?_) | exact trivial | exact A.Le.refl _ | exact .of_eq (by rw [hsk]; rfl)))
      case zh =>
        (repeat' (first | (refine And.intro ?_ ?_) | exact trivial | exact (by rw [hsk]; rfl)))
  obtain rfl : k = r.length := by have := of_decide_eq_false h2; omega
  generalize (giveK q r r.length).1 = D at *
  refine Aw.sm tab_ok mb0 [] rfl rfl ?zo ?zk
  case zo =>
    repeat' apply AllP.cons
    all_goals first | exact trivial
  case zk =>
  refine Aw.freezeS (id := 0) (t := 2) (n := r.length) (sz := 1) (cs := D.map A.int) (ints D) rfl rfl (rowsI D) (by rw [ints_len]; exact olen) ?_
  exact Aw.ret ⟨_, .cons (.tmp _) (.cons (.tmp _) .nil), rfl⟩
end Go.Proofs.Ytlgnoifnfnpjeaa

