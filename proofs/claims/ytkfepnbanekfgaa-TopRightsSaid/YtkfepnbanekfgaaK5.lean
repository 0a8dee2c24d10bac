/- What the proof leans on, part 5: OS2 OS3 OS4 OS5 OS6 OS7 OS8 OH1 OH2 OH3 OH4 OH5 OH6. -/
import Derived.Test.YtkfepnbanekfgaaK4
set_option linter.all false
namespace Go.Proofs.Ytkfepnbanekfgaa
open Go Go.AL Go.AL.Q
theorem isRace_t (r : Rce) (hf : r.Fit) : Ans Try.prog 42 [.agg r.c] (.bool r.ok) := by
  have h1 := hf.n
  have h2 := hf.k
  have h3 := hf.s
  have ln := ints_lenI r.numbers
  have lk := ints_lenI r.keep
  have ls := ints_lenI r.spawn
  have lm : (r.many : Int) = r.numbers.length := rfl
  have hm : r.many = r.numbers.length := rfl
  have urc : Under 0 (A.pt r.c) := (Free.pt _ r.free).under
  refine told Try.func42 rfl rfl (Pure.of tab_ok Try.func42 rfl Try.ntmps42 rfl (all1 (.agg _ r.free)) (all1 (fun _ => rfl)) (by first | exact .s _ | assumption | exact .tup _ (by intro x hx; simp only [List.mem_cons, List.not_mem_nil, or_false] at hx; rcases hx with rfl | rfl | rfl | rfl <;> first | exact .s _ | (simp_all; done))) fun E hE => ?_)
  refine Aw.sm tab_ok mb0 [] rfl rfl ?zo ?zk
  case zo =>
    repeat' apply AllP.cons
    all_goals first | exact trivial
  case zk =>
  refine Aw.sm tab_ok mb0 [] rfl rfl ?zo ?zk
  case zo =>
    repeat' apply AllP.cons
    all_goals first | exact trivial | exact Nat.le_of_ble_eq_true rfl
  case zk =>
  refine Aw.keep (n := 0) (cst := [(1, .pt r.c), (3, .int r.many)]) (v := []) (Hl := []) hE ⟨urc, .s _, trivial⟩ trivial trivial ⟨⟨.refl _, .of_eq (congrArg A.int ln.symm), trivial⟩, trivial, trivial, Nat.zero_le _⟩ ?_
  refine Aw.sm tab_ok mb0 [(1, [.bool (wi r.many 1 6)]), (22, [.bool (wi r.line 0 100000000)]), (30, [.bool (wi r.mesh 0 ((r.many:Int) - 1))])] rfl rfl ?zo ?zk
  case zo =>
    repeat' apply AllP.cons
    all_goals first | exact trivial | exact id | exact fun _ => rfl | exact fun _ => Nat.le_of_ble_eq_true rfl | exact within_t _ _ _ | exact (within_t _ _ _).un | exact fun _ => (by simp only [Ob.of, inR]; omega)
  case zk =>
  have hd : A.bool r.head = A.bool (cond (cond (cond (cond (wi r.many 1 6) (((ints r.keep).length : Int) == r.many) false) (((ints r.spawn).length : Int) == r.many) false) (wi r.line 0 100000000) false) (wi r.mesh 0 ((r.many:Int) - 1)) false) := by rw [lk, ls]; rfl
  refine Aw.seq ?_
  refine Aw.sm tab_ok mb0 [] rfl rfl ?zo ?zk
  case zo =>
    repeat' apply AllP.cons
    all_goals first | exact trivial
  case zk =>
  have lr : (List.range r.many).length = r.many := List.length_range
  refine Aw.block (Aw.rounds 0 hE [(1, .pt r.c), (3, .int r.many)] (fun k : Nat => [(4, .bool (andAll r.head r.ageOk (List.range r.many) k)), (5, .int k)]) (fun _ => []) (fun k => k ≤ r.many) (fun k => r.many - k) 0
    (Nat.zero_le _) ⟨⟨.refl _, .refl _, trivial⟩, ⟨.of_eq (by rw [andAll_zero]; exact hd), .refl _, trivial⟩, trivial, Nat.le_refl _⟩ ⟨urc, .s _, trivial⟩ (fun _ _ => ⟨.s _, .s _, trivial⟩) (fun _ _ => trivial) fun k hk => ?_)
  refine Aw.seq ?_
  refine Aw.sm tab_ok mb0 [] rfl rfl ?zo ?zk
  case zo =>
    repeat' apply AllP.cons
    all_goals first | exact trivial | exact id | exact fun _ => rfl
  case zk =>
  refine Aw.cond rfl (fun h1 => Aw.skip ?_) (fun h1 => ?_)
  · have h1 : cond (andAll r.head r.ageOk (List.range r.many) k) (decide ((k : Int) < r.many)) false = true := h1
    have hb := ac1 h1
    have hlt : k < r.many := by have := of_decide_eq_true (ac2 h1); omega
    have hh : r.head = true := by unfold andAll at hb; exact ac1 hb
    have hk1 : r.keep.length = r.many := by unfold Rce.head at hh; have := eq_of_beq (ac2 (ac1 (ac1 (ac1 hh)))); omega
    have hs1 : r.spawn.length = r.many := by unfold Rce.head at hh; have := eq_of_beq (ac2 (ac1 (ac1 hh))); omega
    refine Aw.seq (Aw.block ?_)
    refine Aw.em tab_ok mb0 [(4, [.int (r.numbers.getD k 0)]), (6, [.bool (wi (r.numbers.getD k 0) 0 100000)]), (12, [.int (r.keep.getD k 0)]), (14, [.bool (wi (r.keep.getD k 0) 0 1000)]), (21, [.int (r.spawn.getD k 0)]), (23, [.bool (wi (r.spawn.getD k 0) 0 100)])] rfl rfl ?zo ?zk
    case zo =>
      repeat' apply AllP.cons
      all_goals first | exact trivial | exact id | exact rfl | exact fun _ => rfl | exact Nat.le_of_ble_eq_true rfl | exact fun _ => Nat.le_of_ble_eq_true rfl | exact Int.natCast_nonneg _ | exact fun _ => Int.natCast_nonneg _ | exact within_t _ _ _ | exact (within_t _ _ _).un | exact ints_getD hlt | exact fun _ => ints_getD (by omega)
    case zk =>
    refine Aw.em tab_ok mb0 [] rfl rfl ?zo ?zk
    case zo =>
      repeat' apply AllP.cons
      all_goals first | exact trivial | exact inrk k (by omega)
    case zk =>
    have e : andAll r.head r.ageOk (List.range r.many) (k + 1) = r.ageOk k := by
      rw [andAll_succ (by rw [lr]; exact hlt) hb, List.getElem_range]
    exact ⟨k + 1, hlt, by omega, ⟨.refl _, .refl _, trivial⟩, ⟨.of_eq (congrArg A.bool e), .refl _, trivial⟩, trivial, Nat.zero_le _⟩
  have h1 : cond (andAll r.head r.ageOk (List.range r.many) k) (decide ((k : Int) < r.many)) false = false := h1
  have hend : andAll r.head r.ageOk (List.range r.many) k = r.ok := (andAll_end (by
    cases e : andAll r.head r.ageOk (List.range r.many) k with
    | false => exact .inl rfl
    | true => rw [e] at h1; have := of_decide_eq_false h1; exact .inr (by rw [lr]; omega)) (by rw [lr]; exact hk)).trans rfl
  rw [hend]
  refine Aw.exit2 ?_
  refine Aw.sm tab_ok mb0 [] rfl rfl ?zo ?zk
  case zo =>
    repeat' apply AllP.cons
    all_goals first | exact trivial
  case zk =>
  exact Aw.ret ⟨_, .cons (.tmp _) .nil, rfl⟩
def padL (l : List Int) : List Int := l ++ List.replicate (6 - l.length) 0
def arr (l : List Int) : A := .agg ((padL l).map A.int)
theorem padL_len {l : List Int} (h : l.length ≤ 6) : (padL l).length = 6 := by simp [padL]; omega
theorem padL_getD (l : List Int) (k : Nat) : (padL l).getD k 0 = l.getD k 0 := by
  unfold padL
  simp only [List.getD_eq_getElem?_getD, List.getElem?_append]
  split
  · rfl
  · rename_i h
    rw [List.getElem?_eq_none (by omega : l.length ≤ k), List.getElem?_replicate]
    split <;> rfl
theorem padL_set {l : List Int} {k : Nat} (h : k < l.length) (v : Int) : (padL l).set k v = padL (l.set k v) := by
  unfold padL
  rw [List.set_append_left _ _ h, List.length_set]
theorem arr_free (l : List Int) : Free (arr l) := .agg _ fun x hx => by obtain ⟨n, _, rfl⟩ := List.mem_map.1 hx; exact .s _
theorem cells_under {n : Nat} (l : List Int) : UnderB n (.cells (l.map A.int)) := .cells _ fun x hx => by obtain ⟨n, _, rfl⟩ := List.mem_map.1 hx; exact .s _
theorem cells_get {l : List Int} {k : Nat} (h : k < l.length) : ((l.map A.int).getD k .un).down = .int (l.getD k 0) := by simp [List.getD_eq_getElem?_getD, h, A.down]
theorem padL_inj {a b : List Int} (h : a.length = b.length) (e : padL a = padL b) : a = b := by
  unfold padL at e
  exact (List.append_inj e h).1
theorem six : ((tab.zr 127).map A.down) = (List.replicate 6 (0 : Int)).map A.int := rfl
theorem first_t (r : Rce) (hr : RceOk r) : Ans Try.prog 48 [.agg r.c] (arr r.numbers) := by
  have hfr := arr_free r.numbers
  have h1 := hr.m1
  have h6 := hr.m6
  have hm : r.many = r.numbers.length := rfl
  refine told Try.func48 rfl rfl (Pure.of tab_ok Try.func48 rfl Try.ntmps48 rfl (all1 (.agg _ r.free)) (all1 (fun _ => rfl)) (by first | exact .s _ | assumption | exact .tup _ (by intro x hx; simp only [List.mem_cons, List.not_mem_nil, or_false] at hx; rcases hx with rfl | rfl | rfl | rfl <;> first | exact .s _ | (simp_all; done))) fun E hE => ?_)
  refine Aw.sm tab_ok mb0 [] rfl rfl ?zo ?zk
  case zo =>
    repeat' apply AllP.cons
    all_goals first | exact trivial
  case zk =>
  refine Aw.sm tab_ok mb0 [] rfl rfl ?zo ?zk
  case zo =>
    repeat' apply AllP.cons
    all_goals first | exact trivial
  case zk =>
  refine Aw.seq (SegW.start mixed ?_)
  refine SegW.run (b := 0) tab_ok mb0 4 [] rfl (by kernel_rfl) rfl rfl ?zo ?zk
  case zo =>
    repeat' apply AllP.cons
    all_goals first | exact trivial | exact id | exact rfl | exact Nat.le_of_ble_eq_true rfl | trace_state
  case zk =>
  refine SegW.step rfl (by kernel_rfl) rfl (fun i h1 h2 => by have h2 : i < 5 := h2; omega) (Does.raw rfl (DoesP.toR (DoesP.copyMs tab_ok rfl rfl rfl (by decide) rfl rfl rfl rfl (fun e => by
    have := congrArg List.length e
    rw [ints_len] at this
    simp at this
    have : r.numbers.length = 0 := by simp [this]
    omega) (ints_one _) (by rw [ints_len]; omega) (by rw [ints_len]; show 0 + _ ≤ 6; omega) ?_)))
  refine SegW.done (by kernel_rfl) (Nat.le_of_ble_eq_true rfl) ?_
  have hs : setSeg ((tab.zr 127).map A.down) 0 ((ints r.numbers).flatten.map A.down) = (padL r.numbers).map A.int := by
    rw [ints_flatten, six]
    unfold setSeg padL
    rw [List.take_zero, List.nil_append, ← List.map_drop, List.length_map, Nat.zero_add, List.drop_replicate, List.map_append]
  refine Aw.keep (n := 2) (cst := [(2, .ref 0 0), (3, .ref 1 0)]) (v := []) (Hl := [(0, .cells ((List.replicate 6 (0 : Int)).map A.int)), (1, .cells ((padL r.numbers).map A.int))]) (fun id h => hE id (by omega)) ⟨.ref _ _ (by decide), .ref _ _ (by decide), trivial⟩ trivial ⟨⟨by decide, cells_under _⟩, ⟨by decide, cells_under _⟩, trivial⟩
    ⟨⟨.refl _, .refl _, trivial⟩, trivial, ⟨rfl, congrArg (fun x => some (B.cells x)) hs, trivial⟩, Nat.le_of_ble_eq_true rfl⟩ ?_
  have pl := padL_len (l := r.numbers) (by omega)
  have pm : ((padL r.numbers).map A.int).length = 6 := by rw [List.length_map, pl]
  have hld : A.agg (((((padL r.numbers).map A.int).drop 0).take 6).map A.down) = arr r.numbers := by
    rw [List.drop_zero, List.take_of_length_le (by omega), map_down_int]; rfl
  refine Aw.sm tab_ok mb0 [(0, [arr r.numbers])] rfl rfl ?zo ?zk
  case zo =>
    repeat' apply AllP.cons
    all_goals first | exact trivial | exact Nat.le_of_ble_eq_true rfl | exact hld | exact (show 0 + 6 ≤ ((padL r.numbers).map A.int).length by omega) | exact (show ((padL r.numbers).map A.int).length = 6 from pm)
  case zk =>
  have hst : setSeg ((List.replicate 6 (0 : Int)).map A.int) 0 ((((padL r.numbers).map A.int)).map A.down) = (padL r.numbers).map A.int := by
    rw [map_down_int]
    unfold setSeg
    rw [List.take_zero, List.nil_append, Nat.zero_add, pm, List.drop_eq_nil_of_le (by simp), List.append_nil]
  refine Aw.ret ⟨_, .cons (resC rfl (congrArg (fun x => some (B.cells x)) hst) (by decide) ?_ ?_) .nil, rfl⟩
  · show Nat.ble (0 + 6) ((padL r.numbers).map A.int).length = true
    rw [pm]; rfl
  · exact hld
end Go.Proofs.Ytkfepnbanekfgaa

namespace Go.Proofs.Ytkfepnbanekfgaa
open Go Go.AL Go.AL.Q
def dn : Nat → Int
  | 0 => -1
  | j + 1 => j
theorem dn_eq (k : Nat) : dn k = (k : Int) - 1 := by cases k <;> simp [dn]
theorem minI (a b : Int) : (if b < a then b else a) = min a b := by rw [Int.min_def]; split <;> split <;> omega
theorem padL_zero {n : Nat} (h : n ≤ 6) : padL (List.replicate n 0) = List.replicate 6 0 := by
  unfold padL
  rw [List.length_replicate, List.replicate_append_replicate]
  congr 1; omega
theorem spawnN_succ (r : Rce) (l : List Int) (k : Nat) : spawnN r l (k + 1) = spawnN r l k ++ [l.getD k 0 * r.spawn.getD k 0] := by
  unfold spawnN; rw [List.range_succ, List.map_append]; rfl
theorem spawnN_len (r : Rce) (l : List Int) (k : Nat) : (spawnN r l k).length = k := by simp [spawnN]
theorem mul_bd {a b x y : Int} (ha : 0 ≤ a ∧ a ≤ x) (hb : 0 ≤ b ∧ b ≤ y) : 0 ≤ a * b ∧ a * b ≤ x * y := by
  refine ⟨Int.mul_nonneg ha.1 hb.1, ?_⟩
  exact Int.le_trans (Int.mul_le_mul_of_nonneg_left hb.2 ha.1) (Int.mul_le_mul_of_nonneg_right ha.2 (by omega))
theorem year_t (r : Rce) (hr : RceOk r) (l : List Int) (b take x : Int) (hp : Pop r b l) (hb : b ≤ 10000000) (ht : 0 ≤ take ∧ take ≤ 1000000000) (hx : 0 ≤ x ∧ x ≤ 100000) :
    Ans Try.prog 49 [.agg r.c, arr l, .int take, .int x] (.tup [.int (yearF r l take x).1, arr (yearF r l take x).2]) := by
  have hfr : Free (.tup [.int (yearF r l take x).1, arr (yearF r l take x).2]) := .tup _ (allC (.s _) (all1 (arr_free _)))
  rw [show yearF r l take x = (spawnF r (caughtF r l take), winF r (caughtF r l take) x) from rfl] at hfr ⊢
  have m1 := hr.m1
  have m6 := hr.m6
  have hmesh := hr.h
  have hm : r.many = r.numbers.length := rfl
  have ln := ints_lenI r.numbers
  have z6 : UnderB 3 (.cells ((List.replicate 6 (0 : Int)).map A.int)) := cells_under _
  refine told Try.func49 rfl rfl (Pure.of tab_ok Try.func49 rfl Try.ntmps49 rfl (allC (.agg _ r.free) (allC (arr_free l) (allC (.s _) (all1 (.s _))))) (allC (fun _ => rfl) (allC (fun _ => rfl) (allC (fun _ => rfl) (all1 (fun _ => rfl))))) (by first | exact .s _ | assumption | exact .tup _ (by intro x hx; simp only [List.mem_cons, List.not_mem_nil, or_false] at hx; rcases hx with rfl | rfl | rfl | rfl <;> first | exact .s _ | (simp_all; done))) fun E hE => ?_)
  have hE2 : ∀ id, 2 ≤ id → E.φ0 id = none := fun id h => hE id (by omega)
  have hE3 : ∀ id, 3 ≤ id → E.φ0 id = none := fun id h => hE id (by omega)
  have urc : Under 2 (A.pt r.c) := (Free.pt _ r.free).under
  refine Aw.sm tab_ok (fun d => Nat.beq d 5) [] rfl rfl ?zo ?zk
  case zo =>
    repeat' apply AllP.cons
    all_goals first | exact trivial
  case zk =>
  refine Aw.sm tab_ok (fun d => Nat.beq d 5) [] rfl rfl ?zo ?zk
  case zo =>
    repeat' apply AllP.cons
    all_goals first | exact trivial | exact Nat.le_of_ble_eq_true rfl | exact (by simp only [Ob.of, inR]; omega)
  case zk =>
  refine Aw.seq ?_
  refine Aw.sm tab_ok (fun d => Nat.beq d 5) [] rfl rfl ?zo ?zk
  case zo =>
    repeat' apply AllP.cons
    all_goals first | exact trivial
  case zk =>
  refine Aw.block (Aw.rounds (ι := Nat × List Int × Int) 2 hE2 [(3, .int x), (4, .pt r.c), (5, .ref 0 0), (9, .ref 1 0), (10, .int (dn r.many))] (fun i => [(2, .int i.2.2), (11, .int (dn i.1))]) (fun i => [(0, .cells ((padL i.2.1).map A.int)), (1, .cells ((List.replicate 6 (0 : Int)).map A.int))])
    (fun i => i.1 ≤ r.many ∧ Pop r b i.2.1 ∧ (0 ≤ i.2.2 ∧ i.2.2 ≤ 1000000000) ∧ catchF i.2.1 r.mesh.toNat i.1 i.2.2 = caughtF r l take) (fun i => i.1) (r.many, l, take)
    ⟨Nat.le_refl _, hp, ht, rfl⟩ ⟨⟨.refl _, .refl _, .refl _, .refl _, .of_eq (congrArg A.int (by rw [dn_eq, ln, ← hm])), trivial⟩, ⟨.refl _, .of_eq (congrArg A.int (by rw [dn_eq, ln, ← hm])), trivial⟩, ⟨congrArg (fun x => some (B.cells x)) (map_down_int (padL l)), rfl, trivial⟩, Nat.le_of_ble_eq_true rfl⟩
    ⟨.s _, urc, .ref _ _ (by decide), .ref _ _ (by decide), .s _, trivial⟩ (fun _ _ => ⟨.s _, .s _, trivial⟩) (fun _ _ => ⟨⟨by decide, cells_under _⟩, ⟨by decide, cells_under _⟩, trivial⟩) ?_)
  rintro ⟨k, l1, tk⟩ ⟨hk, hpop, htk, hrun⟩
  simp only at hk hpop htk hrun
  refine Aw.seq ?_
  refine Aw.sm tab_ok (fun d => Nat.beq d 5) [] rfl rfl ?zo ?zk
  case zo =>
    repeat' apply AllP.cons
    all_goals first | exact trivial | exact Nat.le_of_ble_eq_true rfl
  case zk =>
  refine Aw.cond rfl (fun h1 => Aw.skip ?_) (fun h1 => ?_)
  · have h1' : dn k ≥ r.mesh := of_decide_eq_true h1
    obtain ⟨j, rfl⟩ : ∃ j, k = j + 1 := by cases k with
      | zero => have : (-1 : Int) ≥ r.mesh := h1'; omega
      | succ j => exact ⟨j, rfl⟩
    have h2 : r.mesh.toNat ≤ j := by have : (j : Int) ≥ r.mesh := h1'; omega
    rw [catchF, if_pos h2] at hrun
    have p6 := padL_len (l := l1) (by rw [hpop.len]; exact m6)
    have pj : j < ((padL l1).map A.int).length := by rw [List.length_map, p6]; omega
    have jl : j < l1.length := by rw [hpop.len]; omega
    have hg : (((padL l1).map A.int).getD j .un).down = .int (l1.getD j 0) := by rw [cells_get (by omega), padL_getD]
    have nn := getD_pos hpop.pos j
    have ns := sum_ge hpop.pos j
    have nsb := hpop.sum
    have hmn := minI (l1.getD j 0) tk
    have hg' : (((padL l1).map A.int).getD (0 + j * 1) .un).down = .int (l1.getD j 0) := by rw [Nat.zero_add, Nat.mul_one]; exact hg
    have pj' : 0 + j * 1 < ((padL l1).map A.int).length := by omega
    have pj2 : 0 + j * 1 + 1 ≤ ((padL l1).map A.int).length := by omega
    have j6 : (j : Int) < (6 : Nat) := by omega
    refine Aw.seq (Aw.block ?_)
    refine Aw.sm tab_ok (fun d => Nat.beq d 5) [(2, [.int (l1.getD j 0)])] rfl rfl ?zo ?zk
    case zo =>
      repeat' apply AllP.cons
      all_goals first | exact trivial | exact Int.natCast_nonneg _ | exact hg' | exact pj' | exact j6
    case zk =>
    have ob1 : inR (tk - (if tk < l1.getD j 0 then tk else l1.getD j 0)) := by rw [hmn]; simp only [inR]; omega
    have ob2 : inR (l1.getD j 0 - (if tk < l1.getD j 0 then tk else l1.getD j 0)) := by rw [hmn]; simp only [inR]; omega
    have hst : setSeg ((padL l1).map A.int) (0 + j * 1) [A.int (l1.getD j 0 - (if tk < l1.getD j 0 then tk else l1.getD j 0))] = (padL (l1.set j (l1.getD j 0 - min (l1.getD j 0) tk))).map A.int := by
      rw [hmn, Nat.zero_add, Nat.mul_one, setSeg_set (by rw [p6]; omega), padL_set jl]
    refine Aw.em tab_ok (fun d => Nat.beq d 5) [(3, [.int (l1.getD j 0)])] rfl rfl ?zo ?zk
    case zo =>
      repeat' apply AllP.cons
      all_goals first | exact trivial | exact rfl | exact Int.natCast_nonneg _ | exact hg' | exact pj' | exact j6 | exact ob1 | exact ob2
    case zk =>
    refine Aw.em tab_ok (fun d => Nat.beq d 5) [] rfl rfl ?zo ?zk
    case zo =>
      repeat' apply AllP.cons
      all_goals first | exact trivial | exact (show inR ((j : Int) - 1) by simp only [inR]; omega)
    case zk =>
    have hpop2 := catchF_pop (mesh := j) (j + 1) tk l1 hpop htk.1 hk
    rw [catchF, if_pos (Nat.le_refl _), show ∀ (l : List Int) (t : Int), catchF l j j t = l from fun l t => by cases j with
      | zero => rfl
      | succ i => rw [catchF, if_neg (by omega)]] at hpop2
    exact ⟨(j, l1.set j (l1.getD j 0 - min (l1.getD j 0) tk), tk - min (l1.getD j 0) tk), ⟨by show j ≤ _; omega, hpop2, by show 0 ≤ tk - min (l1.getD j 0) tk ∧ tk - min (l1.getD j 0) tk ≤ _; omega, hrun⟩, Nat.lt_succ_self j,
      ⟨.refl _, .refl _, .refl _, .refl _, .refl _, trivial⟩, ⟨.of_eq (show A.int (tk - min (l1.getD j 0) tk) = A.int (tk - (if tk < l1.getD j 0 then tk else l1.getD j 0)) by rw [hmn]), .of_eq (show A.int (dn j) = A.int ((j : Int) - 1) by rw [dn_eq]), trivial⟩,
      ⟨congrArg (fun x => some (B.cells x)) hst, rfl, trivial⟩, Nat.le_of_ble_eq_true rfl⟩
  have h1' : ¬ dn k ≥ r.mesh := of_decide_eq_false h1
  have hC : l1 = caughtF r l take := by
    rw [← hrun]
    cases k with
    | zero => rfl
    | succ j =>
      have : ¬ (j : Int) ≥ r.mesh := h1'
      rw [catchF, if_neg (by omega)]
  refine Aw.exit2 ?_
  generalize caughtF r l take = C at *
  subst hC
  clear hrun htk h1 h1' hk
  have hln := hpop.len
  have pc6 := padL_len (l := l1) (by omega)
  refine Aw.keep (n := 2) (cst := [(3, .int x), (4, .pt r.c), (5, .ref 0 0), (9, .ref 1 0), (10, .int (dn r.many))]) (v := []) (Hl := [(0, .cells ((padL l1).map A.int)), (1, .cells ((List.replicate 6 (0 : Int)).map A.int))]) hE2 ⟨.s _, urc, .ref _ _ (by decide), .ref _ _ (by decide), .s _, trivial⟩ trivial ⟨⟨by decide, cells_under _⟩, ⟨by decide, cells_under _⟩, trivial⟩
    ⟨⟨.refl _, .refl _, .refl _, .refl _, .refl _, trivial⟩, trivial, ⟨rfl, rfl, trivial⟩, Nat.le_of_ble_eq_true rfl⟩ ?_
  refine Aw.sm tab_ok (fun d => Nat.beq d 5) [] rfl rfl ?zo ?zk
  case zo =>
    repeat' apply AllP.cons
    all_goals first | exact trivial
  case zk =>
  refine Aw.sm tab_ok (fun d => Nat.beq d 5) [] rfl rfl ?zo ?zk
  case zo =>
    repeat' apply AllP.cons
    all_goals first | exact trivial
  case zk =>
  refine Aw.seq ?_
  have hdn := dn_eq r.many
  refine Aw.sm tab_ok (fun d => Nat.beq d 5) [] rfl rfl ?zo ?zk
  case zo =>
    repeat' apply AllP.cons
    all_goals first | exact trivial | exact (show inR (dn r.many + 1) by simp only [inR]; omega)
  case zk =>
  have uc3 : UnderL 3 [(3, A.int x), (4, .pt r.c), (5, .ref 0 0), (9, .ref 1 0), (10, .int (dn r.many)), (14, .ref 2 0), (45, .int r.many)] := ⟨.s _, (Free.pt _ r.free).under, .ref _ _ (by decide), .ref _ _ (by decide), .s _, .ref _ _ (by decide), .s _, trivial⟩
  refine Aw.block (Aw.rounds (ι := Nat) 3 hE3 [(3, .int x), (4, .pt r.c), (5, .ref 0 0), (9, .ref 1 0), (10, .int (dn r.many)), (14, .ref 2 0), (45, .int r.many)] (fun k => [(13, grL 3 (spawnN r l1 k)), (46, .int k)])
    (fun k => [(0, .cells ((padL l1).map A.int)), (1, .cells ((List.replicate 6 (0 : Int)).map A.int)), (2, .cells ((padL (winN r l1 k)).map A.int))]) (fun k => k ≤ r.many) (fun k => r.many - k) 0
    (Nat.zero_le _) ⟨⟨.refl _, .refl _, .refl _, .refl _, .refl _, .refl _, .of_eq (congrArg A.int (by omega)), trivial⟩, ⟨.refl _, .refl _, trivial⟩, ⟨rfl, rfl, congrArg (fun x : List Int => some (B.cells (x.map A.int))) (padL_zero m6).symm, trivial⟩, Nat.le_of_ble_eq_true rfl⟩
    uc3 (fun _ _ => ⟨grL_under _, .s _, trivial⟩) (fun _ _ => ⟨⟨by decide, cells_under _⟩, ⟨by decide, cells_under _⟩, ⟨by decide, cells_under _⟩, trivial⟩) fun k hk => ?_)
  refine Aw.sm tab_ok (fun d => Nat.beq d 5) [] rfl rfl ?zo ?zk
  case zo =>
    repeat' apply AllP.cons
    all_goals first | exact trivial
  case zk =>
  refine Aw.seq (Aw.cond rfl (fun h1 => Aw.skip1 ?_) (fun h1 => Aw.exit2 ?_))
  · have hlt : k < r.many := by have := of_decide_eq_true h1; omega
    have hw := winN_pop hr hpop k (by omega)
    have hkb := hr.kb k hlt
    have hsb := hr.sb k hlt
    have hc0 := getD_pos hpop.pos k
    have hc1 := sum_ge hpop.pos k
    have hc2 := hpop.sum
    have hkl := hr.k
    have hsl := hr.s
    have hcs := mul_bd (a := l1.getD k 0) (x := 10000000) ⟨hc0, by omega⟩ hsb
    have hck := mul_bd (a := l1.getD k 0) (x := 10000000) ⟨hc0, by omega⟩ hkb
    have hg' : (((padL l1).map A.int).getD (0 + k * 1) .un).down = .int (l1.getD k 0) := by rw [Nat.zero_add, Nat.mul_one, cells_get (by omega), padL_getD]
    have pk' : 0 + k * 1 < ((padL l1).map A.int).length := by rw [List.length_map]; omega
    have k6 : (k : Int) < (6 : Nat) := by omega
    have om : inR (l1.getD k 0 * r.spawn.getD k 0) := by simp only [inR]; omega
    have ok : inR (l1.getD k 0 * r.keep.getD k 0) := by simp only [inR]; omega
    have es := spawnN_succ r l1 k
    have el := spawnN_len r l1 k
    refine Aw.seq (Aw.block ?_)
    refine Aw.sm tab_ok (fun d => Nat.beq d 5) [] rfl rfl ?zo ?zk
    case zo =>
      repeat' apply AllP.cons
      all_goals first | exact trivial
    case zk =>
    refine Aw.join1 3 hE3 [(3, A.int x), (4, .pt r.c), (5, .ref 0 0), (9, .ref 1 0), (10, .int (dn r.many)), (14, .ref 2 0), (45, .int r.many), (46, .int k), (15, .int k)] [(13, grL 3 (spawnN r l1 (k + 1)))] [(0, .cells ((padL l1).map A.int)), (1, .cells ((List.replicate 6 (0 : Int)).map A.int)), (2, .cells ((padL (winN r l1 k)).map A.int))]
      ⟨.s _, (Free.pt _ r.free).under, .ref _ _ (by decide), .ref _ _ (by decide), .s _, .ref _ _ (by decide), .s _, .s _, .s _, trivial⟩ ⟨grL_under _, trivial⟩ ⟨⟨by decide, cells_under _⟩, ⟨by decide, cells_under _⟩, ⟨by decide, cells_under _⟩, trivial⟩ ?_ ?_
    · cases hsp : spawnN r l1 k with
      | nil =>
        rw [hsp] at es
        refine Aw.ed tab_ok mixed (fun d => Nat.beq d 5) [(3, [.int (l1.getD k 0)]), (8, [.int (r.spawn.getD k 0)])] rfl (by kernel_rfl) rfl rfl ?zo ?zk
        case zo =>
          repeat' apply AllP.cons
          all_goals first | exact trivial | exact rfl | exact Nat.le_of_ble_eq_true rfl | exact Int.natCast_nonneg _ | exact hg' | exact pk' | exact k6 | exact om | exact ints_getD (by omega) | exact (show ∀ z ∈ [] ++ [[A.int _]], z.length = 1 from fun z hz => by simp at hz; subst hz; rfl)
        case zk =>
        exact ⟨⟨.refl _, .refl _, .refl _, .refl _, .refl _, .refl _, .refl _, .refl _, .refl _, trivial⟩, ⟨.of_eq (show grL 3 (spawnN r l1 (k + 1)) = A.sl false (.own 3) ([] ++ [[A.int (l1.getD k 0 * r.spawn.getD k 0)]]) by rw [es]; rfl), trivial⟩, ⟨rfl, rfl, rfl, trivial⟩, Nat.le_of_ble_eq_true rfl⟩
      | cons y ys =>
        rw [hsp] at es el
        have hlen2 : (ints (y :: ys)).length = k := by rw [ints_len]; exact el
        have hz := ints_one (y :: ys)
        refine Aw.ed tab_ok mixed (fun d => Nat.beq d 5) [(3, [.int (l1.getD k 0)]), (8, [.int (r.spawn.getD k 0)])] rfl (by kernel_rfl) rfl rfl ?zo ?zk
        case zo =>
          repeat' apply AllP.cons
          all_goals first | exact trivial | exact rfl | exact Nat.le_of_ble_eq_true rfl | exact Int.natCast_nonneg _ | exact hg' | exact pk' | exact k6 | exact om | exact ints_getD (by omega) | exact (show ∀ z ∈ [[A.int _]], z.length = 1 from fun z hz => by simp at hz; subst hz; rfl) | exact hz | exact (show ((ints (y :: ys)).length + 1) * 8 ≤ 140737488355328 by omega) | exact (show (ints (y :: ys)).length + 1 ≤ maxLen by unfold maxLen; omega)
        case zk =>
        exact ⟨⟨.refl _, .refl _, .refl _, .refl _, .refl _, .refl _, .refl _, .refl _, .refl _, trivial⟩, ⟨.of_eq (show grL 3 (spawnN r l1 (k + 1)) = A.sl false (.own 3) (ints (y :: ys) ++ [[A.int (l1.getD k 0 * r.spawn.getD k 0)]]) by rw [es]; simp [grL, ints]), trivial⟩, ⟨rfl, rfl, rfl, trivial⟩, Nat.le_of_ble_eq_true rfl⟩
    obtain ⟨m, hm1⟩ : ∃ m : Nat, m = min (k + 1) (r.many - 1) := ⟨_, rfl⟩
    have hmi : (if dn r.many < (k : Int) + 1 then dn r.many else (k : Int) + 1) = (m : Int) := by split <;> omega
    have w6 := padL_len (l := winN r l1 k) (by rw [hw.len]; exact m6)
    have wl := hw.len
    have hwg : (((padL (winN r l1 k)).map A.int).getD (0 + Int.toNat (if dn r.many < (k : Int) + 1 then dn r.many else (k : Int) + 1) * 1) .un).down = .int ((winN r l1 k).getD m 0) := by
      rw [hmi, Int.toNat_natCast, Nat.zero_add, Nat.mul_one, cells_get (by omega), padL_getD]
    have wb := getD_pos hw.pos m
    have wg := sum_ge hw.pos m
    have ws := hw.sum
    have wt := sum_take_le hpop.pos k
    have lb := live_bd hc0 hkb
    have q1 : 0 + Int.toNat (if dn r.many < (k : Int) + 1 then dn r.many else (k : Int) + 1) * 1 + 1 ≤ ((padL (winN r l1 k)).map A.int).length := by rw [hmi, Int.toNat_natCast, List.length_map, w6]; omega
    have q2 : 0 + Int.toNat (if dn r.many < (k : Int) + 1 then dn r.many else (k : Int) + 1) * 1 < ((padL (winN r l1 k)).map A.int).length := q1
    have q3 : 0 ≤ (if dn r.many < (k : Int) + 1 then dn r.many else (k : Int) + 1) := by rw [hmi]; omega
    have q4 : (if dn r.many < (k : Int) + 1 then dn r.many else (k : Int) + 1) < (6 : Nat) := by rw [hmi]; omega
    have q5 : inR ((winN r l1 k).getD m 0 + (l1.getD k 0 * r.keep.getD k 0).tdiv 1000) := by simp only [inR]; omega
    have q6 : (1000 : Int) ≠ 0 ∧ inR ((l1.getD k 0 * r.keep.getD k 0).tdiv 1000) := ⟨by decide, by simp only [inR]; omega⟩
    have hst : setSeg ((padL (winN r l1 k)).map A.int) (0 + Int.toNat (if dn r.many < (k : Int) + 1 then dn r.many else (k : Int) + 1) * 1) [A.int ((winN r l1 k).getD m 0 + (l1.getD k 0 * r.keep.getD k 0).tdiv 1000)] = (padL (winN r l1 (k + 1))).map A.int := by
      rw [hmi, Int.toNat_natCast, Nat.zero_add, Nat.mul_one, setSeg_set (by rw [w6]; omega), padL_set (by omega), winN, ← hm1]
    refine Aw.ed tab_ok mixed (fun d => Nat.beq d 5) [(5, [.int ((winN r l1 k).getD m 0)]), (8, [.int (l1.getD k 0)]), (13, [.int (r.keep.getD k 0)])] rfl (by kernel_rfl) rfl rfl ?zo ?zk
    case zo =>
      repeat' apply AllP.cons
      all_goals first | exact trivial | exact rfl | exact Nat.le_of_ble_eq_true rfl | exact Int.natCast_nonneg _ | exact hg' | exact pk' | exact k6 | exact ok | exact hwg | exact ints_getD (by omega) | exact q1 | exact q3 | exact q4 | exact q5 | exact q6 | exact inrk k (by omega)
    case zk =>
    refine Aw.em tab_ok (fun d => Nat.beq d 5) [] rfl rfl ?zo ?zk
    case zo =>
      repeat' apply AllP.cons
      all_goals first | exact trivial | exact inrk k (by omega)
    case zk =>
    exact ⟨k + 1, hlt, by omega, ⟨.refl _, .refl _, .refl _, .refl _, .refl _, .refl _, .refl _, trivial⟩, ⟨.refl _, .refl _, trivial⟩, ⟨rfl, rfl, congrArg (fun x => some (B.cells x)) hst, trivial⟩, Nat.le_of_ble_eq_true rfl⟩
  have hle : k = r.many := by have := of_decide_eq_false h1; omega
  subst hle
  have hw := winN_pop hr hpop r.many (Nat.le_refl _)
  have wl := hw.len
  have w6 := padL_len (l := winN r l1 r.many) (by omega)
  have ws := hw.sum
  have wt := sum_take_le hpop.pos r.many
  have wg := sum_ge hw.pos 0
  have wb := getD_pos hw.pos 0
  have hps := hpop.sum
  have hg0 : (((padL (winN r l1 r.many)).map A.int).getD (0 + 0 * 1) .un).down = .int ((winN r l1 r.many).getD 0 0) := by rw [cells_get (by omega), padL_getD]
  have q2 : 0 + 0 * 1 < ((padL (winN r l1 r.many)).map A.int).length := by rw [List.length_map]; omega
  have q1 : 0 + 0 * 1 + 1 ≤ ((padL (winN r l1 r.many)).map A.int).length := q2
  have q5 : inR ((winN r l1 r.many).getD 0 0 + x) := by simp only [inR]; omega
  have hst : setSeg ((padL (winN r l1 r.many)).map A.int) (0 + 0 * 1) [A.int ((winN r l1 r.many).getD 0 0 + x)] = (padL (winF r l1 x)).map A.int := by
    rw [setSeg_set (by omega), padL_set (by omega)]; rfl
  refine Aw.sm tab_ok (fun d => Nat.beq d 5) [(1, [.int ((winN r l1 r.many).getD 0 0)])] rfl rfl ?zo ?zk
  case zo =>
    repeat' apply AllP.cons
    all_goals first | exact trivial | exact rfl | exact Int.natCast_nonneg _ | exact hg0 | exact q1 | exact q5
  case zk =>
  refine Aw.keep (n := 3) (cst := [(9, .ref 1 0), (13, grL 3 (spawnN r l1 r.many)), (14, .ref 2 0)]) (v := []) (Hl := [(1, .cells ((List.replicate 6 (0 : Int)).map A.int)), (2, .cells ((padL (winF r l1 x)).map A.int))]) hE3 ⟨.ref _ _ (by decide), grL_under _, .ref _ _ (by decide), trivial⟩ trivial ⟨⟨by decide, cells_under _⟩, ⟨by decide, cells_under _⟩, trivial⟩
    ⟨⟨.refl _, .refl _, .refl _, trivial⟩, trivial, ⟨rfl, congrArg (fun x => some (B.cells x)) hst, trivial⟩, Nat.le_of_ble_eq_true rfl⟩ ?_
  have el := spawnN_len r l1 r.many
  have hsb : ∀ y ∈ spawnN r l1 r.many, 0 ≤ y ∧ y ≤ 1000000000 := fun y hy => by
    obtain ⟨i, hi, rfl⟩ := List.mem_map.1 hy
    have hi := List.mem_range.1 hi
    have hc1 := sum_ge hpop.pos i
    exact mul_bd (x := 10000000) (y := 100) ⟨getD_pos hpop.pos i, by omega⟩ (hr.sb i hi)
  have hsum := sum_t false .any (spawnN r l1 r.many) (by omega) (sum_g _ 1000000000 (by omega) (by decide) hsb) (fun _ => rfl)
  have hsp : spawnF r l1 = (spawnN r l1 r.many).sum := rfl
  rw [hsp]
  have hgr : grL 3 (spawnN r l1 r.many) = .sl false (.own 3) (ints (spawnN r l1 r.many)) := by
    cases e : spawnN r l1 r.many with
    | nil => rw [e] at el; simp at el; omega
    | cons y ys => rfl
  rw [hgr]
  have f6 := padL_len (l := winF r l1 x) (by rw [(winF_pop hr hpop hx.1).len]; exact m6)
  have pm : ((padL (winF r l1 x)).map A.int).length = 6 := by rw [List.length_map, f6]
  have hld : A.agg (((((padL (winF r l1 x)).map A.int).drop 0).take 6).map A.down) = arr (winF r l1 x) := by
    rw [List.drop_zero, List.take_of_length_le (by omega), map_down_int]; rfl
  refine Aw.sd tab_ok mixed (fun d => Nat.beq d 5) [(1, [.int (spawnN r l1 r.many).sum]), (2, [arr (winF r l1 x)])] rfl (by kernel_rfl) rfl rfl ?zo ?zk
  case zo =>
    repeat' apply AllP.cons
    all_goals first | exact trivial | exact Nat.le_of_ble_eq_true rfl | exact hsum | exact hld | exact (show 0 + 6 ≤ ((padL (winF r l1 x)).map A.int).length by omega) | exact (show ((padL (winF r l1 x)).map A.int).length = 6 from pm)
  case zk =>
  have hst2 : setSeg ((List.replicate 6 (0 : Int)).map A.int) 0 ((((padL (winF r l1 x)).map A.int)).map A.down) = (padL (winF r l1 x)).map A.int := by
    rw [map_down_int]
    unfold setSeg
    rw [List.take_zero, List.nil_append, Nat.zero_add, pm, List.drop_eq_nil_of_le (by simp), List.append_nil]
  refine Aw.ret ⟨_, .cons (.tmp _) (.cons (resC rfl (congrArg (fun x => some (B.cells x)) hst2) (by decide) ?_ ?_) .nil), rfl⟩
  · show Nat.ble (0 + 6) ((padL (winF r l1 x)).map A.int).length = true
    rw [pm]; rfl
  · exact hld
end Go.Proofs.Ytkfepnbanekfgaa

namespace Go.Proofs.Ytkfepnbanekfgaa
open Go Go.AL Go.AL.Q
theorem arr_ld {l : List Int} (h : l.length ≤ 6) : A.agg ((((((padL l).map A.int)).drop 0).take 6).map A.down) = arr l := by
  have := padL_len h
  rw [List.drop_zero, List.take_of_length_le (by rw [List.length_map]; omega), map_down_int]; rfl
theorem arr_len {l : List Int} (h : l.length ≤ 6) : ((padL l).map A.int).length = 6 := by rw [List.length_map, padL_len h]
theorem arr_st {l m : List Int} (h : l.length ≤ 6) (hm : m.length ≤ 6) : setSeg ((padL m).map A.int) 0 ((((padL l).map A.int)).map A.down) = (padL l).map A.int := by
  rw [map_down_int]
  unfold setSeg
  rw [List.take_zero, List.nil_append, Nat.zero_add, arr_len h, List.drop_eq_nil_of_le (by rw [arr_len hm]; exact Nat.le_refl _), List.append_nil]
theorem arr_st0 {l : List Int} (h : l.length ≤ 6) : setSeg ((List.replicate 6 (0 : Int)).map A.int) 0 ((((padL l).map A.int)).map A.down) = (padL l).map A.int := by
  have := arr_st h (m := []) (by simp)
  exact this
end Go.Proofs.Ytkfepnbanekfgaa

namespace Go.Proofs.Ytkfepnbanekfgaa
open Go Go.AL Go.AL.Q
theorem check_t (f : Fish) (hf : f.Fit) : Ans Try.prog 20 [.agg f.c] (.int f.err) := by
  have h1 := hf.r
  have h2 := hf.m
  have h3 := hf.s
  have lr : ((f.races.map Rce.c).length : Int) = f.many := by simp [Fish.many]
  have lm := ints_lenI f.most
  have ls : ((f.seasons.map NR.c).length : Int) = f.seasons.length := by simp
  have ufc : Under 0 (A.pt f.c) := (Free.pt _ f.free).under
  have usl : Under 0 (A.sl f.sn .any (f.seasons.map NR.c)) := (free_map NR.free _ _ _).under
  refine told Try.func20 rfl rfl (Pure.of tab_ok Try.func20 rfl Try.ntmps20 rfl (all1 (.agg _ f.free)) (all1 (fun _ => rfl)) (by first | exact .s _ | assumption | exact .tup _ (by intro x hx; simp only [List.mem_cons, List.not_mem_nil, or_false] at hx; rcases hx with rfl | rfl | rfl | rfl <;> first | exact .s _ | (simp_all; done))) fun E hE => ?_)
  refine Aw.sm tab_ok mb0 [] rfl rfl ?zo ?zk
  case zo =>
    repeat' apply AllP.cons
    all_goals first | exact trivial
  case zk =>
  refine Aw.sm tab_ok mb0 [] rfl rfl ?zo ?zk
  case zo =>
    repeat' apply AllP.cons
    all_goals first | exact trivial | exact Nat.le_of_ble_eq_true rfl
  case zk =>
  refine Aw.keep (n := 0) (cst := [(1, .pt f.c), (3, .int f.many)]) (v := []) (Hl := []) hE ⟨ufc, .s _, trivial⟩ trivial trivial ⟨⟨.refl _, .of_eq (congrArg A.int lr.symm), trivial⟩, trivial, trivial, Nat.zero_le _⟩ ?_
  refine Aw.sm tab_ok mb0 [(1, [.bool (wi f.many 1 3)]), (13, [.bool (wi (f.seasons.map NR.c).length 1 6)])] rfl rfl ?zo ?zk
  case zo =>
    repeat' apply AllP.cons
    all_goals first | exact trivial | exact id | exact fun _ => rfl | exact fun _ => Nat.le_of_ble_eq_true rfl | exact within_t _ _ _ | exact (within_t _ _ _).un
  case zk =>
  have hd : A.bool f.head = A.bool (cond (cond (wi f.many 1 3) (((ints f.most).length : Int) == f.many) false) (wi (f.seasons.map NR.c).length 1 6) false) := by rw [lm, ls]; rfl
  have lra : (List.range f.many).length = f.many := List.length_range
  refine Aw.seq ?_
  refine Aw.sm tab_ok mb0 [] rfl rfl ?zo ?zk
  case zo =>
    repeat' apply AllP.cons
    all_goals first | exact trivial
  case zk =>
  refine Aw.block (Aw.rounds 0 hE [(1, .pt f.c), (3, .int f.many)] (fun k : Nat => [(4, .bool (andAll f.head f.raceOk (List.range f.many) k)), (5, .int k)]) (fun _ => []) (fun k => k ≤ f.many) (fun k => f.many - k) 0
    (Nat.zero_le _) ⟨⟨.refl _, .refl _, trivial⟩, ⟨.of_eq (by rw [andAll_zero]; exact hd), .refl _, trivial⟩, trivial, Nat.le_refl _⟩ ⟨ufc, .s _, trivial⟩ (fun _ _ => ⟨.s _, .s _, trivial⟩) (fun _ _ => trivial) fun k hk => ?_)
  refine Aw.seq ?_
  refine Aw.sm tab_ok mb0 [] rfl rfl ?zo ?zk
  case zo =>
    repeat' apply AllP.cons
    all_goals first | exact trivial | exact id | exact fun _ => rfl
  case zk =>
  refine Aw.cond rfl (fun h1 => Aw.skip ?_) (fun h1 => ?_)
  · have h1 : cond (andAll f.head f.raceOk (List.range f.many) k) (decide ((k : Int) < f.many)) false = true := h1
    have hb := ac1 h1
    have hlt : k < f.many := by have := of_decide_eq_true (ac2 h1); omega
    have hh : f.head = true := by unfold andAll at hb; exact ac1 hb
    have hm1 : f.most.length = f.many := by unfold Fish.head at hh; have := eq_of_beq (ac2 (ac1 hh)); omega
    have hri : f.race k = f.races[k] := by unfold Fish.race; rw [List.getD_eq_getElem?_getD, List.getElem?_eq_getElem hlt]; rfl
    have hg : (f.races.map Rce.c)[k]? = some (f.race k).c := by rw [get_map hlt, hri]
    have hfit : (f.race k).Fit := by rw [hri]; exact hf.race _ (List.getElem_mem hlt)
    refine Aw.seq (Aw.block ?_)
    refine Aw.em tab_ok mb0 [(3, (f.race k).c), (6, [.bool (f.race k).ok]), (11, [.int (f.most.getD k 0)]), (13, [.bool (wi (f.most.getD k 0) 0 100)])] rfl rfl ?zo ?zk
    case zo =>
      repeat' apply AllP.cons
      all_goals first | exact trivial | exact id | exact rfl | exact fun _ => rfl | exact Nat.le_of_ble_eq_true rfl | exact fun _ => Nat.le_of_ble_eq_true rfl | exact Int.natCast_nonneg _ | exact fun _ => Int.natCast_nonneg _ | exact (within_t _ _ _).un | exact hg | exact isRace_t _ hfit | exact fun _ => ints_getD (by omega)
    case zk =>
    refine Aw.em tab_ok mb0 [] rfl rfl ?zo ?zk
    case zo =>
      repeat' apply AllP.cons
      all_goals first | exact trivial | exact inrk k (by omega)
    case zk =>
    have e : andAll f.head f.raceOk (List.range f.many) (k + 1) = f.raceOk k := by
      rw [andAll_succ (by rw [lra]; exact hlt) hb, List.getElem_range]
    exact ⟨k + 1, hlt, by omega, ⟨.refl _, .refl _, trivial⟩, ⟨.of_eq (congrArg A.bool e), .refl _, trivial⟩, trivial, Nat.zero_le _⟩
  have h1 : cond (andAll f.head f.raceOk (List.range f.many) k) (decide ((k : Int) < f.many)) false = false := h1
  have hend : andAll f.head f.raceOk (List.range f.many) k = f.b1 := (andAll_end (by
    cases e : andAll f.head f.raceOk (List.range f.many) k with
    | false => exact .inl rfl
    | true => rw [e] at h1; have := of_decide_eq_false h1; exact .inr (by rw [lra]; omega)) (by rw [lra]; exact hk)).trans rfl
  rw [hend]
  refine Aw.exit2 ?_
  have hb1 : f.b1 = true → 1 ≤ f.many := fun h => by
    unfold Fish.b1 at h
    have hh := ac1 h
    unfold Fish.head at hh
    have a1 := wi_iff.1 (ac1 (ac1 hh)); omega
  have hchk := check_eq f
  generalize f.b1 = B1 at *
  clear hd hend h1
  refine Aw.keep (n := 0) (cst := [(1, .pt f.c), (3, .int f.many)]) (v := [(4, .bool B1)]) (Hl := []) hE ⟨ufc, .s _, trivial⟩ ⟨.s _, trivial⟩ trivial ⟨⟨.refl _, .refl _, trivial⟩, ⟨.refl _, trivial⟩, trivial, Nat.zero_le _⟩ ?_
  refine Aw.seq ?_
  refine Aw.sm tab_ok mb0 [] rfl rfl ?zo ?zk
  case zo =>
    repeat' apply AllP.cons
    all_goals first | exact trivial | exact Nat.le_of_ble_eq_true rfl
  case zk =>
  refine Aw.block (Aw.rounds 0 hE [(1, .pt f.c), (3, .int f.many), (54, .sl f.sn .any (f.seasons.map NR.c)), (55, .int (f.seasons.map NR.c).length)] (fun k : Nat => [(4, .bool (andAll B1 (seasonOk' f.many f.years) f.seasons k)), (56, .int k)]) (fun _ => []) (fun k => k ≤ f.seasons.length) (fun k => f.seasons.length - k) 0
    (Nat.zero_le _) ⟨⟨.refl _, .refl _, .refl _, .refl _, trivial⟩, ⟨.of_eq (by rw [andAll_zero]; rfl), .refl _, trivial⟩, trivial, Nat.zero_le _⟩ ⟨ufc, .s _, usl, .s _, trivial⟩ (fun _ _ => ⟨.s _, .s _, trivial⟩) (fun _ _ => trivial) fun k hk => ?_)
  refine Aw.sm tab_ok mb0 [] rfl rfl ?zo ?zk
  case zo =>
    repeat' apply AllP.cons
    all_goals first | exact trivial
  case zk =>
  refine Aw.seq (Aw.cond rfl (fun h1 => Aw.skip1 ?_) (fun h1 => Aw.exit2 ?_))
  · have hlt : k < f.seasons.length := by have := of_decide_eq_true h1; omega
    have hstep := andAll_step (b := B1) (p := seasonOk' f.many f.years) hlt
    have hgk : (f.seasons.map NR.c)[k]? = some f.seasons[k].c := get_map hlt
    have h0s : 0 < f.seasons.length := by omega
    have hg0 : (f.seasons.map NR.c)[Int.toNat 0]? = some f.seasons[0].c := get_map h0s
    have hfs := hf.sea f.seasons[k] (List.getElem_mem hlt)
    have hfirst : andAll B1 (seasonOk' f.many f.years) f.seasons k = true → ((f.seasons[k].l.length : Int) == f.many) = true → f.seasons[0].l.length = f.many ∧ 1 ≤ f.many := fun ha hb => by
      have hB : B1 = true := by unfold andAll at ha; exact ac1 ha
      refine ⟨?_, hb1 hB⟩
      by_cases hk0 : k = 0
      · subst hk0; have := eq_of_beq hb; omega
      · unfold andAll at ha
        have := List.all_eq_true.1 (ac2 ha) f.seasons[0] (by rw [List.mem_take_iff_getElem]; exact ⟨0, by omega, rfl⟩)
        have := eq_of_beq (ac1 this); omega
    have hyears : 1 ≤ f.seasons[0].l.length → ∃ l0, (f.seasons[0].l.map NL.c)[Int.toNat 0]? = some (NL.c l0) ∧ l0.l.length = f.years := fun h => by
      refine ⟨f.seasons[0].l[0], get_map h, ?_⟩
      unfold Fish.years Fish.recs
      have e0 : f.seasons.getD 0 ⟨false, []⟩ = f.seasons[0] := by simp [List.getD_eq_getElem?_getD, h0s]
      rw [e0, List.getD_eq_getElem?_getD, List.getElem?_eq_getElem h]; rfl
    generalize f.seasons[k] = s at *
    generalize f.seasons[0] = s0 at *
    generalize andAll B1 (seasonOk' f.many f.years) f.seasons k = Bk at *
    have lsl : ((s.l.map NL.c).length : Int) = s.l.length := by simp
    have us2 : Under 0 (A.sl s.n .any (s.l.map NL.c)) := (free_map NL.free _ _ _).under
    refine Aw.seq (Aw.block ?_)
    refine Aw.sm tab_ok mb0 [(0, s.c)] rfl rfl ?zo ?zk
    case zo =>
      repeat' apply AllP.cons
      all_goals first | exact trivial | exact rfl | exact Nat.le_of_ble_eq_true rfl | exact Int.natCast_nonneg _ | exact hgk
    case zk =>
    refine Aw.sm tab_ok mb0 [] rfl rfl ?zo ?zk
    case zo =>
      repeat' apply AllP.cons
      all_goals first | exact trivial | exact id | exact fun _ => rfl
    case zk =>
    refine Aw.sm tab_ok mb0 [] rfl rfl ?zo ?zk
    case zo =>
      repeat' apply AllP.cons
      all_goals first | exact trivial
    case zk =>
    have hw : A.bool (cond Bk ((s.l.length : Int) == f.many) false) = A.bool (cond Bk (((s.l.map NL.c).length : Int) == f.many) false) := by rw [lsl]
    refine Aw.block (Aw.rounds 0 hE [(1, .pt f.c), (3, .int f.many), (54, .sl f.sn .any (f.seasons.map NR.c)), (55, .int (f.seasons.map NR.c).length), (56, .int k), (67, .sl s.n .any (s.l.map NL.c)), (68, .int (s.l.map NL.c).length)] (fun j : Nat => [(4, .bool (andAll (cond Bk ((s.l.length : Int) == f.many) false) (recOk' f.years) s.l j)), (69, .int j)]) (fun _ => []) (fun j => j ≤ s.l.length) (fun j => s.l.length - j) 0
      (Nat.zero_le _) ⟨⟨.refl _, .refl _, .refl _, .refl _, .refl _, .refl _, .refl _, trivial⟩, ⟨.of_eq (by rw [andAll_zero]; exact hw), .refl _, trivial⟩, trivial, Nat.zero_le _⟩ ⟨ufc, .s _, usl, .s _, .s _, us2, .s _, trivial⟩ (fun _ _ => ⟨.s _, .s _, trivial⟩) (fun _ _ => trivial) fun j hj => ?_)
    refine Aw.sm tab_ok mb0 [] rfl rfl ?zo ?zk
    case zo =>
      repeat' apply AllP.cons
      all_goals first | exact trivial
    case zk =>
    refine Aw.seq (Aw.cond rfl (fun h2 => Aw.skip1 ?_) (fun h2 => Aw.exit2 ?_))
    · have hjl : j < s.l.length := by have := of_decide_eq_true h2; omega
      have hstep2 := andAll_step (b := cond Bk ((s.l.length : Int) == f.many) false) (p := recOk' f.years) hjl
      have hgj : (s.l.map NL.c)[j]? = some s.l[j].c := get_map hjl
      have hfl : nlFit s.l[j] := hfs.2 _ (List.getElem_mem hjl)
      generalize s.l[j] = l at *
      have hbj' : andAll (cond Bk ((s.l.length : Int) == f.many) false) (recOk' f.years) s.l j = true → ∃ l0, (s0.l.map NL.c)[Int.toNat 0]? = some (NL.c l0) ∧ l0.l.length = f.years := fun h => by
        unfold andAll at h
        have := hfirst (ac1 (ac1 h)) (ac2 (ac1 h))
        exact hyears (by omega)
      generalize andAll (cond Bk ((s.l.length : Int) == f.many) false) (recOk' f.years) s.l j = Bj at *
      have lll := ints_lenI l.l
      have ul : Under 0 (A.sl l.n .any (ints l.l)) := (free_ints _ _ _).under
      refine Aw.seq (Aw.block ?_)
      refine Aw.sm tab_ok mb0 [(0, l.c)] rfl rfl ?zo ?zk
      case zo =>
        repeat' apply AllP.cons
        all_goals first | exact trivial | exact rfl | exact Nat.le_of_ble_eq_true rfl | exact Int.natCast_nonneg _ | exact hgj
      case zk =>
      obtain ⟨l0, hl0a, hl0b⟩ : ∃ l0 : NL, (Bj = true → (s0.l.map NL.c)[Int.toNat 0]? = some (NL.c l0)) ∧ (Bj = true → l0.l.length = f.years) := by
        cases Bj with
        | false => exact ⟨⟨false, []⟩, fun h => (by cases h), fun h => (by cases h)⟩
        | true => obtain ⟨l0, a, b⟩ := hbj' rfl; exact ⟨l0, fun _ => a, fun _ => b⟩
      refine Aw.sm tab_ok mb0 [(4, [.bool (wi (ints l.l).length 1 10)]), (11, s0.c), (13, l0.c)] rfl rfl ?zo ?zk
      case zo =>
        repeat' apply AllP.cons
        all_goals first | exact trivial | exact id | exact fun _ => rfl | exact fun _ => Nat.le_of_ble_eq_true rfl | exact fun _ => Int.natCast_nonneg _ | exact (within_t _ _ _).un | exact fun h => hl0a (ac1 (gq_of h)) | exact fun _ => hg0
      case zk =>
      have hv : cond (cond Bj (wi l.l.length 1 10) false) ((l.l.length : Int) == f.years) false = cond (cond Bj (wi (ints l.l).length 1 10) false) (((ints l.l).length : Int) == ((ints l0.l).length : Int)) false := by
        rw [lll, ints_lenI l0.l]
        cases Bj with
        | false => rfl
        | true => rw [hl0b rfl]
      refine Aw.sm tab_ok mb0 [] rfl rfl ?zo ?zk
      case zo =>
        repeat' apply AllP.cons
        all_goals first | exact trivial
      case zk =>
      refine Aw.block (Aw.rounds 0 hE [(1, .pt f.c), (3, .int f.many), (54, .sl f.sn .any (f.seasons.map NR.c)), (55, .int (f.seasons.map NR.c).length), (56, .int k), (67, .sl s.n .any (s.l.map NL.c)), (68, .int (s.l.map NL.c).length), (69, .int j), (91, .sl l.n .any (ints l.l)), (92, .int (ints l.l).length)] (fun i : Nat => [(4, .bool (andAll (cond (cond Bj (wi l.l.length 1 10) false) ((l.l.length : Int) == f.years) false) (fun n => wi n 0 100000) l.l i)), (93, .int i)]) (fun _ => []) (fun i => i ≤ l.l.length) (fun i => l.l.length - i) 0
        (Nat.zero_le _) ⟨⟨.refl _, .refl _, .refl _, .refl _, .refl _, .refl _, .refl _, .refl _, .refl _, .refl _, trivial⟩, ⟨.of_eq (by rw [andAll_zero]; exact congrArg A.bool hv), .refl _, trivial⟩, trivial, Nat.zero_le _⟩ ⟨ufc, .s _, usl, .s _, .s _, us2, .s _, .s _, ul, .s _, trivial⟩ (fun _ _ => ⟨.s _, .s _, trivial⟩) (fun _ _ => trivial) fun i hi => ?_)
      refine Aw.sm tab_ok mb0 [] rfl rfl ?zo ?zk
      case zo =>
        repeat' apply AllP.cons
        all_goals first | exact trivial
      case zk =>
      refine Aw.seq (Aw.cond rfl (fun h3 => Aw.skip1 ?_) (fun h3 => Aw.exit2 ?_))
      · have hil : i < l.l.length := by have := of_decide_eq_true h3; omega
        have hstep3 := andAll_step (b := cond (cond Bj (wi l.l.length 1 10) false) ((l.l.length : Int) == f.years) false) (p := fun n => wi n 0 100000) hil
        refine Aw.seq (Aw.block ?_)
        refine Aw.sm tab_ok mb0 [(0, [.int l.l[i]])] rfl rfl ?zo ?zk
        case zo =>
          repeat' apply AllP.cons
          all_goals first | exact trivial | exact rfl | exact Nat.le_of_ble_eq_true rfl | exact Int.natCast_nonneg _ | exact ints_get hil
        case zk =>
        refine Aw.em tab_ok mb0 [(3, [.bool (wi l.l[i] 0 100000)])] rfl rfl ?zo ?zk
        case zo =>
          repeat' apply AllP.cons
          all_goals first | exact trivial | exact id | exact fun _ => rfl | exact (within_t _ _ _).un
        case zk =>
        have hfl2 : (l.l.length : Int) ≤ 9223372036854775806 := hfl
        refine Aw.em tab_ok mb0 [] rfl rfl ?zo ?zk
        case zo =>
          repeat' apply AllP.cons
          all_goals first | exact trivial | exact inrk i (by omega)
        case zk =>
        exact ⟨i + 1, hil, by omega, ⟨.refl _, .refl _, .refl _, .refl _, .refl _, .refl _, .refl _, .refl _, .refl _, .refl _, trivial⟩, ⟨.of_eq (congrArg A.bool hstep3), .refl _, trivial⟩, trivial, Nat.zero_le _⟩
      have hle : i = l.l.length := by have := of_decide_eq_false h3; omega
      subst hle
      have hjl2 := hfs.1
      refine Aw.em tab_ok mb0 [] rfl rfl ?zo ?zk
      case zo =>
        repeat' apply AllP.cons
        all_goals first | exact trivial | exact inrk j (by omega)
      case zk =>
      exact ⟨j + 1, hjl, by omega, ⟨.refl _, .refl _, .refl _, .refl _, .refl _, .refl _, .refl _, trivial⟩, ⟨.of_eq (congrArg A.bool (by rw [hstep2, andAll_full]; unfold recOk'; rw [← cond_assoc, ← cond_assoc])), .refl _, trivial⟩, trivial, Nat.zero_le _⟩
    have hle : j = s.l.length := by have := of_decide_eq_false h2; omega
    subst hle
    refine Aw.em tab_ok mb0 [] rfl rfl ?zo ?zk
    case zo =>
      repeat' apply AllP.cons
      all_goals first | exact trivial | exact inrk k (by omega)
    case zk =>
    exact ⟨k + 1, hlt, by omega, ⟨.refl _, .refl _, .refl _, .refl _, trivial⟩, ⟨.of_eq (congrArg A.bool (by rw [hstep, andAll_full]; unfold seasonOk'; rw [← cond_assoc])), .refl _, trivial⟩, trivial, Nat.zero_le _⟩
  have hle : k = f.seasons.length := by have := of_decide_eq_false h1; omega
  subst hle
  rw [andAll_full, hchk]
  refine Aw.seq ?_
  refine Aw.sm tab_ok mb0 [] rfl rfl ?zo ?zk
  case zo =>
    repeat' apply AllP.cons
    all_goals first | exact trivial
  case zk =>
  refine Aw.cond rfl (fun h1 => ?_) (fun h1 => Aw.skip ?_)
  · have hno : f.ok = false := by simpa using h1
    refine Aw.sm tab_ok mb0 [] rfl rfl ?zo ?zk
    case zo =>
      repeat' apply AllP.cons
      all_goals first | exact trivial
    case zk =>
    exact Aw.ret ⟨_, .cons (.tmp _) .nil, by unfold Fish.err; rw [hno]; rfl⟩
  · have hok : f.ok = true := by simpa using h1
    refine Aw.sm tab_ok mb0 [] rfl rfl ?zo ?zk
    case zo =>
      repeat' apply AllP.cons
      all_goals first | exact trivial
    case zk =>
    exact Aw.ret ⟨_, .cons (.tmp _) .nil, by unfold Fish.err; rw [hok]; rfl⟩
end Go.Proofs.Ytkfepnbanekfgaa

namespace Go.Proofs.Ytkfepnbanekfgaa
open Go Go.AL Go.AL.Q
set_option maxRecDepth 100000 in
theorem eq3 (a b : Int) : pureRun Try.prog (Op.equalIn 9999 3 (.int .i64 a) (.int .i64 b)) = some (a == b) := by rfl
def ia (l : List Int) : Value := .agg (l.map (Value.int .i64)).toArray
set_option maxRecDepth 100000 in
theorem eqA (t : Nat) (h1 : pureRun Try.prog (underlying t) = some (.array 6 3)) (l m : List Int) (hl : l.length = 6) (hm : m.length = 6) : pureRun Try.prog (Op.equal t (ia l) (ia m)) = some (l == m) := by
  have h4 : pureRun Try.prog (sizeOf 3) = some 1 := rfl
  have h5 : pureRun Try.prog (isAgg 3) = some false := rfl
  have pp : ∀ {α : Type} (x : α), pureRun Try.prog (pure x) = some x := fun x => rfl
  have pt : ∀ (xs : Array Value) (i : Nat) (x : Value), xs[i]? = some x → pureRun Try.prog (part 3 xs i) = some x := fun xs i x h => by
    simp [part, pureRun_bind, h5, h, pp]
  rw [Op.equal, Op.maxDepth, show (10000 : Nat) = 9999 + 1 from rfl, Op.equalIn, pureRun_bind, h1]
  match l, m, hl, hm with
  | [a0, a1, a2, a3, a4, a5], [b0, b1, b2, b3, b4, b5], _, _ =>
  simp only [Option.bind_some, ia, pureRun_bind, h4, List.map]
  simp only [Std.Legacy.Range.forIn_eq_forIn_range', Std.Legacy.Range.size]
  have pts : ∀ (c0 c1 c2 c3 c4 c5 : Int) (i : Nat) (x : Value), [Value.int .i64 c0, Value.int .i64 c1, .int .i64 c2, .int .i64 c3, .int .i64 c4, .int .i64 c5][i]? = some x →
    pureRun Try.prog (part 3 (List.toArray [Value.int .i64 c0, Value.int .i64 c1, .int .i64 c2, .int .i64 c3, .int .i64 c4, .int .i64 c5]) i) = some x := fun c0 c1 c2 c3 c4 c5 i x h => pt _ _ _ (by simpa using h)
  have r8 : List.range' 0 ((6 - 0 + 1 - 1) / 1) = [0, 1, 2, 3, 4, 5] := rfl
  rw [r8]
  by_cases e0 : a0 = b0
  · subst e0
    by_cases e1 : a1 = b1
    · subst e1
      by_cases e2 : a2 = b2
      · subst e2
        by_cases e3 : a3 = b3
        · subst e3
          by_cases e4 : a4 = b4
          · subst e4
            by_cases e5 : a5 = b5
            · subst e5
              simp [pureRun_bind, pts, eq3, pp]
            · simp [pureRun_bind, pts, eq3, pp, e5]
          · simp [pureRun_bind, pts, eq3, pp, e4]
        · simp [pureRun_bind, pts, eq3, pp, e3]
      · simp [pureRun_bind, pts, eq3, pp, e2]
    · simp [pureRun_bind, pts, eq3, pp, e1]
  · simp [pureRun_bind, pts, eq3, pp, e0]
theorem conc_ints : ∀ l : List Int, concA (.agg (l.map A.int)) = some (ia l) := by
  have h : ∀ l : List Int, concCells (l.map A.int) = some (l.map (Value.int .i64)) := fun l => by
    induction l with
    | nil => rfl
    | cons a l ih => simp only [List.map_cons, concCells, concA, ih]
  intro l
  simp only [concA, h]; rfl
set_option maxRecDepth 100000 in
theorem und65 : pureRun Try.prog (underlying 127) = some (.array 6 3) := by
  have h : pureRun Try.prog (underlying 127) = Try.prog.underlying 127 := rfl
  rw [h, Try.underlying127]
theorem eg65 : Try.prog.eqGuardType Try.prog.depth 127 = false := by kernel_rfl
set_option maxRecDepth 100000 in
theorem eqArr (x y : Operand) {l m : List Int} (hl : l.length = 6) (hm : m.length = 6) : EqIs tab .eql 127 x y (.agg (l.map A.int)) (.agg (m.map A.int)) (l == m) := by
  refine ⟨_, _, conc_ints l, conc_ints m, (congrFun (congrFun (congrFun (congrFun (congrFun (congrFun (show tab.eqv = pureEq Try.prog from rfl) _) _) _) _) _) _).trans ?_⟩
  show pureEq Try.prog .eql 127 x y (ia l) (ia m) = _
  have h2 := eqA 127 und65 l m hl hm
  have hp : pureRun Try.prog program = some Try.prog := rfl
  have pp : ∀ {α : Type} (x : α), pureRun Try.prog (pure x) = some x := fun x => rfl
  have e1 : pureRun Try.prog (eqGuard .eql 127 x y (ia l) (ia m)) = some () := by
    simp [eqGuard, ia, pureRun_bind, hp, eg65, pp]
  have e2 : pureRun Try.prog (binOp .eql 127 (ia l) (ia m)) = some (.bool (l == m)) := by
    have : binOp .eql 127 (ia l) (ia m) = (Op.equal 127 (ia l) (ia m) >>= fun b => pure (.bool b)) := rfl
    rw [this, pureRun_bind, h2]; rfl
  unfold pureEq
  rw [pureRun_bind, e1]
  exact e2
theorem ne_t (n x : Int) : Ans Try.prog 51 [.int n, .pt [.int x]] (.bool (n != x)) := by
  refine told Try.func51 rfl rfl (Pure.of tab_ok Try.func51 rfl Try.ntmps51 rfl (allC (.s _) (all1 (.pt _ (all1 (.s _))))) (allC (fun _ => rfl) (all1 (fun _ => rfl))) (by first | exact .s _ | assumption | exact .tup _ (by intro x hx; simp only [List.mem_cons, List.not_mem_nil, or_false] at hx; rcases hx with rfl | rfl | rfl | rfl <;> first | exact .s _ | (simp_all; done))) fun E hE => ?_)
  refine Aw.sm tab_ok mb0 [] rfl rfl ?zo ?zk
  case zo =>
    repeat' apply AllP.cons
    all_goals first | exact trivial
  case zk =>
  refine Aw.sm tab_ok mb0 [] rfl rfl ?zo ?zk
  case zo =>
    repeat' apply AllP.cons
    all_goals first | exact trivial | exact Nat.le_of_ble_eq_true rfl
  case zk =>
  exact Aw.ret ⟨_, .cons (.tmp _) .nil, rfl⟩
theorem index_t (b : Bool) (c : Cap) (l : List Int) (x : Int) (hl : (l.length : Int) ≤ 9223372036854775806) (hc : ∀ u, spareOf (.sl b c (ints l)) u = none) : Ans Try.prog 67 [.sl b c (ints l), .fn (.func 51) [] [.pt [.int x]]] (.int (idxF (fun n => n != x) 0 l)) := by
  have hfn : Free (.fn (.func 51) [] [.pt [.int x]]) := .fn _ _ _ allN (all1 (.pt _ (all1 (.s _))))
  generalize hR : idxF (fun n => n != x) 0 l = R
  refine told Try.func67 rfl rfl (Pure.of tab_ok Try.func67 rfl Try.ntmps67 rfl (allC (free_ints _ _ _) (all1 hfn)) (allC hc (all1 fun _ => rfl)) (.s _) fun E hE => ?_)
  refine Aw.keep (n := 0) (cst := [(1, .fn (.func 51) [] [.pt [.int x]])]) (v := [(0, .sl b .any (ints l))]) (Hl := []) hE ⟨hfn.under, trivial⟩ ⟨(free_ints _ _ _).under, trivial⟩ trivial ⟨⟨.refl _, trivial⟩, ⟨.any _ _ _, trivial⟩, trivial, Nat.le_refl _⟩ ?_
  have lz := ints_lenI l
  refine Aw.sm tab_ok mb0 [] rfl rfl ?zo ?zk
  case zo =>
    repeat' apply AllP.cons
    all_goals first | exact trivial
  case zk =>
  refine Aw.seq ?_
  refine Aw.sm tab_ok mb0 [] rfl rfl ?zo ?zk
  case zo =>
    repeat' apply AllP.cons
    all_goals first | exact trivial
  case zk =>
  refine Aw.block (Aw.rounds 0 hE [(0, .sl b .any (ints l)), (1, .fn (.func 51) [] [.pt [.int x]]), (7, .int (ints l).length)] (fun k : Nat => [(8, .int k)]) (fun _ => []) (fun k => k ≤ l.length ∧ idxF (fun n => n != x) k (l.drop k) = R) (fun k => l.length - k) 0
    ⟨Nat.zero_le _, hR⟩ ⟨⟨.refl _, .refl _, .refl _, trivial⟩, ⟨.refl _, trivial⟩, trivial, Nat.le_refl _⟩ ⟨(free_ints _ _ _).under, hfn.under, .s _, trivial⟩ (fun _ _ => ⟨.s _, trivial⟩) (fun _ _ => trivial) fun k hk => ?_)
  obtain ⟨hk, hrun⟩ := hk
  refine Aw.sm tab_ok mb0 [] rfl rfl ?zo ?zk
  case zo =>
    repeat' apply AllP.cons
    all_goals first | exact trivial
  case zk =>
  refine Aw.seq (Aw.cond rfl (fun h1 => Aw.skip1 ?_) (fun h1 => Aw.exit2 ?_))
  · have hlt : k < l.length := by have := of_decide_eq_true h1; omega
    rw [List.drop_eq_getElem_cons hlt, idxF] at hrun
    refine Aw.seq (Aw.block ?_)
    refine Aw.sm tab_ok mb0 [] rfl rfl ?zo ?zk
    case zo =>
      repeat' apply AllP.cons
      all_goals first | exact trivial
    case zk =>
    refine Aw.sm tab_ok mb0 [(3, [.int l[k]]), (5, [.bool (l[k] != x)])] rfl rfl ?zo ?zk
    case zo =>
      repeat' apply AllP.cons
      all_goals first | exact trivial | exact rfl | exact Nat.le_of_ble_eq_true rfl | exact Int.natCast_nonneg _ | exact ints_get hlt | exact ne_t _ _
    case zk =>
    refine Aw.cond rfl (fun h2 => ?_) (fun h2 => Aw.skip ?_)
    · have h2' : (l[k] != x) = true := h2
      rw [if_pos h2'] at hrun
      refine Aw.sm tab_ok mb0 [] rfl rfl ?zo ?zk
      case zo =>
        repeat' apply AllP.cons
        all_goals first | exact trivial
      case zk =>
      exact Aw.ret ⟨_, .cons (.tmp _) .nil, congrArg A.int hrun⟩
    · have h2' : (l[k] != x) = false := h2
      rw [h2'] at hrun
      refine Aw.em tab_ok mb0 [] rfl rfl ?zo ?zk
      case zo =>
        repeat' apply AllP.cons
        all_goals first | exact trivial | exact inrk k (by omega)
      case zk =>
      exact ⟨k + 1, ⟨hlt, hrun⟩, by omega, ⟨.refl _, .refl _, .refl _, trivial⟩, ⟨.refl _, trivial⟩, trivial, Nat.zero_le _⟩
  · have hle : k = l.length := by have := of_decide_eq_false h1; omega
    subst hle
    rw [List.drop_length, idxF] at hrun
    refine Aw.sm tab_ok mb0 [] rfl rfl ?zo ?zk
    case zo =>
      repeat' apply AllP.cons
      all_goals first | exact trivial
    case zk =>
    exact Aw.ret ⟨_, .cons (.tmp _) .nil, congrArg A.int hrun⟩
theorem contains_t (b : Bool) (c : Cap) (l : List Int) (x : Int) (hl : (l.length : Int) ≤ 9223372036854775806) (hc : ∀ u, spareOf (.sl b c (ints l)) u = none) : Ans Try.prog 50 [.sl b c (ints l), .fn (.func 51) [] [.pt [.int x]]] (.bool (l.any fun n => n != x)) := by
  have hfn : Free (.fn (.func 51) [] [.pt [.int x]]) := .fn _ _ _ allN (all1 (.pt _ (all1 (.s _))))
  rw [← idxF_any l 0]
  refine told Try.func50 rfl rfl (Pure.of tab_ok Try.func50 rfl Try.ntmps50 rfl (allC (free_ints _ _ _) (all1 hfn)) (allC hc (all1 fun _ => rfl)) (.s _) fun E hE => ?_)
  refine Aw.keep (n := 0) (cst := [(1, .fn (.func 51) [] [.pt [.int x]])]) (v := [(0, .sl b .any (ints l))]) (Hl := []) hE ⟨hfn.under, trivial⟩ ⟨(free_ints _ _ _).under, trivial⟩ trivial ⟨⟨.refl _, trivial⟩, ⟨.any _ _ _, trivial⟩, trivial, Nat.le_refl _⟩ ?_
  refine Aw.sm tab_ok mb0 [] rfl rfl ?zo ?zk
  case zo =>
    repeat' apply AllP.cons
    all_goals first | exact trivial
  case zk =>
  refine Aw.sm tab_ok mb0 [(2, [.int (idxF (fun n => n != x) 0 l)])] rfl rfl ?zo ?zk
  case zo =>
    repeat' apply AllP.cons
    all_goals first | exact trivial | exact index_t b .any l x hl (fun _ => rfl)
  case zk =>
  exact Aw.ret ⟨_, .cons (.tmp _) .nil, rfl⟩
end Go.Proofs.Ytkfepnbanekfgaa

namespace Go.Proofs.Ytkfepnbanekfgaa
open Go Go.AL Go.AL.Q
def Fish.rl (f : Fish) (s r : Nat) : NL := (f.seasons.getD s ⟨false, []⟩).l.getD r ⟨false, []⟩
theorem fish_race {f : Fish} {r : Nat} (h : r < f.many) : (f.races.map Rce.c)[Int.toNat (r : Int)]? = some (f.race r).c := by
  rw [Int.toNat_natCast, get_map h]
  unfold Q.Fish.race; rw [List.getD_eq_getElem?_getD, List.getElem?_eq_getElem h]; rfl
theorem fish_sea {f : Fish} {s : Nat} (h : s < f.seasons.length) : (f.seasons.map NR.c)[Int.toNat (s : Int)]? = some (f.seasons.getD s ⟨false, []⟩).c := by
  rw [Int.toNat_natCast, get_map h, List.getD_eq_getElem?_getD, List.getElem?_eq_getElem h]; rfl
theorem fish_rec {f : Fish} (hf : FishOk f) {s r : Nat} (hs : s < f.seasons.length) (hr : r < f.many) : ((f.seasons.getD s ⟨false, []⟩).l.map NL.c)[Int.toNat (r : Int)]? = some (Fish.rl f s r).c := by
  have h := hf.sl s hs
  unfold Fish.rl
  rw [Int.toNat_natCast, get_map (by omega)]
  simp [List.getD_eq_getElem?_getD, show r < (f.seasons[s]?.getD ⟨false, []⟩).l.length by rw [← List.getD_eq_getElem?_getD]; omega]
theorem breaks_t (f : Fish) (hf : FishOk f) (r s : Nat) (q : Int) (hr : r < f.many) (hs : s < f.seasons.length) (hq : 0 ≤ q ∧ q ≤ 10001) : Ans Try.prog 31 [.agg f.c, .int r, .int s, .int q] (.int (f.breakY r s q)) := by
  have hrc := hf.race r hr
  have hmb := hf.mb r hr
  have hml := hf.most
  have hfr0 := fish_race hr
  have hfs0 := fish_sea hs
  have hfl0 := fish_rec hf hs hr
  have hrl := hf.rl s r hs hr
  have hrb := hf.rb s r hs hr
  have hy10 := hf.y10
  have hqm := mul_bd (a := q) (b := f.most.getD r 0) (x := 10001) (y := 100) hq hmb
  have htk : 0 ≤ takeF q (f.most.getD r 0) ∧ takeF q (f.most.getD r 0) ≤ 1000000000 := by
    refine ⟨take_nn hq.1 hmb.1, ?_⟩
    unfold takeF
    rw [Int.tdiv_eq_ediv_of_nonneg (by omega)]; omega
  have htq : inR (takeF q (f.most.getD r 0)) := by simp only [inR]; omega
  obtain ⟨hl, hL⟩ : ∃ hl : NL, Fish.rl f s r = hl := ⟨_, rfl⟩
  have hLl : f.recs s r = hl.l := by rw [← hL]; rfl
  have hR : f.breakY r s q = idxF (fun n => decide (n < (f.race r).line)) 0 (playF (f.race r) (f.race r).numbers (List.replicate hl.l.length (takeF q (f.most.getD r 0))) hl.l) := by rw [← hLl]; rfl
  rw [hLl] at hrl hrb
  rw [hL] at hfl0
  generalize f.breakY r s q = R at *
  have m6 : (f.race r).numbers.length ≤ 6 := hrc.m6
  have ll := ints_lenI hl.l
  have ul : ∀ {n}, Under n (A.sl hl.n .any (ints hl.l)) := (free_ints _ _ _).under
  have ufc : ∀ {n}, Under n (A.pt f.c) := (Free.pt _ f.free).under
  have ur : ∀ {n}, UnderB n (.cells (f.race r).c) := .cells _ fun x hx => ((f.race r).free x hx).under
  refine told Try.func31 rfl rfl (Pure.of tab_ok Try.func31 rfl Try.ntmps31 rfl (allC (.agg _ f.free) (allC (.s _) (allC (.s _) (all1 (.s _))))) (allC (fun _ => rfl) (allC (fun _ => rfl) (allC (fun _ => rfl) (all1 (fun _ => rfl))))) (by first | exact .s _ | assumption | exact .tup _ (by intro x hx; simp only [List.mem_cons, List.not_mem_nil, or_false] at hx; rcases hx with rfl | rfl | rfl | rfl <;> first | exact .s _ | (simp_all; done))) fun E hE => ?_)
  have hE15 : ∀ id, 15 ≤ id → E.φ0 id = none := fun id h => hE id (by omega)
  refine Aw.sm tab_ok mb0 [] rfl rfl ?zo ?zk
  case zo =>
    repeat' apply AllP.cons
    all_goals first | exact trivial
  case zk =>
  refine Aw.sm tab_ok mb0 [(4, (f.race r).c)] rfl rfl ?zo ?zk
  case zo =>
    repeat' apply AllP.cons
    all_goals first | exact trivial | exact rfl | exact Nat.le_of_ble_eq_true rfl | exact Int.natCast_nonneg _ | exact hfr0
  case zk =>
  refine Aw.sm tab_ok mb0 [(5, [.int (f.most.getD r 0)])] rfl rfl ?zo ?zk
  case zo =>
    repeat' apply AllP.cons
    all_goals first | exact trivial | exact rfl | exact Nat.le_of_ble_eq_true rfl | exact Int.natCast_nonneg _ | exact ints_getD (by omega) | exact (by simp only [Ob.of, inR]; omega) | exact (show (100 : Int) ≠ 0 ∧ inR (takeF q (f.most.getD r 0)) from ⟨by decide, htq⟩)
  case zk =>
  refine Aw.sd tab_ok mixed mb0 [(0, [.agg (f.race r).c]), (1, [arr (f.race r).numbers]), (6, (f.seasons.getD s ⟨false, []⟩).c), (9, hl.c)] rfl (by kernel_rfl) rfl rfl ?zo ?zk
  case zo =>
    repeat' apply AllP.cons
    all_goals first | exact trivial | exact rfl | exact Nat.le_of_ble_eq_true rfl | exact Int.natCast_nonneg _ | exact first_t _ hrc | exact hfs0 | exact hfl0 | exact arr_len m6
  case zk =>
  generalize f.race r = rc at *
  have st0 := arr_st0 m6
  refine Aw.keep (n := 15) (cst := [(9, .ref 0 0), (10, .int (takeF q (f.most.getD r 0))), (12, .sl hl.n .any (ints hl.l))]) (v := [(11, .ref 12 0)]) (Hl := [(0, .cells rc.c), (12, .cells ((padL rc.numbers).map A.int))]) hE15 ⟨.ref _ _ (by decide), .s _, ul, trivial⟩ ⟨.ref _ _ (by decide), trivial⟩ ⟨⟨by decide, ur⟩, ⟨by decide, cells_under _⟩, trivial⟩
    ⟨⟨.refl _, .refl _, .refl _, trivial⟩, ⟨.refl _, trivial⟩, ⟨rfl, congrArg (fun x => some (B.cells x)) st0, trivial⟩, Nat.le_of_ble_eq_true rfl⟩ ?_
  generalize takeF q (f.most.getD r 0) = tk at *
  have hz : hl.l.length ≤ 10 := by omega
  clear hfr0 hfs0 hfl0 hLl hL hqm htq hrl hmb hml ufc
  refine Aw.seq ?_
  refine Aw.sm tab_ok mb0 [] rfl rfl ?zo ?zk
  case zo =>
    repeat' apply AllP.cons
    all_goals first | exact trivial
  case zk =>
  have uc : UnderL 15 [(9, A.ref 0 0), (10, .int tk), (11, .ref 12 0), (12, .sl hl.n .any (ints hl.l)), (45, .sl hl.n .any (ints hl.l)), (46, .int hl.l.length)] := ⟨.ref _ _ (by decide), .s _, .ref _ _ (by decide), ul, ul, .s _, trivial⟩
  refine Aw.block (Aw.rounds (ι := Nat × List Int) 15 hE15 [(9, A.ref 0 0), (10, .int tk), (11, .ref 12 0), (12, .sl hl.n .any (ints hl.l)), (45, .sl hl.n .any (ints hl.l)), (46, .int hl.l.length)] (fun i => [(47, .int i.1)])
    (fun i => [(0, .cells rc.c), (12, .cells ((padL i.2).map A.int))]) (fun i => i.1 ≤ hl.l.length ∧ Pop rc (600000 + 100000 * i.1) i.2 ∧ idxF (fun n => decide (n < rc.line)) i.1 (playF rc i.2 (List.replicate (hl.l.drop i.1).length tk) (hl.l.drop i.1)) = R) (fun i => hl.l.length - i.1) (0, rc.numbers)
    ⟨Nat.zero_le _, by simpa using first_pop hrc, hR.symm⟩ ⟨⟨.refl _, .refl _, .refl _, .refl _, .refl _, .of_eq (congrArg A.int ll.symm), trivial⟩, ⟨.refl _, trivial⟩, ⟨rfl, rfl, trivial⟩, Nat.le_of_ble_eq_true rfl⟩
    uc (fun i _ => ⟨.s _, trivial⟩) (fun i _ => ⟨⟨by decide, ur⟩, ⟨by decide, cells_under _⟩, trivial⟩) ?_)
  rintro ⟨k, n⟩ ⟨hk, hpop, hrun⟩
  simp only at hk hpop hrun
  refine Aw.sm tab_ok mb0 [] rfl rfl ?zo ?zk
  case zo =>
    repeat' apply AllP.cons
    all_goals first | exact trivial
  case zk =>
  refine Aw.seq (Aw.cond rfl (fun h1 => Aw.skip1 ?_) (fun h1 => Aw.exit2 ?_))
  · have hlt : k < hl.l.length := by have := of_decide_eq_true h1; omega
    have hd : hl.l.drop k = hl.l.getD k 0 :: hl.l.drop (k + 1) := by rw [List.drop_eq_getElem_cons hlt]; simp [List.getD_eq_getElem?_getD, hlt]
    have hx : 0 ≤ hl.l.getD k 0 ∧ hl.l.getD k 0 ≤ 100000 := hrb _ (by rw [List.getD_eq_getElem?_getD, List.getElem?_eq_getElem hlt]; exact List.getElem_mem hlt)
    have hcall := year_t rc hrc n (600000 + 100000 * k) tk (hl.l.getD k 0) hpop (by omega) htk hx
    have hpop2 := yearF_pop hrc hpop htk.1 hx.1
    have hdk : hl.l.drop k = hl.l.getD k 0 :: hl.l.drop (k + 1) := hd
    rw [hd, List.length_cons, List.replicate_succ, playF, idxF] at hrun
    have hstill := fun h => still (r := rc) (l := n) (t := tk) (x := hl.l.getD k 0) h
    generalize hX : hl.l.getD k 0 = x at *
    generalize hY : yearF rc n tk x = Y at *
    have n6 : n.length ≤ 6 := by rw [hpop.len]; exact hrc.m6
    have y6 : Y.2.length ≤ 6 := by rw [hpop2.len]; exact hrc.m6
    have hpop3 : Pop rc (600000 + 100000 * ((k + 1 : Nat) : Int)) Y.2 := ⟨hpop2.len, hpop2.pos, by have := hpop2.sum; omega⟩
    have hg : (ints hl.l)[k]? = some [.int x] := by rw [← hX]; exact ints_getD hlt
    refine Aw.seq (Aw.block ?_)
    refine Aw.sm tab_ok mb0 [(1, [.int x])] rfl rfl ?zo ?zk
    case zo =>
      repeat' apply AllP.cons
      all_goals first | exact trivial | exact rfl | exact Nat.le_of_ble_eq_true rfl | exact Int.natCast_nonneg _ | exact hg
    case zk =>
    refine Aw.sm tab_ok mb0 [(0, [.agg rc.c]), (1, [arr n]), (3, [.int x]), (4, [.tup [.int Y.1, arr Y.2]])] rfl rfl ?zo ?zk
    case zo =>
      repeat' apply AllP.cons
      all_goals first | exact trivial | exact rfl | exact Nat.le_of_ble_eq_true rfl | exact arr_ld n6 | exact (show 0 + 6 ≤ ((padL n).map A.int).length by rw [arr_len n6]; omega) | exact hcall | exact arr_len y6
    case zk =>
    have hst0 := arr_st0 y6
    have hst1 := arr_st y6 n6
    refine Aw.keep (n := 17) (cst := [(9, A.ref 0 0), (10, .int tk), (11, .ref 12 0), (12, .sl hl.n .any (ints hl.l)), (45, .sl hl.n .any (ints hl.l)), (46, .int hl.l.length), (47, .int k), (13, .int k), (14, .ref 15 0), (15, .int Y.1), (16, .ref 16 0)]) (v := []) (Hl := [(0, .cells rc.c), (12, .cells ((padL n).map A.int)), (15, .cells [.int x]), (16, .cells ((padL Y.2).map A.int))]) (fun id h => hE id (by omega))
      ⟨.ref _ _ (by decide), .s _, .ref _ _ (by decide), ul, ul, .s _, .s _, .s _, .ref _ _ (by decide), .s _, .ref _ _ (by decide), trivial⟩ trivial ⟨⟨by decide, ur⟩, ⟨by decide, cells_under _⟩, ⟨by decide, .cells _ (all1 (.s _))⟩, ⟨by decide, cells_under _⟩, trivial⟩
      ⟨⟨.refl _, .refl _, .refl _, .refl _, .refl _, .refl _, .refl _, .refl _, .refl _, .refl _, .refl _, trivial⟩, trivial, ⟨rfl, rfl, rfl, congrArg (fun x => some (B.cells x)) hst0, trivial⟩, Nat.le_of_ble_eq_true rfl⟩ ?_
    refine Aw.seq ?_
    refine Aw.sm tab_ok mb0 [] rfl rfl ?zo ?zk
    case zo =>
      repeat' apply AllP.cons
      all_goals first | exact trivial | exact Nat.le_of_ble_eq_true rfl
    case zk =>
    refine Aw.cond rfl (fun h2 => ?_) (fun h2 => Aw.skip ?_)
    · have h2' : decide (Y.1 < rc.line) = true := h2
      rw [if_pos h2'] at hrun
      subst hrun
      refine Aw.sm tab_ok mb0 [] rfl rfl ?zo ?zk
      case zo =>
        repeat' apply AllP.cons
        all_goals first | exact trivial
      case zk =>
      exact Aw.ret ⟨_, .cons (.tmp _) .nil, rfl⟩
    have h2' : decide (Y.1 < rc.line) = false := h2
    rw [h2'] at hrun
    have hrun : idxF (fun n => decide (n < rc.line)) (k + 1) (playF rc Y.2 (List.replicate (hl.l.drop (k + 1)).length tk) (hl.l.drop (k + 1))) = R := hrun
    have hee : ((padL Y.2) == (padL n)) = decide (Y.2 = n) := by
      rw [Bool.eq_iff_iff, beq_iff_eq, decide_eq_true_eq]
      exact ⟨fun h => padL_inj (by rw [hpop2.len, hpop.len]) h, fun h => by rw [h]⟩
    have hdr : (ints hl.l).drop k = ints (hl.l.drop k) := by simp [ints, List.map_drop]
    have hcon := contains_t hl.n .any (hl.l.drop k) x (by simp; omega) (fun _ => rfl)
    rw [← hdr] at hcon
    have hkz : (k : Int) ≤ ((ints hl.l).length : Int) := by omega
    have l62 : 0 + 6 ≤ ((padL Y.2).map A.int).length := by rw [arr_len y6]; omega
    have l6n : 0 + 6 ≤ ((padL n).map A.int).length := by rw [arr_len n6]; omega
    refine Aw.seq ?_
    by_cases hsame : Y.2 = n
    · rw [decide_eq_true hsame] at hee
      refine Aw.seq (Aw.region rfl ?_)
      refine RegL.partE tab_ok mb0 true 8 0 [(0, [arr Y.2]), (1, [arr n]), (2, [.bool true])] ?_
      conv => arg 5; whnf
      refine PartK.mk ?zo ?zk
      case zo =>
        repeat' apply AllP.cons
        all_goals first | exact trivial | exact Int.natCast_nonneg _ | exact arr_ld y6 | exact arr_ld n6 | exact l62 | exact l6n | exact hee ▸ eqArr _ _ (padL_len y6) (padL_len n6) | exact hkz | exact ints_one _
      case zk =>
      refine Does.rawT (j := 3) (t := 69) (g := true) (want := true) rfl rfl rfl rfl (DoesP.toR (DoesP.callF tab_ok (g := 50) (fst := []) (cap := []) rfl rfl rfl hcon (.s _) ?_))
      refine RegL.partE tab_ok mb0 true 9 9 [] ?_
      conv => arg 5; whnf
      refine PartK.mk ?zo ?zk
      case zo =>
        repeat' apply AllP.cons
        all_goals first | exact trivial | exact id | exact fun _ => rfl
      case zk =>
      refine Aw.cond rfl (fun h3 => ?_) (fun h3 => Aw.skip ?_)
      · have h3 : (!(hl.l.drop k).any fun n => n != x) = true := h3
        have hall : ∀ y ∈ hl.l.drop (k + 1), y = x := fun y hy => by
          rw [Bool.not_eq_true'] at h3
          have := List.any_eq_false.1 h3 y (by rw [hd]; exact List.mem_cons_of_mem _ hy)
          simpa using this
        have hR1 : R = -1 := by
          rw [← hrun]
          refine idxF_none _ fun m hm => ?_
          rw [hsame] at hm
          have := hstill (by exact hsame) _ hall m hm
          rw [this]; exact h2'
        subst hR1
        refine Aw.exit (thenE (blkN rfl (thenE (thenE (blkE ?_)))))
        refine Aw.sm tab_ok mb0 [] rfl rfl ?zo ?zk
        case zo =>
          repeat' apply AllP.cons
          all_goals first | exact trivial
        case zk =>
        exact Aw.ret ⟨_, .cons (.tmp _) .nil, rfl⟩
      · refine Aw.em tab_ok mb0 [(0, [arr Y.2])] rfl rfl ?zo ?zk
        case zo =>
          repeat' apply AllP.cons
          all_goals first | exact trivial | exact arr_ld y6 | exact l62 | exact l6n | exact arr_len y6
        case zk =>
        refine Aw.em tab_ok mb0 [] rfl rfl ?zo ?zk
        case zo =>
          repeat' apply AllP.cons
          all_goals first | exact trivial | exact inrk k (by omega)
        case zk =>
        exact ⟨(k + 1, Y.2), ⟨hlt, hpop3, hrun⟩, by show hl.l.length - (k + 1) < hl.l.length - k; omega, ⟨.refl _, .refl _, .refl _, .refl _, .refl _, .refl _, trivial⟩, ⟨.refl _, trivial⟩, ⟨rfl, congrArg (fun x => some (B.cells x)) hst1, trivial⟩, Nat.le_of_ble_eq_true rfl⟩
    · rw [decide_eq_false hsame] at hee
      refine Aw.st tab_ok mb0 [(0, [arr Y.2]), (1, [arr n]), (2, [.bool false])] rfl rfl ?zo ?zk
      case zo =>
        repeat' apply AllP.cons
        all_goals first | exact trivial | exact arr_ld y6 | exact arr_ld n6 | exact l62 | exact l6n | exact hee ▸ eqArr _ _ (padL_len y6) (padL_len n6)
      case zk =>
      refine Aw.cond rfl (fun h3 => by cases h3) (fun h3 => Aw.skip ?_)
      refine Aw.em tab_ok mb0 [(0, [arr Y.2])] rfl rfl ?zo ?zk
      case zo =>
        repeat' apply AllP.cons
        all_goals first | exact trivial | exact arr_ld y6 | exact l62 | exact l6n | exact arr_len y6
      case zk =>
      refine Aw.em tab_ok mb0 [] rfl rfl ?zo ?zk
      case zo =>
        repeat' apply AllP.cons
        all_goals first | exact trivial | exact inrk k (by omega)
      case zk =>
      exact ⟨(k + 1, Y.2), ⟨hlt, hpop3, hrun⟩, by show hl.l.length - (k + 1) < hl.l.length - k; omega, ⟨.refl _, .refl _, .refl _, .refl _, .refl _, .refl _, trivial⟩, ⟨.refl _, trivial⟩, ⟨rfl, congrArg (fun x => some (B.cells x)) hst1, trivial⟩, Nat.le_of_ble_eq_true rfl⟩
  · have hle : k = hl.l.length := by have := of_decide_eq_false h1; omega
    subst hle
    have hR1 : R = -1 := by rw [← hrun, List.drop_length]; rfl
    subst hR1
    refine Aw.sm tab_ok mb0 [] rfl rfl ?zo ?zk
    case zo =>
      repeat' apply AllP.cons
      all_goals first | exact trivial
    case zk =>
    exact Aw.ret ⟨_, .cons (.tmp _) .nil, rfl⟩
def noBreak (f : Fish) (q : Int) (r s : Nat) : Bool := !decide (f.breakY r s q ≥ 0)
def noRace (f : Fish) (q : Int) (r : Nat) : Bool := (List.range f.seasons.length).all (noBreak f q r)
theorem all_drop {p : Nat → Bool} {n k : Nat} (h : k < n) : ((List.range n).drop k).all p = (p k && ((List.range n).drop (k + 1)).all p) := by
  rw [List.drop_eq_getElem_cons (by simpa using h)]; simp
theorem all_drop_end {p : Nat → Bool} {n : Nat} : ((List.range n).drop n).all p = true := by
  rw [List.drop_of_length_le (by simp)]; rfl
theorem holds_t (f : Fish) (hf : FishOk f) (q : Int) (hq : 0 ≤ q ∧ q ≤ 10001) : Ans Try.prog 21 [.agg f.c, .int q] (.bool (f.holds q)) := by
  have lr : ((f.races.map Rce.c).length : Int) = f.many := by simp [Q.Fish.many]
  have ls : ((f.seasons.map NR.c).length : Int) = f.seasons.length := by simp
  have m3 := hf.m3
  have s6 := hf.s6
  have ufc : ∀ {n}, Under n (A.pt f.c) := (Free.pt _ f.free).under
  have hR : f.holds q = (List.range f.many).all (noRace f q) := rfl
  rw [hR]
  generalize hRR : (List.range f.many).all (noRace f q) = R
  refine told Try.func21 rfl rfl (Pure.of tab_ok Try.func21 rfl Try.ntmps21 rfl (allC (.agg _ f.free) (all1 (.s _))) (allC (fun _ => rfl) (all1 (fun _ => rfl))) (by first | exact .s _ | assumption | exact .tup _ (by intro x hx; simp only [List.mem_cons, List.not_mem_nil, or_false] at hx; rcases hx with rfl | rfl | rfl | rfl <;> first | exact .s _ | (simp_all; done))) fun E hE => ?_)
  refine Aw.sm tab_ok mb0 [] rfl rfl ?zo ?zk
  case zo =>
    repeat' apply AllP.cons
    all_goals first | exact trivial
  case zk =>
  refine Aw.seq ?_
  refine Aw.sm tab_ok mb0 [] rfl rfl ?zo ?zk
  case zo =>
    repeat' apply AllP.cons
    all_goals first | exact trivial | exact Nat.le_of_ble_eq_true rfl
  case zk =>
  refine Aw.block (Aw.rounds (ι := Nat) 0 hE [(1, .int q), (2, .pt f.c), (10, .int f.many)] (fun k => [(11, .int k)]) (fun _ => []) (fun k => k ≤ f.many ∧ ((List.range f.many).drop k).all (noRace f q) = R) (fun k => f.many - k) 0
    ⟨Nat.zero_le _, hRR⟩ ⟨⟨.refl _, .refl _, .of_eq (congrArg A.int lr.symm), trivial⟩, ⟨.refl _, trivial⟩, trivial, Nat.zero_le _⟩ ⟨.s _, ufc, .s _, trivial⟩ (fun _ _ => ⟨.s _, trivial⟩) (fun _ _ => trivial) ?_)
  rintro k ⟨hk, hrun⟩
  refine Aw.sm tab_ok mb0 [] rfl rfl ?zo ?zk
  case zo =>
    repeat' apply AllP.cons
    all_goals first | exact trivial
  case zk =>
  refine Aw.seq (Aw.cond rfl (fun h1 => Aw.skip1 ?_) (fun h1 => Aw.exit2 ?_))
  · have hlt : k < f.many := by have := of_decide_eq_true h1; omega
    rw [all_drop hlt] at hrun
    refine Aw.seq (Aw.block ?_)
    refine Aw.sm tab_ok mb0 [] rfl rfl ?zo ?zk
    case zo =>
      repeat' apply AllP.cons
      all_goals first | exact trivial
    case zk =>
    refine Aw.sm tab_ok mb0 [] rfl rfl ?zo ?zk
    case zo =>
      repeat' apply AllP.cons
      all_goals first | exact trivial | exact Nat.le_of_ble_eq_true rfl
    case zk =>
    refine Aw.block (Aw.rounds (ι := Nat) 0 hE [(1, .int q), (2, .pt f.c), (5, .int k), (10, .int f.many), (11, .int k), (17, .int f.seasons.length)] (fun j => [(18, .int j)]) (fun _ => []) (fun j => j ≤ f.seasons.length ∧ (((List.range f.seasons.length).drop j).all (noBreak f q k) && ((List.range f.many).drop (k + 1)).all (noRace f q)) = R) (fun j => f.seasons.length - j) 0
      ⟨Nat.zero_le _, hrun⟩ ⟨⟨.refl _, .refl _, .refl _, .refl _, .refl _, .of_eq (congrArg A.int ls.symm), trivial⟩, ⟨.refl _, trivial⟩, trivial, Nat.zero_le _⟩ ⟨.s _, ufc, .s _, .s _, .s _, .s _, trivial⟩ (fun _ _ => ⟨.s _, trivial⟩) (fun _ _ => trivial) ?_)
    rintro j ⟨hj, hrun⟩
    refine Aw.sm tab_ok mb0 [] rfl rfl ?zo ?zk
    case zo =>
      repeat' apply AllP.cons
      all_goals first | exact trivial
    case zk =>
    refine Aw.seq (Aw.cond rfl (fun h2 => Aw.skip1 ?_) (fun h2 => Aw.exit2 ?_))
    · have hjl : j < f.seasons.length := by have := of_decide_eq_true h2; omega
      rw [all_drop hjl] at hrun
      refine Aw.seq (Aw.block ?_)
      refine Aw.sm tab_ok mb0 [] rfl rfl ?zo ?zk
      case zo =>
        repeat' apply AllP.cons
        all_goals first | exact trivial
      case zk =>
      refine Aw.sm tab_ok mb0 [(4, [.int (f.breakY k j q)])] rfl rfl ?zo ?zk
      case zo =>
        repeat' apply AllP.cons
        all_goals first | exact trivial | exact Nat.le_of_ble_eq_true rfl | exact breaks_t f hf k j q hlt hjl hq
      case zk =>
      refine Aw.cond rfl (fun h3 => ?_) (fun h3 => Aw.skip ?_)
      · have h3' : decide (f.breakY k j q ≥ 0) = true := h3
        have hR1 : R = false := by rw [← hrun]; unfold noBreak; rw [h3']; rfl
        subst hR1
        refine Aw.sm tab_ok mb0 [] rfl rfl ?zo ?zk
        case zo =>
          repeat' apply AllP.cons
          all_goals first | exact trivial
        case zk =>
        exact Aw.ret ⟨_, .cons (.tmp _) .nil, rfl⟩
      · have h3' : decide (f.breakY k j q ≥ 0) = false := h3
        have hrun2 : (((List.range f.seasons.length).drop (j + 1)).all (noBreak f q k) && ((List.range f.many).drop (k + 1)).all (noRace f q)) = R := by
          rw [← hrun]; unfold noBreak; rw [h3']; rfl
        refine Aw.em tab_ok mb0 [] rfl rfl ?zo ?zk
        case zo =>
          repeat' apply AllP.cons
          all_goals first | exact trivial | exact inrk j (by omega)
        case zk =>
        exact ⟨j + 1, ⟨hjl, hrun2⟩, by omega, ⟨.refl _, .refl _, .refl _, .refl _, .refl _, .refl _, trivial⟩, ⟨.refl _, trivial⟩, trivial, Nat.zero_le _⟩
    · have hle : j = f.seasons.length := by have := of_decide_eq_false h2; omega
      subst hle
      rw [all_drop_end, Bool.true_and] at hrun
      refine Aw.em tab_ok mb0 [] rfl rfl ?zo ?zk
      case zo =>
        repeat' apply AllP.cons
        all_goals first | exact trivial | exact inrk k (by omega)
      case zk =>
      exact ⟨k + 1, ⟨hlt, hrun⟩, by omega, ⟨.refl _, .refl _, .refl _, trivial⟩, ⟨.refl _, trivial⟩, trivial, Nat.zero_le _⟩
  · have hle : k = f.many := by have := of_decide_eq_false h1; omega
    subst hle
    rw [all_drop_end] at hrun
    subst hrun
    refine Aw.sm tab_ok mb0 [] rfl rfl ?zo ?zk
    case zo =>
      repeat' apply AllP.cons
      all_goals first | exact trivial
    case zk =>
    exact Aw.ret ⟨_, .cons (.tmp _) .nil, rfl⟩
theorem err_ok {f : Fish} (h : f.ok = true) : f.err = 0 := by unfold Q.Fish.err; rw [h]; rfl
theorem err_no {f : Fish} (h : f.ok = false) : f.err = 93 := by unfold Q.Fish.err; rw [h]; rfl
theorem quota_t (f : Fish) (hfit : f.Fit) : Ans Try.prog 5 [.agg f.c] (.tup f.quotaR) := by
  have hfr : Free (.tup f.quotaR) := .tup _ (by
    unfold Q.Fish.quotaR
    split
    · split <;> exact allC (.s _) (all1 (.s _))
    · exact allC (.s _) (all1 (.s _)))
  refine told Try.func5 rfl rfl (Pure.of tab_ok Try.func5 rfl Try.ntmps5 rfl (all1 (.agg _ f.free)) (all1 (fun _ => rfl)) (by first | exact .s _ | assumption | exact .tup _ (by intro x hx; simp only [List.mem_cons, List.not_mem_nil, or_false] at hx; rcases hx with rfl | rfl | rfl | rfl <;> first | exact .s _ | (simp_all; done))) fun E hE => ?_)
  refine Aw.sm tab_ok mb0 [] rfl rfl ?zo ?zk
  case zo =>
    repeat' apply AllP.cons
    all_goals first | exact trivial
  case zk =>
  refine Aw.seq ?_
  refine Aw.sm tab_ok mb0 [(1, [.int f.err])] rfl rfl ?zo ?zk
  case zo =>
    repeat' apply AllP.cons
    all_goals first | exact trivial | exact Nat.le_of_ble_eq_true rfl | exact check_t f hfit
  case zk =>
  refine Aw.sm tab_ok mb0 [] rfl rfl ?zo ?zk
  case zo =>
    repeat' apply AllP.cons
    all_goals first | exact trivial
  case zk =>
  refine Aw.cond rfl (fun h1 => ?_) (fun h1 => Aw.skip ?_)
  · have hno : f.ok = false := by
      cases h : f.ok with
      | false => rfl
      | true => rw [err_ok h] at h1; exact absurd h1 (by decide)
    refine Aw.sm tab_ok mb0 [] rfl rfl ?zo ?zk
    case zo =>
      repeat' apply AllP.cons
      all_goals first | exact trivial
    case zk =>
    exact Aw.ret ⟨_, .cons (.tmp _) (.cons (.tmp _) .nil), by unfold Q.Fish.quotaR; rw [hno, err_no hno]; rfl⟩
  have hok : f.ok = true := by
    cases h : f.ok with
    | true => rfl
    | false => rw [err_no h] at h1; exact absurd h1 (by decide)
  have hf := FishOk.of hok
  have ufn : ∀ {n}, Under n (A.fn (.func 21) [.agg f.c] []) := (Free.fn _ _ _ (all1 (.agg _ f.free)) allN).under
  have hR : f.quotaR = if f.holds 0 then [.int f.quota, .int 0] else [.int 0, .int 4] := by unfold Q.Fish.quotaR; rw [hok]; rfl
  rw [hR]
  refine Aw.sm tab_ok mb0 [] rfl rfl ?zo ?zk
  case zo =>
    repeat' apply AllP.cons
    all_goals first | exact trivial | exact Nat.le_of_ble_eq_true rfl
  case zk =>
  refine Aw.keep (n := 0) (cst := [(5, .fn (.func 21) [.agg f.c] [])]) (v := []) (Hl := []) hE ⟨ufn, trivial⟩ trivial trivial ⟨⟨.refl _, trivial⟩, trivial, trivial, Nat.zero_le _⟩ ?_
  refine Aw.seq ?_
  refine Aw.sm tab_ok mb0 [(1, [.bool (f.holds 0)])] rfl rfl ?zo ?zk
  case zo =>
    repeat' apply AllP.cons
    all_goals first | exact trivial | exact holds_t f hf 0 (by decide)
  case zk =>
  refine Aw.cond rfl (fun h1 => ?_) (fun h1 => Aw.skip ?_)
  · have hno : f.holds 0 = false := by simpa using h1
    refine Aw.sm tab_ok mb0 [] rfl rfl ?zo ?zk
    case zo =>
      repeat' apply AllP.cons
      all_goals first | exact trivial
    case zk =>
    exact Aw.ret ⟨_, .cons (.tmp _) (.cons (.tmp _) .nil), by rw [hno]; rfl⟩
  have hyes : f.holds 0 = true := by simpa using h1
  rw [hyes]
  have hq : f.quota = halve f.holds 10001 0 10001 := rfl
  generalize f.quota = R at *
  refine Aw.sm tab_ok mb0 [] rfl rfl ?zo ?zk
  case zo =>
    repeat' apply AllP.cons
    all_goals first | exact trivial
  case zk =>
  refine Aw.seq (Aw.block (Aw.rounds (ι := Nat × Int × Int) 0 hE [(5, .fn (.func 21) [.agg f.c] [])] (fun i => [(6, .int i.2.1), (7, .int i.2.2)]) (fun _ => []) (fun i => 0 ≤ i.2.1 ∧ i.2.1 < i.2.2 ∧ i.2.2 ≤ 10001 ∧ i.2.2 - i.2.1 ≤ i.1 ∧ halve f.holds i.1 i.2.1 i.2.2 = R) (fun i => (i.2.2 - i.2.1).toNat) (10001, 0, 10001)
    ⟨by decide, by decide, by decide, by decide, hq.symm⟩ ⟨⟨.refl _, trivial⟩, ⟨.refl _, .refl _, trivial⟩, trivial, Nat.zero_le _⟩ ⟨ufn, trivial⟩ (fun _ _ => ⟨.s _, .s _, trivial⟩) (fun _ _ => trivial) ?_))
  rintro ⟨n, lo, hi⟩ ⟨h1, h2, h3, h4, hrun⟩
  simp only at h1 h2 h3 h4 hrun
  refine Aw.seq ?_
  refine Aw.sm tab_ok mb0 [] rfl rfl ?zo ?zk
  case zo =>
    repeat' apply AllP.cons
    all_goals first | exact trivial | exact (by simp only [Ob.of, inR]; omega)
  case zk =>
  refine Aw.cond rfl (fun h5 => Aw.skip ?_) (fun h5 => ?_)
  · have h5' : hi - lo > 1 := of_decide_eq_true h5
    obtain ⟨n, rfl⟩ : ∃ m, n = m + 1 := ⟨n - 1, by omega⟩
    rw [halve, if_pos h5'] at hrun
    have hmid : lo < (lo + hi).tdiv 2 ∧ (lo + hi).tdiv 2 < hi := by rw [Int.tdiv_eq_ediv_of_nonneg (by omega)]; omega
    have ob1 : (2 : Int) ≠ 0 ∧ inR ((lo + hi).tdiv 2) := ⟨by decide, by simp only [inR]; omega⟩
    refine Aw.block ?_
    refine Aw.sm tab_ok mb0 [] rfl rfl ?zo ?zk
    case zo =>
      repeat' apply AllP.cons
      all_goals first | exact trivial | exact (by simp only [Ob.of, inR]; omega)
    case zk =>
    generalize (lo + hi).tdiv 2 = mid at *
    refine Aw.sm tab_ok mb0 [(2, [.bool (f.holds mid)])] rfl rfl ?zo ?zk
    case zo =>
      repeat' apply AllP.cons
      all_goals first | exact trivial | exact holds_t f hf mid (by omega)
    case zk =>
    refine Aw.cond rfl (fun h6 => ?_) (fun h6 => ?_)
    · have h6' : f.holds mid = true := h6
      rw [if_pos h6'] at hrun
      refine Aw.em tab_ok mb0 [] rfl rfl ?zo ?zk
      case zo =>
        repeat' apply AllP.cons
        all_goals first | exact trivial
      case zk =>
      exact ⟨(n, mid, hi), ⟨by show 0 ≤ mid; omega, hmid.2, h3, by show hi - mid ≤ n; omega, hrun⟩, by show (hi - mid).toNat < (hi - lo).toNat; omega, ⟨.refl _, trivial⟩, ⟨.refl _, .refl _, trivial⟩, trivial, Nat.zero_le _⟩
    · have h6' : f.holds mid = false := h6
      rw [h6'] at hrun
      refine Aw.em tab_ok mb0 [] rfl rfl ?zo ?zk
      case zo =>
        repeat' apply AllP.cons
        all_goals first | exact trivial
      case zk =>
      exact ⟨(n, lo, mid), ⟨h1, hmid.1, by show mid ≤ 10001; omega, by show mid - lo ≤ n; omega, hrun⟩, by show (mid - lo).toNat < (hi - lo).toNat; omega, ⟨.refl _, trivial⟩, ⟨.refl _, .refl _, trivial⟩, trivial, Nat.zero_le _⟩
  · have h5' : ¬ hi - lo > 1 := of_decide_eq_false h5
    have hR1 : R = lo := by
      rw [← hrun]
      cases n with
      | zero => rfl
      | succ n => rw [halve, if_neg h5']
    subst hR1
    refine Aw.exit2 ?_
    refine Aw.sm tab_ok mb0 [] rfl rfl ?zo ?zk
    case zo =>
      repeat' apply AllP.cons
      all_goals first | exact trivial
    case zk =>
    exact Aw.ret ⟨_, .cons (.tmp _) (.cons (.tmp _) .nil), rfl⟩
end Go.Proofs.Ytkfepnbanekfgaa

namespace Go.Proofs.Ytkfepnbanekfgaa
open Go Go.AL Go.AL.Q
theorem range_drop {n k : Nat} (h : k < n) : (List.range n).drop k = k :: (List.range n).drop (k + 1) := by
  rw [List.drop_eq_getElem_cons (by simpa using h)]; simp
theorem range_end {n : Nat} : (List.range n).drop n = [] := List.drop_of_length_le (by simp)
theorem First_t (f : Fish) (hfit : f.Fit) (q : Int) : Ans Try.prog 10 [.agg f.c, .int q] (.tup (f.firstR q)) := by
  have hfr : Free (.tup (f.firstR q)) := .tup _ (by
    have h4 : ∀ a b c d : Int, ∀ x ∈ [A.int a, .int b, .int c, .int d], Free x := fun _ _ _ _ => allC (.s _) (allC (.s _) (allC (.s _) (all1 (.s _))))
    unfold Q.Fish.firstR
    split
    · split
      · split <;> exact h4 _ _ _ _
      · exact h4 _ _ _ _
    · exact h4 _ _ _ _)
  have lr : ((f.races.map Rce.c).length : Int) = f.many := by simp [Q.Fish.many]
  have ls : ((f.seasons.map NR.c).length : Int) = f.seasons.length := by simp
  refine told Try.func10 rfl rfl (Pure.of tab_ok Try.func10 rfl Try.ntmps10 rfl (allC (.agg _ f.free) (all1 (.s _))) (allC (fun _ => rfl) (all1 (fun _ => rfl))) (by first | exact .s _ | assumption | exact .tup _ (by intro x hx; simp only [List.mem_cons, List.not_mem_nil, or_false] at hx; rcases hx with rfl | rfl | rfl | rfl <;> first | exact .s _ | (simp_all; done))) fun E hE => ?_)
  have hE1 : ∀ id, 1 ≤ id → E.φ0 id = none := fun id h => hE id (by omega)
  refine Aw.sm tab_ok mb0 [] rfl rfl ?zo ?zk
  case zo =>
    repeat' apply AllP.cons
    all_goals first | exact trivial
  case zk =>
  refine Aw.seq ?_
  refine Aw.sm tab_ok mb0 [(1, [.int f.err])] rfl rfl ?zo ?zk
  case zo =>
    repeat' apply AllP.cons
    all_goals first | exact trivial | exact Nat.le_of_ble_eq_true rfl | exact check_t f hfit
  case zk =>
  refine Aw.sm tab_ok mb0 [] rfl rfl ?zo ?zk
  case zo =>
    repeat' apply AllP.cons
    all_goals first | exact trivial
  case zk =>
  refine Aw.cond rfl (fun h1 => ?_) (fun h1 => Aw.skip ?_)
  · have hno : f.ok = false := by
      cases h : f.ok with
      | false => rfl
      | true => rw [err_ok h] at h1; exact absurd h1 (by decide)
    refine Aw.sm tab_ok mb0 [] rfl rfl ?zo ?zk
    case zo =>
      repeat' apply AllP.cons
      all_goals first | exact trivial
    case zk =>
    exact Aw.ret ⟨_, .cons (.tmp _) (.cons (.tmp _) (.cons (.tmp _) (.cons (.tmp _) .nil))), by unfold Q.Fish.firstR; rw [hno, err_no hno]; rfl⟩
  have hok : f.ok = true := by
    cases h : f.ok with
    | true => rfl
    | false => rw [err_no h] at h1; exact absurd h1 (by decide)
  have hf := FishOk.of hok
  have m3 := hf.m3
  have s6 := hf.s6
  refine Aw.seq ?_
  refine Aw.sm tab_ok mb0 [(1, [.bool (wi q 0 10000)])] rfl rfl ?zo ?zk
  case zo =>
    repeat' apply AllP.cons
    all_goals first | exact trivial | exact within_t _ _ _
  case zk =>
  refine Aw.cond rfl (fun h1 => ?_) (fun h1 => Aw.skip ?_)
  · have hno : wi q 0 10000 = false := by simpa using h1
    refine Aw.sm tab_ok mb0 [] rfl rfl ?zo ?zk
    case zo =>
      repeat' apply AllP.cons
      all_goals first | exact trivial
    case zk =>
    exact Aw.ret ⟨_, .cons (.tmp _) (.cons (.tmp _) (.cons (.tmp _) (.cons (.tmp _) .nil))), by unfold Q.Fish.firstR; rw [hok, hno]; rfl⟩
  have hyes : wi q 0 10000 = true := by simpa using h1
  have hq := wi_iff.1 hyes
  have hR : f.firstR q = if (f.first q).2.2 < 0 then [.int 0, .int 0, .int 0, .int 4] else [.int (f.first q).1, .int (f.first q).2.1, .int (f.first q).2.2, .int 0] := by unfold Q.Fish.firstR; rw [hok, hyes]; rfl
  rw [hR]
  have hfirst : f.first q = firstR f q (List.range f.many) (0, 0, -1) := rfl
  generalize f.first q = R at *
  have ufc : ∀ {n}, UnderB n (.cells f.c) := .cells _ fun x hx => (f.free x hx).under
  have h3z : 0 + 3 ≤ f.c.length := Nat.le_refl _
  refine Aw.sm tab_ok mb0 [] rfl rfl ?zo ?zk
  case zo =>
    repeat' apply AllP.cons
    all_goals first | exact trivial | exact rfl | exact Nat.le_of_ble_eq_true rfl
  case zk =>
  refine Aw.sm tab_ok mb0 [] rfl rfl ?zo ?zk
  case zo =>
    repeat' apply AllP.cons
    all_goals first | exact trivial
  case zk =>
  refine Aw.seq ?_
  refine Aw.sm tab_ok mb0 [] rfl rfl ?zo ?zk
  case zo =>
    repeat' apply AllP.cons
    all_goals first | exact trivial | exact Nat.le_of_ble_eq_true rfl
  case zk =>
  refine Aw.block (Aw.rounds (ι := Nat × Int × Int × Int) 1 hE1 [(1, .int q), (9, .ref 0 0), (26, .int f.many)] (fun i => [(4, .int i.2.1), (5, .int i.2.2.1), (6, .int i.2.2.2), (27, .int i.1)]) (fun _ => [(0, .cells f.c)]) (fun i => i.1 ≤ f.many ∧ firstR f q ((List.range f.many).drop i.1) i.2 = R) (fun i => f.many - i.1) (0, 0, 0, -1)
    ⟨Nat.zero_le _, hfirst.symm⟩ ⟨⟨.refl _, .refl _, .of_eq (congrArg A.int lr.symm), trivial⟩, ⟨.refl _, .refl _, .refl _, .refl _, trivial⟩, ⟨rfl, trivial⟩, Nat.le_of_ble_eq_true rfl⟩ ⟨.s _, .ref _ _ (by decide), .s _, trivial⟩ (fun _ _ => ⟨.s _, .s _, .s _, .s _, trivial⟩) (fun _ _ => ⟨⟨by decide, ufc⟩, trivial⟩) ?_)
  rintro ⟨k, b⟩ ⟨hk, hrun⟩
  simp only at hk hrun
  refine Aw.sm tab_ok mb0 [] rfl rfl ?zo ?zk
  case zo =>
    repeat' apply AllP.cons
    all_goals first | exact trivial
  case zk =>
  refine Aw.seq (Aw.cond rfl (fun h1 => Aw.skip1 ?_) (fun h1 => Aw.exit2 ?_))
  · have hlt : k < f.many := by have := of_decide_eq_true h1; omega
    rw [range_drop hlt, firstR] at hrun
    refine Aw.seq (Aw.block ?_)
    refine Aw.sm tab_ok mb0 [] rfl rfl ?zo ?zk
    case zo =>
      repeat' apply AllP.cons
      all_goals first | exact trivial
    case zk =>
    refine Aw.sm tab_ok mb0 [] rfl rfl ?zo ?zk
    case zo =>
      repeat' apply AllP.cons
      all_goals first | exact trivial | exact Nat.le_of_ble_eq_true rfl
    case zk =>
    refine Aw.block (Aw.rounds (ι := Nat × Int × Int × Int) 1 hE1 [(1, .int q), (9, .ref 0 0), (10, .int k), (26, .int f.many), (27, .int k), (33, .int f.seasons.length)] (fun i => [(4, .int i.2.1), (5, .int i.2.2.1), (6, .int i.2.2.2), (34, .int i.1)]) (fun _ => [(0, .cells f.c)])
      (fun i => i.1 ≤ f.seasons.length ∧ firstR f q ((List.range f.many).drop (k + 1)) (firstS f q k ((List.range f.seasons.length).drop i.1) i.2) = R) (fun i => f.seasons.length - i.1) (0, b)
      ⟨Nat.zero_le _, hrun⟩ ⟨⟨.refl _, .refl _, .refl _, .refl _, .refl _, .of_eq (congrArg A.int ls.symm), trivial⟩, ⟨.refl _, .refl _, .refl _, .refl _, trivial⟩, ⟨rfl, trivial⟩, Nat.le_of_ble_eq_true rfl⟩ ⟨.s _, .ref _ _ (by decide), .s _, .s _, .s _, .s _, trivial⟩ (fun _ _ => ⟨.s _, .s _, .s _, .s _, trivial⟩) (fun _ _ => ⟨⟨by decide, ufc⟩, trivial⟩) ?_)
    rintro ⟨j, b⟩ ⟨hj, hrun⟩
    simp only at hj hrun
    refine Aw.sm tab_ok mb0 [] rfl rfl ?zo ?zk
    case zo =>
      repeat' apply AllP.cons
      all_goals first | exact trivial
    case zk =>
    refine Aw.seq (Aw.cond rfl (fun h2 => Aw.skip1 ?_) (fun h2 => Aw.exit2 ?_))
    · have hjl : j < f.seasons.length := by have := of_decide_eq_true h2; omega
      rw [range_drop hjl, firstS] at hrun
      refine Aw.seq (Aw.block ?_)
      refine Aw.sm tab_ok mb0 [] rfl rfl ?zo ?zk
      case zo =>
        repeat' apply AllP.cons
        all_goals first | exact trivial
      case zk =>
      refine Aw.sm tab_ok mb0 [(0, [.agg f.c]), (4, [.int (f.breakY k j q)])] rfl rfl ?zo ?zk
      case zo =>
        repeat' apply AllP.cons
        all_goals first | exact trivial | exact rfl | exact Nat.le_of_ble_eq_true rfl | exact breaks_t f hf k j q hlt hjl (by omega)
      case zk =>
      generalize f.breakY k j q = y at *
      refine Aw.sm tab_ok mb0 [] rfl rfl ?zo ?zk
      case zo =>
        repeat' apply AllP.cons
        all_goals first | exact trivial | exact id | exact fun _ => rfl | exact fun _ _ => rfl | exact fun h1 h2 => gq_c h1 h2
      case zk =>
      have hc : cond (decide (y ≥ 0)) (cond (decide (b.2.2 < 0)) true (decide (y < b.2.2))) false = decide (y ≥ 0 ∧ (b.2.2 < 0 ∨ y < b.2.2)) := by
        rw [Bool.eq_iff_iff]; simp only [c_and, c_or, Bool.and_eq_true, Bool.or_eq_true, decide_eq_true_eq]
      refine Aw.cond rfl (fun h3 => ?_) (fun h3 => Aw.skip ?_)
      · have h3' : y ≥ 0 ∧ (b.2.2 < 0 ∨ y < b.2.2) := of_decide_eq_true (hc.symm.trans h3)
        rw [if_pos h3'] at hrun
        refine Aw.em tab_ok mb0 [] rfl rfl ?zo ?zk
        case zo =>
          repeat' apply AllP.cons
          all_goals first | exact trivial
        case zk =>
        refine Aw.em tab_ok mb0 [] rfl rfl ?zo ?zk
        case zo =>
          repeat' apply AllP.cons
          all_goals first | exact trivial | exact inrk j (by omega)
        case zk =>
        exact ⟨(j + 1, (k : Int), (j : Int), y), ⟨hjl, hrun⟩, by show f.seasons.length - (j + 1) < f.seasons.length - j; omega, ⟨.refl _, .refl _, .refl _, .refl _, .refl _, .refl _, trivial⟩, ⟨.refl _, .refl _, .refl _, .refl _, trivial⟩, ⟨rfl, trivial⟩, Nat.le_of_ble_eq_true rfl⟩
      · have h3' : ¬ (y ≥ 0 ∧ (b.2.2 < 0 ∨ y < b.2.2)) := of_decide_eq_false (hc.symm.trans h3)
        rw [if_neg h3'] at hrun
        refine Aw.em tab_ok mb0 [] rfl rfl ?zo ?zk
        case zo =>
          repeat' apply AllP.cons
          all_goals first | exact trivial | exact inrk j (by omega)
        case zk =>
        exact ⟨(j + 1, b), ⟨hjl, hrun⟩, by show f.seasons.length - (j + 1) < f.seasons.length - j; omega, ⟨.refl _, .refl _, .refl _, .refl _, .refl _, .refl _, trivial⟩, ⟨.refl _, .refl _, .refl _, .refl _, trivial⟩, ⟨rfl, trivial⟩, Nat.le_of_ble_eq_true rfl⟩
    · have hle : j = f.seasons.length := by have := of_decide_eq_false h2; omega
      subst hle
      rw [range_end, firstS] at hrun
      refine Aw.em tab_ok mb0 [] rfl rfl ?zo ?zk
      case zo =>
        repeat' apply AllP.cons
        all_goals first | exact trivial | exact inrk k (by omega)
      case zk =>
      exact ⟨(k + 1, b), ⟨hlt, hrun⟩, by show f.many - (k + 1) < f.many - k; omega, ⟨.refl _, .refl _, .refl _, trivial⟩, ⟨.refl _, .refl _, .refl _, .refl _, trivial⟩, ⟨rfl, trivial⟩, Nat.le_of_ble_eq_true rfl⟩
  · have hle : k = f.many := by have := of_decide_eq_false h1; omega
    subst hle
    rw [range_end, firstR] at hrun
    subst hrun
    refine Aw.seq ?_
    refine Aw.sm tab_ok mb0 [] rfl rfl ?zo ?zk
    case zo =>
      repeat' apply AllP.cons
      all_goals first | exact trivial
    case zk =>
    refine Aw.cond rfl (fun h3 => ?_) (fun h3 => Aw.skip ?_)
    · have h3' : b.2.2 < 0 := of_decide_eq_true h3
      rw [if_pos h3']
      refine Aw.sm tab_ok mb0 [] rfl rfl ?zo ?zk
      case zo =>
        repeat' apply AllP.cons
        all_goals first | exact trivial
      case zk =>
      exact Aw.ret ⟨_, .cons (.tmp _) (.cons (.tmp _) (.cons (.tmp _) (.cons (.tmp _) .nil))), rfl⟩
    · have h3' : ¬ b.2.2 < 0 := of_decide_eq_false h3
      rw [if_neg h3']
      refine Aw.sm tab_ok mb0 [] rfl rfl ?zo ?zk
      case zo =>
        repeat' apply AllP.cons
        all_goals first | exact trivial
      case zk =>
      exact Aw.ret ⟨_, .cons (.tmp _) (.cons (.tmp _) (.cons (.tmp _) (.cons (.tmp _) .nil))), rfl⟩
end Go.Proofs.Ytkfepnbanekfgaa

namespace Go.Proofs.Ytkfepnbanekfgaa
open Go Go.AL Go.AL.Q
theorem withinH_t (n a b : Int) : Ans Try.prog 32 [.int n, .int a, .int b] (.bool (wi n a b)) := by
  refine told Try.func32 rfl rfl (Pure.of tab_ok Try.func32 rfl Try.ntmps32 rfl (allC (.s _) (allC (.s _) (all1 (.s _)))) (allC (fun _ => rfl) (allC (fun _ => rfl) (all1 (fun _ => rfl)))) (by first | exact .s _ | assumption | exact .tup _ (by intro x hx; simp only [List.mem_cons, List.not_mem_nil, or_false] at hx; rcases hx with rfl | rfl | rfl | rfl <;> first | exact .s _ | (simp_all; done))) fun E hE => ?_)
  refine Aw.sm tab_ok mb0 [] rfl rfl ?zo ?zk
  case zo =>
    repeat' apply AllP.cons
    all_goals first | exact trivial
  case zk =>
  refine Aw.sm tab_ok mb0 [] rfl rfl ?zo ?zk
  case zo =>
    repeat' apply AllP.cons
    all_goals first | exact trivial | exact id | exact fun _ => rfl
  case zk =>
  exact Aw.ret ⟨_, .cons (.tmp _) .nil, rfl⟩
theorem pick_t (b : Bool) (l : List Int) (n : Int) (hl : (l.length : Int) ≤ 9223372036854775807) : Ans Try.prog 9 [.sl b .any (ints l), .int n] (.int (pickF l n)) := by
  have li : ((ints l).length : Int) = l.length := by simp [ints]
  refine told Try.func9 rfl rfl (Pure.of tab_ok Try.func9 rfl Try.ntmps9 rfl (allC (free_ints _ _ _) (all1 (.s _))) (allC (fun _ => rfl) (all1 (fun _ => rfl))) (by first | exact .s _ | assumption | exact .tup _ (by intro x hx; simp only [List.mem_cons, List.not_mem_nil, or_false] at hx; rcases hx with rfl | rfl | rfl | rfl <;> first | exact .s _ | (simp_all; done))) fun E hE => ?_)
  refine Aw.sm tab_ok mb0 [] rfl rfl ?zo ?zk
  case zo =>
    repeat' apply AllP.cons
    all_goals first | exact trivial
  case zk =>
  refine Aw.seq ?_
  refine Aw.sm tab_ok mb0 [] rfl rfl ?zo ?zk
  case zo =>
    repeat' apply AllP.cons
    all_goals first | exact trivial
  case zk =>
  refine Aw.cond rfl (fun h3 => ?_) (fun h3 => Aw.skip ?_)
  · have h3' : l.length = 0 := by
      have h3 : (((ints l).length : Int) == 0) = true := h3
      have := eq_of_beq h3; omega
    refine Aw.sm tab_ok mb0 [] rfl rfl ?zo ?zk
    case zo =>
      repeat' apply AllP.cons
      all_goals first | exact trivial
    case zk =>
    exact Aw.ret ⟨_, .cons (.tmp _) .nil, by unfold pickF; rw [if_pos h3']; rfl⟩
  · have h3' : ¬ l.length = 0 := fun h => by
      have h3 : (((ints l).length : Int) == 0) = false := h3
      rw [li, h] at h3; cases h3
    have g1 := Int.emod_nonneg n (show (l.length : Int) ≠ 0 by omega)
    have g2 := Int.emod_lt_of_pos n (show 0 < (l.length : Int) by omega)
    have hp : (ints l)[(n % (l.length : Int)).toNat]? = some [.int (pickF l n)] := by
      rw [ints_get (by omega)]
      unfold pickF
      rw [if_neg h3', List.getD_eq_getElem?_getD, List.getElem?_eq_getElem (by omega)]; rfl
    refine Aw.sm tab_ok mb0 [(4, [.int (n % (↑l.length))]), (5, [.int (pickF l n)])] rfl rfl ?zo ?zk
    case zo =>
      repeat' apply AllP.cons
      all_goals first | exact trivial | exact rfl | exact Nat.le_of_ble_eq_true rfl | exact li ▸ mod_t n _ (by omega) (by omega) | exact hp | exact g1
    case zk =>
    exact Aw.ret ⟨_, .cons (.tmp _) .nil, rfl⟩
end Go.Proofs.Ytkfepnbanekfgaa

namespace Go.Proofs.Ytkfepnbanekfgaa
open Go Go.AL Go.AL.Q Go.AL.Sh
theorem far_t (p q : Sp) (hp : Near p) (hq : Near q) : Ans Try.prog 54 [.agg p.c, .agg q.c] (.int (farF p q)) := by
  obtain ⟨a1, a2, a3, a4⟩ := hp
  obtain ⟨b1, b2, b3, b4⟩ := hq
  refine told Try.func54 rfl rfl (Pure.of tab_ok Try.func54 rfl Try.ntmps54 rfl (allC (.agg _ p.free) (all1 (.agg _ q.free))) (allC (fun _ => rfl) (all1 (fun _ => rfl))) (by first | exact .s _ | assumption | exact .tup _ (by intro x hx; simp only [List.mem_cons, List.not_mem_nil, or_false] at hx; rcases hx with rfl | rfl | rfl | rfl <;> first | exact .s _ | (simp_all; done))) fun E hE => ?_)
  refine Aw.sm tab_ok mb0 [] rfl rfl ?zo ?zk
  case zo =>
    repeat' apply AllP.cons
    all_goals first | exact trivial
  case zk =>
  refine Aw.sm tab_ok mb0 [] rfl rfl ?zo ?zk
  case zo =>
    repeat' apply AllP.cons
    all_goals first | exact trivial | exact Nat.le_of_ble_eq_true rfl | exact (by simp only [Ob.of, inR]; omega)
  case zk =>
  exact Aw.ret ⟨_, .cons (.tmp _) .nil, rfl⟩
theorem seaLe (s : Sea) (m : A) (hm : ∀ u, spareOf m u = none) : A.Le (.agg (seaA s .un)) (.agg (seaA s m)) :=
  .agg (.cons (.refl _) (.cons (.refl _) (.cons (.refl _) (.cons (.refl _) (.cons (.refl _) (.cons (.refl _) (.cons ⟨fun _ _ _ v _ => .un v, fun u p h => absurd h (by simp [spareOf])⟩ .nil)))))))
theorem many_u (s : Sea) (h : s.Ok) : Ans Try.prog 52 [.agg (seaA s .un)] (.int s.many) := by
  have := h.many
  unfold Sea.many at this
  refine told Try.func52 rfl rfl (Pure.of tab_ok Try.func52 rfl Try.ntmps52 rfl (all1 (.agg _ (seaA_free s))) (all1 (fun _ => rfl)) (by first | exact .s _ | assumption | exact .tup _ (by intro x hx; simp only [List.mem_cons, List.not_mem_nil, or_false] at hx; rcases hx with rfl | rfl | rfl | rfl <;> first | exact .s _ | (simp_all; done))) fun E hE => ?_)
  refine Aw.sm tab_ok mb0 [] rfl rfl ?zo ?zk
  case zo =>
    repeat' apply AllP.cons
    all_goals first | exact trivial
  case zk =>
  refine Aw.sm tab_ok mb0 [] rfl rfl ?zo ?zk
  case zo =>
    repeat' apply AllP.cons
    all_goals first | exact trivial | exact Nat.le_of_ble_eq_true rfl | exact (by simp only [Ob.of, inR]; omega)
  case zk =>
  exact Aw.ret ⟨_, .cons (.tmp _) .nil, rfl⟩
theorem many_t (s : Sea) (h : s.Ok) (i : Nat) : Ans Try.prog 52 [.agg (seaA s (.mp i))] (.int s.many) := (many_u s h).le1 (seaLe s _ fun _ => rfl)
theorem place_u (s : Sea) (h : s.Ok) (cell : Int) (hc : -1000 ≤ cell ∧ cell ≤ 1000) : Ans Try.prog 53 [.agg (seaA s .un), .int cell] (.agg (placeP s.wide cell).c) := by
  have hfr : Free (.agg (placeP s.wide cell).c) := .agg _ (Sp.free _)
  have hw := h.w
  have h2 := (placeP_near hw hc).h0
  have h3 := (placeP_near hw hc).h1
  unfold placeP at h2 h3
  refine told Try.func53 rfl rfl (Pure.of tab_ok Try.func53 rfl Try.ntmps53 rfl (allC (.agg _ (seaA_free s)) (all1 (.s _))) (allC (fun _ => rfl) (all1 (fun _ => rfl))) (by first | exact .s _ | assumption | exact .tup _ (by intro x hx; simp only [List.mem_cons, List.not_mem_nil, or_false] at hx; rcases hx with rfl | rfl | rfl | rfl <;> first | exact .s _ | (simp_all; done))) fun E hE => ?_)
  refine Aw.sm tab_ok mb0 [] rfl rfl ?zo ?zk
  case zo =>
    repeat' apply AllP.cons
    all_goals first | exact trivial
  case zk =>
  refine Aw.sd tab_ok mixed mb0 [] rfl (by kernel_rfl) rfl rfl ?zo ?zk
  case zo =>
    repeat' apply AllP.cons
    all_goals first | exact trivial | exact rfl | exact Nat.le_of_ble_eq_true rfl | exact (show s.wide ≠ 0 by omega) | exact (show s.wide ≠ 0 ∧ inR (cell.tdiv s.wide) from ⟨by omega, by simp only [inR]; simp only at h2 h3; omega⟩)
  case zk =>
  exact Aw.ret ⟨_, .cons (resC rfl rfl rfl rfl rfl) .nil, rfl⟩
theorem plc_t (s : Sea) (h : s.Ok) (i : Nat) (cell : Int) (hc : -1000 ≤ cell ∧ cell ≤ 1000) : Ans Try.prog 53 [.agg (seaA s (.mp i)), .int cell] (.agg (placeP s.wide cell).c) :=
  (place_u s h cell hc).le rfl fun j hj => by
    match j, hj with
    | 0, _ => exact seaLe s _ fun _ => rfl
    | 1, _ => exact .refl _
theorem least_t (a : Int) (b : Bool) (c : Cap) (l : List Int) (hl : (l.length : Int) ≤ 9223372036854775806) (hc : ∀ u, spareOf (.sl b c (ints l)) u = none) : Ans Try.prog 71 [.int a, .sl b c (ints l)] (.int (l.foldl gmin a)) := by
  have li := ints_lenI l
  refine told Try.func71 rfl rfl (Pure.of tab_ok Try.func71 rfl Try.ntmps71 rfl (allC (.s _) (all1 (free_ints _ _ _))) (allC (fun _ => rfl) (all1 hc)) (.s _) fun E hE => ?_)
  refine Aw.keep (n := 0) (cst := []) (v := [(0, .int a), (1, .sl b .any (ints l))]) (Hl := []) hE trivial ⟨.s _, (free_ints _ _ _).under, trivial⟩ trivial ⟨trivial, ⟨.refl _, .any _ _ _, trivial⟩, trivial, Nat.le_refl _⟩ ?_
  refine Aw.sm tab_ok mb0 [] rfl rfl ?zo ?zk
  case zo =>
    repeat' apply AllP.cons
    all_goals first | exact trivial
  case zk =>
  refine Aw.seq ?_
  refine Aw.sm tab_ok mb0 [] rfl rfl ?zo ?zk
  case zo =>
    repeat' apply AllP.cons
    all_goals first | exact trivial
  case zk =>
  refine Aw.block (Aw.rounds 0 hE [(7, .sl b .any (ints l)), (8, .int l.length)] (fun k : Nat => [(0, .int ((l.take k).foldl gmin a)), (9, .int k)]) (fun _ => []) (fun k => k ≤ l.length) (fun k => l.length - k) 0
    (Nat.zero_le _) ⟨⟨.refl _, .of_eq (congrArg A.int li.symm), trivial⟩, ⟨.refl _, .refl _, trivial⟩, trivial, Nat.le_refl _⟩ ⟨(free_ints _ _ _).under, .s _, trivial⟩ (fun _ _ => ⟨.s _, .s _, trivial⟩) (fun _ _ => trivial) fun k hk => ?_)
  refine Aw.sm tab_ok mb0 [] rfl rfl ?zo ?zk
  case zo =>
    repeat' apply AllP.cons
    all_goals first | exact trivial
  case zk =>
  refine Aw.seq (Aw.cond rfl (fun h1 => Aw.skip1 ?_) (fun h1 => Aw.exit2 ?_))
  · have hlt : k < l.length := by have := of_decide_eq_true h1; omega
    have e : (l.take (k + 1)).foldl gmin a = gmin ((l.take k).foldl gmin a) l[k] := by rw [List.take_succ_eq_append_getElem hlt, List.foldl_append]; rfl
    refine Aw.seq (Aw.block ?_)
    refine Aw.sm tab_ok mb0 [(0, [.int l[k]])] rfl rfl ?zo ?zk
    case zo =>
      repeat' apply AllP.cons
      all_goals first | exact trivial | exact rfl | exact Nat.le_of_ble_eq_true rfl | exact Int.natCast_nonneg _ | exact ints_get hlt
    case zk =>
    refine Aw.em tab_ok mb0 [] rfl rfl ?zo ?zk
    case zo =>
      repeat' apply AllP.cons
      all_goals first | exact trivial
    case zk =>
    refine Aw.em tab_ok mb0 [] rfl rfl ?zo ?zk
    case zo =>
      repeat' apply AllP.cons
      all_goals first | exact trivial | exact inrk k (by omega)
    case zk =>
    exact ⟨k + 1, hlt, by omega, ⟨.refl _, .refl _, trivial⟩, ⟨.of_eq (by rw [e]; rfl), .refl _, trivial⟩, trivial, Nat.zero_le _⟩
  · have hle : k = l.length := by have := of_decide_eq_false h1; omega
    subst hle
    refine Aw.sm tab_ok mb0 [] rfl rfl ?zo ?zk
    case zo =>
      repeat' apply AllP.cons
      all_goals first | exact trivial
    case zk =>
    exact Aw.ret ⟨_, .cons (.tmp _) .nil, by rw [List.take_length]; rfl⟩
set_option maxRecDepth 100000 in
theorem eq3H (a b : Int) : pureRun Try.prog (Op.equalIn 9999 3 (.int .i64 a) (.int .i64 b)) = some (a == b) := by rfl
set_option maxRecDepth 100000 in
theorem eq85 (a b c d : Int) : pureRun Try.prog (Op.equal 90 (.agg #[.int .i64 a, .int .i64 b]) (.agg #[.int .i64 c, .int .i64 d])) = some (a == c && b == d) := by
  have h1 : pureRun Try.prog (underlying 90) = Try.prog.underlying 90 := rfl
  have h2 : pureRun Try.prog program = some Try.prog := rfl
  have h3 : Try.prog.stoodInHeld 90 = false := by kernel_rfl
  have p1 : ∀ x y : Value, pureRun Try.prog (part 3 #[x, y] 0) = some x := fun x y => rfl
  have p2 : ∀ x y : Value, pureRun Try.prog (part 3 #[x, y] 1) = some y := fun x y => rfl
  have pp : ∀ {α : Type} (x : α), pureRun Try.prog (pure x) = some x := fun x => rfl
  rw [Op.equal, Op.maxDepth, show (10000 : Nat) = 9999 + 1 from rfl, Op.equalIn, pureRun_bind, h1, Try.underlying90]
  simp only [Option.bind_some, pureRun_bind, h2, h3]
  by_cases h : a = c
  · subst h
    by_cases h' : b = d
    · subst h'
      simp [pureRun_bind, p1, p2, eq3H, pp]
    · have e : (b == d) = false := by simpa using h'
      simp [pureRun_bind, p1, p2, eq3H, pp, e]
  · have e : (a == c) = false := by simpa using h
    simp [pureRun_bind, p1, eq3H, pp, e]
theorem eg85 : Try.prog.eqGuardType Try.prog.depth 90 = false := by kernel_rfl
theorem sp_beq (s t : Sp) : (s == t) = (s.lo == t.lo && s.hi == t.hi) := by
  obtain ⟨a, b⟩ := s
  obtain ⟨c, d⟩ := t
  rw [Bool.eq_iff_iff]
  simp only [beq_iff_eq, Bool.and_eq_true, Sp.mk.injEq]
set_option maxRecDepth 100000 in
theorem eqSp (x y : Operand) (s t : Sp) : EqIs tab .eql 90 x y (.agg s.c) (.agg t.c) (s == t) := by
  refine ⟨.agg #[.int .i64 s.lo, .int .i64 s.hi], .agg #[.int .i64 t.lo, .int .i64 t.hi], rfl, rfl, (congrFun (congrFun (congrFun (congrFun (congrFun (congrFun (show tab.eqv = pureEq Try.prog from rfl) _) _) _) _) _) _).trans ?_⟩
  show pureEq Try.prog .eql 90 x y (.agg #[.int .i64 s.lo, .int .i64 s.hi]) (.agg #[.int .i64 t.lo, .int .i64 t.hi]) = _
  have hp : pureRun Try.prog program = some Try.prog := rfl
  have pp : ∀ {α : Type} (x : α), pureRun Try.prog (pure x) = some x := fun x => rfl
  have e1 : pureRun Try.prog (eqGuard .eql 90 x y (.agg #[.int .i64 s.lo, .int .i64 s.hi]) (.agg #[.int .i64 t.lo, .int .i64 t.hi])) = some () := by
    simp [eqGuard, pureRun_bind, hp, eg85, pp]
  have e2 : pureRun Try.prog (binOp .eql 90 (.agg #[.int .i64 s.lo, .int .i64 s.hi]) (.agg #[.int .i64 t.lo, .int .i64 t.hi])) = some (.bool (s == t)) := by
    have : binOp .eql 90 (.agg #[.int .i64 s.lo, .int .i64 s.hi]) (.agg #[.int .i64 t.lo, .int .i64 t.hi]) = (Op.equal 90 (.agg #[.int .i64 s.lo, .int .i64 s.hi]) (.agg #[.int .i64 t.lo, .int .i64 t.hi]) >>= fun b => pure (.bool b)) := rfl
    rw [this, pureRun_bind, eq85, sp_beq]; rfl
  unfold pureEq
  rw [pureRun_bind, e1]
  exact e2
theorem steps_u (s : Sea) (h : s.Ok) (hour : Int) (h0 : 0 ≤ hour) (h1 : hour < s.drift.length) (p q : Sp) (hp : -1000 ≤ p.lo ∧ p.lo ≤ 1000) (hp' : -1000 ≤ p.hi ∧ p.hi ≤ 1000) (hq : Near q) :
    Ans Try.prog 79 [.agg (seaA s .un), .int hour, .agg p.c, .agg q.c] (.bool (s.steps hour p q)) := by
  have hlt : hour.toNat < s.drift.length := by omega
  have e : s.step hour = s.drift[hour.toNat] := by unfold Sea.step; rw [List.getD_eq_getElem?_getD, List.getElem?_eq_getElem hlt]; rfl
  have hd : (s.drift.map Sp.c)[hour.toNat]? = some (s.step hour).c := by rw [e]; exact get_map hlt
  have hb := h.st _ (e ▸ List.getElem_mem hlt : s.step hour ∈ s.drift)
  unfold Sea.steps
  generalize s.step hour = d at *
  have hn : Near ⟨p.lo + d.lo, p.hi + d.hi⟩ := ⟨by show -1000000 ≤ p.lo + d.lo; omega, by show p.lo + d.lo ≤ 1000000; omega, by show -1000000 ≤ p.hi + d.hi; omega, by show p.hi + d.hi ≤ 1000000; omega⟩
  refine told Try.func79 rfl rfl (Pure.of tab_ok Try.func79 rfl Try.ntmps79 rfl (allC (.agg _ (seaA_free s)) (allC (.s _) (allC (.agg _ p.free) (all1 (.agg _ q.free))))) (allC (fun _ => rfl) (allC (fun _ => rfl) (allC (fun _ => rfl) (all1 (fun _ => rfl))))) (by first | exact .s _ | assumption | exact .tup _ (by intro x hx; simp only [List.mem_cons, List.not_mem_nil, or_false] at hx; rcases hx with rfl | rfl | rfl | rfl <;> first | exact .s _ | (simp_all; done))) fun E hE => ?_)
  refine Aw.sm tab_ok mb0 [] rfl rfl ?zo ?zk
  case zo =>
    repeat' apply AllP.cons
    all_goals first | exact trivial
  case zk =>
  refine Aw.sm tab_ok mb0 [(4, d.c)] rfl rfl ?zo ?zk
  case zo =>
    repeat' apply AllP.cons
    all_goals first | exact trivial | exact rfl | exact Nat.le_of_ble_eq_true rfl | exact hd | exact h0
  case zk =>
  refine Aw.sm tab_ok mb0 [] rfl rfl ?zo ?zk
  case zo =>
    repeat' apply AllP.cons
    all_goals first | exact trivial | exact rfl | exact Nat.le_of_ble_eq_true rfl | exact (by simp only [Ob.of, inR]; omega)
  case zk =>
  refine Aw.sd tab_ok mixed mb0 [(2, [.bool ((⟨p.lo + d.lo, p.hi + d.hi⟩ : Sp) == q)]), (6, [.int (farF ⟨p.lo + d.lo, p.hi + d.hi⟩ q)])] rfl (by kernel_rfl) rfl rfl ?zo ?zk
  case zo =>
    repeat' apply AllP.cons
    all_goals first | exact trivial | exact id | exact fun _ => rfl | exact Nat.le_of_ble_eq_true rfl | exact fun _ => Nat.le_of_ble_eq_true rfl | exact eqSp _ _ ⟨p.lo + d.lo, p.hi + d.hi⟩ q | exact fun _ => far_t _ _ hn hq | exact gq_f
  case zk =>
  exact Aw.ret ⟨_, .cons (.tmp _) .nil, rfl⟩
theorem isTrue_t (s : Sea) (r : Rep) (p : Sp) (hr : Near (placeP s.wide r.cell)) (hp : Near p) : Ans Try.prog 81 [.agg (repC s.wide r), .agg p.c] (.bool (isTrueF s.wide r p)) := by
  refine told Try.func81 rfl rfl (Pure.of tab_ok Try.func81 rfl Try.ntmps81 rfl (allC (.agg _ (repC_free _ r)) (all1 (.agg _ p.free))) (allC (fun _ => rfl) (all1 (fun _ => rfl))) (by first | exact .s _ | assumption | exact .tup _ (by intro x hx; simp only [List.mem_cons, List.not_mem_nil, or_false] at hx; rcases hx with rfl | rfl | rfl | rfl <;> first | exact .s _ | (simp_all; done))) fun E hE => ?_)
  refine Aw.sm tab_ok mb0 [] rfl rfl ?zo ?zk
  case zo =>
    repeat' apply AllP.cons
    all_goals first | exact trivial
  case zk =>
  refine Aw.sd tab_ok mixed mb0 [(6, [.int (farF (placeP s.wide r.cell) p)])] rfl (by kernel_rfl) rfl rfl ?zo ?zk
  case zo =>
    repeat' apply AllP.cons
    all_goals first | exact trivial | exact Nat.le_of_ble_eq_true rfl | exact far_t _ _ hr hp
  case zk =>
  exact Aw.ret ⟨_, .cons (.tmp _) .nil, rfl⟩
end Go.Proofs.Ytkfepnbanekfgaa

namespace Go.Proofs.Ytkfepnbanekfgaa
open Go Go.AL Go.AL.Q Go.AL.Sh
structure SeaFit (s : Sea) : Prop where
  l : (s.land.length : Int) ≤ 9223372036854775806
  d : (s.drift.length : Int) ≤ 9223372036854775806
theorem prev_succ {l : List Int} {k : Nat} (h : k < l.length) : prevI l (k + 1) = l[k] := by simp [prevI, List.getD_eq_getElem?_getD, h]
theorem checkH_t (s : Sea) (hf : SeaFit s) : Ans Try.prog 12 [.agg s.c] (.int s.chk) := by
  have h1 := hf.l
  have h2 := hf.d
  have ll := ints_lenI s.land
  have ld : ((s.drift.map Sp.c).length : Int) = s.drift.length := by simp
  have us : Under 0 (A.pt s.c) := (Free.pt _ s.free).under
  have ul : Under 0 (A.sl s.ln .any (ints s.land)) := (free_ints _ _ _).under
  have ud : Under 0 (A.sl s.dn .any (s.drift.map Sp.c)) := (free_map Sp.free _ _ _).under
  refine told Try.func12 rfl rfl (Pure.of tab_ok Try.func12 rfl Try.ntmps12 rfl (all1 (.agg _ s.free)) (all1 (fun _ => rfl)) (by first | exact .s _ | assumption | exact .tup _ (by intro x hx; simp only [List.mem_cons, List.not_mem_nil, or_false] at hx; rcases hx with rfl | rfl | rfl | rfl <;> first | exact .s _ | (simp_all; done))) fun E hE => ?_)
  refine Aw.sm tab_ok mb0 [] rfl rfl ?zo ?zk
  case zo =>
    repeat' apply AllP.cons
    all_goals first | exact trivial
  case zk =>
  refine Aw.sm tab_ok mb0 [(2, [.bool (wi s.wide 1 10)]), (6, [.bool (wi s.high 1 8)]), (11, [.bool (wi s.speed 0 2)]), (16, [.bool (wi s.hours 1 12)])] rfl rfl ?zo ?zk
  case zo =>
    repeat' apply AllP.cons
    all_goals first | exact trivial | exact id | exact fun _ => rfl | exact Nat.le_of_ble_eq_true rfl | exact fun _ => Nat.le_of_ble_eq_true rfl | exact withinH_t _ _ _ | exact (withinH_t _ _ _).un | exact fun h => (by have := wi_iff.1 (ac2 h); simp only [Ob.of, inR]; omega)
  case zk =>
  have hb : A.bool s.b0 = A.bool (cond (cond (cond (cond (wi s.wide 1 10) (wi s.high 1 8) false) (wi s.speed 0 2) false) (wi s.hours 1 12) false) (((s.drift.map Sp.c).length : Int) == s.hours - 1) false) := by rw [ld]; rfl
  refine Aw.sm tab_ok mb0 [] rfl rfl ?zo ?zk
  case zo =>
    repeat' apply AllP.cons
    all_goals first | exact trivial
  case zk =>
  refine Aw.seq ?_
  refine Aw.sm tab_ok mb0 [] rfl rfl ?zo ?zk
  case zo =>
    repeat' apply AllP.cons
    all_goals first | exact trivial | exact Nat.le_of_ble_eq_true rfl
  case zk =>
  refine Aw.block (Aw.rounds 0 hE [(1, .pt s.c), (37, .sl s.ln .any (ints s.land)), (38, .int s.land.length)] (fun k : Nat => [(3, .bool (risK s.b0 (s.wide * s.high) s.land k)), (4, .int (prevI s.land k)), (39, .int k)]) (fun _ => []) (fun k => k ≤ s.land.length) (fun k => s.land.length - k) 0
    (Nat.zero_le _) ⟨⟨.refl _, .refl _, .of_eq (congrArg A.int ll.symm), trivial⟩, ⟨.of_eq (by rw [risK_zero]; exact hb), .refl _, .refl _, trivial⟩, trivial, Nat.le_refl _⟩ ⟨us, ul, .s _, trivial⟩ (fun _ _ => ⟨.s _, .s _, .s _, trivial⟩) (fun _ _ => trivial) fun k hk => ?_)
  refine Aw.sm tab_ok mb0 [] rfl rfl ?zo ?zk
  case zo =>
    repeat' apply AllP.cons
    all_goals first | exact trivial
  case zk =>
  refine Aw.seq (Aw.cond rfl (fun h1 => Aw.skip1 ?_) (fun h1 => Aw.exit2 ?_))
  · have hlt : k < s.land.length := by have := of_decide_eq_true h1; omega
    have bd : risK s.b0 (s.wide * s.high) s.land k = true → (0 ≤ s.wide * s.high ∧ s.wide * s.high ≤ 80) ∧ -1 ≤ prevI s.land k ∧ prevI s.land k ≤ 80 := fun h => by
      obtain ⟨a, b, _⟩ := Sea.b0_ok (risK_b h)
      have m1 : 0 ≤ s.wide * s.high := Int.mul_nonneg (by omega) (by omega)
      have m2 : s.wide * s.high ≤ 10 * 8 := Int.mul_le_mul a.2 b.2 (by omega) (by omega)
      have := risK_prev (by omega) m1 h
      omega
    have hst := risK_step (b := s.b0) (n := s.wide * s.high) hlt
    have hps := prev_succ hlt
    refine Aw.seq (Aw.block ?_)
    refine Aw.sm tab_ok mb0 [(0, [.int s.land[k]])] rfl rfl ?zo ?zk
    case zo =>
      repeat' apply AllP.cons
      all_goals first | exact trivial | exact rfl | exact Nat.le_of_ble_eq_true rfl | exact Int.natCast_nonneg _ | exact ints_get hlt
    case zk =>
    refine Aw.sm tab_ok mb0 [(11, [.bool (wi s.land[k] (prevI s.land k + 1) (s.wide * s.high - 1))])] rfl rfl ?zo ?zk
    case zo =>
      repeat' apply AllP.cons
      all_goals first | exact trivial | exact id | exact fun _ => rfl | exact fun _ => Nat.le_of_ble_eq_true rfl | exact (withinH_t _ _ _).un | exact fun h => (by have := bd h; simp only [Ob.of, inR]; omega)
    case zk =>
    refine Aw.em tab_ok mb0 [] rfl rfl ?zo ?zk
    case zo =>
      repeat' apply AllP.cons
      all_goals first | exact trivial
    case zk =>
    refine Aw.em tab_ok mb0 [] rfl rfl ?zo ?zk
    case zo =>
      repeat' apply AllP.cons
      all_goals first | exact trivial | exact inrk k (by omega)
    case zk =>
    exact ⟨k + 1, hlt, by omega, ⟨.refl _, .refl _, .refl _, trivial⟩, ⟨.of_eq (congrArg A.bool hst), .of_eq (congrArg A.int hps), .refl _, trivial⟩, trivial, Nat.zero_le _⟩
  have hle : k = s.land.length := by have := of_decide_eq_false h1; omega
  subst hle
  have e1 : risK s.b0 (s.wide * s.high) s.land s.land.length = s.b1 := risK_full
  rw [e1]
  refine Aw.seq ?_
  refine Aw.sm tab_ok mb0 [] rfl rfl ?zo ?zk
  case zo =>
    repeat' apply AllP.cons
    all_goals first | exact trivial | exact Nat.le_of_ble_eq_true rfl
  case zk =>
  refine Aw.block (Aw.rounds 0 hE [(59, .sl s.dn .any (s.drift.map Sp.c)), (60, .int s.drift.length)] (fun k : Nat => [(3, .bool (andAll s.b1 Sea.stepOk s.drift k)), (61, .int k)]) (fun _ => []) (fun k => k ≤ s.drift.length) (fun k => s.drift.length - k) 0
    (Nat.zero_le _) ⟨⟨.refl _, .of_eq (congrArg A.int ld.symm), trivial⟩, ⟨.of_eq (by rw [andAll_zero]; rfl), .refl _, trivial⟩, trivial, Nat.le_refl _⟩ ⟨ud, .s _, trivial⟩ (fun _ _ => ⟨.s _, .s _, trivial⟩) (fun _ _ => trivial) fun k hk => ?_)
  refine Aw.sm tab_ok mb0 [] rfl rfl ?zo ?zk
  case zo =>
    repeat' apply AllP.cons
    all_goals first | exact trivial
  case zk =>
  refine Aw.seq (Aw.cond rfl (fun h1 => Aw.skip1 ?_) (fun h1 => Aw.exit2 ?_))
  · have hlt : k < s.drift.length := by have := of_decide_eq_true h1; omega
    refine Aw.seq (Aw.block ?_)
    refine Aw.sm tab_ok mb0 [(0, s.drift[k].c)] rfl rfl ?zo ?zk
    case zo =>
      repeat' apply AllP.cons
      all_goals first | exact trivial | exact rfl | exact Nat.le_of_ble_eq_true rfl | exact Int.natCast_nonneg _ | exact get_map hlt
    case zk =>
    refine Aw.em tab_ok mb0 [(4, [.bool (wi s.drift[k].lo (-2) 2)]), (9, [.bool (wi s.drift[k].hi (-2) 2)])] rfl rfl ?zo ?zk
    case zo =>
      repeat' apply AllP.cons
      all_goals first | exact trivial | exact id | exact fun _ => rfl | exact fun _ => Nat.le_of_ble_eq_true rfl | exact (withinH_t _ _ _).un
    case zk =>
    refine Aw.em tab_ok mb0 [] rfl rfl ?zo ?zk
    case zo =>
      repeat' apply AllP.cons
      all_goals first | exact trivial | exact inrk k (by omega)
    case zk =>
    exact ⟨k + 1, hlt, by omega, ⟨.refl _, .refl _, trivial⟩, ⟨.of_eq (show A.bool (andAll s.b1 Sea.stepOk s.drift (k + 1)) = A.bool (cond (cond (andAll s.b1 Sea.stepOk s.drift k) (wi s.drift[k].lo (-2) 2) false) (wi s.drift[k].hi (-2) 2) false) by rw [andAll_step hlt, cond_assoc]; rfl), .refl _, trivial⟩, trivial, Nat.zero_le _⟩
  have hle : k = s.drift.length := by have := of_decide_eq_false h1; omega
  subst hle
  have e2 : andAll s.b1 Sea.stepOk s.drift s.drift.length = s.ok := andAll_full
  rw [e2]
  refine Aw.seq ?_
  refine Aw.sm tab_ok mb0 [] rfl rfl ?zo ?zk
  case zo =>
    repeat' apply AllP.cons
    all_goals first | exact trivial
  case zk =>
  refine Aw.cond rfl (fun h1 => ?_) (fun h1 => Aw.skip ?_)
  · have hno : s.ok = false := by simpa using h1
    refine Aw.sm tab_ok mb0 [] rfl rfl ?zo ?zk
    case zo =>
      repeat' apply AllP.cons
      all_goals first | exact trivial
    case zk =>
    exact Aw.ret ⟨_, .cons (.tmp _) .nil, by unfold Sea.chk; rw [hno]; rfl⟩
  · have hyes : s.ok = true := by simpa using h1
    refine Aw.sm tab_ok mb0 [] rfl rfl ?zo ?zk
    case zo =>
      repeat' apply AllP.cons
      all_goals first | exact trivial
    case zk =>
    exact Aw.ret ⟨_, .cons (.tmp _) .nil, by unfold Sea.chk; rw [if_pos hyes]; rfl⟩
end Go.Proofs.Ytkfepnbanekfgaa

namespace Go.Proofs.Ytkfepnbanekfgaa
open Go Go.AL Go.AL.Q Go.AL.Sh
theorem areReports_u (s : Sea) (h : s.Ok) (b : Bool) (l : List Rep) (hl : (l.length : Int) ≤ 9223372036854775806) : Ans Try.prog 56 [.agg (seaA s .un), .sl b .any (l.map Rep.c)] (.bool (s.repsOk l)) := by
  have ll : ((l.map Rep.c).length : Int) = l.length := by simp
  have hr := h.hr
  have hm := h.many
  have us : Under 0 (A.pt (seaA s .un)) := (Free.pt _ (seaA_free s)).under
  have ul : Under 0 (A.sl b .any (l.map Rep.c)) := (free_map Rep.free _ _ _).under
  refine told Try.func56 rfl rfl (Pure.of tab_ok Try.func56 rfl Try.ntmps56 rfl (allC (.agg _ (seaA_free s)) (all1 (free_map Rep.free _ _ _))) (allC (fun _ => rfl) (all1 (fun _ => rfl))) (by first | exact .s _ | assumption | exact .tup _ (by intro x hx; simp only [List.mem_cons, List.not_mem_nil, or_false] at hx; rcases hx with rfl | rfl | rfl | rfl <;> first | exact .s _ | (simp_all; done))) fun E hE => ?_)
  refine Aw.sm tab_ok mb0 [] rfl rfl ?zo ?zk
  case zo =>
    repeat' apply AllP.cons
    all_goals first | exact trivial
  case zk =>
  refine Aw.sm tab_ok mb0 [] rfl rfl ?zo ?zk
  case zo =>
    repeat' apply AllP.cons
    all_goals first | exact trivial
  case zk =>
  refine Aw.seq ?_
  refine Aw.sm tab_ok mb0 [] rfl rfl ?zo ?zk
  case zo =>
    repeat' apply AllP.cons
    all_goals first | exact trivial
  case zk =>
  refine Aw.block (Aw.rounds 0 hE [(2, .pt (seaA s .un)), (11, .sl b .any (l.map Rep.c)), (12, .int l.length)] (fun k : Nat => [(5, .bool (andAll (decide ((l.length : Int) ≤ 24)) s.repOk l k)), (13, .int k)]) (fun _ => []) (fun k => k ≤ l.length) (fun k => l.length - k) 0
    (Nat.zero_le _) ⟨⟨.refl _, .refl _, .of_eq (congrArg A.int ll.symm), trivial⟩, ⟨.of_eq (by rw [andAll_zero, ← ll]; rfl), .refl _, trivial⟩, trivial, Nat.le_refl _⟩ ⟨us, ul, .s _, trivial⟩ (fun _ _ => ⟨.s _, .s _, trivial⟩) (fun _ _ => trivial) fun k hk => ?_)
  refine Aw.sm tab_ok mb0 [] rfl rfl ?zo ?zk
  case zo =>
    repeat' apply AllP.cons
    all_goals first | exact trivial
  case zk =>
  refine Aw.seq (Aw.cond rfl (fun h1 => Aw.skip1 ?_) (fun h1 => Aw.exit2 ?_))
  · have hlt : k < l.length := by have := of_decide_eq_true h1; omega
    refine Aw.seq (Aw.block ?_)
    refine Aw.sm tab_ok mb0 [(0, l[k].c)] rfl rfl ?zo ?zk
    case zo =>
      repeat' apply AllP.cons
      all_goals first | exact trivial | exact rfl | exact Nat.le_of_ble_eq_true rfl | exact Int.natCast_nonneg _ | exact get_map hlt
    case zk =>
    refine Aw.ed tab_ok mixed mb0 [(8, [.bool (wi l[k].hour 0 (s.hours - 1))]), (14, [.int s.many]), (16, [.bool (wi l[k].cell 0 (s.many - 1))]), (21, [.bool (wi l[k].far 0 9)])] rfl (by kernel_rfl) rfl rfl ?zo ?zk
    case zo =>
      repeat' apply AllP.cons
      all_goals first | exact trivial | exact id | exact fun _ => rfl | exact fun _ => Nat.le_of_ble_eq_true rfl | exact (withinH_t _ _ _).un | exact fun _ => many_u s h | exact fun _ => (by simp only [Ob.of, inR]; omega)
    case zk =>
    refine Aw.em tab_ok mb0 [] rfl rfl ?zo ?zk
    case zo =>
      repeat' apply AllP.cons
      all_goals first | exact trivial | exact inrk k (by omega)
    case zk =>
    exact ⟨k + 1, hlt, by omega, ⟨.refl _, .refl _, .refl _, trivial⟩, ⟨.of_eq (show A.bool (andAll (decide ((l.length : Int) ≤ 24)) s.repOk l (k + 1)) = A.bool (cond (cond (cond (andAll (decide ((l.length : Int) ≤ 24)) s.repOk l k) (wi l[k].hour 0 (s.hours - 1)) false) (wi l[k].cell 0 (s.many - 1)) false) (wi l[k].far 0 9) false) by rw [andAll_step hlt, cond_assoc, cond_assoc]; unfold Sea.repOk; rw [cond_assoc]), .refl _, trivial⟩, trivial, Nat.zero_le _⟩
  have hle : k = l.length := by have := of_decide_eq_false h1; omega
  subst hle
  have e2 : andAll (decide ((l.length : Int) ≤ 24)) s.repOk l l.length = s.repsOk l := andAll_full
  rw [e2]
  refine Aw.sm tab_ok mb0 [] rfl rfl ?zo ?zk
  case zo =>
    repeat' apply AllP.cons
    all_goals first | exact trivial
  case zk =>
  exact Aw.ret ⟨_, .cons (.tmp _) .nil, rfl⟩
theorem areReports_t (s : Sea) (h : s.Ok) (i : Nat) (b : Bool) (l : List Rep) (hl : (l.length : Int) ≤ 9223372036854775806) : Ans Try.prog 56 [.agg (seaA s (.mp i)), .sl b .any (l.map Rep.c)] (.bool (s.repsOk l)) :=
  (areReports_u s h b l hl).le rfl fun j hj => by
    match j, hj with
    | 0, _ => exact seaLe s _ fun _ => rfl
    | 1, _ => exact .refl _
theorem logLe (s : Sea) (l : List Rep) (m : A) (hm : ∀ u, spareOf m u = none) : A.Le (.agg (logA s .un l)) (.agg (logA s m l)) :=
  .agg (.cons (.refl _) (.cons (.refl _) (.cons (.refl _) (.cons (.refl _) (.cons (.refl _) (.cons (.refl _) (.cons ⟨fun _ _ _ v _ => .un v, fun u p h => absurd h (by simp [spareOf])⟩ (.cons (.refl _) .nil))))))))
structure RepFit (s : Sea) (l : List Rep) : Prop where
  len : (l.length : Int) ≤ 24
  at' : ∀ r ∈ l, (0 ≤ r.hour ∧ r.hour ≤ s.hours - 1) ∧ (0 ≤ r.cell ∧ r.cell ≤ s.many - 1) ∧ 0 ≤ r.far ∧ r.far ≤ 9
theorem isAsked_u (s : Sea) (h : s.Ok) (l : List Rep) (wrong hour : Int) : Ans Try.prog 38 [.agg (logA s .un l), .int wrong, .int hour] (.bool (cond (wi wrong 0 24) (wi hour 0 (s.hours - 1)) false)) := by
  have hr := h.hr
  refine told Try.func38 rfl rfl (Pure.of tab_ok Try.func38 rfl Try.ntmps38 rfl (allC (.agg _ (logA_free s l)) (allC (.s _) (all1 (.s _)))) (allC (fun _ => rfl) (allC (fun _ => rfl) (all1 (fun _ => rfl)))) (by first | exact .s _ | assumption | exact .tup _ (by intro x hx; simp only [List.mem_cons, List.not_mem_nil, or_false] at hx; rcases hx with rfl | rfl | rfl | rfl <;> first | exact .s _ | (simp_all; done))) fun E hE => ?_)
  refine Aw.sm tab_ok mb0 [] rfl rfl ?zo ?zk
  case zo =>
    repeat' apply AllP.cons
    all_goals first | exact trivial
  case zk =>
  refine Aw.sm tab_ok mb0 [(1, [.bool (wi wrong 0 24)]), (9, [.bool (wi hour 0 (s.hours - 1))])] rfl rfl ?zo ?zk
  case zo =>
    repeat' apply AllP.cons
    all_goals first | exact trivial | exact id | exact fun _ => rfl | exact fun _ => Nat.le_of_ble_eq_true rfl | exact withinH_t _ _ _ | exact (withinH_t _ _ _).un | exact fun _ => (by simp only [Ob.of, inR]; omega)
  case zk =>
  exact Aw.ret ⟨_, .cons (.tmp _) .nil, rfl⟩
theorem untrue_u (s : Sea) (h : s.Ok) (l : List Rep) (hl : RepFit s l) (hour cell : Int) (hc : -1000 ≤ cell ∧ cell ≤ 1000) :
    Ans Try.prog 72 [.agg (logA s .un l), .int hour, .int cell] (.int (untrueF s.wide l hour (placeP s.wide cell))) := by
  have ll : ((l.map (repC s.wide)).length : Int) = l.length := by simp
  have hm := h.many
  have hlen := hl.len
  have us : Under 0 (A.pt (logA s .un l)) := (Free.pt _ (logA_free s l)).under
  have ul : Under 0 (A.sl l.isEmpty .any (l.map (repC s.wide))) := (free_map (repC_free _) _ _ _).under
  have hn : ∀ k : Nat, k ≤ l.length → (0 : Int) ≤ ((l.take k).countP (falseAt s.wide hour (placeP s.wide cell)) : Nat) ∧ (((l.take k).countP (falseAt s.wide hour (placeP s.wide cell)) : Nat) : Int) ≤ 24 := fun k hk => by
    have := List.countP_le_length (p := falseAt s.wide hour (placeP s.wide cell)) (l := l.take k)
    have h2 : (l.take k).length ≤ l.length := by rw [List.length_take]; omega
    omega
  refine told Try.func72 rfl rfl (Pure.of tab_ok Try.func72 rfl Try.ntmps72 rfl (allC (.agg _ (logA_free s l)) (allC (.s _) (all1 (.s _)))) (allC (fun _ => rfl) (allC (fun _ => rfl) (all1 (fun _ => rfl)))) (by first | exact .s _ | assumption | exact .tup _ (by intro x hx; simp only [List.mem_cons, List.not_mem_nil, or_false] at hx; rcases hx with rfl | rfl | rfl | rfl <;> first | exact .s _ | (simp_all; done))) fun E hE => ?_)
  refine Aw.sm tab_ok mb0 [] rfl rfl ?zo ?zk
  case zo =>
    repeat' apply AllP.cons
    all_goals first | exact trivial
  case zk =>
  refine Aw.sm tab_ok mb0 [] rfl rfl ?zo ?zk
  case zo =>
    repeat' apply AllP.cons
    all_goals first | exact trivial
  case zk =>
  refine Aw.seq ?_
  refine Aw.sm tab_ok mb0 [] rfl rfl ?zo ?zk
  case zo =>
    repeat' apply AllP.cons
    all_goals first | exact trivial | exact Nat.le_of_ble_eq_true rfl
  case zk =>
  refine Aw.block (Aw.rounds 0 hE [(1, .int hour), (2, .int cell), (3, .pt (logA s .un l)), (12, .sl l.isEmpty .any (l.map (repC s.wide))), (13, .int l.length)] (fun k : Nat => [(7, .int ((l.take k).countP (falseAt s.wide hour (placeP s.wide cell)) : Nat)), (14, .int k)]) (fun _ => []) (fun k => k ≤ l.length) (fun k => l.length - k) 0
    (Nat.zero_le _) ⟨⟨.refl _, .refl _, .refl _, .refl _, .of_eq (congrArg A.int ll.symm), trivial⟩, ⟨.refl _, .refl _, trivial⟩, trivial, Nat.le_refl _⟩ ⟨.s _, .s _, us, ul, .s _, trivial⟩ (fun _ _ => ⟨.s _, .s _, trivial⟩) (fun _ _ => trivial) fun k hk => ?_)
  refine Aw.sm tab_ok mb0 [] rfl rfl ?zo ?zk
  case zo =>
    repeat' apply AllP.cons
    all_goals first | exact trivial
  case zk =>
  refine Aw.seq (Aw.cond rfl (fun h1 => Aw.skip1 ?_) (fun h1 => Aw.exit2 ?_))
  · have hlt : k < l.length := by have := of_decide_eq_true h1; omega
    have hst := cnt_take (p := falseAt s.wide hour (placeP s.wide cell)) hlt
    have hb := hn k hk
    have hra := hl.at' _ (List.getElem_mem hlt)
    have hrn : Near (placeP s.wide l[k].cell) := placeP_near h.w (by omega)
    have hgl := get_map (f := repC s.wide) hlt
    generalize l[k] = r at *
    generalize ((l.take k).countP (falseAt s.wide hour (placeP s.wide cell)) : Int) = n at *
    refine Aw.seq (Aw.block ?_)
    refine Aw.sm tab_ok mb0 [(0, repC s.wide r)] rfl rfl ?zo ?zk
    case zo =>
      repeat' apply AllP.cons
      all_goals first | exact trivial | exact rfl | exact Nat.le_of_ble_eq_true rfl | exact Int.natCast_nonneg _ | exact hgl
    case zk =>
    refine Aw.sm tab_ok mb0 [] rfl rfl ?zo ?zk
    case zo =>
      repeat' apply AllP.cons
      all_goals first | exact trivial | exact Nat.le_of_ble_eq_true rfl
    case zk =>
    refine Aw.sm tab_ok mb0 [(10, [.agg (placeP s.wide cell).c]), (11, [.bool (isTrueF s.wide r (placeP s.wide cell))])] rfl rfl ?zo ?zk
    case zo =>
      repeat' apply AllP.cons
      all_goals first | exact trivial | exact id | exact fun _ => rfl | exact Nat.le_of_ble_eq_true rfl | exact fun _ => Nat.le_of_ble_eq_true rfl | exact fun _ => place_u s h cell hc | exact fun _ => isTrue_t s r _ hrn (placeP_near h.w hc)
    case zk =>
    refine Aw.cond rfl (fun h2 => ?_) (fun h2 => Aw.skip ?_)
    · have h2' : falseAt s.wide hour (placeP s.wide cell) r = true := h2
      rw [h2', if_pos rfl] at hst
      refine Aw.em tab_ok mb0 [] rfl rfl ?zo ?zk
      case zo =>
        repeat' apply AllP.cons
        all_goals first | exact trivial | exact (by simp only [Ob.of, inR]; omega)
      case zk =>
      refine Aw.em tab_ok mb0 [] rfl rfl ?zo ?zk
      case zo =>
        repeat' apply AllP.cons
        all_goals first | exact trivial | exact inrk k (by omega)
      case zk =>
      exact ⟨k + 1, hlt, by omega, ⟨.refl _, .refl _, .refl _, .refl _, .refl _, trivial⟩, ⟨.of_eq (congrArg A.int hst), .refl _, trivial⟩, trivial, Nat.zero_le _⟩
    · have h2' : falseAt s.wide hour (placeP s.wide cell) r = false := h2
      rw [h2', if_neg (by decide), Int.add_zero] at hst
      refine Aw.em tab_ok mb0 [] rfl rfl ?zo ?zk
      case zo =>
        repeat' apply AllP.cons
        all_goals first | exact trivial | exact inrk k (by omega)
      case zk =>
      exact ⟨k + 1, hlt, by omega, ⟨.refl _, .refl _, .refl _, .refl _, .refl _, trivial⟩, ⟨.of_eq (congrArg A.int hst), .refl _, trivial⟩, trivial, Nat.zero_le _⟩
  have hle : k = l.length := by have := of_decide_eq_false h1; omega
  subst hle
  refine Aw.sm tab_ok mb0 [] rfl rfl ?zo ?zk
  case zo =>
    repeat' apply AllP.cons
    all_goals first | exact trivial
  case zk =>
  exact Aw.ret ⟨_, .cons (.tmp _) .nil, by unfold untrueF; rw [List.take_length]; rfl⟩
theorem untrue_t (s : Sea) (h : s.Ok) (l : List Rep) (hl : RepFit s l) (i : Nat) (hour cell : Int) (hc : -1000 ≤ cell ∧ cell ≤ 1000) :
    Ans Try.prog 72 [.agg (logA s (.mp i) l), .int hour, .int cell] (.int (untrueF s.wide l hour (placeP s.wide cell))) := (untrue_u s h l hl hour cell hc).le rfl fun j hj => by
    match j, hj with
    | 0, _ => exact logLe s l _ fun _ => rfl
    | 1, _ => exact .refl _
    | 2, _ => exact .refl _
theorem isAsked_t (s : Sea) (h : s.Ok) (l : List Rep) (i : Nat) (wrong hour : Int) : Ans Try.prog 38 [.agg (logA s (.mp i) l), .int wrong, .int hour] (.bool (cond (wi wrong 0 24) (wi hour 0 (s.hours - 1)) false)) := (isAsked_u s h l wrong hour).le rfl fun j hj => by
    match j, hj with
    | 0, _ => exact logLe s l _ fun _ => rfl
    | 1, _ => exact .refl _
    | 2, _ => exact .refl _
theorem steps_t (s : Sea) (h : s.Ok) (i : Nat) (hour : Int) (h0 : 0 ≤ hour) (h1 : hour < s.drift.length) (p q : Sp) (hp : -1000 ≤ p.lo ∧ p.lo ≤ 1000) (hp' : -1000 ≤ p.hi ∧ p.hi ≤ 1000) (hq : Near q) :
    Ans Try.prog 79 [.agg (seaA s (.mp i)), .int hour, .agg p.c, .agg q.c] (.bool (s.steps hour p q)) := (steps_u s h hour h0 h1 p q hp hp' hq).le rfl fun j hj => by
    match j, hj with
    | 0, _ => exact seaLe s _ fun _ => rfl
    | 1, _ => exact .refl _
    | 2, _ => exact .refl _
    | 3, _ => exact .refl _
end Go.Proofs.Ytkfepnbanekfgaa

namespace Go.Proofs.Ytkfepnbanekfgaa
open Go Go.AL Go.AL.Q Go.AL.Sh
def plE (p : Sp) : List Value := [.int .i64 p.lo, .int .i64 p.hi]
def valB (b : Bool) : A := .bool b
set_option maxRecDepth 100000 in
theorem kty : KeyTy Try.prog 90 plE where
  und := ⟨_, Try.underlying90, fun _ _ => rfl⟩
  eq := fun a b => by
    show pureRun Try.prog (Op.equal 90 (.agg #[.int .i64 _, .int .i64 _]) (.agg #[.int .i64 _, .int .i64 _])) = _
    rw [eq85, sp_beq]
  ck := fun e a => rfl
  bits := fun a => by simp [Instr.sameBits, plE]
def landF (w : Int) (l : List Int) : List (Sp × Bool) := l.foldl (fun m c => mput m (placeP w c) true) []
theorem landF_step {w : Int} {l : List Int} {k : Nat} (h : k < l.length) : landF w (l.take (k + 1)) = mput (landF w (l.take k)) (placeP w l[k]) true := by
  unfold landF; rw [List.take_succ_eq_append_getElem h, List.foldl_append]; rfl
def isLand (w : Int) (l : List Int) (p : Sp) : Bool := l.any fun c => placeP w c == p
theorem land_get (w : Int) (p : Sp) (l : List Int) : mget (landF w l) p = if isLand w l p then some true else none := by
  have : ∀ (l : List Int) (m : List (Sp × Bool)), mget (l.foldl (fun m c => mput m (placeP w c) true) m) p = if isLand w l p then some true else mget m p := by
    intro l
    induction l with
    | nil => intro m; rfl
    | cons c l ih =>
      intro m
      rw [List.foldl_cons, ih, mget_put]
      have key : ∀ (a b : Bool) (x : Option Bool), (if b then some true else if a then some true else x) = if (a || b) then some true else x := by intro a b x; cases a <;> cases b <;> rfl
      exact key _ _ _
  exact this l []
theorem encM_free {V : Type} {enc : Sp → List Value} {val : V → A} (hv : ∀ v, Free (val v)) (m : List (Sp × V)) : ∀ p ∈ encM enc val m, Free p.1 ∧ Free p.2 := fun p hp => by
  obtain ⟨q, _, rfl⟩ := List.mem_map.1 hp
  refine ⟨.agg _ fun x hx => ?_, hv _⟩
  obtain ⟨v, _, rfl⟩ := List.mem_map.1 hx
  exact .s _
theorem valB_free : ∀ b, Free (valB b) := fun b => .s _
def landB (s : Sea) : B := .map (encM plE valB (landF s.wide s.land))
theorem map_under {n : Nat} (m : List (Sp × Bool)) : UnderB n (.map (encM plE valB m)) := .map _ fun p hp => ⟨(encM_free valB_free m p hp).1.under, (encM_free valB_free m p hp).2.under⟩
def zeroSea : List A := [.int 0, .int 0, .sl true .exact [], .int 0, .sl true .exact [], .int 0, .s (.map none)]
theorem zeroSea_free : ∀ x ∈ zeroSea, Free x := allC (.s _) (allC (.s _) (allC (.sl _ _ _ fun _ h => nomatch h) (allC (.s _) (allC (.sl _ _ _ fun _ h => nomatch h) (allC (.s _) (all1 (.s _)))))))
theorem sea_under (s : Sea) {n i : Nat} (h : i < n) : ∀ x ∈ seaA s (.mp i), Under n x := fun x hx => (List.mem_append.1 hx).elim (fun h => (s.free x h).under) (all1 (.mp _ h) x)
theorem opened_no (s : Sea) (hf : SeaFit s) (hok : s.ok = false) : Ans Try.prog 55 [.agg s.c] (.tup [.agg zeroSea, .int 10]) := by
  have hchk : s.chk = 10 := by unfold Sea.chk; rw [hok]; rfl
  have hfr : Free (.tup [.agg zeroSea, .int 10]) := .tup _ (allC (.agg _ zeroSea_free) (all1 (.s _)))
  refine told Try.func55 rfl rfl (Pure.of tab_ok Try.func55 rfl Try.ntmps55 rfl (all1 (.agg _ s.free)) (all1 (fun _ => rfl)) (by first | exact .s _ | assumption | exact .tup _ (by intro x hx; simp only [List.mem_cons, List.not_mem_nil, or_false] at hx; rcases hx with rfl | rfl | rfl | rfl <;> first | exact .s _ | (simp_all; done))) fun E hE => ?_)
  refine Aw.sm tab_ok mb0 [] rfl rfl ?zo ?zk
  case zo =>
    repeat' apply AllP.cons
    all_goals first | exact trivial
  case zk =>
  refine Aw.seq ?_
  refine Aw.sm tab_ok mb0 [(1, [.int 10])] rfl rfl ?zo ?zk
  case zo =>
    repeat' apply AllP.cons
    all_goals first | exact trivial | exact Nat.le_of_ble_eq_true rfl | exact hchk ▸ checkH_t s hf
  case zk =>
  refine Aw.sm tab_ok mb0 [] rfl rfl ?zo ?zk
  case zo =>
    repeat' apply AllP.cons
    all_goals first | exact trivial
  case zk =>
  refine Aw.cond rfl (fun h => ?_) (fun h => absurd h (by decide))
  refine Aw.sm tab_ok mb0 [] rfl rfl ?zo ?zk
  case zo =>
    repeat' apply AllP.cons
    all_goals first | exact trivial | exact rfl | exact Nat.le_of_ble_eq_true rfl
  case zk =>
  exact Aw.ret ⟨_, .cons (resC rfl rfl rfl rfl rfl) (.cons (.tmp _) .nil), rfl⟩
theorem opened_s (s : Sea) (hf : SeaFit s) (hok : s.ok = true) : SCall Try.prog 55 [.agg s.c] (fun _ => none) 0 (fun v H' _ => v = .tup [.agg (seaA s (.mp 1)), .int 0] ∧ H' = ofH [(1, landB s)]) := by
  have hchk : s.chk = 0 := by unfold Sea.chk; rw [hok]; rfl
  have ho := Sea.ok_of hok
  have hm := ho.many
  have ll := ints_lenI s.land
  have hin := rising_in ho.ri (by omega) (show -1 < s.wide * s.high from by have : s.many = s.wide * s.high := rfl; omega)
  have us : Under 3 (A.pt s.c) := (Free.pt _ s.free).under
  have ul : Under 3 (A.sl s.ln .any (ints s.land)) := (free_ints _ _ _).under
  refine SCall.drop (post := fun v H' _ => v = .tup [.agg (seaA s (.mp 1)), .int 0] ∧ HasH H' [(1, landB s)]) (SCall.of_bodyN tab_ok Try.func55 rfl Try.ntmps55 (Nat.le_of_ble_eq_true rfl) (all1 fun _ => rfl) fun E hE => ?_)
      (fun v H' c' h => ⟨_, h.2.ofH, h.1, rfl⟩)
  have hE3 : ∀ id, 3 ≤ id → E.φ0 id = none := fun id h => hE id (by omega)
  refine Aw.sm tab_ok mb0 [] rfl rfl ?zo ?zk
  case zo =>
    repeat' apply AllP.cons
    all_goals first | exact trivial
  case zk =>
  refine Aw.seq ?_
  refine Aw.sm tab_ok mb0 [(1, [.int 0])] rfl rfl ?zo ?zk
  case zo =>
    repeat' apply AllP.cons
    all_goals first | exact trivial | exact Nat.le_of_ble_eq_true rfl | exact hchk ▸ checkH_t s hf
  case zk =>
  refine Aw.sm tab_ok mb0 [] rfl rfl ?zo ?zk
  case zo =>
    repeat' apply AllP.cons
    all_goals first | exact trivial
  case zk =>
  refine Aw.cond rfl (fun h => absurd h (by decide)) (fun h => Aw.skip ?_)
  refine Aw.sm tab_ok mb0 [] rfl rfl ?zo ?zk
  case zo =>
    repeat' apply AllP.cons
    all_goals first | exact trivial | exact rfl | exact Nat.le_of_ble_eq_true rfl
  case zk =>
  refine Aw.seq ?_
  refine Aw.sm tab_ok mb0 [] rfl rfl ?zo ?zk
  case zo =>
    repeat' apply AllP.cons
    all_goals first | exact trivial | exact Nat.le_of_ble_eq_true rfl
  case zk =>
  refine Aw.block (Aw.rounds 3 hE3 [(1, .pt s.c), (2, .ref 0 0), (5, .ref 2 0), (18, .sl s.ln .any (ints s.land)), (19, .int s.land.length)] (fun k : Nat => [(20, .int k)]) (fun k => [(0, .cells zeroSea), (1, .map (encM plE valB (landF s.wide (s.land.take k)))), (2, .cells (seaA s (.mp 1)))]) (fun k => k ≤ s.land.length) (fun k => s.land.length - k) 0
    (Nat.zero_le _) ⟨⟨.refl _, .refl _, .refl _, .refl _, .of_eq (congrArg A.int ll.symm), trivial⟩, ⟨.refl _, trivial⟩, ⟨rfl, rfl, rfl, trivial⟩, Nat.le_of_ble_eq_true rfl⟩ ⟨us, .ref _ _ (by decide), .ref _ _ (by decide), ul, .s _, trivial⟩ (fun _ _ => ⟨.s _, trivial⟩)
    (fun _ _ => ⟨⟨by decide, .cells _ fun x hx => (zeroSea_free x hx).under⟩, ⟨by decide, map_under _⟩, ⟨by decide, .cells _ (sea_under s (by decide))⟩, trivial⟩) fun k hk => ?_)
  refine Aw.sm tab_ok mb0 [] rfl rfl ?zo ?zk
  case zo =>
    repeat' apply AllP.cons
    all_goals first | exact trivial
  case zk =>
  refine Aw.seq (Aw.cond rfl (fun h1 => Aw.skip1 ?_) (fun h1 => Aw.exit2 ?_))
  · have hlt : k < s.land.length := by have := of_decide_eq_true h1; omega
    have hst := landF_step (w := s.wide) hlt
    have hc := hin.1 _ (List.getElem_mem hlt)
    have hc' : -1000 ≤ s.land[k] ∧ s.land[k] ≤ 1000 := by have : s.many = s.wide * s.high := rfl; omega
    have hgl := ints_get hlt
    generalize s.land[k] = x at *
    generalize landF s.wide (s.land.take k) = m at *
    have hup : upKV (encM plE valB m) (.agg (placeP s.wide x).c) (.bool true) (ixOf Try.prog 90 (encM plE valB m) (.agg (placeP s.wide x).c)) = encM plE valB (mput m (placeP s.wide x) true) := kty.up valB m (placeP s.wide x) true
    refine Aw.seq (Aw.block ?_)
    refine Aw.sm tab_ok mb0 [(0, [.int x])] rfl rfl ?zo ?zk
    case zo =>
      repeat' apply AllP.cons
      all_goals first | exact trivial | exact rfl | exact Nat.le_of_ble_eq_true rfl | exact Int.natCast_nonneg _ | exact hgl
    case zk =>
    refine Aw.ed tab_ok mixed mb0 [(4, [.agg (placeP s.wide x).c])] rfl (by kernel_rfl) rfl rfl ?zo ?zk
    case zo =>
      repeat' apply AllP.cons
      all_goals first | exact trivial | exact Nat.le_of_ble_eq_true rfl | exact plc_t s ho 1 x hc' | exact kty.has valB m (placeP s.wide x)
    case zk =>
    refine Aw.em tab_ok mb0 [] rfl rfl ?zo ?zk
    case zo =>
      repeat' apply AllP.cons
      all_goals first | exact trivial | exact inrk k (by have := hf.l; omega)
    case zk =>
    exact ⟨k + 1, hlt, by omega, ⟨.refl _, .refl _, .refl _, .refl _, .refl _, trivial⟩, ⟨.refl _, trivial⟩, ⟨rfl, congrArg (fun x => some (B.map x)) (by rw [hst]; exact hup), rfl, trivial⟩, Nat.le_of_ble_eq_true rfl⟩
  have hle : k = s.land.length := by have := of_decide_eq_false h1; omega
  subst hle
  refine Aw.sm tab_ok mb0 [] rfl rfl ?zo ?zk
  case zo =>
    repeat' apply AllP.cons
    all_goals first | exact trivial | exact rfl | exact Nat.le_of_ble_eq_true rfl
  case zk =>
  refine Aw.ret ⟨_, .cons (resC rfl rfl rfl rfl rfl) (.cons (.tmp _) .nil), rfl, ?_⟩
  exact ⟨by rw [List.take_length]; rfl, trivial⟩
theorem opened_n (s : Sea) (hf : SeaFit s) (hok : s.ok = true) (nm : Nat) : NewMap Try.prog 55 [.agg s.c] nm (.tup [.agg (seaA s (.mp nm)), .int 0]) (kvsOf (kvsTo (encM plE valB (landF s.wide s.land)))) := by
  rw [kvs_to]
  exact NewMap.ren (k := 1) (enters_of Try.func55 rfl rfl) (all1 (.agg _ s.free)) (fun p hp => encM_free valB_free _ p hp) (opened_s s hf hok)
    (RenL.tup (.cons (RenL.agg (RenL.app (RenL.free s.free) (.cons .mp .nil))) (.cons (.free (.s _)) .nil))) fun u => rfl
end Go.Proofs.Ytkfepnbanekfgaa

namespace Go.Proofs.Ytkfepnbanekfgaa
open Go Go.AL Go.AL.Q Go.AL.Sh
def zeroLog : List A := zeroSea ++ [.sl true .exact []]
theorem zeroLog_free : ∀ x ∈ zeroLog, Free x := fun x hx => (List.mem_append.1 hx).elim (zeroSea_free x) (all1 (.sl _ _ _ fun _ h => nomatch h) x)
def repsK (w : Int) : List Rep → A
  | [] => .sl true .exact []
  | x :: l => .sl false (.own 139) ((x :: l).map (repC w))
theorem repsK_under (w : Int) {n : Nat} : ∀ l : List Rep, Under n (repsK w l)
  | [] => .sl _ _ _ fun _ h => nomatch h
  | x :: l => .sl _ _ _ (under_map (repC_free w) _)
theorem log_under (s : Sea) {n i : Nat} (h : i < n) (l : List Rep) : ∀ x ∈ seaA s (.mp i) ++ [repsK s.wide l], Under n x := fun x hx => (List.mem_append.1 hx).elim (sea_under s h x) (all1 (repsK_under _ l) x)
theorem repsK_down (w : Int) (l : List Rep) : (repsK w l).down = .sl l.isEmpty (match l with | [] => .exact | _ => .any) (l.map (repC w)) := by cases l <;> rfl
theorem repC_len (w : Int) (l : List Rep) : ∀ z ∈ l.map (repC w), z.length = 6 := fun z hz => by obtain ⟨r, _, rfl⟩ := List.mem_map.1 hz; rfl
theorem read_no (s : Sea) (hf : SeaFit s) (b : Bool) (l : List Rep) (hok : s.ok = false) : Ans Try.prog 37 [.agg s.c, .sl b .any (l.map Rep.c)] (.tup [.agg zeroLog, .int 10]) := by
  have hfr : Free (.tup [.agg zeroLog, .int 10]) := .tup _ (allC (.agg _ zeroLog_free) (all1 (.s _)))
  refine told Try.func37 rfl rfl (Pure.of tab_ok Try.func37 rfl Try.ntmps37 rfl (allC (.agg _ s.free) (all1 (free_map Rep.free _ _ _))) (allC (fun _ => rfl) (all1 (fun _ => rfl))) (by first | exact .s _ | assumption | exact .tup _ (by intro x hx; simp only [List.mem_cons, List.not_mem_nil, or_false] at hx; rcases hx with rfl | rfl | rfl | rfl <;> first | exact .s _ | (simp_all; done))) fun E hE => ?_)
  refine Aw.sm tab_ok mb0 [] rfl rfl ?zo ?zk
  case zo =>
    repeat' apply AllP.cons
    all_goals first | exact trivial
  case zk =>
  refine Aw.sm tab_ok mb0 [(1, [.tup [.agg zeroSea, .int 10]])] rfl rfl ?zo ?zk
  case zo =>
    repeat' apply AllP.cons
    all_goals first | exact trivial | exact rfl | exact Nat.le_of_ble_eq_true rfl | exact opened_no s hf hok
  case zk =>
  refine Aw.seq ?_
  refine Aw.sm tab_ok mb0 [] rfl rfl ?zo ?zk
  case zo =>
    repeat' apply AllP.cons
    all_goals first | exact trivial
  case zk =>
  refine Aw.cond rfl (fun h => ?_) (fun h => absurd h (by decide))
  refine Aw.sm tab_ok mb0 [] rfl rfl ?zo ?zk
  case zo =>
    repeat' apply AllP.cons
    all_goals first | exact trivial | exact rfl | exact Nat.le_of_ble_eq_true rfl
  case zk =>
  exact Aw.ret ⟨_, .cons (resC rfl rfl rfl rfl rfl) (.cons (.tmp _) .nil), rfl⟩
theorem read_bad (s : Sea) (hf : SeaFit s) (b : Bool) (l : List Rep) (hl : (l.length : Int) ≤ 9223372036854775806) (hok : s.ok = true) (hr : s.repsOk l = false) : Ans Try.prog 37 [.agg s.c, .sl b .any (l.map Rep.c)] (.tup [.agg zeroLog, .int 11]) := by
  have hfr : Free (.tup [.agg zeroLog, .int 11]) := .tup _ (allC (.agg _ zeroLog_free) (all1 (.s _)))
  refine told Try.func37 rfl rfl (Pure.of tab_ok Try.func37 rfl Try.ntmps37 rfl (allC (.agg _ s.free) (all1 (free_map Rep.free _ _ _))) (allC (fun _ => rfl) (all1 (fun _ => rfl))) (by first | exact .s _ | assumption | exact .tup _ (by intro x hx; simp only [List.mem_cons, List.not_mem_nil, or_false] at hx; rcases hx with rfl | rfl | rfl | rfl <;> first | exact .s _ | (simp_all; done))) fun E hE => ?_)
  refine Aw.sm tab_ok mb0 [] rfl rfl ?zo ?zk
  case zo =>
    repeat' apply AllP.cons
    all_goals first | exact trivial
  case zk =>
  refine Aw.sm tab_ok mb0 [(1, [.tup [.agg (seaA s (.mp 1)), .int 0], .sl false .any (kvsTo (encM plE valB (landF s.wide s.land)))])] rfl rfl ?zo ?zk
  case zo =>
    repeat' apply AllP.cons
    all_goals first | exact trivial | exact rfl | exact Nat.le_of_ble_eq_true rfl | exact opened_n s hf hok 1
  case zk =>
  refine Aw.seq ?_
  refine Aw.sm tab_ok mb0 [] rfl rfl ?zo ?zk
  case zo =>
    repeat' apply AllP.cons
    all_goals first | exact trivial
  case zk =>
  refine Aw.cond rfl (fun h => absurd h (by decide)) (fun h => Aw.skip ?_)
  refine Aw.seq ?_
  refine Aw.sm tab_ok mb0 [(2, [.bool false])] rfl rfl ?zo ?zk
  case zo =>
    repeat' apply AllP.cons
    all_goals first | exact trivial | exact Nat.le_of_ble_eq_true rfl | exact hr ▸ areReports_t s (Sea.ok_of hok) 1 b l hl
  case zk =>
  refine Aw.cond rfl (fun h => ?_) (fun h => absurd h (by decide))
  refine Aw.sm tab_ok mb0 [] rfl rfl ?zo ?zk
  case zo =>
    repeat' apply AllP.cons
    all_goals first | exact trivial | exact rfl | exact Nat.le_of_ble_eq_true rfl
  case zk =>
  exact Aw.ret ⟨_, .cons (resC rfl rfl rfl rfl rfl) (.cons (.tmp _) .nil), rfl⟩
theorem reps_fit {s : Sea} {l : List Rep} (h : s.repsOk l = true) : RepFit s l := by
  unfold Sea.repsOk at h
  refine ⟨of_decide_eq_true (ac1 h), fun r hr => ?_⟩
  have := List.all_eq_true.1 (ac2 h) r hr
  unfold Sea.repOk at this
  exact ⟨wi_iff.1 (ac1 (ac1 this)), wi_iff.1 (ac2 (ac1 this)), wi_iff.1 (ac2 this)⟩
theorem read_s (s : Sea) (hf : SeaFit s) (b : Bool) (l : List Rep) (hok : s.ok = true) (hr : s.repsOk l = true) :
    SCall Try.prog 37 [.agg s.c, .sl b .any (l.map Rep.c)] (fun _ => none) 0 (fun v H' _ => v = .tup [.agg (logA s (.mp 1) l), .int 0] ∧ H' = ofH [(1, landB s)]) := by
  have ho := Sea.ok_of hok
  have hrf := reps_fit hr
  have hlen := hrf.len
  have hm := ho.many
  have ll : ((l.map Rep.c).length : Int) = l.length := by simp
  have us : Under 4 (A.pt s.c) := (Free.pt _ s.free).under
  have ul : Under 4 (A.sl b .any (l.map Rep.c)) := (free_map Rep.free _ _ _).under
  refine SCall.drop (post := fun v H' _ => v = .tup [.agg (logA s (.mp 1) l), .int 0] ∧ HasH H' [(1, landB s)])
      ((SCall.of_bodyN (post := fun v H' _ => v = .tup [.agg (seaA s (.mp 1) ++ [(repsK s.wide l).down]), .int 0] ∧ HasH H' [(1, landB s)]) tab_ok Try.func37 rfl Try.ntmps37 (Nat.le_of_ble_eq_true rfl) (allC (fun _ => rfl) (all1 fun _ => rfl)) fun E hE => ?_).le fun v H' c' h => ⟨_, ?_, rfl, h.2⟩)
      (fun v H' c' h => ⟨_, h.2.ofH, h.1, rfl⟩)
  · have hE4 : ∀ id, 4 ≤ id → E.φ0 id = none := fun id h => hE id (by omega)
    refine Aw.sm tab_ok mb0 [] rfl rfl ?zo ?zk
    case zo =>
      repeat' apply AllP.cons
      all_goals first | exact trivial
    case zk =>
    refine Aw.sm tab_ok mb0 [(1, [.tup [.agg (seaA s (.mp 1)), .int 0], .sl false .any (kvsTo (encM plE valB (landF s.wide s.land)))])] rfl rfl ?zo ?zk
    case zo =>
      repeat' apply AllP.cons
      all_goals first | exact trivial | exact rfl | exact Nat.le_of_ble_eq_true rfl | exact opened_n s hf hok 1
    case zk =>
    refine Aw.seq ?_
    refine Aw.sm tab_ok mb0 [] rfl rfl ?zo ?zk
    case zo =>
      repeat' apply AllP.cons
      all_goals first | exact trivial
    case zk =>
    refine Aw.cond rfl (fun h => absurd h (by decide)) (fun h => Aw.skip ?_)
    refine Aw.seq ?_
    refine Aw.sm tab_ok mb0 [(2, [.bool true])] rfl rfl ?zo ?zk
    case zo =>
      repeat' apply AllP.cons
      all_goals first | exact trivial | exact Nat.le_of_ble_eq_true rfl | exact hr ▸ areReports_t s ho 1 b l (by omega)
    case zk =>
    refine Aw.cond rfl (fun h => absurd h (by decide)) (fun h => Aw.skip ?_)
    refine Aw.sm tab_ok mb0 [] rfl rfl ?zo ?zk
    case zo =>
      repeat' apply AllP.cons
      all_goals first | exact trivial | exact rfl | exact Nat.le_of_ble_eq_true rfl
    case zk =>
    refine Aw.seq ?_
    refine Aw.sm tab_ok mb0 [] rfl rfl ?zo ?zk
    case zo =>
      repeat' apply AllP.cons
      all_goals first | exact trivial
    case zk =>
    refine Aw.block (Aw.rounds 4 hE4 [(4, .ref 0 0), (6, .ref 2 0), (8, .ref 3 0), (27, .sl b .any (l.map Rep.c)), (28, .int l.length)] (fun k : Nat => [(29, .int k)]) (fun k => [(0, .cells zeroLog), (1, landB s), (2, .cells (seaA s (.mp 1))), (3, .cells (seaA s (.mp 1) ++ [repsK s.wide (l.take k)]))]) (fun k => k ≤ l.length) (fun k => l.length - k) 0
      (Nat.zero_le _) ⟨⟨.refl _, .refl _, .refl _, .refl _, .of_eq (congrArg A.int ll.symm), trivial⟩, ⟨.refl _, trivial⟩, ⟨rfl, congrArg (fun x => some (B.map x)) (kvs_to _), rfl, rfl, trivial⟩, Nat.le_of_ble_eq_true rfl⟩ ⟨.ref _ _ (by decide), .ref _ _ (by decide), .ref _ _ (by decide), ul, .s _, trivial⟩ (fun _ _ => ⟨.s _, trivial⟩)
      (fun _ _ => ⟨⟨by decide, .cells _ fun x hx => (zeroLog_free x hx).under⟩, ⟨by decide, map_under _⟩, ⟨by decide, .cells _ (sea_under s (by decide))⟩, ⟨by decide, .cells _ (log_under s (by decide) _)⟩, trivial⟩) fun k hk => ?_)
    refine Aw.sm tab_ok mb0 [] rfl rfl ?zo ?zk
    case zo =>
      repeat' apply AllP.cons
      all_goals first | exact trivial
    case zk =>
    refine Aw.seq (Aw.cond rfl (fun h1 => Aw.skip1 ?_) (fun h1 => Aw.exit2 ?_))
    · have hlt : k < l.length := by have := of_decide_eq_true h1; omega
      have hst : l.take (k + 1) = l.take k ++ [l[k]] := List.take_succ_eq_append_getElem hlt
      have hra := hrf.at' _ (List.getElem_mem hlt)
      have hgl := get_map (f := Rep.c) hlt
      have htl : (l.take k).length ≤ 24 := by rw [List.length_take]; omega
      generalize l[k] = r at *
      refine Aw.seq (Aw.block ?_)
      refine Aw.sm tab_ok mb0 [(0, r.c)] rfl rfl ?zo ?zk
      case zo =>
        repeat' apply AllP.cons
        all_goals first | exact trivial | exact rfl | exact Nat.le_of_ble_eq_true rfl | exact Int.natCast_nonneg _ | exact hgl
      case zk =>
      cases hm : l.take k with
      | nil =>
        rw [hm] at hst
        refine Aw.ed tab_ok mixed mb0 [(6, [.agg (placeP s.wide r.cell).c])] rfl (by kernel_rfl) rfl rfl ?zo ?zk
        case zo =>
          repeat' apply AllP.cons
          all_goals first | exact trivial | exact rfl | exact Nat.le_of_ble_eq_true rfl | exact plc_t s ho 1 r.cell (by omega) | exact (show ∀ z ∈ [] ++ [repC s.wide r], z.length = 6 from fun z hz => by simp at hz; subst hz; rfl)
        case zk =>
        refine Aw.em tab_ok mb0 [] rfl rfl ?zo ?zk
        case zo =>
          repeat' apply AllP.cons
          all_goals first | exact trivial | exact inrk k (by omega)
        case zk =>
        exact ⟨k + 1, hlt, by omega, ⟨.refl _, .refl _, .refl _, .refl _, .refl _, trivial⟩, ⟨.refl _, trivial⟩, ⟨rfl, rfl, rfl, by rw [hst]; rfl, trivial⟩, Nat.le_of_ble_eq_true rfl⟩
      | cons x t =>
        rw [hm] at hst htl
        have hz := repC_len s.wide (x :: t)
        have hzl : ((x :: t).map (repC s.wide)).length ≤ 24 := by rw [List.length_map]; exact htl
        refine Aw.ed tab_ok mixed mb0 [(1, []), (6, [.agg (placeP s.wide r.cell).c])] rfl (by kernel_rfl) rfl rfl ?zo ?zk
        case zo =>
          repeat' apply AllP.cons
          all_goals first | exact trivial | exact rfl | exact Nat.le_of_ble_eq_true rfl | exact plc_t s ho 1 r.cell (by omega) | exact hz | exact (show ∀ z ∈ [repC s.wide r], z.length = 6 from fun z hz => by simp at hz; subst hz; rfl) | exact (show (((x :: t).map (repC s.wide)).length + 1) * 48 ≤ 140737488355328 by omega) | exact (show ((x :: t).map (repC s.wide)).length + 1 ≤ maxLen by unfold maxLen; omega)
        case zk =>
        refine Aw.em tab_ok mb0 [] rfl rfl ?zo ?zk
        case zo =>
          repeat' apply AllP.cons
          all_goals first | exact trivial | exact inrk k (by omega)
        case zk =>
        exact ⟨k + 1, hlt, by omega, ⟨.refl _, .refl _, .refl _, .refl _, .refl _, trivial⟩, ⟨.refl _, trivial⟩, ⟨rfl, rfl, rfl, by rw [hst]; simp [repsK]; rfl, trivial⟩, Nat.le_of_ble_eq_true rfl⟩
    have hle : k = l.length := by have := of_decide_eq_false h1; omega
    subst hle
    rw [List.take_length]
    cases l with
    | nil =>
      refine Aw.sm tab_ok mb0 [] rfl rfl ?zo ?zk
      case zo =>
        repeat' apply AllP.cons
        all_goals first | exact trivial | exact rfl | exact Nat.le_of_ble_eq_true rfl
      case zk =>
      refine Aw.ret ⟨_, .cons (resC rfl rfl rfl rfl rfl) (.cons (.tmp _) .nil), rfl, ?_⟩
      exact ⟨rfl, trivial⟩
    | cons x t =>
      refine Aw.sm tab_ok mb0 [] rfl rfl ?zo ?zk
      case zo =>
        repeat' apply AllP.cons
        all_goals first | exact trivial | exact rfl | exact Nat.le_of_ble_eq_true rfl
      case zk =>
      refine Aw.ret ⟨_, .cons (resC rfl rfl rfl rfl rfl) (.cons (.tmp _) .nil), rfl, ?_⟩
      exact ⟨rfl, trivial⟩
  · rw [h.1]
    have e : A.Le (.sl l.isEmpty .any (l.map (repC s.wide))) (repsK s.wide l).down := by rw [repsK_down]; exact .any _ _ _
    exact A.Le.tupL (.cons (.agg (LeL.appL (LeL.refl _) (.cons e .nil))) (.cons (.refl _) .nil))
theorem read_n (s : Sea) (hf : SeaFit s) (b : Bool) (l : List Rep) (hok : s.ok = true) (hr : s.repsOk l = true) (nm : Nat) :
    NewMap Try.prog 37 [.agg s.c, .sl b .any (l.map Rep.c)] nm (.tup [.agg (logA s (.mp nm) l), .int 0]) (kvsOf (kvsTo (encM plE valB (landF s.wide s.land)))) := by
  rw [kvs_to]
  exact NewMap.ren (k := 1) (enters_of Try.func37 rfl rfl) (allC (.agg _ s.free) (all1 (free_map Rep.free _ _ _))) (fun p hp => encM_free valB_free _ p hp) (read_s s hf b l hok hr)
    (RenL.tup (.cons (RenL.agg (RenL.app (RenL.app (RenL.free s.free) (.cons .mp .nil)) (.cons (.free (free_map (repC_free _) _ _ _)) .nil))) (.cons (.free (.s _)) .nil))) fun u => rfl
def landH (s : Sea) : Hp := ofH [(20, landB s)]
theorem landH_lt (s : Sea) : ∀ id bx, landH s id = some bx → id < 21 := fun id bx h => by
  unfold landH at h
  by_cases e : id = 20
  · omega
  · have e1 : Nat.beq id 20 = false := beq_no e
    have e2 : Nat.beq 20 id = false := beq_no (Ne.symm e)
    simp [ofH, upd, updH, e1, e2] at h
theorem landH_at (s : Sea) : landH s 20 = some (landB s) := rfl
theorem sea_nms (s : Sea) : ∀ x ∈ seaA s (.mp 20), Nms (fun i => (landH s i).isSome = true) x := fun x hx => (List.mem_append.1 hx).elim (fun h => (s.free x h).nms) (all1 (.mp _ rfl) x)
theorem cells_s (s : Sea) : SCall Try.prog 58 [.agg (seaA s (.mp 20))] (landH s) 21 (fun v' H' _ => v' = .fn (.func 73) [] [.pt (seaA s (.mp 20))] ∧ ∀ id bx, landH s id = some bx → H' id = some bx) := by
  refine SCall.of_bodyN tab_ok Try.func58 rfl Try.ntmps58 (Nat.le_of_ble_eq_true rfl) (all1 fun _ => rfl) fun E hE => ?_
  refine Aw.sm tab_ok mb0 [] rfl rfl ?zo ?zk
  case zo =>
    repeat' apply AllP.cons
    all_goals first | exact trivial
  case zk =>
  refine Aw.sm tab_ok mb0 [] rfl rfl ?zo ?zk
  case zo =>
    repeat' apply AllP.cons
    all_goals first | exact trivial
  case zk =>
  exact Aw.ret ⟨_, .cons (.tmp _) .nil, rfl, fun id bx h => h⟩
theorem landH_nms (s : Sea) : ∀ id bx, landH s id = some bx → NmsB (fun i => (landH s i).isSome = true) bx := fun id bx h => by
  have e : id = 20 := by
    rcases Nat.lt_or_ge id 20 with h1 | h1
    · have e1 : Nat.beq id 20 = false := beq_no (by omega)
      have e2 : Nat.beq 20 id = false := beq_no (by omega)
      simp [landH, ofH, upd, updH, e1, e2] at h
    · have := landH_lt s id bx h; omega
  subst e
  rw [landH_at] at h
  cases h
  exact .map _ fun p hp => ⟨(encM_free valB_free _ p hp).1.nms, (encM_free valB_free _ p hp).2.nms⟩
theorem cells_r (s : Sea) : RCall Try.prog 58 [.agg (seaA s (.mp 20))] (landH s) (.fn (.func 73) [] [.pt (seaA s (.mp 20))]) :=
  RCall.of (enters_of Try.func58 rfl rfl) (landH_lt s) (landH_nms s) (all1 (.agg _ (sea_nms s))) (.fn _ _ _ (fun _ h => nomatch h) (all1 (.pt _ (sea_nms s)))) (fun _ => rfl) (cells_s s)
theorem at20 {s : Sea} {g : FuncId} {args : List A} {v : A} (h : RCall Try.prog g args (landH s) v) {H : Hp} (hH : H 20 = some (landB s)) : RCall Try.prog g args (onlyL H (idsOf [.mp 20])) v :=
  h.le rfl (fun _ _ => .refl _) fun id bx hb => by
    have e : id = 20 := by
      rcases Nat.lt_or_ge id 20 with h1 | h1
      · have e1 : Nat.beq id 20 = false := beq_no (by omega)
        simp [landH, ofH, updH, e1] at hb
      · have := landH_lt s id bx hb; omega
    subst e
    rw [landH_at] at hb
    cases hb
    exact hH
end Go.Proofs.Ytkfepnbanekfgaa

