/- GutMore holds: whatever the day and the lot, it returns true, and both read as they did. No condition. -/
import Derived.Test.YtimikmfkdaoaaaaK9
set_option linter.all false
namespace Go.Proofs.Ytimikmfkdaoaaaa
open Go Go.AL
def mb3 : Nat → Bool := fun t => Nat.beq t 3
theorem reach_is : reachBytes = 140737488351232 := rfl
theorem small_add {d : Day} (hs : Small d) (hz : Sized d) (l : Lot) : Small (addLot d l) := ⟨hs.h, by
  have := hz.l
  rw [reach_is] at this
  show ((d.lots ++ [l]).length : Int) ≤ 9223372036854775807
  rw [List.length_append, List.length_singleton]; push_cast; omega, hs.w⟩
theorem small_no {d : Day} {l : Lot} (hs : Small (addLot d l)) (l' : Lot) : Small (addLot d l') := ⟨hs.h, by
  have := hs.l
  have e : (addLot d l).lots.length = (addLot d l').lots.length := by show (d.lots ++ [l]).length = (d.lots ++ [l']).length; simp
  rw [← e]; exact this, hs.w⟩
theorem best_answer (d : Day) (hs : Small d) : ∃ P n e, Ans Try.prog 23 [.agg d.c] (.tup [planA P, .int n, .int e]) ∧
    ((d.ok = true ∧ e = 0 ∧ P = planF d ∧ n = lostE d Spn.hi) ∨ (d.ok = false ∧ e = 50 ∧ P = [] ∧ n = 0)) := by
  obtain ⟨P, n, e, h1, _, h2⟩ := best_lost d hs
  exact ⟨P, n, e, h1, h2⟩
theorem ok_noFit {d : Day} {l : Lot} (h : (addLot d l).ok = true) : (addLot d { l with fit := 0 }).ok = true := by
  have h1 := ac1 (ac1 (ac1 h))
  have h2 := ac2 (ac1 (ac1 h))
  have h3 := ac2 (ac1 h)
  have h4 := ac2 h
  have e1 : (addLot d { l with fit := 0 }).head = (addLot d l).head := by
    unfold Day.head
    have : ((addLot d { l with fit := 0 }).lots.map Lot.c).length = ((addLot d l).lots.map Lot.c).length := by
      show ((d.lots ++ [_]).map Lot.c).length = ((d.lots ++ [l]).map Lot.c).length; simp
    rw [this]; rfl
  have e2 : (addLot d { l with fit := 0 }).lots.all (lotOk d.hours) = true := by
    have h3 : (d.lots ++ [l]).all (lotOk d.hours) = true := h3
    show (d.lots ++ [{ l with fit := 0 }]).all (lotOk d.hours) = true
    rw [List.all_append, Bool.and_eq_true] at h3 ⊢
    refine ⟨h3.1, ?_⟩
    have h5 : lotOk d.hours l = true := by simpa using h3.2
    have := lotOk_iff h5
    simp only [List.all_cons, List.all_nil, Bool.and_true]
    unfold lotOk
    rw [wi_iff.2 (show 1 ≤ l.crans ∧ l.crans ≤ 50 by omega), wi_iff.2 (show 0 ≤ l.landed ∧ l.landed ≤ d.hours - 1 by omega), wi_iff.2 (show 0 ≤ l.keep ∧ l.keep ≤ 10000 by omega), wi_iff.2 (show (0 : Int) ≤ 0 ∧ (0 : Int) ≤ 7 by omega)]
    rfl
  unfold Day.ok
  rw [e1, h1]
  show cond (cond (cond true (d.heat.all heatOk) false) ((addLot d { l with fit := 0 }).lots.all (lotOk d.hours)) false) (d.wks.all fun w => isWorker w d.hours) false = true
  have h2 : d.heat.all heatOk = true := h2
  have h4 : (d.wks.all fun w => isWorker w d.hours) = true := h4
  rw [h2, e2, h4]; rfl
set_option maxHeartbeats 4000000 in
theorem law_more (d : Day) (l : Lot) (hs : Small d) (hz : Sized d) : Ans Try.prog 12 [.agg d.c, .agg l.c] (.bool true) := by
  obtain ⟨P, n, e, hb, hc⟩ := best_answer d hs
  have hsx := small_add hs hz l
  obtain ⟨P2, n2, e2, hb2, hc2⟩ := best_answer (addLot d l) hsx
  obtain ⟨P3, n3, e3, hb3, hc3⟩ := best_answer (addLot d { l with fit := 0 }) (small_no hsx _)
  have hlz := hz.l
  rw [reach_is] at hlz
  have hcs1 : ∀ z ∈ d.lots.map Lot.c, z.length = 4 := fun z hz => by obtain ⟨y, _, rfl⟩ := List.mem_map.1 hz; rfl
  have hcs2 : ∀ (l : Lot), ∀ z ∈ [l.c], z.length = 4 := fun l z hz => by simp at hz; subst hz; rfl
  have hln : (d.lots.map Lot.c).length = d.lots.length := by simp
  have hm : ∀ l : Lot, d.lots.map Lot.c ++ [l.c] = (addLot d l).lots.map Lot.c := fun l => by show _ = (d.lots ++ [l]).map Lot.c; simp
  refine told Try.func12 rfl rfl (Pure.of tab_ok Try.func12 rfl Try.ntmps12 rfl (allC (.agg _ d.free) (all1 (.agg _ l.free))) (allC (fun _ => rfl) (all1 (fun _ => rfl))) (by first | exact .s _ | assumption | exact .tup _ (by intro x hx; simp only [List.mem_cons, List.not_mem_nil, or_false] at hx; rcases hx with rfl | rfl | rfl | rfl <;> first | exact .s _ | (simp_all; done))) fun E hE => ?_)
  refine Aw.sm tab_ok mb3 [] rfl rfl ?zo ?zk
  case zo =>
    repeat' apply AllP.cons
    all_goals first | exact trivial
  case zk =>
  refine Aw.sm tab_ok mb3 [(1, [.tup [planA P, .int n, .int e]])] rfl rfl ?zo ?zk
  case zo =>
    repeat' apply AllP.cons
    all_goals first | exact trivial | exact Nat.le_of_ble_eq_true rfl | exact hb
  case zk =>
  refine Aw.sm tab_ok mb3 [] rfl rfl ?zo ?zk
  case zo =>
    repeat' apply AllP.cons
    all_goals first | exact trivial | exact rfl | exact Nat.le_of_ble_eq_true rfl
  case zk =>
  refine Aw.sd tab_ok mixed mb3 [(4, [.agg l.c])] rfl (by kernel_rfl) rfl rfl ?zo ?zk
  case zo =>
    repeat' apply AllP.cons
    all_goals first | exact trivial | exact rfl | exact Nat.le_of_ble_eq_true rfl | exact hcs1 | exact hcs2 l | exact (show 0 + (d.lots.map Lot.c).length ≤ maxLen by unfold maxLen; omega) | exact (show (d.lots.map Lot.c).length + 1 ≤ maxLen by unfold maxLen; omega) | exact (show (0 + (d.lots.map Lot.c).length) * 32 ≤ 140737488355328 by omega) | exact (show ((d.lots.map Lot.c).length + 1) * 32 ≤ 140737488355328 by omega)
  case zk =>
  have hld : ∀ (l : Lot) (X : A), A.agg (((List.drop 0 (setSeg [.int d.hours, d.heatA, X, d.wksA] (0 + 2) [.sl false (.own 59) (d.lots.map Lot.c ++ [l.c])])).take 4).map A.down) = .agg (addLot d l).c := fun l X => by rw [hm]; rfl
  refine Aw.sm tab_ok mb3 [(0, [.agg (addLot d l).c]), (1, [.tup [planA P2, .int n2, .int e2]])] rfl rfl ?zo ?zk
  case zo =>
    repeat' apply AllP.cons
    all_goals first | exact trivial | exact Nat.le_of_ble_eq_true rfl | exact hb2 | exact hld l _
  case zk =>
  refine Aw.seq ?_
  refine Aw.sm tab_ok mb3 [(7, [.agg (addLot d l).c]), (8, [.bool (addLot d l).ok])] rfl rfl ?zo ?zk
  case zo =>
    repeat' apply AllP.cons
    all_goals first | exact trivial | exact id | exact fun _ => rfl | exact fun _ => Nat.le_of_ble_eq_true rfl | exact fun _ => hld l _ | exact fun _ => sound_t _ hsx | exact gq_f
  case zk =>
  rcases hc with ⟨hok, rfl, rfl, rfl⟩ | ⟨hno, rfl, rfl, rfl⟩
  case inr =>
    refine Aw.cond rfl (fun _ => ?_) (fun h => by cases h)
    refine Aw.sm tab_ok mb3 [(7, [.bool true])] rfl rfl ?zo ?zk
    case zo =>
      repeat' apply AllP.cons
      all_goals first | exact trivial | exact id | exact fun _ => rfl | exact gq_f | exact fun _ => works_t
    case zk =>
    exact Aw.ret ⟨_, .cons (.tmp _) .nil, rfl⟩
  rcases hc2 with ⟨hokx, rfl, rfl, rfl⟩ | ⟨hnox, rfl, rfl, rfl⟩
  case inr =>
    refine Aw.cond rfl (fun _ => ?_) (fun h => by cases h)
    refine Aw.sm tab_ok mb3 [(7, [.bool true])] rfl rfl ?zo ?zk
    case zo =>
      repeat' apply AllP.cons
      all_goals first | exact trivial | exact id | exact fun _ => rfl | exact fun _ => works_t
    case zk =>
    exact Aw.ret ⟨_, .cons (.tmp _) .nil, rfl⟩
  refine Aw.cond rfl (fun h => by rw [hokx] at h; cases h) (fun _ => Aw.skip ?_)
  have hokz := ok_noFit hokx
  have hd := DayOk.of hok
  have hdx := DayOk.of hokx
  have hdz := DayOk.of hokz
  rcases hc3 with ⟨_, rfl, rfl, rfl⟩ | ⟨h, _⟩
  case inr => rw [hokz] at h; cases h
  have lo := lotOk_iff (hdx.lots l (by show l ∈ d.lots ++ [l]; simp))
  have f1 := more_ge (f := Spn.hi) hd hdx
  have f2 := more_le (f := Spn.hi) hd hdx
  have f3 : lostE (addLot d { l with fit := 0 }) Spn.hi = lostE d Spn.hi + l.crans := more_all hd hdz rfl
  have f4 := lost_crans hd Spn.hi
  have f5 := lost_pos hd Spn.hi
  have hcr := crans_bd hd d.lots.length
  unfold cransL at hcr
  rw [List.take_length] at hcr
  have hcr : 0 ≤ cransOf d ∧ cransOf d ≤ 400 := hcr
  refine Aw.sm tab_ok mb3 [] rfl rfl ?zo ?zk
  case zo =>
    repeat' apply AllP.cons
    all_goals first | exact trivial | exact rfl | exact Nat.le_of_ble_eq_true rfl
  case zk =>
  refine Aw.sd tab_ok mixed mb3 [(4, [.agg { l with fit := 0 }.c])] rfl (by kernel_rfl) rfl rfl ?zo ?zk
  case zo =>
    repeat' apply AllP.cons
    all_goals first | exact trivial | exact rfl | exact Nat.le_of_ble_eq_true rfl | exact hcs1 | exact hcs2 _ | exact (show 0 + (d.lots.map Lot.c).length ≤ maxLen by unfold maxLen; omega) | exact (show (d.lots.map Lot.c).length + 1 ≤ maxLen by unfold maxLen; omega) | exact (show (0 + (d.lots.map Lot.c).length) * 32 ≤ 140737488355328 by omega) | exact (show ((d.lots.map Lot.c).length + 1) * 32 ≤ 140737488355328 by omega)
  case zk =>
  refine Aw.sm tab_ok mb3 [(0, [.agg (addLot d { l with fit := 0 }).c]), (1, [.tup [planA (planF (addLot d { l with fit := 0 })), .int (lostE (addLot d { l with fit := 0 }) Spn.hi), .int 0]])] rfl rfl ?zo ?zk
  case zo =>
    repeat' apply AllP.cons
    all_goals first | exact trivial | exact Nat.le_of_ble_eq_true rfl | exact hb3 | exact hld _ _
  case zk =>
  have hir : inR (lostE d Spn.hi + l.crans) := by simp only [inR]; omega
  refine Aw.sm tab_ok mb3 [(24, [.bool true])] rfl rfl ?zo ?zk
  case zo =>
    repeat' apply AllP.cons
    all_goals first | exact trivial | exact id | exact fun _ => rfl | exact fun _ => Nat.le_of_ble_eq_true rfl | exact fun _ => works_t | exact fun _ => hir
  case zk =>
  refine Aw.ret ⟨_, .cons (.tmp _) .nil, ?_⟩
  show A.bool (cond (cond (cond (cond ((0 : Int) == 0) (decide (lostE (addLot d l) Spn.hi ≥ lostE d Spn.hi)) false) (decide (lostE (addLot d l) Spn.hi ≤ lostE d Spn.hi + l.crans)) false) (lostE (addLot d { l with fit := 0 }) Spn.hi == lostE d Spn.hi + l.crans) false) true false) = .bool true
  rw [decide_eq_true (show lostE (addLot d l) Spn.hi ≥ lostE d Spn.hi from f1), decide_eq_true f2, f3]
  simp
end Go.Proofs.Ytimikmfkdaoaaaa
namespace Go.Proofs.Ytimikmfkdaoaaaa
open Go Go.AL Go.ChangeShapes Go.WideShapes Go.ChangeAt Go.RowKit
set_option maxRecDepth 100000 in
theorem gutMore_lifted (os : Os) (started : os.Started) (H : Type) (enc : TypeId × Value → H) :
    ReturnsInHanded {} Try.checked os 12 .any (Rows.gutMoreSpec.pre6 enc Try.prog Try.f12 [] false) (Rows.gutMoreSpec.post enc Try.prog Try.f12 false true false false) := by
  refine lifted2 (tb := 4) (C := Try.checked) own started (by kernel_rfl) Try.func12
    (ChangeSpec.witness6 (enc := enc) (C := Try.checked) false ⟨#[], #[.agg #[.int .i64 0, .slice none 0 0, .slice none 0 0, .slice none 0 0], .agg #[.int .i64 0, .int .i64 0, .int .i64 0, .int .i64 0]], []⟩ 8 (by kernel_rfl) (by kernel_rfl) (by kernel_rfl) (by kernel_rfl))
    laidOut ?_ rfl rfl (by kernel_rfl) uBool ?_ ?_
  · rw [Try.params12]; exact all2t (p := fun t => Try.prog.readableRec t = true ∧ t < Try.prog.types.size) t26 t59
  · intro ds hd
    rw [Try.params12] at hd
    match ds, hd with
    | [d0, d1], _ => rfl
  · intro W base args ds p hval hA hwt
    rw [Try.params12] at hA hval
    obtain ⟨v0, v1, d0, d1, p0, p1, rfl, rfl, rfl, h0, h1⟩ := trodAll_two hA
    obtain ⟨y0, q0, s0, z0⟩ := arg_day2 (φ := fun _ => none) (hval 0 26 v0 rfl rfl) h0 fun k hk => hwt k (List.mem_append.2 (.inl hk))
    obtain ⟨y1, q1⟩ := arg_lot (φ := fun _ => none) (hval 1 59 v1 rfl rfl) h1
    exact ⟨_, _, vrs2 q0 q1, law_more y0 y1 s0 z0⟩
theorem gutMore_holds : Rows.GutMoreSaid :=
  OpenClaim.holds_of_wide 12 Try.f12 rfl rfl rfl rfl rfl rfl rfl ⟨rfl, rfl, rfl, rfl, rfl⟩ rfl rfl rfl rfl rfl (by kernel_rfl) Try.func12 (by kernel_rfl)
    (of_decide_eq_true (by kernel_rfl)) (by unfold Func.isWrapper; first | (rw [if_pos (by decide +kernel)]; kernel_rfl) | (rw [if_neg (by decide +kernel)]; exact ⟨rfl, rfl⟩))
    (fun os started H enc _ => gutMore_lifted os started H enc)
end Go.Proofs.Ytimikmfkdaoaaaa
