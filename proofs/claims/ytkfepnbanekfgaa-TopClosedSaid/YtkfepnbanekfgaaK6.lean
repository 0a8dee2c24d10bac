/- What the proof leans on, part 6: OH7 OH8 OH9 OH10 OY2 OH11 OH12 OH13 OH14 OH15 OH16 OA1. -/
import Derived.Test.YtkfepnbanekfgaaK5
set_option linter.all false
namespace Go.Proofs.Ytkfepnbanekfgaa
open Go Go.AL Go.AL.Q Go.AL.Sh
def watP (s : Sea) (k : Nat) : Bool := !isLand s.wide s.land (placeP s.wide k)
def cellsL (s : Sea) : List Nat := (List.range s.many.toNat).filter (watP s)
theorem lk_land (s : Sea) (p : Sp) : LkIs Try.prog tab 90 4 (encM plE valB (landF s.wide s.land)) (keyA plE p) (.bool (isLand s.wide s.land p)) (mget (landF s.wide s.land) p).isSome :=
  kty.lk valB _ p (by rw [land_get]; cases isLand s.wide s.land p <;> rfl) rfl
theorem updH_back {H : Hp} {i : Nat} {b : B} (h : H i = some b) : H = updH H i (some b) := by
  funext j
  by_cases e : j = i
  · subst e; rw [h, updH_same]
  · have e1 : Nat.beq j i = false := beq_no e
    have e2 : Nat.beq i j = false := beq_no (Ne.symm e)
    simp [updH, e1]
theorem cells1_t (s : Sea) (ho : s.Ok) {c id : Nat} {S : Slots} {nt : Nat} {ps : Array Tmp} {asg body : Code} {I : Nat → Hp → Prop} {D : Hp → Prop} (it : Iter Try.prog c id S nt ps asg body ((cellsL s).map fun k : Nat => [A.int k]) I D) (hid : id < c) (h20 : 20 < c)
    (hI0 : ∀ k H, I k H → H 20 = some (landB s)) {H : Hp} (hI : I 0 H) : SCall Try.prog 73 [.yl id, .pt (seaA s (.mp 20))] H c fun v H' c' => c ≤ c' ∧ (Sub H' (I (cellsL s).length) ∨ Sub H' D) := by
  have hm := ho.many
  have usa : Under c (A.pt (seaA s (.mp 20))) := .pt _ (sea_under s h20)
  have uyl : Under c (A.yl id) := .yl _ hid
  have hcnt : cntP (watP s) s.many.toNat = (cellsL s).length := rfl
  refine SCall.of_bodyN tab_ok Try.func73 rfl Try.ntmps73 (Nat.le_of_ble_eq_true rfl) (allC (fun _ => rfl) (all1 fun _ => rfl)) fun E hE => ?_
  refine Aw.scope ?_
  refine Aw.seq (Aw.label ?_)
  refine Aw.sm tab_ok mb0 [(1, [.int s.many])] rfl rfl ?zo ?zk
  case zo =>
    repeat' apply AllP.cons
    all_goals first | exact trivial | exact Nat.le_of_ble_eq_true rfl | exact many_t s ho 20
  case zk =>
  refine Aw.block (Aw.roundsH c hE [(0, .yl id), (1, .pt (seaA s (.mp 20))), (5, .int s.many)] (fun k : Nat => [(6, .int k)]) (fun k H => k ≤ s.many.toNat ∧ I (cntP (watP s) k) H) (fun k => s.many.toNat - k) 0
    ⟨⟨.refl _, .refl _, .refl _, trivial⟩, ⟨.refl _, trivial⟩, .self (H := H) ⟨Nat.zero_le _, hI⟩, Nat.le_refl _⟩ ⟨uyl, usa, .s _, trivial⟩ (fun _ => ⟨.s _, trivial⟩) (fun k H h => it.low _ H h.2) fun k H hJ => ?_)
  obtain ⟨hk, hJ⟩ := hJ
  have hlow := it.low _ H hJ
  have hH := updH_back (hI0 _ _ hJ)
  refine Aw.sm tab_ok mb0 [] rfl rfl ?zo ?zk
  case zo =>
    repeat' apply AllP.cons
    all_goals first | exact trivial
  case zk =>
  refine Aw.seq (Aw.cond rfl (fun h1 => Aw.skip1 ?_) (fun h1 => Aw.exit2 ?_))
  · have hlt : k < s.many.toNat := by have := of_decide_eq_true h1; omega
    refine Aw.seq (Aw.block ?_)
    refine Aw.sm tab_ok mb0 [] rfl rfl ?zo ?zk
    case zo =>
      repeat' apply AllP.cons
      all_goals first | exact trivial
    case zk =>
    rw [hH]
    refine Aw.seq ?_
    refine Aw.sd tab_ok mixed mb0 [(4, [.agg (placeP s.wide k).c]), (5, [.bool (isLand s.wide s.land (placeP s.wide k)), .bool (mget (landF s.wide s.land) (placeP s.wide k)).isSome])] rfl (by kernel_rfl) rfl rfl ?zo ?zk
    case zo =>
      repeat' apply AllP.cons
      all_goals first | exact trivial | exact Nat.le_of_ble_eq_true rfl | exact plc_t s ho 20 k (by omega) | exact lk_land s _
    case zk =>
    rw [← hH]
    refine Aw.cond rfl (fun h2 => Aw.exit (thenE (blkE ?_))) (fun h2 => Aw.skip ?_)
    · have hw : watP s k = false := by unfold watP; rw [show isLand s.wide s.land (placeP s.wide k) = true from h2]; rfl
      refine Aw.em tab_ok mb0 [] rfl rfl ?zo ?zk
      case zo =>
        repeat' apply AllP.cons
        all_goals first | exact trivial | exact (by simp only [Ob.of, inR]; omega)
      case zk =>
      refine ⟨k + 1, by omega, ⟨.refl _, .refl _, .refl _, trivial⟩, ⟨.refl _, trivial⟩, .self (H := H) ⟨hlt, ?_⟩, Nat.le_add_right _ _⟩
      rw [cntP_succ, hw]; exact hJ
    · have hw : watP s k = true := by unfold watP; rw [show isLand s.wide s.land (placeP s.wide k) = false from h2]; rfl
      refine Aw.keepH (n := c) (cst := [(0, .yl id), (1, .pt (seaA s (.mp 20))), (5, .int s.many)]) (v := [(3, .int k), (6, .int k)]) (J := fun H' => H = H') hE
        ⟨uyl, usa, .s _, trivial⟩ ⟨.s _, .s _, trivial⟩ (fun _ e => e ▸ hlow)
        ⟨⟨.refl _, .refl _, .refl _, trivial⟩, ⟨.refl _, .refl _, trivial⟩, ⟨H, rfl, fun _ _ h => h⟩, Nat.le_add_right _ _⟩ ?_
      rintro _ rfl
      refine Aw.ss rfl ?_
      refine RegL.partE tab_ok mb0 true 2 0 [] ?_
      conv => arg 5; whnf
      refine PartK.mk ?zo ?zk
      case zo =>
        repeat' apply AllP.cons
        all_goals first | exact trivial
      case zk =>
      refine Does.raw rfl (Iter.yield it rfl (k := cntP (watP s) k) rfl rfl rfl ?_ hJ ?_)
      · show ((cellsL s).map fun k : Nat => [A.int k])[cntP (watP s) k]? = some [A.int k]
        rw [List.getElem?_map, show (cellsL s)[cntP (watP s) k]? = some k from filter_get hlt hw]; rfl
      · rintro v H' c' ⟨hc', hv⟩
        have ecnt : cntP (watP s) (k + 1) = cntP (watP s) k + 1 := by rw [cntP_succ, hw]; rfl
        rcases hv with ⟨rfl, hs⟩ | ⟨rfl, hs⟩
        · refine RegL.partE tab_ok mb0 true 1 3 [] ?_
          conv => arg 5; whnf
          refine PartK.mk ?zo ?zk
          case zo =>
            repeat' apply AllP.cons
            all_goals first | exact trivial
          case zk =>
          refine Aw.cond rfl (fun h3 => by cases h3) (fun h3 => Aw.skip ?_)
          refine Aw.em tab_ok mb0 [] rfl rfl ?zo ?zk
          case zo =>
            repeat' apply AllP.cons
            all_goals first | exact trivial | exact (by simp only [Ob.of, inR]; omega)
          case zk =>
          obtain ⟨H2, hI2, hs2⟩ := hs
          exact ⟨k + 1, by omega, ⟨.refl _, .refl _, .refl _, trivial⟩, ⟨.refl _, trivial⟩, ⟨H2, ⟨hlt, by rw [ecnt]; exact hI2⟩, hs2⟩, hc'⟩
        · refine RegL.partE tab_ok mb0 true 1 3 [] ?_
          conv => arg 5; whnf
          refine PartK.mk ?zo ?zk
          case zo =>
            repeat' apply AllP.cons
            all_goals first | exact trivial
          case zk =>
          refine Aw.cond rfl (fun h3 => Aw.ret ?_) (fun h3 => by cases h3)
          exact ⟨[], .nil, hc', .inr hs⟩
  · have hend : k = s.many.toNat := by have := of_decide_eq_false h1; omega
    subst hend
    refine ⟨[], .nil, Nat.le_refl _, .inl ⟨H, ?_, fun _ _ h => h⟩⟩
    rw [← hcnt]; exact hJ
end Go.Proofs.Ytkfepnbanekfgaa

namespace Go.Proofs.Ytkfepnbanekfgaa
open Go Go.AL Go.AL.Q Go.AL.Sh
theorem placeP_bd {w cell : Int} (hw : 1 ≤ w ∧ w ≤ 10) (hc : -1000 ≤ cell ∧ cell ≤ 1000) : (-1000 ≤ (placeP w cell).lo ∧ (placeP w cell).lo ≤ 1000) ∧ -1000 ≤ (placeP w cell).hi ∧ (placeP w cell).hi ≤ 1000 := by
  have h1 : (cell.tmod w).natAbs < w.natAbs := by rw [Int.natAbs_tmod]; exact Nat.mod_lt _ (by omega)
  have h2 : (cell.tdiv w).natAbs ≤ cell.natAbs := by rw [Int.natAbs_tdiv]; exact Nat.div_le_self _ _
  show (-1000 ≤ cell.tmod w ∧ cell.tmod w ≤ 1000) ∧ -1000 ≤ cell.tdiv w ∧ cell.tdiv w ≤ 1000
  omega
def goL (s : Sea) (p : Nat → Bool) (j : Nat) : List Int := (((cellsL s).take j).filter p).map Int.ofNat
theorem goL_succ (s : Sea) (p : Nat → Bool) {j k : Nat} (h : (cellsL s)[j]? = some k) : goL s p (j + 1) = if p k then goL s p j ++ [(k : Int)] else goL s p j := by
  obtain ⟨hj, e⟩ := List.getElem?_eq_some_iff.1 h
  unfold goL
  rw [List.take_succ_eq_append_getElem hj, List.filter_append, List.map_append, e]
  cases hp : p k <;> simp [List.filter_cons, hp]
theorem cellsL_len (s : Sea) (ho : s.Ok) : (cellsL s).length ≤ 80 := by
  have := ho.many
  have h2 := List.length_filter_le (watP s) (List.range s.many.toNat)
  rw [List.length_range] at h2
  unfold cellsL; omega
theorem goL_len (s : Sea) (p : Nat → Bool) (j : Nat) : (goL s p j).length ≤ (cellsL s).length := by
  unfold goL
  rw [List.length_map]
  exact Nat.le_trans (List.length_filter_le _ _) (by rw [List.length_take]; omega)
theorem cellsL_in (s : Sea) (ho : s.Ok) {j k : Nat} (h : (cellsL s)[j]? = some k) : (k : Int) < s.many ∧ (k : Int) < 80 := by
  have := ho.many
  have := List.mem_range.1 (List.mem_filter.1 (List.mem_of_getElem? h)).1
  omega
def goH (s : Sea) (G : List Int) : List (Nat × B) := [(20, landB s), (21, .cells [grL 3 G])]
theorem goH_under (s : Sea) (G : List Int) : UnderH 22 (goH s G) := ⟨⟨by decide, map_under _⟩, ⟨by decide, .cells _ (all1 (grL_under _))⟩, trivial⟩
theorem logA_under (s : Sea) {n i : Nat} (h : i < n) (l : List Rep) : ∀ x ∈ logA s (.mp i) l, Under n x := fun x hx => (List.mem_append.1 hx).elim (sea_under s h x) (all1 (free_map (repC_free _) _ _ _).under x)
theorem back_s (s : Sea) (ho : s.Ok) (l : List Rep) (hour cell : Int) (h0 : 0 ≤ hour) (h1 : hour < s.drift.length) (hc : 0 ≤ cell ∧ cell ≤ 1000) :
    SCall Try.prog 80 [.int hour, .int cell, .pt (logA s (.mp 20) l)] (landH s) 21 (fun v' H' _ => v' = outA (goL s (fun k => s.steps hour (placeP s.wide cell) (placeP s.wide k)) (cellsL s).length) ∧ ∀ id bx, landH s id = some bx → H' id = some bx) := by
  have hm := ho.many
  have hdl := ho.dl
  have hlen : ∀ z ∈ (cellsL s).map fun k : Nat => [A.int k], z.length = 1 := fun z h => by obtain ⟨p, _, rfl⟩ := List.mem_map.1 h; rfl
  have hlm : ((cellsL s).map fun k : Nat => [A.int k]).length = (cellsL s).length := List.length_map _
  have hcl := cellsL_len s ho
  have bq := placeP_bd ho.w (show -1000 ≤ cell ∧ cell ≤ 1000 by omega)
  refine SCall.drop (post := fun v' H' _ => v' = outA (goL s (fun k => s.steps hour (placeP s.wide cell) (placeP s.wide k)) (cellsL s).length) ∧ HasH H' [(20, landB s)]) (SCall.of_bodyN tab_ok Try.func80 rfl Try.ntmps80 (Nat.le_of_ble_eq_true rfl) (allC (fun _ => rfl) (allC (fun _ => rfl) (all1 fun _ => rfl))) fun E hE => ?_)
    (fun v H' c' h => ⟨_, h.2.ofH, h.1, fun id bx h => h⟩)
  have h22 : ∀ id, 22 ≤ id → E.φ0 id = none := fun id h => hE id (by omega)
  have ulog : Under 22 (A.pt (logA s (.mp 20) l)) := .pt _ (logA_under s (by decide) l)
  have usa : Under 22 (A.pt (seaA s (.mp 20))) := .pt _ (sea_under s (by decide))
  have ufn : Under 22 (A.fn (.func 73) [] [.pt (seaA s (.mp 20))]) := .fn _ _ _ (fun _ h => nomatch h) (all1 usa)
  have uh : Under 22 (A.pt [A.int hour]) := .pt _ (all1 (.s _))
  have uc : Under 22 (A.pt [A.int cell]) := .pt _ (all1 (.s _))
  have ucst : UnderL 22 [(2, .pt (logA s (.mp 20) l)), (3, .pt [.int hour]), (4, .pt [.int cell]), (6, .ref 21 0)] := ⟨ulog, uh, uc, .ref _ _ (by decide), trivial⟩
  refine Aw.sm tab_ok mb0 [] rfl rfl ?zo ?zk
  case zo =>
    repeat' apply AllP.cons
    all_goals first | exact trivial
  case zk =>
  refine Aw.sm tab_ok mb0 [] rfl rfl ?zo ?zk
  case zo =>
    repeat' apply AllP.cons
    all_goals first | exact trivial
  case zk =>
  refine Aw.seq ?_
  refine Aw.sm tab_ok mb0 [(2, [.fn (.func 73) [] [.pt (seaA s (.mp 20))], .tup [.mp 20]])] rfl rfl ?zo ?zk
  case zo =>
    repeat' apply AllP.cons
    all_goals first | exact trivial | exact Nat.le_of_ble_eq_true rfl | exact at20 (cells_r s) rfl
  case zk =>
  refine Aw.keep (n := 22) (cst := [(2, .pt (logA s (.mp 20) l)), (3, .pt [.int hour]), (4, .pt [.int cell]), (6, .ref 21 0)]) (v := [(10, .fn (.func 73) [] [.pt (seaA s (.mp 20))])]) (Hl := goH s (goL s (fun k => s.steps hour (placeP s.wide cell) (placeP s.wide k)) 0)) h22 ⟨ulog, uh, uc, .ref _ _ (by decide), trivial⟩ ⟨ufn, trivial⟩ (goH_under s _)
    ⟨⟨.refl _, .refl _, .refl _, .refl _, trivial⟩, ⟨.refl _, trivial⟩, ⟨rfl, rfl, trivial⟩, Nat.le_of_ble_eq_true rfl⟩ ?_
  refine Aw.block (Aw.iterM rfl (enters_of Try.func73 rfl rfl) ((cellsL s).map fun k : Nat => [A.int k]) (fun j H => H = ofH (goH s (goL s (fun k => s.steps hour (placeP s.wide cell) (placeP s.wide k)) j))) (fun _ _ => False) rfl hlen
    (ofL2_under (UnderL.app (l := [(10, .fn (.func 73) [] [.pt (seaA s (.mp 20))])]) ⟨ufn, trivial⟩ ucst))
    (by rintro j H rfl; exact UnderH.ofH (goH_under s _)) (fun _ _ h => h.elim)
    (fun it hIJ H hI => by rw [hlm]; exact cells1_t s ho it (Nat.lt_succ_self _) (Nat.le_of_ble_eq_true rfl) (fun k H h => by obtain ⟨H0, rfl, h2⟩ := hIJ k H h; rw [h2 20 (Nat.ne_of_beq_eq_false rfl)]; rfl) hI) rfl ?_ ?_ (fun _ _ _ _ ⟨_, h, _⟩ => h.elim))
  · intro lpB ulp j as' ha H hI E2 b2 hE2
    subst hI
    obtain ⟨p, hp, rfl⟩ : ∃ p, (cellsL s)[j]? = some p ∧ [A.int (p : Nat)] = as' := by
      rw [List.getElem?_map] at ha
      cases e : (cellsL s)[j]? with
      | none => rw [e] at ha; cases ha
      | some p => rw [e] at ha; exact ⟨p, rfl, by simpa using ha⟩
    have hgo := goL_succ s (fun k => s.steps hour (placeP s.wide cell) (placeP s.wide k)) hp
    have hgl := goL_len s (fun k => s.steps hour (placeP s.wide cell) (placeP s.wide k)) j
    have hpc := cellsL_in s ho hp
    have bp := placeP_bd ho.w (show -1000 ≤ (p : Int) ∧ (p : Int) ≤ 1000 by omega)
    refine Aw.em tab_ok mb0 [] rfl rfl ?zo ?zk
    case zo =>
      repeat' apply AllP.cons
      all_goals first | exact trivial
    case zk =>
    refine ⟨rfl, rfl, ?_⟩
    refine Aw.block ?_
    refine Aw.sd tab_ok mixed mb0 [(6, [.agg (placeP s.wide cell).c]), (10, [.agg (placeP s.wide p).c]), (11, [.bool (s.steps hour (placeP s.wide cell) (placeP s.wide p))])] rfl (by kernel_rfl) rfl rfl ?zo ?zk
    case zo =>
      repeat' apply AllP.cons
      all_goals first | exact trivial | exact Nat.le_of_ble_eq_true rfl | exact plc_t s ho 20 cell (by omega) | exact plc_t s ho 20 p (by omega) | exact steps_t s ho 20 hour h0 h1 _ _ bq.1 bq.2 (placeP_near ho.w (by omega))
    case zk =>
    generalize goL s (fun k => s.steps hour (placeP s.wide cell) (placeP s.wide k)) j = G at *
    generalize goL s (fun k => s.steps hour (placeP s.wide cell) (placeP s.wide k)) (j + 1) = G' at *
    refine Aw.cond rfl (fun h2 => ?_) (fun h2 => Aw.skip ?_)
    · rw [if_pos h2] at hgo
      subst hgo
      cases G with
      | nil =>
        refine Aw.em tab_ok mb0 [] rfl rfl ?zo ?zk
        case zo =>
          repeat' apply AllP.cons
          all_goals first | exact trivial | exact rfl | exact Nat.le_of_ble_eq_true rfl | exact (show ∀ z ∈ [] ++ [[A.int _]], z.length = 1 from fun z hz => by simp at hz; subst hz; rfl)
        case zk =>
        exact ⟨⟨_, _, rfl⟩, Nat.le_of_ble_eq_true rfl, _, rfl, HasH.ofH (l := goH s [(p : Int)]) ⟨rfl, rfl, trivial⟩⟩
      | cons x t =>
        have hlen2 : (ints (x :: t)).length ≤ 1000 := by simp only [ints, List.length_map]; omega
        have hz : ∀ z ∈ ints (x :: t), z.length = 1 := fun z hz => by obtain ⟨i, _, rfl⟩ := List.mem_map.1 hz; rfl
        refine Aw.em tab_ok mb0 [] rfl rfl ?zo ?zk
        case zo =>
          repeat' apply AllP.cons
          all_goals first | exact trivial | exact rfl | exact Nat.le_of_ble_eq_true rfl | exact (show ∀ z ∈ [[A.int _]], z.length = 1 from fun z hz => by simp at hz; subst hz; rfl) | exact hz | exact (show ((ints (x :: t)).length + 1) * 8 ≤ 140737488355328 by omega) | exact (show (ints (x :: t)).length + 1 ≤ maxLen by unfold maxLen; omega)
        case zk =>
        exact ⟨⟨_, _, rfl⟩, Nat.le_of_ble_eq_true rfl, _, rfl, HasH.ofH (l := goH s ((x :: t) ++ [(p : Int)])) ⟨rfl, by simp [grL, ints]; rfl, trivial⟩⟩
    · rw [if_neg (ne_true_of_eq_false h2)] at hgo
      subst hgo
      exact ⟨⟨_, _, rfl⟩, Nat.le_of_ble_eq_true rfl, _, rfl, HasH.ofH (l := goH s G') ⟨rfl, rfl, trivial⟩⟩
  · rintro H c' hc' ⟨H0, rfl, hs⟩
    rw [hlm] at hs
    have hH := hasH_of_sub (l := goH s (goL s (fun k => s.steps hour (placeP s.wide cell) (placeP s.wide k)) (cellsL s).length)) rfl hs
    refine Aw.keep (n := 22) (cst := [(6, .ref 21 0)]) (v := []) (Hl := goH s (goL s (fun k => s.steps hour (placeP s.wide cell) (placeP s.wide k)) (cellsL s).length)) h22 ⟨.ref _ _ (by decide), trivial⟩ trivial (goH_under s _)
      ⟨⟨.refl _, trivial⟩, trivial, hH, hc'⟩ ?_
    generalize goL s (fun k => s.steps hour (placeP s.wide cell) (placeP s.wide k)) (cellsL s).length = G at *
    cases G with
    | nil =>
      refine Aw.sm tab_ok mb0 [] rfl rfl ?zo ?zk
      case zo =>
        repeat' apply AllP.cons
        all_goals first | exact trivial | exact Nat.le_of_ble_eq_true rfl
      case zk =>
      exact Aw.ret ⟨_, .cons (.tmp _) .nil, rfl, ⟨rfl, trivial⟩⟩
    | cons x t =>
      refine Aw.sm tab_ok mb0 [] rfl rfl ?zo ?zk
      case zo =>
        repeat' apply AllP.cons
        all_goals first | exact trivial | exact Nat.le_of_ble_eq_true rfl
      case zk =>
      exact Aw.ret ⟨_, .cons (.tmp _) .nil, rfl, ⟨rfl, trivial⟩⟩
theorem forth_s (s : Sea) (ho : s.Ok) (l : List Rep) (hour cell : Int) (h0 : 0 ≤ hour - 1) (h1 : hour - 1 < s.drift.length) (hc : 0 ≤ cell ∧ cell ≤ 1000) :
    SCall Try.prog 78 [.int hour, .int cell, .pt (logA s (.mp 20) l)] (landH s) 21 (fun v' H' _ => v' = outA (goL s (fun k => s.steps (hour - 1) (placeP s.wide k) (placeP s.wide cell)) (cellsL s).length) ∧ ∀ id bx, landH s id = some bx → H' id = some bx) := by
  have hm := ho.many
  have hdl := ho.dl
  have hlen : ∀ z ∈ (cellsL s).map fun k : Nat => [A.int k], z.length = 1 := fun z h => by obtain ⟨p, _, rfl⟩ := List.mem_map.1 h; rfl
  have hlm : ((cellsL s).map fun k : Nat => [A.int k]).length = (cellsL s).length := List.length_map _
  have hcl := cellsL_len s ho
  have bq := placeP_bd ho.w (show -1000 ≤ cell ∧ cell ≤ 1000 by omega)
  refine SCall.drop (post := fun v' H' _ => v' = outA (goL s (fun k => s.steps (hour - 1) (placeP s.wide k) (placeP s.wide cell)) (cellsL s).length) ∧ HasH H' [(20, landB s)]) (SCall.of_bodyN tab_ok Try.func78 rfl Try.ntmps78 (Nat.le_of_ble_eq_true rfl) (allC (fun _ => rfl) (allC (fun _ => rfl) (all1 fun _ => rfl))) fun E hE => ?_)
    (fun v H' c' h => ⟨_, h.2.ofH, h.1, fun id bx h => h⟩)
  have h22 : ∀ id, 22 ≤ id → E.φ0 id = none := fun id h => hE id (by omega)
  have ulog : Under 22 (A.pt (logA s (.mp 20) l)) := .pt _ (logA_under s (by decide) l)
  have usa : Under 22 (A.pt (seaA s (.mp 20))) := .pt _ (sea_under s (by decide))
  have ufn : Under 22 (A.fn (.func 73) [] [.pt (seaA s (.mp 20))]) := .fn _ _ _ (fun _ h => nomatch h) (all1 usa)
  have uh : Under 22 (A.pt [A.int hour]) := .pt _ (all1 (.s _))
  have uc : Under 22 (A.pt [A.int cell]) := .pt _ (all1 (.s _))
  have ucst : UnderL 22 [(2, .pt (logA s (.mp 20) l)), (3, .pt [.int hour]), (4, .pt [.int cell]), (6, .ref 21 0)] := ⟨ulog, uh, uc, .ref _ _ (by decide), trivial⟩
  refine Aw.sm tab_ok mb0 [] rfl rfl ?zo ?zk
  case zo =>
    repeat' apply AllP.cons
    all_goals first | exact trivial
  case zk =>
  refine Aw.sm tab_ok mb0 [] rfl rfl ?zo ?zk
  case zo =>
    repeat' apply AllP.cons
    all_goals first | exact trivial
  case zk =>
  refine Aw.seq ?_
  refine Aw.sm tab_ok mb0 [(2, [.fn (.func 73) [] [.pt (seaA s (.mp 20))], .tup [.mp 20]])] rfl rfl ?zo ?zk
  case zo =>
    repeat' apply AllP.cons
    all_goals first | exact trivial | exact Nat.le_of_ble_eq_true rfl | exact at20 (cells_r s) rfl
  case zk =>
  refine Aw.keep (n := 22) (cst := [(2, .pt (logA s (.mp 20) l)), (3, .pt [.int hour]), (4, .pt [.int cell]), (6, .ref 21 0)]) (v := [(10, .fn (.func 73) [] [.pt (seaA s (.mp 20))])]) (Hl := goH s (goL s (fun k => s.steps (hour - 1) (placeP s.wide k) (placeP s.wide cell)) 0)) h22 ⟨ulog, uh, uc, .ref _ _ (by decide), trivial⟩ ⟨ufn, trivial⟩ (goH_under s _)
    ⟨⟨.refl _, .refl _, .refl _, .refl _, trivial⟩, ⟨.refl _, trivial⟩, ⟨rfl, rfl, trivial⟩, Nat.le_of_ble_eq_true rfl⟩ ?_
  refine Aw.block (Aw.iterM rfl (enters_of Try.func73 rfl rfl) ((cellsL s).map fun k : Nat => [A.int k]) (fun j H => H = ofH (goH s (goL s (fun k => s.steps (hour - 1) (placeP s.wide k) (placeP s.wide cell)) j))) (fun _ _ => False) rfl hlen
    (ofL2_under (UnderL.app (l := [(10, .fn (.func 73) [] [.pt (seaA s (.mp 20))])]) ⟨ufn, trivial⟩ ucst))
    (by rintro j H rfl; exact UnderH.ofH (goH_under s _)) (fun _ _ h => h.elim)
    (fun it hIJ H hI => by rw [hlm]; exact cells1_t s ho it (Nat.lt_succ_self _) (Nat.le_of_ble_eq_true rfl) (fun k H h => by obtain ⟨H0, rfl, h2⟩ := hIJ k H h; rw [h2 20 (Nat.ne_of_beq_eq_false rfl)]; rfl) hI) rfl ?_ ?_ (fun _ _ _ _ ⟨_, h, _⟩ => h.elim))
  · intro lpB ulp j as' ha H hI E2 b2 hE2
    subst hI
    obtain ⟨p, hp, rfl⟩ : ∃ p, (cellsL s)[j]? = some p ∧ [A.int (p : Nat)] = as' := by
      rw [List.getElem?_map] at ha
      cases e : (cellsL s)[j]? with
      | none => rw [e] at ha; cases ha
      | some p => rw [e] at ha; exact ⟨p, rfl, by simpa using ha⟩
    have hgo := goL_succ s (fun k => s.steps (hour - 1) (placeP s.wide k) (placeP s.wide cell)) hp
    have hgl := goL_len s (fun k => s.steps (hour - 1) (placeP s.wide k) (placeP s.wide cell)) j
    have hpc := cellsL_in s ho hp
    have bp := placeP_bd ho.w (show -1000 ≤ (p : Int) ∧ (p : Int) ≤ 1000 by omega)
    refine Aw.em tab_ok mb0 [] rfl rfl ?zo ?zk
    case zo =>
      repeat' apply AllP.cons
      all_goals first | exact trivial
    case zk =>
    refine ⟨rfl, rfl, ?_⟩
    refine Aw.block ?_
    refine Aw.sd tab_ok mixed mb0 [(7, [.agg (placeP s.wide p).c]), (11, [.agg (placeP s.wide cell).c]), (12, [.bool (s.steps (hour - 1) (placeP s.wide p) (placeP s.wide cell))])] rfl (by kernel_rfl) rfl rfl ?zo ?zk
    case zo =>
      repeat' apply AllP.cons
      all_goals first | exact trivial | exact Nat.le_of_ble_eq_true rfl | exact plc_t s ho 20 p (by omega) | exact plc_t s ho 20 cell (by omega) | exact steps_t s ho 20 (hour - 1) h0 h1 _ _ bp.1 bp.2 (placeP_near ho.w (by omega)) | exact (by have := ho.hr; simp only [Ob.of, inR]; omega)
    case zk =>
    generalize goL s (fun k => s.steps (hour - 1) (placeP s.wide k) (placeP s.wide cell)) j = G at *
    generalize goL s (fun k => s.steps (hour - 1) (placeP s.wide k) (placeP s.wide cell)) (j + 1) = G' at *
    refine Aw.cond rfl (fun h2 => ?_) (fun h2 => Aw.skip ?_)
    · rw [if_pos h2] at hgo
      subst hgo
      cases G with
      | nil =>
        refine Aw.em tab_ok mb0 [] rfl rfl ?zo ?zk
        case zo =>
          repeat' apply AllP.cons
          all_goals first | exact trivial | exact rfl | exact Nat.le_of_ble_eq_true rfl | exact (show ∀ z ∈ [] ++ [[A.int _]], z.length = 1 from fun z hz => by simp at hz; subst hz; rfl)
        case zk =>
        exact ⟨⟨_, _, rfl⟩, Nat.le_of_ble_eq_true rfl, _, rfl, HasH.ofH (l := goH s [(p : Int)]) ⟨rfl, rfl, trivial⟩⟩
      | cons x t =>
        have hlen2 : (ints (x :: t)).length ≤ 1000 := by simp only [ints, List.length_map]; omega
        have hz : ∀ z ∈ ints (x :: t), z.length = 1 := fun z hz => by obtain ⟨i, _, rfl⟩ := List.mem_map.1 hz; rfl
        refine Aw.em tab_ok mb0 [] rfl rfl ?zo ?zk
        case zo =>
          repeat' apply AllP.cons
          all_goals first | exact trivial | exact rfl | exact Nat.le_of_ble_eq_true rfl | exact (show ∀ z ∈ [[A.int _]], z.length = 1 from fun z hz => by simp at hz; subst hz; rfl) | exact hz | exact (show ((ints (x :: t)).length + 1) * 8 ≤ 140737488355328 by omega) | exact (show (ints (x :: t)).length + 1 ≤ maxLen by unfold maxLen; omega)
        case zk =>
        exact ⟨⟨_, _, rfl⟩, Nat.le_of_ble_eq_true rfl, _, rfl, HasH.ofH (l := goH s ((x :: t) ++ [(p : Int)])) ⟨rfl, by simp [grL, ints]; rfl, trivial⟩⟩
    · rw [if_neg (ne_true_of_eq_false h2)] at hgo
      subst hgo
      exact ⟨⟨_, _, rfl⟩, Nat.le_of_ble_eq_true rfl, _, rfl, HasH.ofH (l := goH s G') ⟨rfl, rfl, trivial⟩⟩
  · rintro H c' hc' ⟨H0, rfl, hs⟩
    rw [hlm] at hs
    have hH := hasH_of_sub (l := goH s (goL s (fun k => s.steps (hour - 1) (placeP s.wide k) (placeP s.wide cell)) (cellsL s).length)) rfl hs
    refine Aw.keep (n := 22) (cst := [(6, .ref 21 0)]) (v := []) (Hl := goH s (goL s (fun k => s.steps (hour - 1) (placeP s.wide k) (placeP s.wide cell)) (cellsL s).length)) h22 ⟨.ref _ _ (by decide), trivial⟩ trivial (goH_under s _)
      ⟨⟨.refl _, trivial⟩, trivial, hH, hc'⟩ ?_
    generalize goL s (fun k => s.steps (hour - 1) (placeP s.wide k) (placeP s.wide cell)) (cellsL s).length = G at *
    cases G with
    | nil =>
      refine Aw.sm tab_ok mb0 [] rfl rfl ?zo ?zk
      case zo =>
        repeat' apply AllP.cons
        all_goals first | exact trivial | exact Nat.le_of_ble_eq_true rfl
      case zk =>
      exact Aw.ret ⟨_, .cons (.tmp _) .nil, rfl, ⟨rfl, trivial⟩⟩
    | cons x t =>
      refine Aw.sm tab_ok mb0 [] rfl rfl ?zo ?zk
      case zo =>
        repeat' apply AllP.cons
        all_goals first | exact trivial | exact Nat.le_of_ble_eq_true rfl
      case zk =>
      exact Aw.ret ⟨_, .cons (.tmp _) .nil, rfl, ⟨rfl, trivial⟩⟩
end Go.Proofs.Ytkfepnbanekfgaa

namespace Go.Proofs.Ytkfepnbanekfgaa
open Go Go.AL Go.AL.Q Go.AL.Sh
theorem log_nms (s : Sea) (l : List Rep) : ∀ x ∈ logA s (.mp 20) l, Nms (fun i => (landH s i).isSome = true) x := fun x hx => (List.mem_append.1 hx).elim (sea_nms s x) (all1 (free_map (repC_free _) _ _ _).nms x)
def forthA (s : Sea) (l : List Rep) : A := .agg [.fn (.func 78) [] [.pt (logA s (.mp 20) l)]]
def backA (s : Sea) (l : List Rep) : A := .agg [.fn (.func 80) [] [.pt (logA s (.mp 20) l)]]
theorem forthA_nms (s : Sea) (l : List Rep) : Nms (fun i => (landH s i).isSome = true) (forthA s l) := .agg _ (all1 (.fn _ _ _ (fun _ h => nomatch h) (all1 (.pt _ (log_nms s l)))))
theorem backA_nms (s : Sea) (l : List Rep) : Nms (fun i => (landH s i).isSome = true) (backA s l) := .agg _ (all1 (.fn _ _ _ (fun _ h => nomatch h) (all1 (.pt _ (log_nms s l)))))
theorem forth_w (s : Sea) (l : List Rep) : SCall Try.prog 69 [.agg (logA s (.mp 20) l)] (landH s) 21 (fun v' H' _ => v' = forthA s l ∧ ∀ id bx, landH s id = some bx → H' id = some bx) := by
  refine SCall.drop (post := fun v' H' _ => v' = forthA s l ∧ HasH H' [(20, landB s)]) (SCall.of_bodyN tab_ok Try.func69 rfl Try.ntmps69 (Nat.le_of_ble_eq_true rfl) (all1 fun _ => rfl) fun E hE => ?_) (fun v H' c' h => ⟨_, h.2.ofH, h.1, fun id bx h => h⟩)
  refine Aw.sm tab_ok mb0 [] rfl rfl ?zo ?zk
  case zo =>
    repeat' apply AllP.cons
    all_goals first | exact trivial
  case zk =>
  refine Aw.sm tab_ok mb0 [] rfl rfl ?zo ?zk
  case zo =>
    repeat' apply AllP.cons
    all_goals first | exact trivial | exact rfl | exact Nat.le_of_ble_eq_true rfl
  case zk =>
  exact Aw.ret ⟨_, .cons (resC rfl rfl rfl rfl rfl) .nil, rfl, ⟨rfl, trivial⟩⟩
theorem back_w (s : Sea) (l : List Rep) : SCall Try.prog 70 [.agg (logA s (.mp 20) l)] (landH s) 21 (fun v' H' _ => v' = backA s l ∧ ∀ id bx, landH s id = some bx → H' id = some bx) := by
  refine SCall.drop (post := fun v' H' _ => v' = backA s l ∧ HasH H' [(20, landB s)]) (SCall.of_bodyN tab_ok Try.func70 rfl Try.ntmps70 (Nat.le_of_ble_eq_true rfl) (all1 fun _ => rfl) fun E hE => ?_) (fun v H' c' h => ⟨_, h.2.ofH, h.1, fun id bx h => h⟩)
  refine Aw.sm tab_ok mb0 [] rfl rfl ?zo ?zk
  case zo =>
    repeat' apply AllP.cons
    all_goals first | exact trivial
  case zk =>
  refine Aw.sm tab_ok mb0 [] rfl rfl ?zo ?zk
  case zo =>
    repeat' apply AllP.cons
    all_goals first | exact trivial | exact rfl | exact Nat.le_of_ble_eq_true rfl
  case zk =>
  exact Aw.ret ⟨_, .cons (resC rfl rfl rfl rfl rfl) .nil, rfl, ⟨rfl, trivial⟩⟩
theorem forthA_r (s : Sea) (l : List Rep) : RCall Try.prog 69 [.agg (logA s (.mp 20) l)] (landH s) (forthA s l) :=
  RCall.of (enters_of Try.func69 rfl rfl) (landH_lt s) (landH_nms s) (all1 (.agg _ (log_nms s l))) (forthA_nms s l) (fun _ => rfl) (forth_w s l)
theorem backA_r (s : Sea) (l : List Rep) : RCall Try.prog 70 [.agg (logA s (.mp 20) l)] (landH s) (backA s l) :=
  RCall.of (enters_of Try.func70 rfl rfl) (landH_lt s) (landH_nms s) (all1 (.agg _ (log_nms s l))) (backA_nms s l) (fun _ => rfl) (back_w s l)
def fromF (s : Sea) (hour cell : Int) : List Int := goL s (fun k => s.steps (hour - 1) (placeP s.wide k) (placeP s.wide cell)) (cellsL s).length
def fromB (s : Sea) (hour cell : Int) : List Int := goL s (fun k => s.steps hour (placeP s.wide cell) (placeP s.wide k)) (cellsL s).length
theorem outA_spare (l : List Int) : ∀ u, spareOf (outA l) u = none := fun u => by cases l <;> rfl
theorem forth_r (s : Sea) (ho : s.Ok) (l : List Rep) (hour cell : Int) (h0 : 0 ≤ hour - 1) (h1 : hour - 1 < s.drift.length) (hc : 0 ≤ cell ∧ cell ≤ 1000) : RCall Try.prog 78 [.int hour, .int cell, .pt (logA s (.mp 20) l)] (landH s) (outA (fromF s hour cell)) :=
  RCall.of (enters_of Try.func78 rfl rfl) (landH_lt s) (landH_nms s) (allC (.s _) (allC (.s _) (all1 (.pt _ (log_nms s l))))) (outA_free _).nms (outA_spare _) (forth_s s ho l hour cell h0 h1 hc)
theorem back_r (s : Sea) (ho : s.Ok) (l : List Rep) (hour cell : Int) (h0 : 0 ≤ hour) (h1 : hour < s.drift.length) (hc : 0 ≤ cell ∧ cell ≤ 1000) : RCall Try.prog 80 [.int hour, .int cell, .pt (logA s (.mp 20) l)] (landH s) (outA (fromB s hour cell)) :=
  RCall.of (enters_of Try.func80 rfl rfl) (landH_lt s) (landH_nms s) (allC (.s _) (allC (.s _) (all1 (.pt _ (log_nms s l))))) (outA_free _).nms (outA_spare _) (back_s s ho l hour cell h0 h1 hc)
end Go.Proofs.Ytkfepnbanekfgaa

namespace Go.Proofs.Ytkfepnbanekfgaa
open Go Go.AL Go.AL.Q Go.AL.Sh
def cntB (l : List Int) : B := .cells (l.map A.int)
theorem cntB_under (l : List Int) {n : Nat} : UnderB n (cntB l) := .cells _ fun x hx => by obtain ⟨v, _, rfl⟩ := List.mem_map.1 hx; exact .s _
theorem set_cells {l : List Int} {k : Nat} {v : Int} (h : k < l.length) : setSeg (l.map A.int) (0 + k * 1) [A.int v] = (l.set k v).map A.int := by
  have := setSeg_app (l := []) (r := l.map A.int) (v := A.int v) (i := k) (by simpa using h)
  simp only [List.length_nil, Nat.zero_add, List.nil_append] at this
  rw [Nat.zero_add, Nat.mul_one, this, List.map_set]
theorem dn_int (l : List Int) : (l.map A.int).map A.down = l.map A.int := by rw [List.map_map]; rfl
theorem ld80 {G : List Int} (h : G.length = 80) : A.agg (((List.drop 0 (G.map A.int)).take 80).map A.down) = .agg (G.map A.int) := by
  rw [List.drop_zero, List.take_of_length_le (by simp [h]), dn_int]
theorem set80 {G : List Int} (h : G.length = 80) : setSeg ((nevK 0).map A.int) 0 ((G.map A.int).map A.down) = G.map A.int := by
  rw [dn_int]
  unfold setSeg
  simp [nevK, h]
set_option maxRecDepth 20000 in
theorem gone0_s (s : Sea) (ho : s.Ok) (l : List Rep) (hl : RepFit s l) (w : A) (hw : w = forthA s l ∨ w = backA s l) (hour : Int) :
    SCall Try.prog 68 [.agg (logA s (.mp 20) l), w, .int hour, .s (.pointer none)] (landH s) 21 (fun v' H' _ => v' = .agg ((setK (fun p => untrueF s.wide l hour (placeP s.wide p)) (cellsL s)).map A.int) ∧ ∀ id bx, landH s id = some bx → H' id = some bx) := by
  have hlen : ∀ z ∈ (cellsL s).map fun k : Nat => [A.int k], z.length = 1 := fun z h => by obtain ⟨p, _, rfl⟩ := List.mem_map.1 h; rfl
  have hlm : ((cellsL s).map fun k : Nat => [A.int k]).length = (cellsL s).length := List.length_map _
  have hcl := cellsL_len s ho
  obtain ⟨wf, rfl⟩ : ∃ wf : FuncId, w = .agg [.fn (.func wf) [] [.pt (logA s (.mp 20) l)]] := by
    rcases hw with rfl | rfl
    · exact ⟨78, rfl⟩
    · exact ⟨80, rfl⟩
  refine SCall.drop (post := fun v' H' _ => v' = .agg ((setK (fun p => untrueF s.wide l hour (placeP s.wide p)) (cellsL s)).map A.int) ∧ HasH H' [(20, landB s)]) (SCall.of_bodyN tab_ok Try.func68 rfl Try.ntmps68 (Nat.le_of_ble_eq_true rfl) (allC (fun _ => rfl) (allC (fun _ => rfl) (allC (fun _ => rfl) (all1 fun _ => rfl)))) fun E hE => ?_)
    (fun v H' c' h => ⟨_, h.2.ofH, h.1, fun id bx h => h⟩)
  have h23 : ∀ id, 23 ≤ id → E.φ0 id = none := fun id h => hE id (by omega)
  have ulog : Under 23 (A.pt (logA s (.mp 20) l)) := .pt _ (logA_under s (by decide) l)
  have uway : Under 23 (A.pt [.fn (.func wf) [] [.pt (logA s (.mp 20) l)]]) := .pt _ (all1 (.fn _ _ _ (fun _ h => nomatch h) (all1 ulog)))
  have usa : Under 23 (A.pt (seaA s (.mp 20))) := .pt _ (sea_under s (by decide))
  have ufn : Under 23 (A.fn (.func 73) [] [.pt (seaA s (.mp 20))]) := .fn _ _ _ (fun _ h => nomatch h) (all1 usa)
  have ucst : UnderL 23 [(4, .pt (logA s (.mp 20) l)), (5, .pt [.fn (.func wf) [] [.pt (logA s (.mp 20) l)]]), (6, .pt [.int hour]), (7, .pt [.s (.pointer none)]), (8, .ref 21 0), (9, .ref 22 0)] := ⟨ulog, uway, .pt _ (all1 (.s _)), .pt _ (all1 (.s _)), .ref _ _ (by decide), .ref _ _ (by decide), trivial⟩
  have uH : ∀ a b : List Int, UnderH 23 [(20, landB s), (21, cntB a), (22, cntB b)] := fun a b => ⟨⟨by decide, map_under _⟩, ⟨by decide, cntB_under _⟩, ⟨by decide, cntB_under _⟩, trivial⟩
  refine Aw.sm tab_ok mb0 [] rfl rfl ?zo ?zk
  case zo =>
    repeat' apply AllP.cons
    all_goals first | exact trivial
  case zk =>
  refine Aw.sm tab_ok mb0 [] rfl rfl ?zo ?zk
  case zo =>
    repeat' apply AllP.cons
    all_goals first | exact trivial
  case zk =>
  refine Aw.seq ?_
  refine Aw.sm tab_ok mb0 [] rfl rfl ?zo ?zk
  case zo =>
    repeat' apply AllP.cons
    all_goals first | exact trivial
  case zk =>
  refine Aw.block (Aw.rounds 23 h23 [(4, .pt (logA s (.mp 20) l)), (5, .pt [.fn (.func wf) [] [.pt (logA s (.mp 20) l)]]), (6, .pt [.int hour]), (7, .pt [.s (.pointer none)]), (8, .ref 21 0), (9, .ref 22 0)] (fun k : Nat => [(16, .int k)]) (fun k => [(20, landB s), (21, cntB (nevK 0)), (22, cntB (nevK k))]) (fun k => k ≤ 80) (fun k => 80 - k) 0
    (Nat.zero_le _) ⟨⟨.refl _, .refl _, .refl _, .refl _, .refl _, .refl _, trivial⟩, ⟨.refl _, trivial⟩, ⟨rfl, rfl, rfl, trivial⟩, Nat.le_of_ble_eq_true rfl⟩ ucst (fun _ _ => ⟨.s _, trivial⟩) (fun _ _ => uH _ _) fun k hk => ?_)
  refine Aw.sm tab_ok mb0 [] rfl rfl ?zo ?zk
  case zo =>
    repeat' apply AllP.cons
    all_goals first | exact trivial
  case zk =>
  refine Aw.seq (Aw.cond rfl (fun h1 => Aw.skip1 ?_) (fun h1 => Aw.exit2 ?_))
  · have hlt : k < 80 := by have := of_decide_eq_true h1; omega
    have hn := nevK_len hk
    have hst := nevK_step hlt
    generalize nevK k = G at *
    refine Aw.seq (Aw.block ?_)
    refine Aw.sm tab_ok mb0 [] rfl rfl ?zo ?zk
    case zo =>
      repeat' apply AllP.cons
      all_goals first | exact trivial
    case zk =>
    refine Aw.em tab_ok mb0 [] rfl rfl ?zo ?zk
    case zo =>
      repeat' apply AllP.cons
      all_goals first | exact trivial | exact rfl | exact Int.natCast_nonneg _ | exact (show 0 + (Int.toNat (k : Int)) * 1 + 1 ≤ (G.map A.int).length by rw [List.length_map, hn, Int.toNat_natCast]; omega) | exact (by simp only [Ob.of]; omega)
    case zk =>
    refine Aw.em tab_ok mb0 [] rfl rfl ?zo ?zk
    case zo =>
      repeat' apply AllP.cons
      all_goals first | exact trivial | exact inrk k (by omega)
    case zk =>
    exact ⟨k + 1, hlt, by omega, ⟨.refl _, .refl _, .refl _, .refl _, .refl _, .refl _, trivial⟩, ⟨.refl _, trivial⟩, ⟨rfl, rfl, by rw [← hst]; exact congrArg (fun x => some (B.cells x)) (set_cells (by omega)), trivial⟩, Nat.le_of_ble_eq_true rfl⟩
  have hle : k = 80 := by have := of_decide_eq_false h1; omega
  subst hle
  generalize hval : (fun p : Nat => untrueF s.wide l hour (placeP s.wide p)) = val at *
  refine Aw.seq ?_
  refine Aw.sm tab_ok mb0 [(2, [.fn (.func 73) [] [.pt (seaA s (.mp 20))], .tup [.mp 20]])] rfl rfl ?zo ?zk
  case zo =>
    repeat' apply AllP.cons
    all_goals first | exact trivial | exact Nat.le_of_ble_eq_true rfl | exact at20 (cells_r s) rfl
  case zk =>
  refine Aw.keep (n := 23) (cst := [(4, .pt (logA s (.mp 20) l)), (5, .pt [.fn (.func wf) [] [.pt (logA s (.mp 20) l)]]), (6, .pt [.int hour]), (7, .pt [.s (.pointer none)]), (8, .ref 21 0), (9, .ref 22 0)]) (v := [(24, .fn (.func 73) [] [.pt (seaA s (.mp 20))])]) (Hl := [(20, landB s), (21, cntB (nevK 0)), (22, cntB (setK val ((cellsL s).take 0)))]) h23 ucst ⟨ufn, trivial⟩ (uH _ _)
    ⟨⟨.refl _, .refl _, .refl _, .refl _, .refl _, .refl _, trivial⟩, ⟨.refl _, trivial⟩, ⟨rfl, rfl, rfl, trivial⟩, Nat.le_of_ble_eq_true rfl⟩ ?_
  refine Aw.block (Aw.iterM rfl (enters_of Try.func73 rfl rfl) ((cellsL s).map fun k : Nat => [A.int k]) (fun j H => H = ofH [(20, landB s), (21, cntB (nevK 0)), (22, cntB (setK val ((cellsL s).take j)))]) (fun _ _ => False) rfl hlen
    (ofL2_under (UnderL.app (l := [(24, .fn (.func 73) [] [.pt (seaA s (.mp 20))])]) ⟨ufn, trivial⟩ ucst))
    (by rintro j H rfl; exact UnderH.ofH (uH _ _)) (fun _ _ h => h.elim)
    (fun it hIJ H hI => by rw [hlm]; exact cells1_t s ho it (Nat.lt_succ_self _) (Nat.le_of_ble_eq_true rfl) (fun k H h => by obtain ⟨H0, rfl, h2⟩ := hIJ k H h; rw [h2 20 (Nat.ne_of_beq_eq_false rfl)]; rfl) hI) rfl ?_ ?_ (fun _ _ _ _ ⟨_, h, _⟩ => h.elim))
  · intro lpB ulp j as' ha H hI E2 b2 hE2
    subst hI
    obtain ⟨p, hp, rfl⟩ : ∃ p, (cellsL s)[j]? = some p ∧ [A.int (p : Nat)] = as' := by
      rw [List.getElem?_map] at ha
      cases e : (cellsL s)[j]? with
      | none => rw [e] at ha; cases ha
      | some p => rw [e] at ha; exact ⟨p, rfl, by simpa using ha⟩
    have hgo := setK_succ val hp
    have hgl := setK_len val ((cellsL s).take j)
    have hpc := cellsL_in s ho hp
    have hv : untrueF s.wide l hour (placeP s.wide p) = val p := by rw [← hval]
    generalize setK val ((cellsL s).take j) = G at *
    generalize setK val ((cellsL s).take (j + 1)) = G' at *
    subst hgo
    refine Aw.em tab_ok mb0 [] rfl rfl ?zo ?zk
    case zo =>
      repeat' apply AllP.cons
      all_goals first | exact trivial
    case zk =>
    refine ⟨rfl, rfl, ?_⟩
    refine Aw.block ?_
    refine Aw.sm tab_ok mb0 [(3, [.int (val p)])] rfl rfl ?zo ?zk
    case zo =>
      repeat' apply AllP.cons
      all_goals first | exact trivial | exact Nat.le_of_ble_eq_true rfl | exact hv ▸ untrue_t s ho l hl 20 hour p (by omega)
    case zk =>
    refine Aw.seq ?_
    refine Aw.sm tab_ok mb0 [] rfl rfl ?zo ?zk
    case zo =>
      repeat' apply AllP.cons
      all_goals first | exact trivial | exact Nat.le_of_ble_eq_true rfl
    case zk =>
    refine Aw.cond rfl (fun h2 => ?_) (fun h2 => absurd h2 (by decide))
    refine Aw.sm tab_ok mb0 [] rfl rfl ?zo ?zk
    case zo =>
      repeat' apply AllP.cons
      all_goals first | exact trivial | exact rfl | exact Int.natCast_nonneg _ | exact (show 0 + (Int.toNat ((p : Nat) : Int)) * 1 + 1 ≤ (G.map A.int).length by rw [List.length_map, hgl, Int.toNat_natCast]; omega) | exact (by simp only [Ob.of]; omega)
    case zk =>
    refine Aw.exit (thenE (blkE ?_))
    exact ⟨⟨_, _, rfl⟩, Nat.le_of_ble_eq_true rfl, _, rfl, HasH.ofH (l := [(20, landB s), (21, cntB (nevK 0)), (22, cntB (G.set p (val p)))]) ⟨rfl, rfl, congrArg (fun x => some (B.cells x)) (set_cells (by omega)), trivial⟩⟩
  · rintro H c' hc' ⟨H0, rfl, hs⟩
    rw [hlm, List.take_length] at hs
    have hH := hasH_of_sub (l := [(20, landB s), (21, cntB (nevK 0)), (22, cntB (setK val (cellsL s)))]) rfl hs
    have hgl := setK_len val (cellsL s)
    generalize setK val (cellsL s) = G at *
    refine Aw.keep (n := 23) (cst := [(8, .ref 21 0), (9, .ref 22 0)]) (v := []) (Hl := [(20, landB s), (21, cntB (nevK 0)), (22, cntB G)]) h23 ⟨.ref _ _ (by decide), .ref _ _ (by decide), trivial⟩ trivial (uH _ _)
      ⟨⟨.refl _, .refl _, trivial⟩, trivial, hH, hc'⟩ ?_
    refine Aw.sm tab_ok mb0 [(0, [.agg (G.map A.int)])] rfl rfl ?zo ?zk
    case zo =>
      repeat' apply AllP.cons
      all_goals first | exact trivial | exact Nat.le_of_ble_eq_true rfl | exact ld80 hgl | exact (show (0 : Nat) + 80 ≤ (G.map A.int).length by rw [List.length_map, hgl]; decide) | exact (show (G.map A.int).length = 80 by rw [List.length_map, hgl])
    case zk =>
    refine Aw.keep (n := 23) (cst := [(8, .ref 21 0)]) (v := [(3, A.un)]) (Hl := [(20, landB s), (21, cntB G)]) h23 ⟨.ref _ _ (by decide), trivial⟩ ⟨.un, trivial⟩ ⟨⟨by decide, map_under _⟩, ⟨by decide, cntB_under _⟩, trivial⟩
      ⟨⟨.refl _, trivial⟩, ⟨⟨fun _ _ _ v _ => .un v, fun u p h => absurd h (by simp [spareOf])⟩, trivial⟩, ⟨rfl, congrArg (fun x => some (B.cells x)) (set80 hgl), trivial⟩, Nat.le_of_ble_eq_true rfl⟩ ?_
    exact Aw.ret ⟨_, .cons (resC rfl rfl rfl (by rw [Nat.ble_eq, List.length_map, hgl]; exact Nat.le_refl 80) (ld80 hgl)) .nil, rfl, ⟨rfl, trivial⟩⟩
end Go.Proofs.Ytkfepnbanekfgaa

namespace Go.Proofs.Ytkfepnbanekfgaa
open Go Go.AL Go.AL.Q Go.AL.Sh
def unN (s : Sea) (l : List Rep) (h c : Nat) : Nat := l.countP (falseAt s.wide h (placeP s.wide c))
theorem unN_le (s : Sea) {l : List Rep} (hl : l.length ≤ 24) (h c : Nat) : unN s l h c ≤ 24 := Nat.le_trans List.countP_le_length hl
def stp (s : Sea) (h a b : Nat) : Bool := s.steps h (placeP s.wide a) (placeP s.wide b)
def okW (s : Sea) : Nat → List Nat → Prop
  | _, [] => True
  | h, c :: t => c ∈ cellsL s ∧ (∀ d, t.head? = some d → stp s h c d = true) ∧ okW s (h + 1) t
def costW (s : Sea) (l : List Rep) : Nat → List Nat → Nat
  | _, [] => 0
  | h, c :: t => unN s l h c + costW s l (h + 1) t
theorem costW_app (s : Sea) (l : List Rep) : ∀ (a b : List Nat) (h : Nat), costW s l h (a ++ b) = costW s l h a + costW s l (h + a.length) b
  | [], b, h => by simp [costW]
  | c :: a, b, h => by
    rw [List.cons_append, costW, costW_app s l a b, costW, List.length_cons, show h + 1 + a.length = h + (a.length + 1) by omega]; omega
theorem costW_le (s : Sea) {l : List Rep} (hl : l.length ≤ 24) : ∀ (t : List Nat) (h : Nat), costW s l h t ≤ 24 * t.length
  | [], h => by simp [costW]
  | c :: t, h => by
    have := costW_le s hl t (h + 1); have := unN_le s hl h c
    rw [costW, List.length_cons]; omega
theorem okW_app (s : Sea) : ∀ (a : List Nat) (c : Nat) (b : List Nat) (h : Nat), okW s h (a ++ c :: b) ↔ okW s h (a ++ [c]) ∧ okW s (h + a.length) (c :: b)
  | [], c, b, h => by
    simp only [List.nil_append, List.length_nil, Nat.add_zero]
    constructor
    · intro k; exact ⟨⟨k.1, fun d e => by simp at e, trivial⟩, k⟩
    · intro k; exact k.2
  | d :: a, c, b, h => by
    have e : ∀ x : List Nat, (a ++ c :: x).head? = some (a.head?.getD c) := fun x => by cases a <;> rfl
    simp only [List.cons_append, okW, okW_app s a c b (h + 1), e, List.length_cons, show h + 1 + a.length = h + (a.length + 1) by omega]
    constructor
    · rintro ⟨h1, h2, h3, h4⟩; exact ⟨⟨h1, h2, h3⟩, h4⟩
    · rintro ⟨⟨h1, h2, h3⟩, h4⟩; exact ⟨h1, h2, h3, h4⟩
theorem okW_mem (s : Sea) : ∀ {t : List Nat} {h : Nat}, okW s h t → ∀ c ∈ t, c ∈ cellsL s
  | c :: t, h, k, d, hd => by
    rcases List.mem_cons.1 hd with rfl | h1
    · exact k.1
    · exact okW_mem s k.2.2 d h1
structure MinIs (inf : Nat) (P : Nat → Prop) (v : Int) : Prop where
  or : (v = inf ∧ ∀ n, ¬ P n) ∨ ∃ n : Nat, v = n ∧ P n ∧ ∀ m, P m → n ≤ m
theorem MinIs.congr {inf : Nat} {P Q : Nat → Prop} {v : Int} (h : MinIs inf P v) (e : ∀ n, P n ↔ Q n) : MinIs inf Q v := by
  rcases h.or with ⟨h1, h2⟩ | ⟨n, h1, h2, h3⟩
  · exact ⟨.inl ⟨h1, fun n h => h2 n ((e n).2 h)⟩⟩
  · exact ⟨.inr ⟨n, h1, (e n).1 h2, fun m h => h3 m ((e m).2 h)⟩⟩
theorem MinIs.nonneg {inf : Nat} {P : Nat → Prop} {v : Int} (h : MinIs inf P v) : 0 ≤ v := by
  rcases h.or with ⟨h1, _⟩ | ⟨n, h1, _⟩ <;> omega
theorem MinIs.le {inf : Nat} {P : Nat → Prop} {v : Int} (h : MinIs inf P v) (hb : ∀ n, P n → n ≤ inf) : v ≤ inf := by
  rcases h.or with ⟨h1, _⟩ | ⟨n, h1, h2, _⟩
  · omega
  · have := hb n h2; omega
theorem MinIs.both {inf inf' : Nat} {P : Nat → Prop} {v v' : Int} (h : MinIs inf P v) (h' : MinIs inf' P v') : (v = inf ∧ v' = inf' ∧ ∀ n, ¬ P n) ∨ ∃ n : Nat, v = n ∧ v' = n ∧ P n ∧ ∀ m, P m → n ≤ m := by
  rcases h.or with ⟨h1, h2⟩ | ⟨n, h1, h2, h3⟩ <;> rcases h'.or with ⟨k1, k2⟩ | ⟨m, k1, k2, k3⟩
  · exact .inl ⟨h1, k1, h2⟩
  · exact absurd k2 (h2 m)
  · exact absurd h2 (k2 n)
  · have := h3 m k2; have := k3 n h2
    exact .inr ⟨n, h1, by omega, h2, h3⟩
theorem MinIs.min {inf : Nat} {P Q : Nat → Prop} {v u : Int} (h : MinIs inf P v) (k : MinIs inf Q u) (hP : ∀ n, P n → n ≤ inf) (hQ : ∀ n, Q n → n ≤ inf) : MinIs inf (fun n => P n ∨ Q n) (gmin v u) := by
  rw [gmin_eq]
  rcases h.or with ⟨h1, h2⟩ | ⟨n, h1, h2, h3⟩ <;> rcases k.or with ⟨k1, k2⟩ | ⟨m, k1, k2, k3⟩
  · exact ⟨.inl ⟨by omega, fun n h => h.elim (h2 n) (k2 n)⟩⟩
  · have := hQ m k2
    exact ⟨.inr ⟨m, by omega, .inr k2, fun j h => h.elim (fun h => absurd h (h2 j)) (k3 j)⟩⟩
  · have := hP n h2
    exact ⟨.inr ⟨n, by omega, .inl h2, fun j h => h.elim (h3 j) (fun h => absurd h (k2 j))⟩⟩
  · by_cases hnm : n ≤ m
    · exact ⟨.inr ⟨n, by omega, .inl h2, fun j h => h.elim (h3 j) (fun h => by have := k3 j h; omega)⟩⟩
    · exact ⟨.inr ⟨m, by omega, .inr k2, fun j h => h.elim (fun h => by have := h3 j h; omega) (k3 j)⟩⟩
theorem MinIs.add {inf u : Nat} {P : Nat → Prop} {v : Int} (h : MinIs inf P v) (hb : ∀ n, P n → n + u ≤ inf) : MinIs inf (fun n => ∃ m, P m ∧ n = m + u) (gmin inf (v + u)) := by
  rw [gmin_eq]
  rcases h.or with ⟨h1, h2⟩ | ⟨n, h1, h2, h3⟩
  · exact ⟨.inl ⟨by omega, fun n ⟨m, h, _⟩ => h2 m h⟩⟩
  · have := hb n h2
    exact ⟨.inr ⟨n + u, by omega, ⟨n, h2, rfl⟩, fun j ⟨m, h, e⟩ => by have := h3 m h; omega⟩⟩
theorem MinIs.fold {α : Type} {inf : Nat} (P : α → Nat → Prop) (f : α → Int) : ∀ (F : List α) (Q : Nat → Prop) (b : Int), MinIs inf Q b → (∀ o ∈ F, MinIs inf (P o) (f o)) → (∀ n, Q n → n ≤ inf) → (∀ o ∈ F, ∀ n, P o n → n ≤ inf) →
    MinIs inf (fun n => Q n ∨ ∃ o ∈ F, P o n) (F.foldl (fun b o => gmin b (f o)) b)
  | [], Q, b, h, _, _, _ => h.congr fun n => by simp
  | o :: F, Q, b, h, k, hQ, hP => by
    rw [List.foldl_cons]
    refine (MinIs.fold P f F (fun n => Q n ∨ P o n) _ (h.min (k o (by simp)) hQ (hP o (by simp))) (fun x hx => k x (by simp [hx])) (fun n h => h.elim (hQ n) (hP o (by simp) n)) fun x hx => hP x (by simp [hx])).congr fun n => ?_
    simp only [List.mem_cons, exists_eq_or_imp, or_assoc]
theorem MinIs.none {inf : Nat} : MinIs inf (fun _ => False) inf := ⟨.inl ⟨rfl, fun _ h => h⟩⟩
def leastOf (bc : List Int) (F : List Int) : Int := F.foldl (fun b o => gmin b (bc.getD o.toNat 0)) 1048576
def fwR (s : Sea) (l : List Rep) : Nat → List Int
  | 0 => setK (fun p => untrueF s.wide l (0 : Nat) (placeP s.wide p)) (cellsL s)
  | h + 1 => setK (fun p => gmin 1048576 (leastOf (fwR s l h) (fromF s (h + 1 : Nat) p) + untrueF s.wide l (h + 1 : Nat) (placeP s.wide p))) (cellsL s)
def hrs (s : Sea) : Nat := s.hours.toNat
def bkR (s : Sea) (l : List Rep) : Nat → List Int
  | 0 => setK (fun p => untrueF s.wide l (hrs s - 1 : Nat) (placeP s.wide p)) (cellsL s)
  | j + 1 => setK (fun p => gmin 1048576 (leastOf (bkR s l j) (fromB s (hrs s - 1 - (j + 1) : Nat) p) + untrueF s.wide l (hrs s - 1 - (j + 1) : Nat) (placeP s.wide p))) (cellsL s)
def thrV (s : Sea) (l : List Rep) (h c : Nat) : Int := gmin 1048576 ((fwR s l h).getD c 0 + (bkR s l (hrs s - 1 - h)).getD c 0 - untrueF s.wide l h (placeP s.wide c))
def thrR (s : Sea) (l : List Rep) (h : Nat) : List Int := setK (thrV s l h) (cellsL s)
theorem wat_lt {s : Sea} (ho : s.Ok) {c : Nat} (h : c ∈ cellsL s) : c < 80 := by
  obtain ⟨j, hj, e⟩ := List.getElem_of_mem h
  have := (cellsL_in s ho (j := j) (k := c) (by rw [List.getElem?_eq_getElem hj, e])).2
  omega
theorem setK_at {s : Sea} (ho : s.Ok) (val : Nat → Int) {c : Nat} (h : c ∈ cellsL s) : (setK val (cellsL s)).getD c 0 = val c := by
  rw [setK_get val c _ (wat_lt ho h), if_pos h]
theorem setK_no {s : Sea} (val : Nat → Int) {c : Nat} (h8 : c < 80) (h : c ∉ cellsL s) : (setK val (cellsL s)).getD c 0 = 1048576 := by
  rw [setK_get val c _ h8, if_neg h]
theorem goL_all (s : Sea) (p : Nat → Bool) : goL s p (cellsL s).length = ((cellsL s).filter p).map Int.ofNat := by unfold goL; rw [List.take_length]
theorem leastOf_go (s : Sea) (bc : List Int) (p : Nat → Bool) : leastOf bc (goL s p (cellsL s).length) = ((cellsL s).filter p).foldl (fun b o => gmin b (bc.getD o 0)) 1048576 := by
  rw [goL_all]; unfold leastOf
  rw [List.foldl_map]; rfl
def FwP (s : Sea) (l : List Rep) (h c n : Nat) : Prop := ∃ t, t.length = h ∧ okW s 0 (t ++ [c]) ∧ costW s l 0 (t ++ [c]) = n
theorem FwP.le {s : Sea} {l : List Rep} (hl : l.length ≤ 24) {h c n : Nat} (k : FwP s l h c n) : n ≤ 24 * (h + 1) := by
  obtain ⟨t, rfl, _, rfl⟩ := k
  have := costW_le s hl (t ++ [c]) 0
  simpa using this
theorem FwP.mem {s : Sea} {l : List Rep} {h c n : Nat} (k : FwP s l h c n) : c ∈ cellsL s := by
  obtain ⟨t, _, k, _⟩ := k
  exact okW_mem s k c (by simp)
theorem FwP.zero {s : Sea} {l : List Rep} {c : Nat} (hc : c ∈ cellsL s) (n : Nat) : FwP s l 0 c n ↔ n = unN s l 0 c := by
  constructor
  · rintro ⟨t, h1, _, h3⟩
    cases t with
    | nil => simpa [costW] using h3.symm
    | cons a t => cases h1
  · rintro rfl; exact ⟨[], rfl, ⟨hc, fun d e => by simp at e, trivial⟩, by simp [costW]⟩
theorem FwP.succ {s : Sea} {l : List Rep} {h c : Nat} (hc : c ∈ cellsL s) (n : Nat) : FwP s l (h + 1) c n ↔ ∃ m, (∃ o ∈ (cellsL s).filter (fun o => stp s h o c), FwP s l h o m) ∧ n = m + unN s l (h + 1) c := by
  constructor
  · rintro ⟨t, h1, h2, h3⟩
    have hne : t ≠ [] := by intro e; rw [e] at h1; cases h1
    obtain ⟨t0, o, rfl⟩ : ∃ t0 o, t = t0 ++ [o] := ⟨t.dropLast, t.getLast hne, (List.dropLast_concat_getLast hne).symm⟩
    have hl0 : t0.length = h := by simpa using h1
    rw [List.append_assoc, List.singleton_append, okW_app] at h2
    obtain ⟨k1, k2, k3, k4⟩ := h2
    rw [Nat.zero_add, hl0] at k3
    refine ⟨costW s l 0 (t0 ++ [o]), ⟨o, List.mem_filter.2 ⟨k2, k3 c rfl⟩, t0, hl0, k1, rfl⟩, ?_⟩
    rw [← h3, costW_app s l (t0 ++ [o]) [c]]
    simp [costW, hl0]
  · rintro ⟨m, ⟨o, h1, t, h2, h3, h4⟩, rfl⟩
    obtain ⟨h5, h6⟩ := List.mem_filter.1 h1
    refine ⟨t ++ [o], by simp [h2], ?_, ?_⟩
    · rw [List.append_assoc, List.singleton_append, okW_app]
      refine ⟨h3, h5, fun d e => ?_, hc, fun d e => by simp at e, trivial⟩
      cases e
      rw [Nat.zero_add, h2]; exact h6
    · rw [costW_app s l (t ++ [o]) [c], h4]
      simp [costW, h2]
theorem fw_min {s : Sea} (ho : s.Ok) {l : List Rep} (hl : l.length ≤ 24) : ∀ (h : Nat), h < hrs s → ∀ c, c ∈ cellsL s → MinIs 1048576 (FwP s l h c) ((fwR s l h).getD c 0)
  | 0, _, c, hc => by
    rw [fwR, setK_at ho _ hc]
    exact ⟨.inr ⟨unN s l 0 c, rfl, (FwP.zero hc _).2 rfl, fun m h => by rw [(FwP.zero hc _).1 h]; exact Nat.le_refl _⟩⟩
  | h + 1, hh, c, hc => by
    have hr : hrs s ≤ 12 := by have := ho.hr; unfold hrs; omega
    rw [fwR, setK_at ho _ hc, show fromF s (h + 1 : Nat) c = goL s (fun o => stp s h o c) (cellsL s).length by unfold fromF; rw [show ((h + 1 : Nat) : Int) - 1 = (h : Int) by omega]; rfl, leastOf_go]
    have key := (MinIs.fold (FwP s l h) (fun o => (fwR s l h).getD o 0) ((cellsL s).filter fun o => stp s h o c) _ _ (MinIs.none (inf := 1048576)) (fun o ho' => fw_min ho hl h (by omega) o (List.mem_filter.1 ho').1) (fun n h => h.elim) fun o ho' n hn => by have := hn.le hl; omega).add (u := unN s l (h + 1) c) (fun n hn => by
      rcases hn with hn | ⟨o, _, hn⟩
      · exact hn.elim
      · have := hn.le hl; have := unN_le s hl (h + 1) c; omega)
    exact key.congr fun n => by rw [FwP.succ hc]; simp only [false_or]
def BwP (s : Sea) (l : List Rep) (h c n : Nat) : Prop := ∃ t, t.length + 1 + h = hrs s ∧ okW s h (c :: t) ∧ costW s l h (c :: t) = n
theorem BwP.le {s : Sea} {l : List Rep} (hl : l.length ≤ 24) {h c n : Nat} (k : BwP s l h c n) : n ≤ 24 * hrs s := by
  obtain ⟨t, h1, _, rfl⟩ := k
  have := costW_le s hl (c :: t) h
  simp only [List.length_cons] at this
  omega
theorem BwP.last {s : Sea} {l : List Rep} {h c : Nat} (hh : h + 1 = hrs s) (hc : c ∈ cellsL s) (n : Nat) : BwP s l h c n ↔ n = unN s l h c := by
  constructor
  · rintro ⟨t, h1, _, h3⟩
    cases t with
    | nil => simpa [costW] using h3.symm
    | cons a t => simp at h1; omega
  · rintro rfl; exact ⟨[], by simp; omega, ⟨hc, fun d e => by simp at e, trivial⟩, by simp [costW]⟩
theorem BwP.succ {s : Sea} {l : List Rep} {h c : Nat} (hh : h + 1 < hrs s) (hc : c ∈ cellsL s) (n : Nat) : BwP s l h c n ↔ ∃ m, (∃ o ∈ (cellsL s).filter (fun o => stp s h c o), BwP s l (h + 1) o m) ∧ n = m + unN s l h c := by
  constructor
  · rintro ⟨t, h1, h2, h3⟩
    cases t with
    | nil => simp at h1; omega
    | cons o t =>
      obtain ⟨k1, k2, k3⟩ := h2
      refine ⟨costW s l (h + 1) (o :: t), ⟨o, List.mem_filter.2 ⟨k3.1, k2 o rfl⟩, t, by simp only [List.length_cons] at h1; omega, k3, rfl⟩, ?_⟩
      rw [← h3, costW]; omega
  · rintro ⟨m, ⟨o, h1, t, h2, h3, h4⟩, rfl⟩
    obtain ⟨h5, h6⟩ := List.mem_filter.1 h1
    refine ⟨o :: t, by simp only [List.length_cons]; omega, ⟨hc, fun d e => by cases e; exact h6, h3⟩, ?_⟩
    rw [costW, h4]; omega
theorem bk_min {s : Sea} (ho : s.Ok) {l : List Rep} (hl : l.length ≤ 24) : ∀ (j : Nat), j < hrs s → ∀ c, c ∈ cellsL s → MinIs 1048576 (BwP s l (hrs s - 1 - j) c) ((bkR s l j).getD c 0)
  | 0, hj, c, hc => by
    have hh : hrs s - 1 - 0 + 1 = hrs s := by omega
    rw [bkR, setK_at ho _ hc]
    exact ⟨.inr ⟨unN s l (hrs s - 1) c, rfl, (BwP.last hh hc _).2 rfl, fun m h => by rw [(BwP.last hh hc _).1 h]; exact Nat.le_refl _⟩⟩
  | j + 1, hj, c, hc => by
    have hr : hrs s ≤ 12 := by have := ho.hr; unfold hrs; omega
    have hh : hrs s - 1 - (j + 1) + 1 = hrs s - 1 - j := by omega
    rw [bkR, setK_at ho _ hc, show fromB s (hrs s - 1 - (j + 1) : Nat) c = goL s (fun o => stp s (hrs s - 1 - (j + 1)) c o) (cellsL s).length from rfl, leastOf_go]
    have key := (MinIs.fold (BwP s l (hrs s - 1 - j)) (fun o => (bkR s l j).getD o 0) ((cellsL s).filter fun o => stp s (hrs s - 1 - (j + 1)) c o) _ _ (MinIs.none (inf := 1048576)) (fun o ho' => bk_min ho hl j (by omega) o (List.mem_filter.1 ho').1) (fun n h => h.elim) fun o ho' n hn => by have := hn.le hl; omega).add (u := unN s l (hrs s - 1 - (j + 1)) c) (fun n hn => by
      rcases hn with hn | ⟨o, _, hn⟩
      · exact hn.elim
      · have := hn.le hl; have := unN_le s hl (hrs s - 1 - (j + 1)) c; omega)
    exact key.congr fun n => by rw [BwP.succ (by omega) hc, hh]; simp only [false_or]
structure Trk (s : Sea) (T : List Nat) : Prop where
  len : T.length = hrs s
  ok : okW s 0 T
end Go.Proofs.Ytkfepnbanekfgaa

namespace Go.Proofs.Ytkfepnbanekfgaa
open Go Go.AL Go.AL.Q Go.AL.Sh
theorem _root_.Go.AL.RCall.out {P : Program} {g : FuncId} {args : List A} {Hl : Hp} {v v' : A} (h : RCall P g args Hl v) (hle : A.Le v' v) (hs : ∀ u, spareOf v' u = none) : RCall P g args Hl v' :=
  ⟨h.ent, hs, fun H c φ Z w vs h1 h2 h3 => (h.run H c φ Z w vs h1 h2 h3).mono fun e w' ⟨u, Z', h4, h5, h6, h7⟩ => ⟨u, Z', h4, hle.vr _ _ _ _ h5, h6, h7⟩⟩
def goneB (bc : List Int) (off : Nat) (F : List Int) : Int := F.foldl (fun b o => gmin b (bc.getD (off + o.toNat) 0)) 1048576
def goneV (s : Sea) (l : List Rep) (hour : Int) (frm : Nat → List Int) (bc : List Int) (off : Nat) (p : Nat) : Int := gmin 1048576 (goneB bc off (frm p) + untrueF s.wide l hour (placeP s.wide p))
theorem untrue_bd (s : Sea) (l : List Rep) (hl : RepFit s l) (hour : Int) (p : Sp) : 0 ≤ untrueF s.wide l hour p ∧ untrueF s.wide l hour p ≤ 24 := by
  have := List.countP_le_length (p := falseAt s.wide hour p) (l := l)
  have := hl.len
  unfold untrueF; omega
theorem goL_in (s : Sea) (ho : s.Ok) {p : Nat → Bool} {j : Nat} {o : Int} (h : o ∈ goL s p j) : 0 ≤ o ∧ o < 80 := by
  unfold goL at h
  obtain ⟨k, hk, rfl⟩ := List.mem_map.1 h
  have h1 := wat_lt ho (List.mem_of_mem_take (List.mem_filter.1 hk).1)
  show 0 ≤ (k : Int) ∧ (k : Int) < 80
  omega
theorem goneB_bd {bc : List Int} {off : Nat} (hbb : ∀ x ∈ bc, 0 ≤ x ∧ x ≤ 1048576) (hbl : off + 80 ≤ bc.length) : ∀ (F : List Int), (∀ o ∈ F, 0 ≤ o ∧ o < 80) → 0 ≤ goneB bc off F ∧ goneB bc off F ≤ 1048576 := by
  have key : ∀ (F : List Int) (b : Int), (∀ o ∈ F, 0 ≤ o ∧ o < 80) → 0 ≤ b ∧ b ≤ 1048576 → 0 ≤ F.foldl (fun b o => gmin b (bc.getD (off + o.toNat) 0)) b ∧ F.foldl (fun b o => gmin b (bc.getD (off + o.toNat) 0)) b ≤ 1048576 := by
    intro F
    induction F with
    | nil => intro b _ h; exact h
    | cons o F ih =>
      intro b hF h
      rw [List.foldl_cons]
      refine ih _ (fun x hx => hF x (by simp [hx])) ?_
      have ho := hF o (by simp)
      have hlt : off + o.toNat < bc.length := by omega
      have e : bc.getD (off + o.toNat) 0 = bc[off + o.toNat] := by simp [List.getD_eq_getElem?_getD, hlt]
      have h2 := hbb _ (List.getElem_mem hlt)
      rw [gmin_eq, e]; omega
  intro F hF
  exact key F 1048576 hF (by omega)
theorem goneB_succ (bc : List Int) (off : Nat) {F : List Int} {k : Nat} (h : k < F.length) : goneB bc off (F.take (k + 1)) = gmin (goneB bc off (F.take k)) (bc.getD (off + F[k].toNat) 0) := by
  unfold goneB
  rw [List.take_succ_eq_append_getElem h, List.foldl_append]; rfl
theorem getD_ints {bc : List Int} {j : Nat} (h : j < bc.length) : ((bc.map A.int).getD j .un).down = .int (bc.getD j 0) := by
  simp [List.getD_eq_getElem?_getD, h]; rfl
theorem least1_t (a b : Int) : Ans Try.prog 71 [.int a, .sl false .exact [[.int b]]] (.int (gmin a b)) := least_t a false .exact [b] (show ((1 : Nat) : Int) ≤ 9223372036854775806 by decide) (fun _ => rfl)
def outB (F : List Int) : A := .sl F.isEmpty .any (ints F)
theorem outB_le (F : List Int) : A.Le (outB F) (outA F) := by
  cases F with
  | nil => exact .any _ _ _
  | cons x l => exact .refl _
set_option maxRecDepth 20000 in
set_option maxHeartbeats 1000000 in
theorem goneF_s (s : Sea) (ho : s.Ok) (l : List Rep) (hl : RepFit s l) (hour : Int) (h0 : 0 ≤ hour - 1) (hd : hour - 1 < s.drift.length) (bc : List Int) (off : Nat) (hbl : off + 80 ≤ bc.length) (hbb : ∀ x ∈ bc, 0 ≤ x ∧ x ≤ 1048576) :
    SCall Try.prog 68 [.agg (logA s (.mp 20) l), forthA s l, .int hour, .ref 27 off] (ofH [(20, landB s), (27, cntB bc)]) 35 (fun v' H' _ => v' = .agg ((setK (goneV s l hour (fun p : Nat => fromF s hour p) bc off) (cellsL s)).map A.int) ∧ ∀ id bx, ofH [(20, landB s), (27, cntB bc)] id = some bx → H' id = some bx) := by
  have hlen : ∀ z ∈ (cellsL s).map fun k : Nat => [A.int k], z.length = 1 := fun z h => by obtain ⟨p, _, rfl⟩ := List.mem_map.1 h; rfl
  have hlm : ((cellsL s).map fun k : Nat => [A.int k]).length = (cellsL s).length := List.length_map _
  have hcl := cellsL_len s ho
  refine SCall.drop (post := fun v' H' _ => v' = .agg ((setK (goneV s l hour (fun p : Nat => fromF s hour p) bc off) (cellsL s)).map A.int) ∧ HasH H' [(20, landB s), (27, cntB bc)]) (SCall.of_bodyN tab_ok Try.func68 rfl Try.ntmps68 (Nat.le_of_ble_eq_true rfl) (allC (fun _ => rfl) (allC (fun _ => rfl) (allC (fun _ => rfl) (all1 fun _ => rfl)))) fun E hE => ?_)
    (fun v H' c' h => ⟨_, h.2.ofH, h.1, fun id bx h => h⟩)
  have h37 : ∀ id, 37 ≤ id → E.φ0 id = none := fun id h => hE id (by omega)
  have ulog : Under 37 (A.pt (logA s (.mp 20) l)) := .pt _ (logA_under s (by decide) l)
  have uway : Under 37 (A.pt [.fn (.func 78) [] [.pt (logA s (.mp 20) l)]]) := .pt _ (all1 (.fn _ _ _ (fun _ h => nomatch h) (all1 ulog)))
  have usa : Under 37 (A.pt (seaA s (.mp 20))) := .pt _ (sea_under s (by decide))
  have ufn : Under 37 (A.fn (.func 73) [] [.pt (seaA s (.mp 20))]) := .fn _ _ _ (fun _ h => nomatch h) (all1 usa)
  have ubp : Under 37 (A.pt [.ref 27 off]) := .pt _ (all1 (.ref _ _ (by decide)))
  have ucst : UnderL 37 [(4, .pt (logA s (.mp 20) l)), (5, .pt [.fn (.func 78) [] [.pt (logA s (.mp 20) l)]]), (6, .pt [.int hour]), (7, .pt [.ref 27 off]), (8, .ref 35 0), (9, .ref 36 0)] := ⟨ulog, uway, .pt _ (all1 (.s _)), ubp, .ref _ _ (by decide), .ref _ _ (by decide), trivial⟩
  have uH : ∀ b : List Int, UnderH 37 [(20, landB s), (27, cntB bc), (35, cntB (nevK 0)), (36, cntB (b))] := fun b => ⟨⟨by decide, map_under _⟩, ⟨by decide, cntB_under _⟩, ⟨by decide, cntB_under _⟩, ⟨by decide, cntB_under _⟩, trivial⟩
  refine Aw.sm tab_ok mb0 [] rfl rfl ?zo ?zk
  case zo =>
    repeat' apply AllP.cons
    all_goals first | exact trivial
  case zk =>
  refine Aw.sm tab_ok mb0 [] rfl rfl ?zo ?zk
  case zo =>
    repeat' apply AllP.cons
    all_goals first | exact trivial
  case zk =>
  refine Aw.seq ?_
  refine Aw.sm tab_ok mb0 [] rfl rfl ?zo ?zk
  case zo =>
    repeat' apply AllP.cons
    all_goals first | exact trivial
  case zk =>
  refine Aw.block (Aw.rounds 37 h37 [(4, .pt (logA s (.mp 20) l)), (5, .pt [.fn (.func 78) [] [.pt (logA s (.mp 20) l)]]), (6, .pt [.int hour]), (7, .pt [.ref 27 off]), (8, .ref 35 0), (9, .ref 36 0)] (fun k : Nat => [(16, .int k)]) (fun k => [(20, landB s), (27, cntB bc), (35, cntB (nevK 0)), (36, cntB (nevK k))]) (fun k => k ≤ 80) (fun k => 80 - k) 0 ?zg ⟨?zc, ?zv, ?zh, Nat.le_of_ble_eq_true rfl⟩ ?zu (fun k zhk => ?zw) (fun k zhk => ?zx) fun k hk => ?zr)
  case zg =>
    (repeat' (first | exact Nat.zero_le _))
  case zc =>
    (repeat' (first | (refine And.intro ?_ ?_) | exact trivial | exact A.Le.refl _))
  case zv =>
    (repeat' (first | (refine And.intro ?_ ?_) | exact trivial | exact A.Le.refl _))
  case zh =>
    (repeat' (first | (refine And.intro ?_ ?_) | exact trivial | exact rfl))
  case zu =>
    (repeat' (first | assumption))
  case zw =>
    (repeat' (first | exact trivial | exact Under.s _ | (refine And.intro ?_ ?_)))
  case zx =>
    (repeat' (first | exact uH _))
  case zr =>
  refine Aw.sm tab_ok mb0 [] rfl rfl ?zo ?zk
  case zo =>
    repeat' apply AllP.cons
    all_goals first | exact trivial
  case zk =>
  refine Aw.seq (Aw.cond rfl (fun h1 => Aw.skip1 ?_) (fun h1 => Aw.exit2 ?_))
  · have hlt : k < 80 := by have := of_decide_eq_true h1; omega
    have hn := nevK_len hk
    have hst := nevK_step hlt
    generalize nevK k = G at *
    refine Aw.seq (Aw.block ?_)
    refine Aw.sm tab_ok mb0 [] rfl rfl ?zo ?zk
    case zo =>
      repeat' apply AllP.cons
      all_goals first | exact trivial
    case zk =>
    refine Aw.em tab_ok mb0 [] rfl rfl ?zo ?zk
    case zo =>
      repeat' apply AllP.cons
      all_goals first | exact trivial | exact rfl | exact Int.natCast_nonneg _ | exact (show 0 + (Int.toNat (k : Int)) * 1 + 1 ≤ (G.map A.int).length by rw [List.length_map, hn, Int.toNat_natCast]; omega) | exact (by simp only [Ob.of]; omega)
    case zk =>
    refine Aw.em tab_ok mb0 [] rfl rfl ?zo ?zk
    case zo =>
      repeat' apply AllP.cons
      all_goals first | exact trivial | exact inrk k (by omega)
    case zk =>
    refine ⟨k + 1, ?zg, ?zm, ⟨?zc, ?zv, ?zh, Nat.le_of_ble_eq_true rfl⟩⟩
    case zg =>
      (repeat' (first | assumption))
    case zm =>
      (repeat' (first | omega))
    case zc =>
      (repeat' (first | (refine And.intro ?_ ?_) | exact trivial | exact A.Le.refl _))
    case zv =>
      (repeat' (first | (refine And.intro ?_ ?_) | exact trivial | exact A.Le.refl _))
    case zh =>
      (repeat' (first | (refine And.intro ?_ ?_) | exact trivial | exact rfl | (rw [← hst]; exact congrArg (fun x => some (B.cells x)) (set_cells (by omega)))))
  have hle : k = 80 := by have := of_decide_eq_false h1; omega
  subst hle
  generalize hval : goneV s l hour (fun p : Nat => fromF s hour p) bc off = val at *
  refine Aw.seq ?_
  refine Aw.sm tab_ok mb0 [(2, [.fn (.func 73) [] [.pt (seaA s (.mp 20))], .tup [.mp 20]])] rfl rfl ?zo ?zk
  case zo =>
    repeat' apply AllP.cons
    all_goals first | exact trivial | exact Nat.le_of_ble_eq_true rfl | exact at20 (cells_r s) rfl
  case zk =>
  refine Aw.keep (n := 37) (cst := [(4, .pt (logA s (.mp 20) l)), (5, .pt [.fn (.func 78) [] [.pt (logA s (.mp 20) l)]]), (6, .pt [.int hour]), (7, .pt [.ref 27 off]), (8, .ref 35 0), (9, .ref 36 0)]) (v := [(24, .fn (.func 73) [] [.pt (seaA s (.mp 20))])]) (Hl := [(20, landB s), (27, cntB bc), (35, cntB (nevK 0)), (36, cntB (setK val ((cellsL s).take 0)))]) h37 ?zu ?zw ?zx ⟨?zc, ?zv, ?zh, Nat.le_of_ble_eq_true rfl⟩ ?zr
  case zu =>
    (repeat' (first | assumption))
  case zw =>
    (repeat' (first | exact trivial | assumption | (refine And.intro ?_ ?_)))
  case zx =>
    (repeat' (first | exact uH _))
  case zc =>
    (repeat' (first | (refine And.intro ?_ ?_) | exact trivial | exact A.Le.refl _))
  case zv =>
    (repeat' (first | (refine And.intro ?_ ?_) | exact trivial | exact A.Le.refl _))
  case zh =>
    (repeat' (first | (refine And.intro ?_ ?_) | exact trivial | exact rfl))
  case zr =>
  refine Aw.block (Aw.iterM rfl (enters_of Try.func73 rfl rfl) ((cellsL s).map fun k : Nat => [A.int k]) (fun j H => H = ofH [(20, landB s), (27, cntB bc), (35, cntB (nevK 0)), (36, cntB (setK val ((cellsL s).take j)))]) (fun _ _ => False) rfl hlen
    (ofL2_under (UnderL.app (l := [(24, .fn (.func 73) [] [.pt (seaA s (.mp 20))])]) ⟨ufn, trivial⟩ ucst))
    (by rintro j H rfl; exact UnderH.ofH (uH _)) (fun _ _ h => h.elim)
    (fun it hIJ H hI => by rw [hlm]; exact cells1_t s ho it (Nat.lt_succ_self _) (Nat.le_of_ble_eq_true rfl) (fun k H h => by obtain ⟨H0, rfl, h2⟩ := hIJ k H h; rw [h2 20 (Nat.ne_of_beq_eq_false rfl)]; rfl) hI) rfl ?_ ?_ (fun _ _ _ _ ⟨_, h, _⟩ => h.elim))
  · intro lpB ulp j as' ha H hI E2 b2 hE2
    subst hI
    obtain ⟨p, hp, rfl⟩ : ∃ p, (cellsL s)[j]? = some p ∧ [A.int (p : Nat)] = as' := by
      rw [List.getElem?_map] at ha
      cases e : (cellsL s)[j]? with
      | none => rw [e] at ha; cases ha
      | some p => rw [e] at ha; exact ⟨p, rfl, by simpa using ha⟩
    have hgo := setK_succ val hp
    have hgl := setK_len val ((cellsL s).take j)
    have hpc := cellsL_in s ho hp
    have hv : val p = gmin 1048576 (goneB bc off (fromF s hour p) + untrueF s.wide l hour (placeP s.wide p)) := by rw [← hval]; rfl
    have hub := untrue_bd s l hl hour (placeP s.wide p)
    have hin : ∀ o ∈ fromF s hour p, 0 ≤ o ∧ o < 80 := fun o h => goL_in s ho h
    have hbd : ∀ k, 0 ≤ goneB bc off ((fromF s hour p).take k) ∧ goneB bc off ((fromF s hour p).take k) ≤ 1048576 := fun k => goneB_bd hbb hbl _ fun o ho' => hin o (List.mem_of_mem_take ho')
    have hfl : (fromF s hour p).length ≤ 80 := Nat.le_trans (goL_len s _ _) hcl
    have hur := untrue_t s ho l hl 20 hour p (by omega)
    have hrr : RCall Try.prog 78 [.int hour, .int p, .pt (logA s (.mp 20) l)] (landH s) (outB (fromF s hour p)) := (forth_r s ho l hour p h0 hd (by omega)).out (outB_le _) fun _ => rfl
    generalize setK val ((cellsL s).take j) = G at *
    generalize setK val ((cellsL s).take (j + 1)) = G' at *
    subst hgo
    generalize untrueF s.wide l hour (placeP s.wide p) = u at *
    generalize fromF s hour p = F at *
    generalize val p = vp at *
    have h38 : ∀ id, 38 ≤ id → E2.φ0 id = none := hE2
    refine Aw.em tab_ok mb0 [] rfl rfl ?zo ?zk
    case zo =>
      repeat' apply AllP.cons
      all_goals first | exact trivial
    case zk =>
    refine ⟨rfl, rfl, ?_⟩
    refine Aw.block ?_
    refine Aw.sm tab_ok mb0 [(3, [.int u])] rfl rfl ?zo ?zk
    case zo =>
      repeat' apply AllP.cons
      all_goals first | exact trivial | exact Nat.le_of_ble_eq_true rfl | exact hur
    case zk =>
    refine Aw.seq ?_
    refine Aw.sm tab_ok mb0 [] rfl rfl ?zo ?zk
    case zo =>
      repeat' apply AllP.cons
      all_goals first | exact trivial | exact Nat.le_of_ble_eq_true rfl
    case zk =>
    refine Aw.cond rfl (fun h2 => absurd h2 (by decide)) (fun h2 => Aw.skip ?_)
    refine Aw.sm tab_ok mb0 [] rfl rfl ?zo ?zk
    case zo =>
      repeat' apply AllP.cons
      all_goals first | exact trivial
    case zk =>
    refine Aw.seq ?_
    refine Aw.sm tab_ok mb0 [(4, [outB F, .tup [.mp 20]])] rfl rfl ?zo ?zk
    case zo =>
      repeat' apply AllP.cons
      all_goals first | exact trivial | exact Nat.le_of_ble_eq_true rfl | exact at20 hrr rfl
    case zk =>
    have fl : ((ints F).length : Int) = F.length := by simp [ints]
    have uF : Under 38 (outB F) := (free_ints _ _ _).under
    have ulp38 : UnderB 38 (lpB .busy none) := (ulp _ _).mono (Nat.le_of_ble_eq_true rfl)
    have um := (map_under (n := 38) (landF s.wide s.land))
    have ubp' : Under 38 (A.pt [.ref 27 off]) := .pt _ (all1 (.ref _ _ (by decide)))
    refine Aw.block (Aw.rounds 38 h38 [(7, .pt [.ref 27 off]), (9, .ref 36 0), (11, .int p), (12, .int u), (39, outB F), (40, .int F.length)] (fun k : Nat => [(13, .int (goneB bc off (F.take k))), (41, .int k)]) (fun k => [(37, lpB .busy none), (20, landB s), (27, cntB bc), (35, cntB (nevK 0)), (36, cntB G)]) (fun k => k ≤ F.length) (fun k => F.length - k) 0 ?zg ⟨?zc, ?zv, ?zh, Nat.le_of_ble_eq_true rfl⟩ ?zu (fun k zhk => ?zw) (fun k zhk => ?zx) fun k hk => ?zr)
    case zg =>
      (repeat' (first | exact Nat.zero_le _))
    case zc =>
      (repeat' (first | (refine And.intro ?_ ?_) | exact trivial | exact A.Le.refl _ | exact .of_eq (congrArg A.int fl.symm)))
    case zv =>
      (repeat' (first | (refine And.intro ?_ ?_) | exact trivial | exact A.Le.refl _))
    case zh =>
      (repeat' (first | (refine And.intro ?_ ?_) | exact trivial | exact rfl))
    case zu =>
      (repeat' (first | exact trivial | exact Under.s _ | assumption | exact Under.ref _ _ (by decide) | (refine And.intro ?_ ?_)))
    case zw =>
      (repeat' (first | exact trivial | exact Under.s _ | (refine And.intro ?_ ?_)))
    case zx =>
      (repeat' (first | exact trivial | assumption | exact Nat.le_of_ble_eq_true rfl | exact cntB_under _ | (refine And.intro ?_ ?_)))
    case zr =>
    refine Aw.sm tab_ok mb0 [] rfl rfl ?zo ?zk
    case zo =>
      repeat' apply AllP.cons
      all_goals first | exact trivial
    case zk =>
    refine Aw.seq (Aw.cond rfl (fun h3 => Aw.skip1 ?_) (fun h3 => Aw.exit2 ?_))
    · have hlt : k < F.length := by have := of_decide_eq_true h3; omega
      have ho1 := hin _ (List.getElem_mem hlt)
      have hst := goneB_succ bc off hlt
      have hob : off + F[k].toNat * 1 < (bc.map A.int).length := by rw [List.length_map]; omega
      have hld : ((bc.map A.int).getD (off + F[k].toNat * 1) .un).down = .int (bc.getD (off + F[k].toNat) 0) := by rw [Nat.mul_one]; exact getD_ints (by omega)
      refine Aw.seq (Aw.block ?_)
      refine Aw.sm tab_ok mb0 [(0, [.int F[k]])] rfl rfl ?zo ?zk
      case zo =>
        repeat' apply AllP.cons
        all_goals first | exact trivial | exact rfl | exact Nat.le_of_ble_eq_true rfl | exact Int.natCast_nonneg _ | exact ints_get hlt
      case zk =>
      generalize F[k] = o at *
      generalize bc.getD (off + o.toNat) 0 = bo at *
      refine Aw.em tab_ok mb0 [(5, [.int bo]), (7, [.int (gmin (goneB bc off (F.take k)) bo)])] rfl rfl ?zo ?zk
      case zo =>
        repeat' apply AllP.cons
        all_goals first | exact trivial | exact Nat.le_of_ble_eq_true rfl | exact ho1.1 | exact ho1.2 | exact hld | exact hob | exact least1_t _ _
      case zk =>
      refine Aw.em tab_ok mb0 [] rfl rfl ?zo ?zk
      case zo =>
        repeat' apply AllP.cons
        all_goals first | exact trivial | exact inrk k (by omega)
      case zk =>
      refine ⟨k + 1, ?zg, ?zm, ⟨?zc, ?zv, ?zh, Nat.le_of_ble_eq_true rfl⟩⟩
      case zg =>
        (repeat' (first | assumption))
      case zm =>
        (repeat' (first | omega))
      case zc =>
        (repeat' (first | (refine And.intro ?_ ?_) | exact trivial | exact A.Le.refl _))
      case zv =>
        (repeat' (first | (refine And.intro ?_ ?_) | exact trivial | exact A.Le.refl _ | exact .of_eq (congrArg A.int hst)))
      case zh =>
        (repeat' (first | (refine And.intro ?_ ?_) | exact trivial | exact rfl))
    have hle : k = F.length := by have := of_decide_eq_false h3; omega
    subst hle
    have hbe := hbd F.length
    rw [List.take_length] at hbe ⊢
    have hlv := hv ▸ least1_t 1048576 (goneB bc off F + u)
    refine Aw.em tab_ok mb0 [(5, [.int vp])] rfl rfl ?zo ?zk
    case zo =>
      repeat' apply AllP.cons
      all_goals first | exact trivial | exact rfl | exact Nat.le_of_ble_eq_true rfl | exact Int.natCast_nonneg _ | exact (by simp only [Ob.of, inR]; omega) | exact hlv | exact (show 0 + (Int.toNat ((p : Nat) : Int)) * 1 + 1 ≤ (G.map A.int).length by rw [List.length_map, hgl, Int.toNat_natCast]; omega)
    case zk =>
    exact ⟨⟨_, _, rfl⟩, Nat.le_of_ble_eq_true rfl, _, rfl, HasH.ofH (l := [(20, landB s), (27, cntB bc), (35, cntB (nevK 0)), (36, cntB (G.set p vp))]) ⟨rfl, rfl, rfl, congrArg (fun x => some (B.cells x)) (set_cells (by omega)), trivial⟩⟩
  · rintro H c' hc' ⟨H0, rfl, hs⟩
    rw [hlm, List.take_length] at hs
    have hH := hasH_of_sub (l := [(20, landB s), (27, cntB bc), (35, cntB (nevK 0)), (36, cntB (setK val (cellsL s)))]) rfl hs
    have hgl := setK_len val (cellsL s)
    generalize setK val (cellsL s) = G at *
    refine Aw.keep (n := 37) (cst := [(8, .ref 35 0), (9, .ref 36 0)]) (v := []) (Hl := [(20, landB s), (27, cntB bc), (35, cntB (nevK 0)), (36, cntB (G))]) h37 ⟨.ref _ _ (by decide), .ref _ _ (by decide), trivial⟩ trivial (uH _)
      ⟨⟨.refl _, .refl _, trivial⟩, trivial, hH, hc'⟩ ?_
    refine Aw.sm tab_ok mb0 [(0, [.agg (G.map A.int)])] rfl rfl ?zo ?zk
    case zo =>
      repeat' apply AllP.cons
      all_goals first | exact trivial | exact Nat.le_of_ble_eq_true rfl | exact ld80 hgl | exact (show (0 : Nat) + 80 ≤ (G.map A.int).length by rw [List.length_map, hgl]; decide) | exact (show (G.map A.int).length = 80 by rw [List.length_map, hgl])
    case zk =>
    refine Aw.keep (n := 37) (cst := [(8, .ref 35 0)]) (v := [(3, A.un)]) (Hl := [(20, landB s), (27, cntB bc), (35, cntB G)]) h37 ⟨.ref _ _ (by decide), trivial⟩ ⟨.un, trivial⟩ ⟨⟨by decide, map_under _⟩, ⟨by decide, cntB_under _⟩, ⟨by decide, cntB_under _⟩, trivial⟩
      ⟨⟨.refl _, trivial⟩, ⟨⟨fun _ _ _ v _ => .un v, fun u p h => absurd h (by simp [spareOf])⟩, trivial⟩, ⟨rfl, rfl, congrArg (fun x => some (B.cells x)) (set80 hgl), trivial⟩, Nat.le_of_ble_eq_true rfl⟩ ?_
    exact Aw.ret ⟨_, .cons (resC rfl rfl rfl (by rw [Nat.ble_eq, List.length_map, hgl]; exact Nat.le_refl 80) (ld80 hgl)) .nil, rfl, ⟨rfl, rfl, trivial⟩⟩
set_option maxRecDepth 20000 in
set_option maxHeartbeats 1000000 in
theorem goneR_s (s : Sea) (ho : s.Ok) (l : List Rep) (hl : RepFit s l) (hour : Int) (h0 : 0 ≤ hour) (hd : hour < s.drift.length) (bc : List Int) (off : Nat) (hbl : off + 80 ≤ bc.length) (hbb : ∀ x ∈ bc, 0 ≤ x ∧ x ≤ 1048576) :
    SCall Try.prog 68 [.agg (logA s (.mp 20) l), backA s l, .int hour, .ref 32 off] (ofH [(20, landB s), (32, cntB bc)]) 35 (fun v' H' _ => v' = .agg ((setK (goneV s l hour (fun p : Nat => fromB s hour p) bc off) (cellsL s)).map A.int) ∧ ∀ id bx, ofH [(20, landB s), (32, cntB bc)] id = some bx → H' id = some bx) := by
  have hlen : ∀ z ∈ (cellsL s).map fun k : Nat => [A.int k], z.length = 1 := fun z h => by obtain ⟨p, _, rfl⟩ := List.mem_map.1 h; rfl
  have hlm : ((cellsL s).map fun k : Nat => [A.int k]).length = (cellsL s).length := List.length_map _
  have hcl := cellsL_len s ho
  refine SCall.drop (post := fun v' H' _ => v' = .agg ((setK (goneV s l hour (fun p : Nat => fromB s hour p) bc off) (cellsL s)).map A.int) ∧ HasH H' [(20, landB s), (32, cntB bc)]) (SCall.of_bodyN tab_ok Try.func68 rfl Try.ntmps68 (Nat.le_of_ble_eq_true rfl) (allC (fun _ => rfl) (allC (fun _ => rfl) (allC (fun _ => rfl) (all1 fun _ => rfl)))) fun E hE => ?_)
    (fun v H' c' h => ⟨_, h.2.ofH, h.1, fun id bx h => h⟩)
  have h37 : ∀ id, 37 ≤ id → E.φ0 id = none := fun id h => hE id (by omega)
  have ulog : Under 37 (A.pt (logA s (.mp 20) l)) := .pt _ (logA_under s (by decide) l)
  have uway : Under 37 (A.pt [.fn (.func 80) [] [.pt (logA s (.mp 20) l)]]) := .pt _ (all1 (.fn _ _ _ (fun _ h => nomatch h) (all1 ulog)))
  have usa : Under 37 (A.pt (seaA s (.mp 20))) := .pt _ (sea_under s (by decide))
  have ufn : Under 37 (A.fn (.func 73) [] [.pt (seaA s (.mp 20))]) := .fn _ _ _ (fun _ h => nomatch h) (all1 usa)
  have ubp : Under 37 (A.pt [.ref 32 off]) := .pt _ (all1 (.ref _ _ (by decide)))
  have ucst : UnderL 37 [(4, .pt (logA s (.mp 20) l)), (5, .pt [.fn (.func 80) [] [.pt (logA s (.mp 20) l)]]), (6, .pt [.int hour]), (7, .pt [.ref 32 off]), (8, .ref 35 0), (9, .ref 36 0)] := ⟨ulog, uway, .pt _ (all1 (.s _)), ubp, .ref _ _ (by decide), .ref _ _ (by decide), trivial⟩
  have uH : ∀ b : List Int, UnderH 37 [(20, landB s), (32, cntB bc), (35, cntB (nevK 0)), (36, cntB (b))] := fun b => ⟨⟨by decide, map_under _⟩, ⟨by decide, cntB_under _⟩, ⟨by decide, cntB_under _⟩, ⟨by decide, cntB_under _⟩, trivial⟩
  refine Aw.sm tab_ok mb0 [] rfl rfl ?zo ?zk
  case zo =>
    repeat' apply AllP.cons
    all_goals first | exact trivial
  case zk =>
  refine Aw.sm tab_ok mb0 [] rfl rfl ?zo ?zk
  case zo =>
    repeat' apply AllP.cons
    all_goals first | exact trivial
  case zk =>
  refine Aw.seq ?_
  refine Aw.sm tab_ok mb0 [] rfl rfl ?zo ?zk
  case zo =>
    repeat' apply AllP.cons
    all_goals first | exact trivial
  case zk =>
  refine Aw.block (Aw.rounds 37 h37 [(4, .pt (logA s (.mp 20) l)), (5, .pt [.fn (.func 80) [] [.pt (logA s (.mp 20) l)]]), (6, .pt [.int hour]), (7, .pt [.ref 32 off]), (8, .ref 35 0), (9, .ref 36 0)] (fun k : Nat => [(16, .int k)]) (fun k => [(20, landB s), (32, cntB bc), (35, cntB (nevK 0)), (36, cntB (nevK k))]) (fun k => k ≤ 80) (fun k => 80 - k) 0 ?zg ⟨?zc, ?zv, ?zh, Nat.le_of_ble_eq_true rfl⟩ ?zu (fun k zhk => ?zw) (fun k zhk => ?zx) fun k hk => ?zr)
  case zg =>
    (repeat' (first | exact Nat.zero_le _))
  case zc =>
    (repeat' (first | (refine And.intro ?_ ?_) | exact trivial | exact A.Le.refl _))
  case zv =>
    (repeat' (first | (refine And.intro ?_ ?_) | exact trivial | exact A.Le.refl _))
  case zh =>
    (repeat' (first | (refine And.intro ?_ ?_) | exact trivial | exact rfl))
  case zu =>
    (repeat' (first | assumption))
  case zw =>
    (repeat' (first | exact trivial | exact Under.s _ | (refine And.intro ?_ ?_)))
  case zx =>
    (repeat' (first | exact uH _))
  case zr =>
  refine Aw.sm tab_ok mb0 [] rfl rfl ?zo ?zk
  case zo =>
    repeat' apply AllP.cons
    all_goals first | exact trivial
  case zk =>
  refine Aw.seq (Aw.cond rfl (fun h1 => Aw.skip1 ?_) (fun h1 => Aw.exit2 ?_))
  · have hlt : k < 80 := by have := of_decide_eq_true h1; omega
    have hn := nevK_len hk
    have hst := nevK_step hlt
    generalize nevK k = G at *
    refine Aw.seq (Aw.block ?_)
    refine Aw.sm tab_ok mb0 [] rfl rfl ?zo ?zk
    case zo =>
      repeat' apply AllP.cons
      all_goals first | exact trivial
    case zk =>
    refine Aw.em tab_ok mb0 [] rfl rfl ?zo ?zk
    case zo =>
      repeat' apply AllP.cons
      all_goals first | exact trivial | exact rfl | exact Int.natCast_nonneg _ | exact (show 0 + (Int.toNat (k : Int)) * 1 + 1 ≤ (G.map A.int).length by rw [List.length_map, hn, Int.toNat_natCast]; omega) | exact (by simp only [Ob.of]; omega)
    case zk =>
    refine Aw.em tab_ok mb0 [] rfl rfl ?zo ?zk
    case zo =>
      repeat' apply AllP.cons
      all_goals first | exact trivial | exact inrk k (by omega)
    case zk =>
    refine ⟨k + 1, ?zg, ?zm, ⟨?zc, ?zv, ?zh, Nat.le_of_ble_eq_true rfl⟩⟩
    case zg =>
      (repeat' (first | assumption))
    case zm =>
      (repeat' (first | omega))
    case zc =>
      (repeat' (first | (refine And.intro ?_ ?_) | exact trivial | exact A.Le.refl _))
    case zv =>
      (repeat' (first | (refine And.intro ?_ ?_) | exact trivial | exact A.Le.refl _))
    case zh =>
      (repeat' (first | (refine And.intro ?_ ?_) | exact trivial | exact rfl | (rw [← hst]; exact congrArg (fun x => some (B.cells x)) (set_cells (by omega)))))
  have hle : k = 80 := by have := of_decide_eq_false h1; omega
  subst hle
  generalize hval : goneV s l hour (fun p : Nat => fromB s hour p) bc off = val at *
  refine Aw.seq ?_
  refine Aw.sm tab_ok mb0 [(2, [.fn (.func 73) [] [.pt (seaA s (.mp 20))], .tup [.mp 20]])] rfl rfl ?zo ?zk
  case zo =>
    repeat' apply AllP.cons
    all_goals first | exact trivial | exact Nat.le_of_ble_eq_true rfl | exact at20 (cells_r s) rfl
  case zk =>
  refine Aw.keep (n := 37) (cst := [(4, .pt (logA s (.mp 20) l)), (5, .pt [.fn (.func 80) [] [.pt (logA s (.mp 20) l)]]), (6, .pt [.int hour]), (7, .pt [.ref 32 off]), (8, .ref 35 0), (9, .ref 36 0)]) (v := [(24, .fn (.func 73) [] [.pt (seaA s (.mp 20))])]) (Hl := [(20, landB s), (32, cntB bc), (35, cntB (nevK 0)), (36, cntB (setK val ((cellsL s).take 0)))]) h37 ?zu ?zw ?zx ⟨?zc, ?zv, ?zh, Nat.le_of_ble_eq_true rfl⟩ ?zr
  case zu =>
    (repeat' (first | assumption))
  case zw =>
    (repeat' (first | exact trivial | assumption | (refine And.intro ?_ ?_)))
  case zx =>
    (repeat' (first | exact uH _))
  case zc =>
    (repeat' (first | (refine And.intro ?_ ?_) | exact trivial | exact A.Le.refl _))
  case zv =>
    (repeat' (first | (refine And.intro ?_ ?_) | exact trivial | exact A.Le.refl _))
  case zh =>
    (repeat' (first | (refine And.intro ?_ ?_) | exact trivial | exact rfl))
  case zr =>
  refine Aw.block (Aw.iterM rfl (enters_of Try.func73 rfl rfl) ((cellsL s).map fun k : Nat => [A.int k]) (fun j H => H = ofH [(20, landB s), (32, cntB bc), (35, cntB (nevK 0)), (36, cntB (setK val ((cellsL s).take j)))]) (fun _ _ => False) rfl hlen
    (ofL2_under (UnderL.app (l := [(24, .fn (.func 73) [] [.pt (seaA s (.mp 20))])]) ⟨ufn, trivial⟩ ucst))
    (by rintro j H rfl; exact UnderH.ofH (uH _)) (fun _ _ h => h.elim)
    (fun it hIJ H hI => by rw [hlm]; exact cells1_t s ho it (Nat.lt_succ_self _) (Nat.le_of_ble_eq_true rfl) (fun k H h => by obtain ⟨H0, rfl, h2⟩ := hIJ k H h; rw [h2 20 (Nat.ne_of_beq_eq_false rfl)]; rfl) hI) rfl ?_ ?_ (fun _ _ _ _ ⟨_, h, _⟩ => h.elim))
  · intro lpB ulp j as' ha H hI E2 b2 hE2
    subst hI
    obtain ⟨p, hp, rfl⟩ : ∃ p, (cellsL s)[j]? = some p ∧ [A.int (p : Nat)] = as' := by
      rw [List.getElem?_map] at ha
      cases e : (cellsL s)[j]? with
      | none => rw [e] at ha; cases ha
      | some p => rw [e] at ha; exact ⟨p, rfl, by simpa using ha⟩
    have hgo := setK_succ val hp
    have hgl := setK_len val ((cellsL s).take j)
    have hpc := cellsL_in s ho hp
    have hv : val p = gmin 1048576 (goneB bc off (fromB s hour p) + untrueF s.wide l hour (placeP s.wide p)) := by rw [← hval]; rfl
    have hub := untrue_bd s l hl hour (placeP s.wide p)
    have hin : ∀ o ∈ fromB s hour p, 0 ≤ o ∧ o < 80 := fun o h => goL_in s ho h
    have hbd : ∀ k, 0 ≤ goneB bc off ((fromB s hour p).take k) ∧ goneB bc off ((fromB s hour p).take k) ≤ 1048576 := fun k => goneB_bd hbb hbl _ fun o ho' => hin o (List.mem_of_mem_take ho')
    have hfl : (fromB s hour p).length ≤ 80 := Nat.le_trans (goL_len s _ _) hcl
    have hur := untrue_t s ho l hl 20 hour p (by omega)
    have hrr : RCall Try.prog 80 [.int hour, .int p, .pt (logA s (.mp 20) l)] (landH s) (outB (fromB s hour p)) := (back_r s ho l hour p h0 hd (by omega)).out (outB_le _) fun _ => rfl
    generalize setK val ((cellsL s).take j) = G at *
    generalize setK val ((cellsL s).take (j + 1)) = G' at *
    subst hgo
    generalize untrueF s.wide l hour (placeP s.wide p) = u at *
    generalize fromB s hour p = F at *
    generalize val p = vp at *
    have h38 : ∀ id, 38 ≤ id → E2.φ0 id = none := hE2
    refine Aw.em tab_ok mb0 [] rfl rfl ?zo ?zk
    case zo =>
      repeat' apply AllP.cons
      all_goals first | exact trivial
    case zk =>
    refine ⟨rfl, rfl, ?_⟩
    refine Aw.block ?_
    refine Aw.sm tab_ok mb0 [(3, [.int u])] rfl rfl ?zo ?zk
    case zo =>
      repeat' apply AllP.cons
      all_goals first | exact trivial | exact Nat.le_of_ble_eq_true rfl | exact hur
    case zk =>
    refine Aw.seq ?_
    refine Aw.sm tab_ok mb0 [] rfl rfl ?zo ?zk
    case zo =>
      repeat' apply AllP.cons
      all_goals first | exact trivial | exact Nat.le_of_ble_eq_true rfl
    case zk =>
    refine Aw.cond rfl (fun h2 => absurd h2 (by decide)) (fun h2 => Aw.skip ?_)
    refine Aw.sm tab_ok mb0 [] rfl rfl ?zo ?zk
    case zo =>
      repeat' apply AllP.cons
      all_goals first | exact trivial
    case zk =>
    refine Aw.seq ?_
    refine Aw.sm tab_ok mb0 [(4, [outB F, .tup [.mp 20]])] rfl rfl ?zo ?zk
    case zo =>
      repeat' apply AllP.cons
      all_goals first | exact trivial | exact Nat.le_of_ble_eq_true rfl | exact at20 hrr rfl
    case zk =>
    have fl : ((ints F).length : Int) = F.length := by simp [ints]
    have uF : Under 38 (outB F) := (free_ints _ _ _).under
    have ulp38 : UnderB 38 (lpB .busy none) := (ulp _ _).mono (Nat.le_of_ble_eq_true rfl)
    have um := (map_under (n := 38) (landF s.wide s.land))
    have ubp' : Under 38 (A.pt [.ref 32 off]) := .pt _ (all1 (.ref _ _ (by decide)))
    refine Aw.block (Aw.rounds 38 h38 [(7, .pt [.ref 32 off]), (9, .ref 36 0), (11, .int p), (12, .int u), (39, outB F), (40, .int F.length)] (fun k : Nat => [(13, .int (goneB bc off (F.take k))), (41, .int k)]) (fun k => [(37, lpB .busy none), (20, landB s), (32, cntB bc), (35, cntB (nevK 0)), (36, cntB G)]) (fun k => k ≤ F.length) (fun k => F.length - k) 0 ?zg ⟨?zc, ?zv, ?zh, Nat.le_of_ble_eq_true rfl⟩ ?zu (fun k zhk => ?zw) (fun k zhk => ?zx) fun k hk => ?zr)
    case zg =>
      (repeat' (first | exact Nat.zero_le _))
    case zc =>
      (repeat' (first | (refine And.intro ?_ ?_) | exact trivial | exact A.Le.refl _ | exact .of_eq (congrArg A.int fl.symm)))
    case zv =>
      (repeat' (first | (refine And.intro ?_ ?_) | exact trivial | exact A.Le.refl _))
    case zh =>
      (repeat' (first | (refine And.intro ?_ ?_) | exact trivial | exact rfl))
    case zu =>
      (repeat' (first | exact trivial | exact Under.s _ | assumption | exact Under.ref _ _ (by decide) | (refine And.intro ?_ ?_)))
    case zw =>
      (repeat' (first | exact trivial | exact Under.s _ | (refine And.intro ?_ ?_)))
    case zx =>
      (repeat' (first | exact trivial | assumption | exact Nat.le_of_ble_eq_true rfl | exact cntB_under _ | (refine And.intro ?_ ?_)))
    case zr =>
    refine Aw.sm tab_ok mb0 [] rfl rfl ?zo ?zk
    case zo =>
      repeat' apply AllP.cons
      all_goals first | exact trivial
    case zk =>
    refine Aw.seq (Aw.cond rfl (fun h3 => Aw.skip1 ?_) (fun h3 => Aw.exit2 ?_))
    · have hlt : k < F.length := by have := of_decide_eq_true h3; omega
      have ho1 := hin _ (List.getElem_mem hlt)
      have hst := goneB_succ bc off hlt
      have hob : off + F[k].toNat * 1 < (bc.map A.int).length := by rw [List.length_map]; omega
      have hld : ((bc.map A.int).getD (off + F[k].toNat * 1) .un).down = .int (bc.getD (off + F[k].toNat) 0) := by rw [Nat.mul_one]; exact getD_ints (by omega)
      refine Aw.seq (Aw.block ?_)
      refine Aw.sm tab_ok mb0 [(0, [.int F[k]])] rfl rfl ?zo ?zk
      case zo =>
        repeat' apply AllP.cons
        all_goals first | exact trivial | exact rfl | exact Nat.le_of_ble_eq_true rfl | exact Int.natCast_nonneg _ | exact ints_get hlt
      case zk =>
      generalize F[k] = o at *
      generalize bc.getD (off + o.toNat) 0 = bo at *
      refine Aw.em tab_ok mb0 [(5, [.int bo]), (7, [.int (gmin (goneB bc off (F.take k)) bo)])] rfl rfl ?zo ?zk
      case zo =>
        repeat' apply AllP.cons
        all_goals first | exact trivial | exact Nat.le_of_ble_eq_true rfl | exact ho1.1 | exact ho1.2 | exact hld | exact hob | exact least1_t _ _
      case zk =>
      refine Aw.em tab_ok mb0 [] rfl rfl ?zo ?zk
      case zo =>
        repeat' apply AllP.cons
        all_goals first | exact trivial | exact inrk k (by omega)
      case zk =>
      refine ⟨k + 1, ?zg, ?zm, ⟨?zc, ?zv, ?zh, Nat.le_of_ble_eq_true rfl⟩⟩
      case zg =>
        (repeat' (first | assumption))
      case zm =>
        (repeat' (first | omega))
      case zc =>
        (repeat' (first | (refine And.intro ?_ ?_) | exact trivial | exact A.Le.refl _))
      case zv =>
        (repeat' (first | (refine And.intro ?_ ?_) | exact trivial | exact A.Le.refl _ | exact .of_eq (congrArg A.int hst)))
      case zh =>
        (repeat' (first | (refine And.intro ?_ ?_) | exact trivial | exact rfl))
    have hle : k = F.length := by have := of_decide_eq_false h3; omega
    subst hle
    have hbe := hbd F.length
    rw [List.take_length] at hbe ⊢
    have hlv := hv ▸ least1_t 1048576 (goneB bc off F + u)
    refine Aw.em tab_ok mb0 [(5, [.int vp])] rfl rfl ?zo ?zk
    case zo =>
      repeat' apply AllP.cons
      all_goals first | exact trivial | exact rfl | exact Nat.le_of_ble_eq_true rfl | exact Int.natCast_nonneg _ | exact (by simp only [Ob.of, inR]; omega) | exact hlv | exact (show 0 + (Int.toNat ((p : Nat) : Int)) * 1 + 1 ≤ (G.map A.int).length by rw [List.length_map, hgl, Int.toNat_natCast]; omega)
    case zk =>
    exact ⟨⟨_, _, rfl⟩, Nat.le_of_ble_eq_true rfl, _, rfl, HasH.ofH (l := [(20, landB s), (32, cntB bc), (35, cntB (nevK 0)), (36, cntB (G.set p vp))]) ⟨rfl, rfl, rfl, congrArg (fun x => some (B.cells x)) (set_cells (by omega)), trivial⟩⟩
  · rintro H c' hc' ⟨H0, rfl, hs⟩
    rw [hlm, List.take_length] at hs
    have hH := hasH_of_sub (l := [(20, landB s), (32, cntB bc), (35, cntB (nevK 0)), (36, cntB (setK val (cellsL s)))]) rfl hs
    have hgl := setK_len val (cellsL s)
    generalize setK val (cellsL s) = G at *
    refine Aw.keep (n := 37) (cst := [(8, .ref 35 0), (9, .ref 36 0)]) (v := []) (Hl := [(20, landB s), (32, cntB bc), (35, cntB (nevK 0)), (36, cntB (G))]) h37 ⟨.ref _ _ (by decide), .ref _ _ (by decide), trivial⟩ trivial (uH _)
      ⟨⟨.refl _, .refl _, trivial⟩, trivial, hH, hc'⟩ ?_
    refine Aw.sm tab_ok mb0 [(0, [.agg (G.map A.int)])] rfl rfl ?zo ?zk
    case zo =>
      repeat' apply AllP.cons
      all_goals first | exact trivial | exact Nat.le_of_ble_eq_true rfl | exact ld80 hgl | exact (show (0 : Nat) + 80 ≤ (G.map A.int).length by rw [List.length_map, hgl]; decide) | exact (show (G.map A.int).length = 80 by rw [List.length_map, hgl])
    case zk =>
    refine Aw.keep (n := 37) (cst := [(8, .ref 35 0)]) (v := [(3, A.un)]) (Hl := [(20, landB s), (32, cntB bc), (35, cntB G)]) h37 ⟨.ref _ _ (by decide), trivial⟩ ⟨.un, trivial⟩ ⟨⟨by decide, map_under _⟩, ⟨by decide, cntB_under _⟩, ⟨by decide, cntB_under _⟩, trivial⟩
      ⟨⟨.refl _, trivial⟩, ⟨⟨fun _ _ _ v _ => .un v, fun u p h => absurd h (by simp [spareOf])⟩, trivial⟩, ⟨rfl, rfl, congrArg (fun x => some (B.cells x)) (set80 hgl), trivial⟩, Nat.le_of_ble_eq_true rfl⟩ ?_
    exact Aw.ret ⟨_, .cons (resC rfl rfl rfl (by rw [Nat.ble_eq, List.length_map, hgl]; exact Nat.le_refl 80) (ld80 hgl)) .nil, rfl, ⟨rfl, rfl, trivial⟩⟩
end Go.Proofs.Ytkfepnbanekfgaa

namespace Go.Proofs.Ytkfepnbanekfgaa
open Go Go.AL Go.AL.Q Go.AL.Sh
theorem at2 {P : Program} {g : FuncId} {args : List A} {v : A} {i j : Nat} {a b : B} (h : RCall P g args (ofH [(i, a), (j, b)]) v) {H : Hp} (h1 : H i = some a) (h2 : H j = some b) : RCall P g args (onlyL H (idsOf [.mp i, .mp j])) v :=
  h.le rfl (fun _ _ => .refl _) fun id bx hb => by
    show cond (Nat.beq i id || (Nat.beq j id || false)) (H id) none = some bx
    simp only [ofH, updH_apply] at hb
    split at hb
    · rename_i e; subst e; cases hb; simp [h1]
    · split at hb
      · rename_i e; subst e; cases hb; simp [h2]
      · cases hb
theorem of2_lt {i j n : Nat} {a b : B} (hi : i < n) (hj : j < n) : ∀ id bx, ofH [(i, a), (j, b)] id = some bx → id < n := fun id bx hb => by
  simp only [ofH, updH_apply] at hb
  split at hb
  · rename_i e; subst e; exact hi
  · split at hb
    · rename_i e; subst e; exact hj
    · cases hb
theorem of2_nms {i j : Nat} {a b : B} {D : Nat → Prop} (ha : NmsB D a) (hb : NmsB D b) : ∀ id bx, ofH [(i, a), (j, b)] id = some bx → NmsB D bx := fun id bx h => by
  simp only [ofH, updH_apply] at h
  split at h
  · cases h; exact ha
  · split at h
    · cases h; exact hb
    · cases h
theorem cntB_nms (l : List Int) {D : Nat → Prop} : NmsB D (cntB l) := .cells _ fun x hx => by obtain ⟨v, _, rfl⟩ := List.mem_map.1 hx; exact .s _
theorem map_nms {D : Nat → Prop} (m : List (Sp × Bool)) : NmsB D (.map (encM plE valB m)) := .map _ fun p hp => ⟨(encM_free valB_free m p hp).1.nms, (encM_free valB_free m p hp).2.nms⟩
theorem ints_nms (l : List Int) {D : Nat → Prop} : Nms D (.agg (l.map A.int)) := .agg _ fun x hx => by obtain ⟨v, _, rfl⟩ := List.mem_map.1 hx; exact .s _
theorem log_nmsD (s : Sea) (l : List Rep) {D : Nat → Prop} (h : D 20) : ∀ x ∈ logA s (.mp 20) l, Nms D x := fun x hx => (List.mem_append.1 hx).elim (fun h1 => (List.mem_append.1 h1).elim (fun h => (s.free x h).nms) (all1 (.mp _ h) x)) (all1 (free_map (repC_free _) _ _ _).nms x)
theorem gone0_r (s : Sea) (ho : s.Ok) (l : List Rep) (hl : RepFit s l) (w : A) (hw : w = forthA s l ∨ w = backA s l) (hour : Int) :
    RCall Try.prog 68 [.agg (logA s (.mp 20) l), w, .int hour, .s (.pointer none)] (landH s) (.agg ((setK (fun p => untrueF s.wide l hour (placeP s.wide p)) (cellsL s)).map A.int)) :=
  RCall.of (enters_of Try.func68 rfl rfl) (landH_lt s) (landH_nms s) (allC (.agg _ (log_nms s l)) (allC (by rcases hw with rfl | rfl; exact forthA_nms s l; exact backA_nms s l) (allC (.s _) (all1 (.s _))))) (ints_nms _) (fun _ => rfl) (gone0_s s ho l hl w hw hour)
theorem goneF_r (s : Sea) (ho : s.Ok) (l : List Rep) (hl : RepFit s l) (hour : Int) (h0 : 0 ≤ hour - 1) (hd : hour - 1 < s.drift.length) (bc : List Int) (off : Nat) (hbl : off + 80 ≤ bc.length) (hbb : ∀ x ∈ bc, 0 ≤ x ∧ x ≤ 1048576) :
    RCall Try.prog 68 [.agg (logA s (.mp 20) l), forthA s l, .int hour, .ref 27 off] (ofH [(20, landB s), (27, cntB bc)]) (.agg ((setK (goneV s l hour (fun p : Nat => fromF s hour p) bc off) (cellsL s)).map A.int)) :=
  RCall.of (enters_of Try.func68 rfl rfl) (n := 35) (of2_lt (by decide) (by decide)) (of2_nms (map_nms _) (cntB_nms _)) (allC (.agg _ (log_nmsD s l rfl)) (allC (.agg _ (all1 (.fn _ _ _ (fun _ h => nomatch h) (all1 (.pt _ (log_nmsD s l rfl)))))) (allC (.s _) (all1 (.ref _ _ rfl))))) (ints_nms _) (fun _ => rfl) (goneF_s s ho l hl hour h0 hd bc off hbl hbb)
theorem goneR_r (s : Sea) (ho : s.Ok) (l : List Rep) (hl : RepFit s l) (hour : Int) (h0 : 0 ≤ hour) (hd : hour < s.drift.length) (bc : List Int) (off : Nat) (hbl : off + 80 ≤ bc.length) (hbb : ∀ x ∈ bc, 0 ≤ x ∧ x ≤ 1048576) :
    RCall Try.prog 68 [.agg (logA s (.mp 20) l), backA s l, .int hour, .ref 32 off] (ofH [(20, landB s), (32, cntB bc)]) (.agg ((setK (goneV s l hour (fun p : Nat => fromB s hour p) bc off) (cellsL s)).map A.int)) :=
  RCall.of (enters_of Try.func68 rfl rfl) (n := 35) (of2_lt (by decide) (by decide)) (of2_nms (map_nms _) (cntB_nms _)) (allC (.agg _ (log_nmsD s l rfl)) (allC (.agg _ (all1 (.fn _ _ _ (fun _ h => nomatch h) (all1 (.pt _ (log_nmsD s l rfl)))))) (allC (.s _) (all1 (.ref _ _ rfl))))) (ints_nms _) (fun _ => rfl) (goneR_s s ho l hl hour h0 hd bc off hbl hbb)
theorem fwR_len (s : Sea) (l : List Rep) (h : Nat) : (fwR s l h).length = 80 := by cases h <;> exact setK_len _ _
theorem bkR_len (s : Sea) (l : List Rep) (h : Nat) : (bkR s l h).length = 80 := by cases h <;> exact setK_len _ _
theorem fwR_no {s : Sea} {l : List Rep} {h q : Nat} (h8 : q < 80) (hq : q ∉ cellsL s) : (fwR s l h).getD q 0 = 1048576 := by cases h <;> exact setK_no _ h8 hq
theorem bkR_no {s : Sea} {l : List Rep} {h q : Nat} (h8 : q < 80) (hq : q ∉ cellsL s) : (bkR s l h).getD q 0 = 1048576 := by cases h <;> exact setK_no _ h8 hq
theorem fwR_bd {s : Sea} (ho : s.Ok) {l : List Rep} (hl : l.length ≤ 24) {h q : Nat} (hh : h < hrs s) (h8 : q < 80) : 0 ≤ (fwR s l h).getD q 0 ∧ (fwR s l h).getD q 0 ≤ 1048576 := by
  have hr : hrs s ≤ 12 := by have := ho.hr; unfold hrs; omega
  by_cases hq : q ∈ cellsL s
  · have k := fw_min ho hl h hh q hq
    exact ⟨k.nonneg, k.le fun n hn => by have := hn.le hl; omega⟩
  · rw [fwR_no h8 hq]; omega
theorem bkR_bd {s : Sea} (ho : s.Ok) {l : List Rep} (hl : l.length ≤ 24) {j q : Nat} (hh : j < hrs s) (h8 : q < 80) : 0 ≤ (bkR s l j).getD q 0 ∧ (bkR s l j).getD q 0 ≤ 1048576 := by
  have hr : hrs s ≤ 12 := by have := ho.hr; unfold hrs; omega
  by_cases hq : q ∈ cellsL s
  · have k := bk_min ho hl j hh q hq
    exact ⟨k.nonneg, k.le fun n hn => by have := hn.le hl; omega⟩
  · rw [bkR_no h8 hq]; omega
theorem goneB_blk {row : Nat → List Int} {n k : Nat} (h : ∀ i, i < n → (row i).length = 80) (hk : k < n) {F : List Int} (hF : ∀ o ∈ F, 0 ≤ o ∧ o < 80) : goneB (blk row n) (k * 80) F = leastOf (row k) F := by
  unfold goneB leastOf
  have key : ∀ (F : List Int) (b : Int), (∀ o ∈ F, 0 ≤ o ∧ o < 80) → F.foldl (fun b o => gmin b ((blk row n).getD (k * 80 + o.toNat) 0)) b = F.foldl (fun b o => gmin b ((row k).getD o.toNat 0)) b := by
    intro F
    induction F with
    | nil => intro b _; rfl
    | cons o F ih =>
      intro b hF
      have := hF o (by simp)
      rw [List.foldl_cons, List.foldl_cons, blk_getD h hk (by omega), ih _ fun x hx => hF x (by simp [hx])]
  exact key F _ hF
theorem blk_bd {row : Nat → List Int} {n : Nat} (h : ∀ i, i < n → (row i).length = 80) (hb : ∀ i q, i < n → q < 80 → 0 ≤ (row i).getD q 0 ∧ (row i).getD q 0 ≤ 1048576) : ∀ x ∈ blk row n, 0 ≤ x ∧ x ≤ 1048576 := fun x hx => by
  obtain ⟨m, hm, rfl⟩ := List.getElem_of_mem hx
  have hl := blk_len h
  have e : (blk row n)[m] = (row (m / 80)).getD (m % 80) 0 := by
    rw [← blk_getD h (by omega) (by omega), List.getD_eq_getElem?_getD, show m / 80 * 80 + m % 80 = m by omega, List.getElem?_eq_getElem hm]; rfl
  rw [e]
  exact hb _ _ (by omega) (by omega)
def row1 (s : Sea) (l : List Rep) (k : Nat) : Nat → List Int := fun i => if i < k then fwR s l i else zer80
def row2 (s : Sea) (l : List Rep) (j : Nat) : Nat → List Int := fun i => if hrs s - j ≤ i then bkR s l (hrs s - 1 - i) else zer80
def setP (s : Sea) (l : List Rep) (h : Nat) (L : List Nat) : List Int := L.foldl (fun a p => a.set p (thrV s l h p)) (fwR s l h)
def row3 (s : Sea) (l : List Rep) (h j : Nat) : Nat → List Int := fun i => if i < h then thrR s l i else if i = h then setP s l h ((cellsL s).take j) else fwR s l i
theorem row1_len (s : Sea) (l : List Rep) (k i : Nat) : (row1 s l k i).length = 80 := by unfold row1; split; exact fwR_len s l i; rfl
theorem row2_len (s : Sea) (l : List Rep) (k i : Nat) : (row2 s l k i).length = 80 := by unfold row2; split; exact bkR_len s l _; rfl
theorem setP_len (s : Sea) (l : List Rep) (h : Nat) (L : List Nat) : (setP s l h L).length = 80 := by
  have : ∀ (L : List Nat) (a : List Int), (L.foldl (fun a p => a.set p (thrV s l h p)) a).length = a.length := by
    intro L
    induction L with
    | nil => intro a; rfl
    | cons x L ih => intro a; rw [List.foldl_cons, ih, List.length_set]
  unfold setP; rw [this, fwR_len]
theorem row3_len (s : Sea) (l : List Rep) (h j i : Nat) : (row3 s l h j i).length = 80 := by unfold row3; split; exact setK_len _ _; split; exact setP_len s l h _; exact fwR_len s l i
theorem foldset_get (val : Nat → Int) (q : Nat) : ∀ (L : List Nat) (a : List Int), q < a.length → (L.foldl (fun a p => a.set p (val p)) a).getD q 0 = if q ∈ L then val q else a.getD q 0 := by
  intro L
  induction L with
  | nil => intro a _; simp
  | cons x l ih =>
    intro a ha
    rw [List.foldl_cons, ih _ (by rw [List.length_set]; exact ha)]
    by_cases h1 : q ∈ l
    · simp [h1]
    · by_cases h2 : x = q
      · subst h2; simp [h1, List.getD_eq_getElem?_getD, ha]
      · simp [h1, Ne.symm h2, List.getD_eq_getElem?_getD, List.getElem?_set, h2]
theorem ext80 {a b : List Int} (ha : a.length = 80) (hb : b.length = 80) (h : ∀ q, q < 80 → a.getD q 0 = b.getD q 0) : a = b := by
  refine List.ext_getElem (by omega) fun q h1 h2 => ?_
  have := h q (by omega)
  simpa [List.getD_eq_getElem?_getD, h1, h2] using this
theorem setP_all (s : Sea) (l : List Rep) (h : Nat) : setP s l h (cellsL s) = thrR s l h := by
  refine ext80 (setP_len s l h _) (setK_len _ _) fun q hq => ?_
  unfold setP thrR
  rw [foldset_get (thrV s l h) q _ _ (by rw [fwR_len]; exact hq), setK_get _ q _ hq]
  split
  · rfl
  · rename_i h1; exact fwR_no hq h1
theorem setP_get {s : Sea} {l : List Rep} {h j q : Nat} (hq : q < 80) (hn : q ∉ (cellsL s).take j) : (setP s l h ((cellsL s).take j)).getD q 0 = (fwR s l h).getD q 0 := by
  unfold setP
  rw [foldset_get (thrV s l h) q _ _ (by rw [fwR_len]; exact hq), if_neg hn]
theorem setP_succ {s : Sea} {l : List Rep} {h j p : Nat} (hp : (cellsL s)[j]? = some p) : setP s l h ((cellsL s).take (j + 1)) = (setP s l h ((cellsL s).take j)).set p (thrV s l h p) := by
  obtain ⟨hj, e⟩ := List.getElem?_eq_some_iff.1 hp
  unfold setP
  rw [List.take_succ_eq_append_getElem hj, List.foldl_append, e]; rfl
theorem cells_nodup (s : Sea) : (cellsL s).Nodup := List.nodup_range.filter _
theorem cells_take {s : Sea} {j p : Nat} (hp : (cellsL s)[j]? = some p) : p ∉ (cellsL s).take j := fun h => by
  obtain ⟨hj, e⟩ := List.getElem?_eq_some_iff.1 hp
  obtain ⟨i, hi, e2⟩ := List.getElem_of_mem h
  have hi2 : i < j := by simp at hi; omega
  rw [List.getElem_take] at e2
  exact List.pairwise_iff_getElem.1 (cells_nodup s) i j (by omega) hj hi2 (e2.trans e.symm)
def befF : Nat → A
  | 0 => .s (.pointer none)
  | k + 1 => .ref 27 (k * 80)
def befR (s : Sea) : Nat → A
  | 0 => .s (.pointer none)
  | j + 1 => .ref 32 ((hrs s - 1 - j) * 80)
theorem befF_under : ∀ k, Under 35 (befF k)
  | 0 => .s _
  | k + 1 => .ref _ _ (by decide)
theorem befR_under (s : Sea) : ∀ k, Under 35 (befR s k)
  | 0 => .s _
  | k + 1 => .ref _ _ (by decide)
def nsF (b : Nat) : Nat → List A
  | 0 => [.mp 20]
  | _ + 1 => [.mp 20, .mp b]
theorem goF_r (s : Sea) (ho : s.Ok) (l : List Rep) (hl : RepFit s l) {k : Nat} (hk : k < hrs s) {H : Hp} (h1 : H 20 = some (landB s)) (h2 : H 27 = some (cntB (blk (row1 s l k) (hrs s)))) :
    RCall Try.prog 68 [.agg (logA s (.mp 20) l), forthA s l, .int (k : Int), befF k] (onlyL H (idsOf (nsF 27 k))) (.agg ((fwR s l k).map A.int)) := by
  have hl24 := hl.len
  cases k with
  | zero => exact at20 (gone0_r s ho l hl _ (.inl rfl) _) h1
  | succ j =>
    have hdl := ho.dl
    have hhr := ho.hr
    have hrl : ∀ i, i < hrs s → (row1 s l (j + 1) i).length = 80 := fun i _ => row1_len s l (j + 1) i
    have := blk_len hrl
    have hhh : (hrs s : Int) = s.hours := by unfold hrs; omega
    have key := goneF_r s ho l hl ((j + 1 : Nat) : Int) (by omega) (by omega) (blk (row1 s l (j + 1)) (hrs s)) (j * 80) (by omega) (blk_bd hrl fun i q hi hq => by
      unfold row1; split
      · exact fwR_bd ho (by omega) hi hq
      · unfold zer80; rw [List.getD_eq_getElem?_getD, List.getElem?_replicate, if_pos hq]; exact ⟨by decide, by decide⟩)
    have e : (fun p : Nat => goneV s l ((j + 1 : Nat) : Int) (fun p : Nat => fromF s ((j + 1 : Nat) : Int) p) (blk (row1 s l (j + 1)) (hrs s)) (j * 80) p) = fun p : Nat => gmin 1048576 (leastOf (fwR s l j) (fromF s (j + 1 : Nat) p) + untrueF s.wide l (j + 1 : Nat) (placeP s.wide p)) := by
      funext p
      unfold goneV
      rw [show goneB (blk (row1 s l (j + 1)) (hrs s)) (j * 80) ((fun p : Nat => fromF s ((j + 1 : Nat) : Int) p) p) = leastOf (row1 s l (j + 1) j) (fromF s (j + 1 : Nat) p) from goneB_blk hrl (by omega) fun o h => goL_in s ho h]
      congr 2
      unfold row1; rw [if_pos (by omega)]
    have e2 : setK (goneV s l ((j + 1 : Nat) : Int) (fun p : Nat => fromF s ((j + 1 : Nat) : Int) p) (blk (row1 s l (j + 1)) (hrs s)) (j * 80)) (cellsL s) = fwR s l (j + 1) := congrArg (fun f => setK f (cellsL s)) e
    rw [e2] at key
    exact at2 key h1 h2
theorem goR_r (s : Sea) (ho : s.Ok) (l : List Rep) (hl : RepFit s l) {j : Nat} (hj : j < hrs s) {H : Hp} (h1 : H 20 = some (landB s)) (h2 : H 32 = some (cntB (blk (row2 s l j) (hrs s)))) :
    RCall Try.prog 68 [.agg (logA s (.mp 20) l), backA s l, .int (s.hours - 1 - j), befR s j] (onlyL H (idsOf (nsF 32 j))) (.agg ((bkR s l j).map A.int)) := by
  have hl24 := hl.len
  have hhr := ho.hr
  have hhh : (hrs s : Int) = s.hours := by unfold hrs; omega
  have hce : s.hours - 1 - (j : Int) = ((hrs s - 1 - j : Nat) : Int) := by omega
  rw [hce]
  cases j with
  | zero => exact at20 (gone0_r s ho l hl _ (.inr rfl) _) h1
  | succ j =>
    have hdl := ho.dl
    have hrl : ∀ i, i < hrs s → (row2 s l (j + 1) i).length = 80 := fun i _ => row2_len s l (j + 1) i
    have := blk_len hrl
    have key := goneR_r s ho l hl ((hrs s - 1 - (j + 1) : Nat) : Int) (by omega) (by omega) (blk (row2 s l (j + 1)) (hrs s)) ((hrs s - 1 - j) * 80) (by omega) (blk_bd hrl fun i q hi hq => by
      unfold row2; split
      · exact bkR_bd ho (by omega) (by omega) hq
      · unfold zer80; rw [List.getD_eq_getElem?_getD, List.getElem?_replicate, if_pos hq]; exact ⟨by decide, by decide⟩)
    have e : (fun p : Nat => goneV s l ((hrs s - 1 - (j + 1) : Nat) : Int) (fun p : Nat => fromB s ((hrs s - 1 - (j + 1) : Nat) : Int) p) (blk (row2 s l (j + 1)) (hrs s)) ((hrs s - 1 - j) * 80) p) = fun p : Nat => gmin 1048576 (leastOf (bkR s l j) (fromB s (hrs s - 1 - (j + 1) : Nat) p) + untrueF s.wide l (hrs s - 1 - (j + 1) : Nat) (placeP s.wide p)) := by
      funext p
      unfold goneV
      rw [show goneB (blk (row2 s l (j + 1)) (hrs s)) ((hrs s - 1 - j) * 80) ((fun p : Nat => fromB s ((hrs s - 1 - (j + 1) : Nat) : Int) p) p) = leastOf (row2 s l (j + 1) (hrs s - 1 - j)) (fromB s (hrs s - 1 - (j + 1) : Nat) p) from goneB_blk hrl (by omega) fun o h => goL_in s ho h]
      congr 2
      unfold row2; rw [if_pos (by omega), show hrs s - 1 - (hrs s - 1 - j) = j by omega]
    have e2 : setK (goneV s l ((hrs s - 1 - (j + 1) : Nat) : Int) (fun p : Nat => fromB s ((hrs s - 1 - (j + 1) : Nat) : Int) p) (blk (row2 s l (j + 1)) (hrs s)) ((hrs s - 1 - j) * 80)) (cellsL s) = bkR s l (j + 1) := congrArg (fun f => setK f (cellsL s)) e
    rw [e2] at key
    exact at2 key h1 h2
end Go.Proofs.Ytkfepnbanekfgaa

namespace Go.Proofs.Ytkfepnbanekfgaa
open Go Go.AL Go.AL.Q Go.AL.Sh
def rowsA (row : Nat → List Int) (n : Nat) : List (List A) := (List.range n).map fun i => (row i).map A.int
theorem rowsA_free (row : Nat → List Int) (n : Nat) (b : Bool) (c : Cap) : Free (.sl b c (rowsA row n)) := .sl _ _ _ fun e he x hx => by
  obtain ⟨i, _, rfl⟩ := List.mem_map.1 he
  obtain ⟨v, _, rfl⟩ := List.mem_map.1 hx; exact .s _
def msB (b : Nat) (n : Nat) : B := .cells [.ms b 0 n]
theorem msB_under {b m n : Nat} (h : b < m) : UnderB m (msB b n) := .cells _ (all1 (.ms _ _ _ h))
set_option maxRecDepth 20000 in
set_option maxHeartbeats 2000000 in
theorem through_s (s : Sea) (ho : s.Ok) (l : List Rep) (hl : RepFit s l) :
    SCall Try.prog 57 [.agg (logA s (.mp 20) l)] (landH s) 21 (fun v' H' _ => v' = .tup [.sl false .any (rowsA (thrR s l) (hrs s)), .sl false .any (rowsA (fun i => bkR s l (hrs s - 1 - i)) (hrs s))] ∧ ∀ id bx, landH s id = some bx → H' id = some bx) := by
  have hhr := ho.hr
  have hhh : s.hours = (hrs s : Int) := by unfold hrs; omega
  have hcl := cellsL_len s ho
  have hl24 : l.length ≤ 24 := by have := hl.len; omega
  have hlen : ∀ z ∈ (cellsL s).map fun k : Nat => [A.int k], z.length = 1 := fun z h => by obtain ⟨p, _, rfl⟩ := List.mem_map.1 h; rfl
  have hlm : ((cellsL s).map fun k : Nat => [A.int k]).length = (cellsL s).length := List.length_map _
  refine SCall.drop (post := fun v' H' _ => v' = .tup [.sl false .any (rowsA (thrR s l) (hrs s)), .sl false .any (rowsA (fun i => bkR s l (hrs s - 1 - i)) (hrs s))] ∧ HasH H' [(20, landB s)]) (SCall.of_bodyN tab_ok Try.func57 rfl Try.ntmps57 (Nat.le_of_ble_eq_true rfl) (all1 fun _ => rfl) fun E hE => ?_) (fun v H' c' h => ⟨_, h.2.ofH, h.1, fun id bx h => h⟩)
  have h35 : ∀ id, 35 ≤ id → E.φ0 id = none := fun id h => hE id (by omega)
  have h36 : ∀ id, 36 ≤ id → E.φ0 id = none := fun id h => hE id (by omega)
  have ulog : ∀ {n : Nat}, 20 < n → Under n (A.pt (logA s (.mp 20) l)) := fun h => .pt _ (logA_under s h l)
  have u35 := ulog (n := 35) (by decide)
  have u36 := ulog (n := 36) (by decide)
  have um : ∀ {n : Nat}, UnderB n (landB s) := map_under _
  have ubf := befF_under
  have ubr := befR_under s
  refine Aw.sm tab_ok mb0 [] rfl rfl ?zo ?zk
  case zo =>
    repeat' apply AllP.cons
    all_goals first | exact trivial
  case zk =>
  refine Aw.sd tab_ok mixed mb0 [] rfl (by kernel_rfl) rfl rfl ?zo ?zk
  case zo =>
    repeat' apply AllP.cons
    all_goals first | exact trivial | exact rfl | exact Nat.le_of_ble_eq_true rfl | exact (by simp only [Ob.of]; omega) | exact (show ((640 : Nat) : Int) * s.hours ≤ 140737488355328 by omega) | exact (show s.hours ≤ (maxLen : Int) by unfold maxLen; omega)
  case zk =>
  refine Aw.sm tab_ok mb0 [] rfl rfl ?zo ?zk
  case zo =>
    repeat' apply AllP.cons
    all_goals first | exact trivial
  case zk =>
  refine Aw.seq ?_
  refine Aw.sm tab_ok mb0 [] rfl rfl ?zo ?zk
  case zo =>
    repeat' apply AllP.cons
    all_goals first | exact trivial | exact Nat.le_of_ble_eq_true rfl
  case zk =>
  have hz := blk_zero (hrs s)
  refine Aw.block (Aw.rounds 35 h35 [(1, .pt (logA s (.mp 20) l)), (2, .ref 21 0), (3, .ref 22 0), (22, .int s.hours)] (fun k : Nat => [(4, befF k), (23, .int k)]) (fun k => [(20, landB s), (21, msB 27 (hrs s)), (22, msB 32 (hrs s)), (27, cntB (blk (row1 s l k) (hrs s))), (32, cntB (blk (row2 s l 0) (hrs s)))]) (fun k => k ≤ hrs s) (fun k => hrs s - k) 0 ?zg ⟨?zc, ?zv, ?zh, Nat.le_of_ble_eq_true rfl⟩ ?zu (fun k zhk => ?zw) (fun k zhk => ?zx) fun k hk => ?zr)
  case zg =>
    (repeat' (first | exact Nat.zero_le _))
  case zc =>
    (repeat' (first | (refine And.intro ?_ ?_) | exact trivial | exact A.Le.refl _))
  case zv =>
    (repeat' (first | (refine And.intro ?_ ?_) | exact trivial | exact A.Le.refl _))
  case zh =>
    (repeat' (first | (refine And.intro ?_ ?_) | exact trivial | exact rfl | exact congrArg (fun x => some (B.cells x)) (hz.trans (congrArg (List.map A.int) (blk_congr fun i hi => by unfold row1; rw [if_neg (by omega)]))) | exact congrArg (fun x => some (B.cells x)) (hz.trans (congrArg (List.map A.int) (blk_congr fun i hi => by unfold row2; rw [if_neg (by omega)])))))
  case zu =>
    (repeat' (first | exact trivial | exact Under.s _ | assumption | exact Under.ref _ _ (by decide) | (refine And.intro ?_ ?_)))
  case zw =>
    (repeat' (first | exact trivial | exact Under.s _ | exact ubf _ | (refine And.intro ?_ ?_)))
  case zx =>
    (repeat' (first | exact trivial | exact Nat.le_of_ble_eq_true rfl | exact um | exact msB_under (by decide) | exact cntB_under _ | (refine And.intro ?_ ?_)))
  case zr =>
  refine Aw.sm tab_ok mb0 [] rfl rfl ?zo ?zk
  case zo =>
    repeat' apply AllP.cons
    all_goals first | exact trivial
  case zk =>
  refine Aw.seq (Aw.cond rfl (fun h1 => Aw.skip1 ?_) (fun h1 => Aw.exit2 ?_))
  · have hlt : k < hrs s := by have := of_decide_eq_true h1; omega
    have hrl : ∀ i, i < hrs s → (row1 s l k i).length = 80 := fun i _ => row1_len s l k i
    have hbl := blk_len hrl
    have hrow := blk_row hrl (fwR_len s l k) hlt
    have hnx : blk (updR (row1 s l k) k (fwR s l k)) (hrs s) = blk (row1 s l (k + 1)) (hrs s) := blk_congr fun i _ => by
      unfold updR row1
      by_cases e : i = k
      · subst e; rw [if_pos rfl, if_pos (by omega)]
      · rw [if_neg e]
        by_cases e2 : i < k
        · rw [if_pos e2, if_pos (by omega)]
        · rw [if_neg e2, if_neg (by omega)]
    have hf80 := fwR_len s l k
    have hgo := @goF_r s ho l hl k hlt
    have kk : Int.toNat (k : Int) = k := Int.toNat_natCast k
    generalize fwR s l k = fr at *
    generalize hx : blk (row1 s l k) (hrs s) = X at *
    refine Aw.seq (Aw.block ?_)
    refine Aw.sm tab_ok mb0 [] rfl rfl ?zo ?zk
    case zo =>
      repeat' apply AllP.cons
      all_goals first | exact trivial
    case zk =>
    cases k with
    | zero =>
      have hgo' : ∀ {H : Hp}, H 20 = some (landB s) → H 27 = some (cntB X) → RCall Try.prog 68 [.agg (logA s (.mp 20) l), forthA s l, .int ((0 : Nat) : Int), befF 0] (onlyL H (idsOf [.mp 20])) (.agg (fr.map A.int)) := fun a b => hgo a b
      refine Aw.sd tab_ok mixed mb0 [(4, [forthA s l, .tup [.mp 20]]), (7, [.agg (fr.map A.int), .tup [.mp 20]])] rfl (by kernel_rfl) rfl rfl ?zo ?zk
      case zo =>
        repeat' apply AllP.cons
        all_goals first | exact trivial | exact Nat.le_of_ble_eq_true rfl | exact Int.natCast_nonneg _ | exact at20 (forthA_r s l) rfl | exact hgo' rfl rfl | exact (by simp only [Ob.of]; omega) | exact (show 0 + Int.toNat ((0 : Nat) : Int) * 80 + 80 ≤ (X.map A.int).length by rw [List.length_map]; omega) | exact (show (fr.map A.int).length = 80 by rw [List.length_map, hf80])
      case zk =>
      refine Aw.em tab_ok mb0 [] rfl rfl ?zo ?zk
      case zo =>
        repeat' apply AllP.cons
        all_goals first | exact trivial | exact Nat.le_of_ble_eq_true rfl | exact Int.natCast_nonneg _ | exact (by simp only [Ob.of]; omega)
      case zk =>
      refine Aw.em tab_ok mb0 [] rfl rfl ?zo ?zk
      case zo =>
        repeat' apply AllP.cons
        all_goals first | exact trivial | exact inrk 0 (by decide)
      case zk =>
      refine ⟨1, ?zg, ?zm, ⟨?zc, ?zv, ?zh, Nat.le_of_ble_eq_true rfl⟩⟩
      case zg =>
        (repeat' (first | assumption))
      case zm =>
        (repeat' (first | omega))
      case zc =>
        (repeat' (first | (refine And.intro ?_ ?_) | exact trivial | exact A.Le.refl _))
      case zv =>
        (repeat' (first | (refine And.intro ?_ ?_) | exact trivial | exact A.Le.refl _))
      case zh =>
        (repeat' (first | (refine And.intro ?_ ?_) | exact trivial | exact rfl | exact congrArg (fun x => some (B.cells x)) (hrow.trans (congrArg (List.map A.int) hnx))))
    | succ k =>
      have hgo' : ∀ {H : Hp}, H 20 = some (landB s) → H 27 = some (cntB X) → RCall Try.prog 68 [.agg (logA s (.mp 20) l), forthA s l, .int ((k + 1 : Nat) : Int), .ref 27 (k * 80)] (onlyL H (idsOf [.mp 20, .mp 27])) (.agg (fr.map A.int)) := fun a b => hgo a b
      refine Aw.sd tab_ok mixed mb0 [(4, [forthA s l, .tup [.mp 20]]), (7, [.agg (fr.map A.int), .tup [.mp 20, .mp 27]])] rfl (by kernel_rfl) rfl rfl ?zo ?zk
      case zo =>
        repeat' apply AllP.cons
        all_goals first | exact trivial | exact Nat.le_of_ble_eq_true rfl | exact Int.natCast_nonneg _ | exact at20 (forthA_r s l) rfl | exact hgo' rfl rfl | exact (by simp only [Ob.of]; omega) | exact (show 0 + Int.toNat ((k + 1 : Nat) : Int) * 80 + 80 ≤ (X.map A.int).length by rw [List.length_map, kk]; omega) | exact (show (fr.map A.int).length = 80 by rw [List.length_map, hf80])
      case zk =>
      refine Aw.em tab_ok mb0 [] rfl rfl ?zo ?zk
      case zo =>
        repeat' apply AllP.cons
        all_goals first | exact trivial | exact Nat.le_of_ble_eq_true rfl | exact Int.natCast_nonneg _ | exact (by simp only [Ob.of]; omega)
      case zk =>
      refine Aw.em tab_ok mb0 [] rfl rfl ?zo ?zk
      case zo =>
        repeat' apply AllP.cons
        all_goals first | exact trivial | exact inrk _ (by omega)
      case zk =>
      refine ⟨k + 2, ?zg, ?zm, ⟨?zc, ?zv, ?zh, Nat.le_of_ble_eq_true rfl⟩⟩
      case zg =>
        (repeat' (first | assumption))
      case zm =>
        (repeat' (first | omega))
      case zc =>
        (repeat' (first | (refine And.intro ?_ ?_) | exact trivial | exact A.Le.refl _))
      case zv =>
        (repeat' (first | (refine And.intro ?_ ?_) | exact trivial | exact A.Le.refl _ | exact .of_eq (show A.ref 27 ((k + 1) * 80) = A.ref 27 (0 + Int.toNat ((k + 1 : Nat) : Int) * 80) by rw [kk, Nat.zero_add])))
      case zh =>
        (repeat' (first | (refine And.intro ?_ ?_) | exact trivial | exact rfl | exact (by rw [kk] at *; exact congrArg (fun x => some (B.cells x)) (hrow.trans (congrArg (List.map A.int) hnx)))))
  have hle : k = hrs s := by have := of_decide_eq_false h1; omega
  subst hle
  refine Aw.sm tab_ok mb0 [] rfl rfl ?zo ?zk
  case zo =>
    repeat' apply AllP.cons
    all_goals first | exact trivial
  case zk =>
  refine Aw.seq ?_
  refine Aw.sm tab_ok mb0 [] rfl rfl ?zo ?zk
  case zo =>
    repeat' apply AllP.cons
    all_goals first | exact trivial | exact Nat.le_of_ble_eq_true rfl | exact (by simp only [Ob.of, inR]; omega)
  case zk =>
  refine Aw.block (Aw.rounds 35 h35 [(1, .pt (logA s (.mp 20) l)), (2, .ref 21 0), (3, .ref 22 0)] (fun j : Nat => [(4, befR s j), (6, .int (s.hours - 1 - j))]) (fun j => [(20, landB s), (21, msB 27 (hrs s)), (22, msB 32 (hrs s)), (27, cntB (blk (row1 s l (hrs s)) (hrs s))), (32, cntB (blk (row2 s l j) (hrs s)))]) (fun j => j ≤ hrs s) (fun j => hrs s - j) 0 ?zg ⟨?zc, ?zv, ?zh, Nat.le_of_ble_eq_true rfl⟩ ?zu (fun j zhk => ?zw) (fun j zhk => ?zx) fun j hk => ?zr)
  case zg =>
    (repeat' (first | exact Nat.zero_le _))
  case zc =>
    (repeat' (first | (refine And.intro ?_ ?_) | exact trivial | exact A.Le.refl _))
  case zv =>
    (repeat' (first | (refine And.intro ?_ ?_) | exact trivial | exact A.Le.refl _ | exact .of_eq (congrArg A.int (by omega))))
  case zh =>
    (repeat' (first | (refine And.intro ?_ ?_) | exact trivial | exact rfl))
  case zu =>
    (repeat' (first | exact trivial | assumption | exact Under.ref _ _ (by decide) | (refine And.intro ?_ ?_)))
  case zw =>
    (repeat' (first | exact trivial | exact Under.s _ | exact ubr _ | (refine And.intro ?_ ?_)))
  case zx =>
    (repeat' (first | exact trivial | exact Nat.le_of_ble_eq_true rfl | exact um | exact msB_under (by decide) | exact cntB_under _ | (refine And.intro ?_ ?_)))
  case zr =>
  refine Aw.seq ?_
  refine Aw.sm tab_ok mb0 [] rfl rfl ?zo ?zk
  case zo =>
    repeat' apply AllP.cons
    all_goals first | exact trivial
  case zk =>
  refine Aw.cond rfl (fun h1 => Aw.skip ?_) (fun h1 => ?_)
  · have hlt : j < hrs s := by have := of_decide_eq_true h1; omega
    have hrl : ∀ i, i < hrs s → (row2 s l j i).length = 80 := fun i _ => row2_len s l j i
    have hbl := blk_len hrl
    have kk : Int.toNat (s.hours - 1 - (j : Int)) = hrs s - 1 - j := by omega
    have hrow := blk_row (k := Int.toNat (s.hours - 1 - (j : Int))) hrl (bkR_len s l j) (by omega)
    have hnx : blk (updR (row2 s l j) (Int.toNat (s.hours - 1 - (j : Int))) (bkR s l j)) (hrs s) = blk (row2 s l (j + 1)) (hrs s) := blk_congr fun i _ => by
      unfold updR row2
      by_cases e : i = Int.toNat (s.hours - 1 - (j : Int))
      · rw [if_pos e, if_pos (by omega), show hrs s - 1 - i = j by omega]
      · rw [if_neg e]
        by_cases e2 : hrs s - j ≤ i
        · rw [if_pos e2, if_pos (by omega)]
        · rw [if_neg e2, if_neg (by omega)]
    have hf80 := bkR_len s l j
    have hgo := @goR_r s ho l hl j hlt
    generalize bkR s l j = fr at *
    generalize hx : blk (row2 s l j) (hrs s) = X at *
    refine Aw.seq (Aw.block ?_)
    cases j with
    | zero =>
      have hgo' : ∀ {H : Hp}, H 20 = some (landB s) → H 32 = some (cntB X) → RCall Try.prog 68 [.agg (logA s (.mp 20) l), backA s l, .int (s.hours - 1 - ((0 : Nat) : Int)), .s (.pointer none)] (onlyL H (idsOf [.mp 20])) (.agg (fr.map A.int)) := fun a b => hgo a b
      refine Aw.sd tab_ok mixed mb0 [(4, [backA s l, .tup [.mp 20]]), (7, [.agg (fr.map A.int), .tup [.mp 20]])] rfl (by kernel_rfl) rfl rfl ?zo ?zk
      case zo =>
        repeat' apply AllP.cons
        all_goals first | exact trivial | exact Nat.le_of_ble_eq_true rfl | exact at20 (backA_r s l) rfl | exact hgo' rfl rfl | exact (by simp only [Ob.of]; omega) | exact (show 0 + Int.toNat (s.hours - 1 - ((0 : Nat) : Int)) * 80 + 80 ≤ (X.map A.int).length by rw [List.length_map]; omega) | exact (show (fr.map A.int).length = 80 by rw [List.length_map, hf80])
      case zk =>
      refine Aw.em tab_ok mb0 [] rfl rfl ?zo ?zk
      case zo =>
        repeat' apply AllP.cons
        all_goals first | exact trivial | exact Nat.le_of_ble_eq_true rfl | exact (by simp only [Ob.of]; omega)
      case zk =>
      refine Aw.em tab_ok mb0 [] rfl rfl ?zo ?zk
      case zo =>
        repeat' apply AllP.cons
        all_goals first | exact trivial | exact (by simp only [Ob.of, inR]; omega)
      case zk =>
      refine ⟨1, ?zg, ?zm, ⟨?zc, ?zv, ?zh, Nat.le_of_ble_eq_true rfl⟩⟩
      case zg =>
        (repeat' (first | assumption))
      case zm =>
        (repeat' (first | omega))
      case zc =>
        (repeat' (first | (refine And.intro ?_ ?_) | exact trivial | exact A.Le.refl _))
      case zv =>
        (repeat' (first | (refine And.intro ?_ ?_) | exact trivial | exact .of_eq (show A.ref 32 ((hrs s - 1 - 0) * 80) = A.ref 32 (0 + Int.toNat (s.hours - 1 - ((0 : Nat) : Int)) * 80) by rw [kk, Nat.zero_add]) | exact .of_eq (congrArg A.int (by omega))))
      case zh =>
        (repeat' (first | (refine And.intro ?_ ?_) | exact trivial | exact rfl | exact congrArg (fun x => some (B.cells x)) (hrow.trans (congrArg (List.map A.int) hnx))))
    | succ j =>
      have hgo' : ∀ {H : Hp}, H 20 = some (landB s) → H 32 = some (cntB X) → RCall Try.prog 68 [.agg (logA s (.mp 20) l), backA s l, .int (s.hours - 1 - ((j + 1 : Nat) : Int)), .ref 32 ((hrs s - 1 - j) * 80)] (onlyL H (idsOf [.mp 20, .mp 32])) (.agg (fr.map A.int)) := fun a b => hgo a b
      refine Aw.sd tab_ok mixed mb0 [(4, [backA s l, .tup [.mp 20]]), (7, [.agg (fr.map A.int), .tup [.mp 20, .mp 32]])] rfl (by kernel_rfl) rfl rfl ?zo ?zk
      case zo =>
        repeat' apply AllP.cons
        all_goals first | exact trivial | exact Nat.le_of_ble_eq_true rfl | exact at20 (backA_r s l) rfl | exact hgo' rfl rfl | exact (by simp only [Ob.of]; omega) | exact (show 0 + Int.toNat (s.hours - 1 - ((j + 1 : Nat) : Int)) * 80 + 80 ≤ (X.map A.int).length by rw [List.length_map]; omega) | exact (show (fr.map A.int).length = 80 by rw [List.length_map, hf80])
      case zk =>
      refine Aw.em tab_ok mb0 [] rfl rfl ?zo ?zk
      case zo =>
        repeat' apply AllP.cons
        all_goals first | exact trivial | exact Nat.le_of_ble_eq_true rfl | exact (by simp only [Ob.of]; omega)
      case zk =>
      refine Aw.em tab_ok mb0 [] rfl rfl ?zo ?zk
      case zo =>
        repeat' apply AllP.cons
        all_goals first | exact trivial | exact (by simp only [Ob.of, inR]; omega)
      case zk =>
      refine ⟨j + 2, ?zg, ?zm, ⟨?zc, ?zv, ?zh, Nat.le_of_ble_eq_true rfl⟩⟩
      case zg =>
        (repeat' (first | assumption))
      case zm =>
        (repeat' (first | omega))
      case zc =>
        (repeat' (first | (refine And.intro ?_ ?_) | exact trivial | exact A.Le.refl _))
      case zv =>
        (repeat' (first | (refine And.intro ?_ ?_) | exact trivial | exact .of_eq (show A.ref 32 ((hrs s - 1 - (j + 1)) * 80) = A.ref 32 (0 + Int.toNat (s.hours - 1 - ((j + 1 : Nat) : Int)) * 80) by rw [kk, Nat.zero_add]) | exact .of_eq (congrArg A.int (by omega))))
      case zh =>
        (repeat' (first | (refine And.intro ?_ ?_) | exact trivial | exact rfl | exact congrArg (fun x => some (B.cells x)) (hrow.trans (congrArg (List.map A.int) hnx))))
  have hle : j = hrs s := by have := of_decide_eq_false h1; omega
  subst hle
  refine Aw.exit2 ?_
  refine Aw.seq ?_
  refine Aw.sm tab_ok mb0 [] rfl rfl ?zo ?zk
  case zo =>
    repeat' apply AllP.cons
    all_goals first | exact trivial | exact Nat.le_of_ble_eq_true rfl
  case zk =>
  have hb0 : blk (row1 s l (hrs s)) (hrs s) = blk (row3 s l 0 0) (hrs s) := blk_congr fun i hi => by
    unfold row1 row3 setP
    rw [if_pos hi, if_neg (by omega)]
    split
    · rename_i e; subst e; rfl
    · rfl
  have hb1 : blk (row2 s l (hrs s)) (hrs s) = blk (fun i => bkR s l (hrs s - 1 - i)) (hrs s) := blk_congr fun i hi => by unfold row2; rw [if_pos (by omega)]
  rw [hb0, hb1]
  have hbl2 := blk_len (row := fun i => bkR s l (hrs s - 1 - i)) (n := hrs s) fun i _ => bkR_len s l _
  refine Aw.block (Aw.rounds 35 h35 [(1, .pt (logA s (.mp 20) l)), (2, .ref 21 0), (3, .ref 22 0), (63, .int s.hours)] (fun h : Nat => [(64, .int h)]) (fun h => [(20, landB s), (21, msB 27 (hrs s)), (22, msB 32 (hrs s)), (27, cntB (blk (row3 s l h 0) (hrs s))), (32, cntB (blk (fun i => bkR s l (hrs s - 1 - i)) (hrs s)))]) (fun h => h ≤ hrs s) (fun h => hrs s - h) 0 ?zg ⟨?zc, ?zv, ?zh, Nat.le_of_ble_eq_true rfl⟩ ?zu (fun h zhk => ?zw) (fun h zhk => ?zx) fun h hk => ?zr)
  case zg =>
    (repeat' (first | exact Nat.zero_le _))
  case zc =>
    (repeat' (first | (refine And.intro ?_ ?_) | exact trivial | exact A.Le.refl _))
  case zv =>
    (repeat' (first | (refine And.intro ?_ ?_) | exact trivial | exact A.Le.refl _))
  case zh =>
    (repeat' (first | (refine And.intro ?_ ?_) | exact trivial | exact rfl))
  case zu =>
    (repeat' (first | exact trivial | exact Under.s _ | assumption | exact Under.ref _ _ (by decide) | (refine And.intro ?_ ?_)))
  case zw =>
    (repeat' (first | exact trivial | exact Under.s _ | (refine And.intro ?_ ?_)))
  case zx =>
    (repeat' (first | exact trivial | exact Nat.le_of_ble_eq_true rfl | exact um | exact msB_under (by decide) | exact cntB_under _ | (refine And.intro ?_ ?_)))
  case zr =>
  refine Aw.sm tab_ok mb0 [] rfl rfl ?zo ?zk
  case zo =>
    repeat' apply AllP.cons
    all_goals first | exact trivial
  case zk =>
  refine Aw.seq (Aw.cond rfl (fun h1 => Aw.skip1 ?_) (fun h1 => Aw.exit2 ?_))
  · have hlt : h < hrs s := by have := of_decide_eq_true h1; omega
    have kk : Int.toNat (h : Int) = h := Int.toNat_natCast h
    refine Aw.seq (Aw.block ?_)
    refine Aw.sm tab_ok mb0 [] rfl rfl ?zo ?zk
    case zo =>
      repeat' apply AllP.cons
      all_goals first | exact trivial | exact rfl | exact Nat.le_of_ble_eq_true rfl
    case zk =>
    refine Aw.sm tab_ok mb0 [(2, [.fn (.func 73) [] [.pt (seaA s (.mp 20))], .tup [.mp 20]])] rfl rfl ?zo ?zk
    case zo =>
      repeat' apply AllP.cons
      all_goals first | exact trivial | exact Nat.le_of_ble_eq_true rfl | exact at20 (cells_r s) rfl
    case zk =>
    have usa : Under 36 (A.pt (seaA s (.mp 20))) := .pt _ (sea_under s (by decide))
    have ufn : Under 36 (A.fn (.func 73) [] [.pt (seaA s (.mp 20))]) := .fn _ _ _ (fun _ h => nomatch h) (all1 usa)
    have ucst : UnderL 36 [(1, .pt (logA s (.mp 20) l)), (2, .ref 21 0), (3, .ref 22 0), (7, .ref 35 0), (63, .int s.hours)] := ⟨u36, .ref _ _ (by decide), .ref _ _ (by decide), .ref _ _ (by decide), .s _, trivial⟩
    have uH : ∀ b : List Int, UnderH 36 [(20, landB s), (21, msB 27 (hrs s)), (22, msB 32 (hrs s)), (27, cntB b), (32, cntB (blk (fun i => bkR s l (hrs s - 1 - i)) (hrs s))), (35, .cells [.int h])] := fun b => ⟨⟨by decide, um⟩, ⟨by decide, msB_under (by decide)⟩, ⟨by decide, msB_under (by decide)⟩, ⟨by decide, cntB_under _⟩, ⟨by decide, cntB_under _⟩, ⟨by decide, .cells _ (all1 (.s _))⟩, trivial⟩
    refine Aw.keep (n := 36) (cst := [(1, .pt (logA s (.mp 20) l)), (2, .ref 21 0), (3, .ref 22 0), (7, .ref 35 0), (63, .int s.hours)]) (v := [(64, .int h), (69, .fn (.func 73) [] [.pt (seaA s (.mp 20))])]) (Hl := [(20, landB s), (21, msB 27 (hrs s)), (22, msB 32 (hrs s)), (27, cntB (blk (row3 s l h 0) (hrs s))), (32, cntB (blk (fun i => bkR s l (hrs s - 1 - i)) (hrs s))), (35, .cells [.int h])]) h36 ?zu ?zw ?zx ⟨?zc, ?zv, ?zh, Nat.le_of_ble_eq_true rfl⟩ ?zr
    case zu =>
      (repeat' (first | assumption))
    case zw =>
      (repeat' (first | exact trivial | exact Under.s _ | assumption | (refine And.intro ?_ ?_)))
    case zx =>
      (repeat' (first | exact uH _))
    case zc =>
      (repeat' (first | (refine And.intro ?_ ?_) | exact trivial | exact A.Le.refl _))
    case zv =>
      (repeat' (first | (refine And.intro ?_ ?_) | exact trivial | exact A.Le.refl _))
    case zh =>
      (repeat' (first | (refine And.intro ?_ ?_) | exact trivial | exact rfl))
    case zr =>
    refine Aw.block (Aw.iterM rfl (enters_of Try.func73 rfl rfl) ((cellsL s).map fun k : Nat => [A.int k]) (fun j H => H = ofH [(20, landB s), (21, msB 27 (hrs s)), (22, msB 32 (hrs s)), (27, cntB (blk (row3 s l h j) (hrs s))), (32, cntB (blk (fun i => bkR s l (hrs s - 1 - i)) (hrs s))), (35, .cells [.int h])]) (fun _ _ => False) rfl hlen
      (ofL2_under (UnderL.app (l := [(64, .int h), (69, .fn (.func 73) [] [.pt (seaA s (.mp 20))])]) ⟨.s _, ufn, trivial⟩ ucst))
      (by rintro j H rfl; exact UnderH.ofH (uH _)) (fun _ _ h => h.elim)
      (fun it hIJ H hI => by rw [hlm]; exact cells1_t s ho it (Nat.lt_succ_self _) (Nat.le_of_ble_eq_true rfl) (fun k H h => by obtain ⟨H0, rfl, h2⟩ := hIJ k H h; rw [h2 20 (Nat.ne_of_beq_eq_false rfl)]; rfl) hI) rfl ?_ ?_ (fun _ _ _ _ ⟨_, h, _⟩ => h.elim))
    · intro lpB ulp j as' ha H hI E2 b2 hE2
      subst hI
      obtain ⟨p, hp, rfl⟩ : ∃ p, (cellsL s)[j]? = some p ∧ [A.int (p : Nat)] = as' := by
        rw [List.getElem?_map] at ha
        cases e : (cellsL s)[j]? with
        | none => rw [e] at ha; cases ha
        | some p => rw [e] at ha; exact ⟨p, rfl, by simpa using ha⟩
      have hpc := cellsL_in s ho hp
      have hpm : p ∈ cellsL s := List.mem_of_getElem? hp
      have hrl : ∀ i, i < hrs s → (row3 s l h j i).length = 80 := fun i _ => row3_len s l h j i
      have hbl := blk_len hrl
      have pp : Int.toNat ((p : Nat) : Int) = p := Int.toNat_natCast p
      have g1 : (blk (row3 s l h j) (hrs s)).getD (h * 80 + p) 0 = (fwR s l h).getD p 0 := by
        rw [blk_getD hrl hlt (by omega)]
        unfold row3; rw [if_neg (by omega), if_pos rfl, setP_get (by omega) (cells_take hp)]
      have g2 : (blk (fun i => bkR s l (hrs s - 1 - i)) (hrs s)).getD (h * 80 + p) 0 = (bkR s l (hrs s - 1 - h)).getD p 0 := blk_getD (row := fun i => bkR s l (hrs s - 1 - i)) (fun i _ => bkR_len s l _) hlt (by omega)
      have b1 := fwR_bd ho hl24 hlt (show p < 80 by omega) (l := l)
      have b2 := bkR_bd ho hl24 (j := hrs s - 1 - h) (by omega) (show p < 80 by omega) (l := l)
      have hub := untrue_bd s l hl h (placeP s.wide p)
      have hur := untrue_t s ho l hl 20 h p (by omega)
      have hv : thrV s l h p = gmin 1048576 ((fwR s l h).getD p 0 + (bkR s l (hrs s - 1 - h)).getD p 0 - untrueF s.wide l h (placeP s.wide p)) := rfl
      have hnx : blk (updR (row3 s l h j) h ((row3 s l h j h).set p (thrV s l h p))) (hrs s) = blk (row3 s l h (j + 1)) (hrs s) := blk_congr fun i _ => by
        unfold updR row3
        by_cases e : i = h
        · subst e; simp only [if_true, Nat.lt_irrefl, if_false]; rw [setP_succ hp]
        · rw [if_neg e, if_neg e, if_neg e]
      have hcell := blk_cell (v := thrV s l h p) hrl hlt (show p < 80 by omega)
      generalize (fwR s l h).getD p 0 = fa at *
      generalize (bkR s l (hrs s - 1 - h)).getD p 0 = fb at *
      generalize untrueF s.wide l h (placeP s.wide p) = u at *
      generalize thrV s l h p = vp at *
      generalize hX : blk (row3 s l h j) (hrs s) = X at *
      generalize hY : blk (fun i => bkR s l (hrs s - 1 - i)) (hrs s) = Y at *
      have hlv := hv ▸ least1_t 1048576 (fa + fb - u)
      have l1 : 0 + Int.toNat (h : Int) * 80 + Int.toNat ((p : Nat) : Int) * 1 < (X.map A.int).length := by rw [List.length_map, kk, pp]; omega
      have l2 : 0 + Int.toNat (h : Int) * 80 + Int.toNat ((p : Nat) : Int) * 1 < (Y.map A.int).length := by rw [List.length_map, kk, pp]; omega
      have e1 : ((X.map A.int).getD (0 + Int.toNat (h : Int) * 80 + Int.toNat ((p : Nat) : Int) * 1) .un).down = .int fa := by rw [kk, pp, Nat.zero_add, Nat.mul_one, getD_ints (by omega), g1]
      have e2 : ((Y.map A.int).getD (0 + Int.toNat (h : Int) * 80 + Int.toNat ((p : Nat) : Int) * 1) .un).down = .int fb := by rw [kk, pp, Nat.zero_add, Nat.mul_one, getD_ints (by omega), g2]
      refine Aw.em tab_ok mb0 [] rfl rfl ?zo ?zk
      case zo =>
        repeat' apply AllP.cons
        all_goals first | exact trivial
      case zk =>
      refine ⟨rfl, rfl, ?_⟩
      refine Aw.block ?_
      refine Aw.ed tab_ok mixed mb0 [(8, [.int fa]), (14, [.int fb]), (19, [.int u]), (22, [.int vp])] rfl (by kernel_rfl) rfl rfl ?zo ?zk
      case zo =>
        repeat' apply AllP.cons
        all_goals first | exact trivial | exact rfl | exact Nat.le_of_ble_eq_true rfl | exact Int.natCast_nonneg _ | exact e1 | exact e2 | exact l1 | exact l2 | exact hur | exact hlv | exact (by simp only [Ob.of]; omega) | exact (by simp only [Ob.of, inR]; omega)
      case zk =>
      exact ⟨⟨_, _, rfl⟩, Nat.le_of_ble_eq_true rfl, _, rfl, HasH.ofH (l := [(20, landB s), (21, msB 27 (hrs s)), (22, msB 32 (hrs s)), (27, cntB (blk (row3 s l h (j + 1)) (hrs s))), (32, cntB Y), (35, .cells [.int h])]) ⟨rfl, rfl, rfl, (show some (B.cells (setSeg (X.map A.int) (0 + Int.toNat (h : Int) * 80 + Int.toNat ((p : Nat) : Int) * 1) [A.int vp])) = some (cntB (blk (row3 s l h (j + 1)) (hrs s))) by rw [kk, pp, hcell, hnx]; rfl), rfl, rfl, trivial⟩⟩
    · rintro H c' hc' ⟨H0, rfl, hs⟩
      rw [hlm] at hs
      obtain ⟨q1, q2, q3, q4, q5, q6, _⟩ := hasH_of_sub (l := [(20, landB s), (21, msB 27 (hrs s)), (22, msB 32 (hrs s)), (27, cntB (blk (row3 s l h (cellsL s).length) (hrs s))), (32, cntB (blk (fun i => bkR s l (hrs s - 1 - i)) (hrs s))), (35, .cells [.int h])]) rfl hs
      have hnx : blk (row3 s l h (cellsL s).length) (hrs s) = blk (row3 s l (h + 1) 0) (hrs s) := blk_congr fun i hi => by
        unfold row3
        rw [List.take_length, setP_all]
        by_cases e : i < h
        · rw [if_pos e, if_pos (by omega)]
        · by_cases e2 : i = h
          · rw [if_neg e, if_pos e2, if_pos (by omega), e2]
          · rw [if_neg e, if_neg e2, if_neg (by omega)]
            by_cases e3 : i = h + 1
            · rw [if_pos e3, e3]; rfl
            · rw [if_neg e3]
      rw [hnx] at q4
      refine Aw.keep (n := 35) (cst := [(1, .pt (logA s (.mp 20) l)), (2, .ref 21 0), (3, .ref 22 0), (63, .int s.hours)]) (v := [(64, .int h)]) (Hl := [(20, landB s), (21, msB 27 (hrs s)), (22, msB 32 (hrs s)), (27, cntB (blk (row3 s l (h + 1) 0) (hrs s))), (32, cntB (blk (fun i => bkR s l (hrs s - 1 - i)) (hrs s)))]) h35 ⟨u35, .ref _ _ (by decide), .ref _ _ (by decide), .s _, trivial⟩ ⟨.s _, trivial⟩ ⟨⟨by decide, um⟩, ⟨by decide, msB_under (by decide)⟩, ⟨by decide, msB_under (by decide)⟩, ⟨by decide, cntB_under _⟩, ⟨by decide, cntB_under _⟩, trivial⟩
        ⟨⟨.refl _, .refl _, .refl _, .refl _, trivial⟩, ⟨.refl _, trivial⟩, ⟨q1, q2, q3, q4, q5, trivial⟩, Nat.le_trans (show 35 ≤ 36 by decide) hc'⟩ ?_
      refine Aw.em tab_ok mb0 [] rfl rfl ?zo ?zk
      case zo =>
        repeat' apply AllP.cons
        all_goals first | exact trivial | exact inrk h (by omega)
      case zk =>
      refine ⟨h + 1, ?zg, ?zm, ⟨?zc, ?zv, ?zh, Nat.le_of_ble_eq_true rfl⟩⟩
      case zg =>
        (repeat' (first | assumption))
      case zm =>
        (repeat' (first | omega))
      case zc =>
        (repeat' (first | (refine And.intro ?_ ?_) | exact trivial | exact A.Le.refl _))
      case zv =>
        (repeat' (first | (refine And.intro ?_ ?_) | exact trivial | exact A.Le.refl _))
      case zh =>
        (repeat' (first | (refine And.intro ?_ ?_) | exact trivial | exact rfl))
  have hle : h = hrs s := by have := of_decide_eq_false h1; omega
  subst hle
  have hb3 : blk (row3 s l (hrs s) 0) (hrs s) = blk (thrR s l) (hrs s) := blk_congr fun i hi => by unfold row3; rw [if_pos hi]
  rw [hb3]
  refine Aw.sd tab_ok mixed mb0 [] rfl (by kernel_rfl) rfl rfl ?zo ?zk
  case zo =>
    repeat' apply AllP.cons
    all_goals first | exact trivial | exact rfl | exact Nat.le_of_ble_eq_true rfl
  case zk =>
  refine Aw.keep (n := 35) (cst := [(2, .ref 21 0), (3, .ref 22 0)]) (v := []) (Hl := [(20, landB s), (21, msB 27 (hrs s)), (22, msB 32 (hrs s)), (27, cntB (blk (thrR s l) (hrs s))), (32, cntB (blk (fun i => bkR s l (hrs s - 1 - i)) (hrs s)))]) h35 ?zu ?zw ?zx ⟨?zc, ?zv, ?zh, Nat.le_of_ble_eq_true rfl⟩ ?zr
  case zu =>
    (repeat' (first | exact trivial | exact Under.ref _ _ (by decide) | (refine And.intro ?_ ?_)))
  case zw =>
    (repeat' (first | exact trivial))
  case zx =>
    (repeat' (first | exact trivial | exact Nat.le_of_ble_eq_true rfl | exact um | exact msB_under (by decide) | exact cntB_under _ | (refine And.intro ?_ ?_)))
  case zc =>
    (repeat' (first | (refine And.intro ?_ ?_) | exact trivial | exact A.Le.refl _))
  case zv =>
    (repeat' (first | exact trivial))
  case zh =>
    (repeat' (first | (refine And.intro ?_ ?_) | exact trivial | exact rfl))
  case zr =>
  refine Aw.freezeC (id := 27) (id2 := 21) (j := 0) (sz := 80) (rowsA (thrR s l) (hrs s)) rfl rfl (by decide) Nat.zero_lt_one rfl (blk_rows fun i _ => setK_len _ _) (by simp [rowsA]) ?_
  refine Aw.freezeC (id := 32) (id2 := 22) (j := 0) (sz := 80) (rowsA (fun i => bkR s l (hrs s - 1 - i)) (hrs s)) rfl rfl (by decide) Nat.zero_lt_one rfl (blk_rows fun i _ => bkR_len s l _) (by simp [rowsA]) ?_
  exact Aw.ret ⟨_, .cons (resO rfl rfl (fun h => nomatch h) rfl rfl rfl) (.cons (resO rfl rfl (fun h => nomatch h) rfl rfl rfl) .nil), rfl, ⟨rfl, trivial⟩⟩
theorem through_r (s : Sea) (ho : s.Ok) (l : List Rep) (hl : RepFit s l) :
    RCall Try.prog 57 [.agg (logA s (.mp 20) l)] (landH s) (.tup [.sl false .any (rowsA (thrR s l) (hrs s)), .sl false .any (rowsA (fun i => bkR s l (hrs s - 1 - i)) (hrs s))]) :=
  RCall.of (enters_of Try.func57 rfl rfl) (landH_lt s) (landH_nms s) (all1 (.agg _ (log_nms s l))) (.tup _ (allC (rowsA_free _ _ _ _).nms (all1 (rowsA_free _ _ _ _).nms))) (fun _ => rfl) (through_s s ho l hl)
end Go.Proofs.Ytkfepnbanekfgaa

namespace Go.Proofs.Ytkfepnbanekfgaa
open Go Go.AL Go.AL.Q Go.AL.Sh
theorem rows_at {row : Nat → List Int} {n i : Nat} (h : i < n) : (rowsA row n)[i]? = some ((row i).map A.int) := by simp [rowsA, h]
end Go.Proofs.Ytkfepnbanekfgaa

namespace Go.Proofs.Ytkfepnbanekfgaa
open Go Go.AL Go.AL.Q Go.AL.Sh
def canA : List Int → A
  | [] => .sl true .exact []
  | x :: l => .sl false .exact (ints (x :: l))
theorem canA_free : ∀ l : List Int, Free (canA l)
  | [] => .sl _ _ _ fun _ h => nomatch h
  | x :: l => free_ints _ _ _
def canF (s : Sea) (l : List Rep) (wrong hour : Int) : List Int := goL s (fun c => decide ((thrR s l hour.toNat).getD c 0 ≤ wrong)) (cellsL s).length
def canE (G : List Int) : Int := if G.isEmpty then 12 else 0
set_option maxRecDepth 20000 in
theorem can_s (s : Sea) (ho : s.Ok) (l : List Rep) (hl : RepFit s l) (wrong hour : Int) (h0 : 0 ≤ hour) (h1 : hour < s.hours) :
    SCall Try.prog 39 [.agg (logA s (.mp 20) l), .int wrong, .int hour] (landH s) 21 (fun v' H' _ => v' = .tup [canA (canF s l wrong hour), .int (canE (canF s l wrong hour))] ∧ ∀ id bx, landH s id = some bx → H' id = some bx) := by
  have hhr := ho.hr
  have hlt : hour.toNat < hrs s := by unfold hrs; omega
  have hlen : ∀ z ∈ (cellsL s).map fun k : Nat => [A.int k], z.length = 1 := fun z h => by obtain ⟨p, _, rfl⟩ := List.mem_map.1 h; rfl
  have hlm : ((cellsL s).map fun k : Nat => [A.int k]).length = (cellsL s).length := List.length_map _
  have hcl := cellsL_len s ho
  have hfr := rowsA_free (thrR s l) (hrs s) false .any
  have hrow : (rowsA (thrR s l) (hrs s))[hour.toNat]? = some ((thrR s l hour.toNat).map A.int) := rows_at hlt
  have hr80 : (thrR s l hour.toNat).length = 80 := setK_len _ _
  have hth := through_r s ho l hl
  unfold canF
  generalize thrR s l hour.toNat = R at *
  generalize rowsA (thrR s l) (hrs s) = RA at *
  generalize hP : (fun c : Nat => decide (R.getD c 0 ≤ wrong)) = P
  refine SCall.drop (post := fun v' H' _ => v' = .tup [canA (goL s P (cellsL s).length), .int (canE (goL s P (cellsL s).length))] ∧ HasH H' [(20, landB s)]) (SCall.of_bodyN tab_ok Try.func39 rfl Try.ntmps39 (Nat.le_of_ble_eq_true rfl) (allC (fun _ => rfl) (allC (fun _ => rfl) (all1 fun _ => rfl))) fun E hE => ?_)
    (fun v H' c' h => ⟨_, h.2.ofH, h.1, fun id bx h => h⟩)
  have h23 : ∀ id, 23 ≤ id → E.φ0 id = none := fun id h => hE id (by omega)
  have ulog : Under 23 (A.pt (logA s (.mp 20) l)) := .pt _ (logA_under s (by decide) l)
  have usa : Under 23 (A.pt (seaA s (.mp 20))) := .pt _ (sea_under s (by decide))
  have ufn : Under 23 (A.fn (.func 73) [] [.pt (seaA s (.mp 20))]) := .fn _ _ _ (fun _ h => nomatch h) (all1 usa)
  have uh : Under 23 (A.pt [A.int hour]) := .pt _ (all1 (.s _))
  have uw : Under 23 (A.pt [A.int wrong]) := .pt _ (all1 (.s _))
  have ucst : UnderL 23 [(3, .pt (logA s (.mp 20) l)), (4, .pt [.int wrong]), (5, .pt [.int hour]), (8, .ref 21 0), (10, .ref 22 0)] := ⟨ulog, uw, uh, .ref _ _ (by decide), .ref _ _ (by decide), trivial⟩
  have uH : ∀ G : List Int, UnderH 23 [(20, landB s), (21, .cells [.sl false .any RA]), (22, .cells [grL 3 G])] := fun G => ⟨⟨by decide, map_under _⟩, ⟨by decide, .cells _ (all1 hfr.under)⟩, ⟨by decide, .cells _ (all1 (grL_under _))⟩, trivial⟩
  refine Aw.sm tab_ok mb0 [] rfl rfl ?zo ?zk
  case zo =>
    repeat' apply AllP.cons
    all_goals first | exact trivial
  case zk =>
  refine Aw.sm tab_ok mb0 [(1, [.tup [.sl false .any RA, .sl false .any (rowsA (fun i => bkR s l (hrs s - 1 - i)) (hrs s))], .tup [.mp 20]])] rfl rfl ?zo ?zk
  case zo =>
    repeat' apply AllP.cons
    all_goals first | exact trivial | exact rfl | exact Nat.le_of_ble_eq_true rfl | exact at20 hth rfl
  case zk =>
  refine Aw.sm tab_ok mb0 [] rfl rfl ?zo ?zk
  case zo =>
    repeat' apply AllP.cons
    all_goals first | exact trivial
  case zk =>
  refine Aw.seq ?_
  refine Aw.sm tab_ok mb0 [(2, [.fn (.func 73) [] [.pt (seaA s (.mp 20))], .tup [.mp 20]])] rfl rfl ?zo ?zk
  case zo =>
    repeat' apply AllP.cons
    all_goals first | exact trivial | exact Nat.le_of_ble_eq_true rfl | exact at20 (cells_r s) rfl
  case zk =>
  refine Aw.keep (n := 23) (cst := [(3, .pt (logA s (.mp 20) l)), (4, .pt [.int wrong]), (5, .pt [.int hour]), (8, .ref 21 0), (10, .ref 22 0)]) (v := [(19, .fn (.func 73) [] [.pt (seaA s (.mp 20))])]) (Hl := [(20, landB s), (21, .cells [.sl false .any RA]), (22, .cells [grL 3 (goL s P 0)])]) h23 ?zu ?zw ?zx ⟨?zc, ?zv, ?zh, Nat.le_of_ble_eq_true rfl⟩ ?zr
  case zu =>
    (repeat' (first | assumption))
  case zw =>
    (repeat' (first | exact trivial | assumption | (refine And.intro ?_ ?_)))
  case zx =>
    (repeat' (first | exact uH _))
  case zc =>
    (repeat' (first | (refine And.intro ?_ ?_) | exact trivial | exact A.Le.refl _))
  case zv =>
    (repeat' (first | (refine And.intro ?_ ?_) | exact trivial | exact A.Le.refl _))
  case zh =>
    (repeat' (first | (refine And.intro ?_ ?_) | exact trivial | exact rfl))
  case zr =>
  refine Aw.block (Aw.iterM rfl (enters_of Try.func73 rfl rfl) ((cellsL s).map fun k : Nat => [A.int k]) (fun j H => H = ofH [(20, landB s), (21, .cells [.sl false .any RA]), (22, .cells [grL 3 (goL s P j)])]) (fun _ _ => False) rfl hlen
    (ofL2_under (UnderL.app (l := [(19, .fn (.func 73) [] [.pt (seaA s (.mp 20))])]) ⟨ufn, trivial⟩ ucst))
    (by rintro j H rfl; exact UnderH.ofH (uH _)) (fun _ _ h => h.elim)
    (fun it hIJ H hI => by rw [hlm]; exact cells1_t s ho it (Nat.lt_succ_self _) (Nat.le_of_ble_eq_true rfl) (fun k H h => by obtain ⟨H0, rfl, h2⟩ := hIJ k H h; rw [h2 20 (Nat.ne_of_beq_eq_false rfl)]; rfl) hI) rfl ?_ ?_ (fun _ _ _ _ ⟨_, h, _⟩ => h.elim))
  · intro lpB ulp j as' ha H hI E2 b2 hE2
    subst hI
    obtain ⟨p, hp, rfl⟩ : ∃ p, (cellsL s)[j]? = some p ∧ [A.int (p : Nat)] = as' := by
      rw [List.getElem?_map] at ha
      cases e : (cellsL s)[j]? with
      | none => rw [e] at ha; cases ha
      | some p => rw [e] at ha; exact ⟨p, rfl, by simpa using ha⟩
    have hgo := goL_succ s P hp
    have hgl := goL_len s P j
    have hpc := cellsL_in s ho hp
    have pp : Int.toNat ((p : Nat) : Int) = p := Int.toNat_natCast p
    have hPp : P p = decide (R.getD p 0 ≤ wrong) := by rw [← hP]
    have hld : (((R.map A.int).drop (Int.toNat ((p : Nat) : Int) * 1)).getD 0 .un).down = .int (R.getD p 0) := by
      rw [pp, Nat.mul_one, getD_drop, Nat.add_zero, getD_ints (by omega)]
    have hld2 : 0 < ((R.map A.int).drop (Int.toNat ((p : Nat) : Int) * 1)).length := by rw [pp, List.length_drop, List.length_map]; omega
    refine Aw.em tab_ok mb0 [] rfl rfl ?zo ?zk
    case zo =>
      repeat' apply AllP.cons
      all_goals first | exact trivial
    case zk =>
    refine ⟨rfl, rfl, ?_⟩
    refine Aw.block ?_
    refine Aw.sd tab_ok mixed mb0 [(3, R.map A.int), (5, [.int (R.getD p 0)])] rfl (by kernel_rfl) rfl rfl ?zo ?zk
    case zo =>
      repeat' apply AllP.cons
      all_goals first | exact trivial | exact Nat.le_of_ble_eq_true rfl | exact Int.natCast_nonneg _ | exact hrow | exact (show (R.map A.int).length = 80 by simp [hr80]) | exact hld | exact hld2 | exact (by simp only [Ob.of]; omega)
    case zk =>
    generalize goL s P j = G at *
    generalize goL s P (j + 1) = G' at *
    refine Aw.cond rfl (fun h2 => ?_) (fun h2 => Aw.skip ?_)
    · have h2 : decide (R.getD p 0 ≤ wrong) = true := h2
      rw [if_pos (hPp.trans h2)] at hgo
      subst hgo
      cases G with
      | nil =>
        refine Aw.em tab_ok mb0 [] rfl rfl ?zo ?zk
        case zo =>
          repeat' apply AllP.cons
          all_goals first | exact trivial | exact rfl | exact Nat.le_of_ble_eq_true rfl | exact (show ∀ z ∈ [] ++ [[A.int _]], z.length = 1 from fun z hz => by simp at hz; subst hz; rfl)
        case zk =>
        exact ⟨⟨_, _, rfl⟩, Nat.le_of_ble_eq_true rfl, _, rfl, HasH.ofH (l := [(20, landB s), (21, .cells [.sl false .any RA]), (22, .cells [grL 3 [(p : Int)]])]) ⟨rfl, rfl, rfl, trivial⟩⟩
      | cons x t =>
        have hlen2 : (ints (x :: t)).length ≤ 1000 := by simp only [ints, List.length_map]; omega
        have hz : ∀ z ∈ ints (x :: t), z.length = 1 := fun z hz => by obtain ⟨i, _, rfl⟩ := List.mem_map.1 hz; rfl
        refine Aw.em tab_ok mb0 [] rfl rfl ?zo ?zk
        case zo =>
          repeat' apply AllP.cons
          all_goals first | exact trivial | exact rfl | exact Nat.le_of_ble_eq_true rfl | exact (show ∀ z ∈ [[A.int _]], z.length = 1 from fun z hz => by simp at hz; subst hz; rfl) | exact hz | exact (show ((ints (x :: t)).length + 1) * 8 ≤ 140737488355328 by omega) | exact (show (ints (x :: t)).length + 1 ≤ maxLen by unfold maxLen; omega)
        case zk =>
        exact ⟨⟨_, _, rfl⟩, Nat.le_of_ble_eq_true rfl, _, rfl, HasH.ofH (l := [(20, landB s), (21, .cells [.sl false .any RA]), (22, .cells [grL 3 ((x :: t) ++ [(p : Int)])])]) ⟨rfl, rfl, by simp [grL, ints]; rfl, trivial⟩⟩
    · have h2 : decide (R.getD p 0 ≤ wrong) = false := h2
      rw [if_neg (ne_true_of_eq_false (hPp.trans h2))] at hgo
      subst hgo
      exact ⟨⟨_, _, rfl⟩, Nat.le_of_ble_eq_true rfl, _, rfl, HasH.ofH (l := [(20, landB s), (21, .cells [.sl false .any RA]), (22, .cells [grL 3 G'])]) ⟨rfl, rfl, rfl, trivial⟩⟩
  · rintro H c' hc' ⟨H0, rfl, hs⟩
    rw [hlm] at hs
    have hH := hasH_of_sub (l := [(20, landB s), (21, .cells [.sl false .any RA]), (22, .cells [grL 3 (goL s P (cellsL s).length)])]) rfl hs
    refine Aw.keep (n := 23) (cst := [(10, .ref 22 0)]) (v := []) (Hl := [(20, landB s), (21, .cells [.sl false .any RA]), (22, .cells [grL 3 (goL s P (cellsL s).length)])]) h23 ⟨.ref _ _ (by decide), trivial⟩ trivial (uH _)
      ⟨⟨.refl _, trivial⟩, trivial, hH, hc'⟩ ?_
    generalize goL s P (cellsL s).length = G at *
    cases G with
    | nil =>
      refine Aw.seq ?_
      refine Aw.sm tab_ok mb0 [] rfl rfl ?zo ?zk
      case zo =>
        repeat' apply AllP.cons
        all_goals first | exact trivial | exact Nat.le_of_ble_eq_true rfl
      case zk =>
      refine Aw.cond rfl (fun h => ?_) (fun h => absurd h (by decide))
      refine Aw.sm tab_ok mb0 [] rfl rfl ?zo ?zk
      case zo =>
        repeat' apply AllP.cons
        all_goals first | exact trivial
      case zk =>
      exact Aw.ret ⟨_, .cons (.tmp _) (.cons (.tmp _) .nil), rfl, ⟨rfl, trivial⟩⟩
    | cons x t =>
      refine Aw.seq ?_
      refine Aw.sm tab_ok mb0 [] rfl rfl ?zo ?zk
      case zo =>
        repeat' apply AllP.cons
        all_goals first | exact trivial | exact Nat.le_of_ble_eq_true rfl
      case zk =>
      refine Aw.cond rfl (fun h => absurd (of_decide_eq_true h) (show ¬ (((ints (x :: t)).length : Int) = 0) by simp [ints]; omega)) (fun h => Aw.skip ?_)
      refine Aw.sm tab_ok mb0 [] rfl rfl ?zo ?zk
      case zo =>
        repeat' apply AllP.cons
        all_goals first | exact trivial | exact rfl | exact Nat.le_of_ble_eq_true rfl | exact Int.natCast_nonneg _ | exact (by simp only [Ob.of]; omega)
      case zk =>
      have e : (ints (x :: t)).take (Int.toNat ((ints (x :: t)).length : Int)) = ints (x :: t) := by rw [Int.toNat_natCast, List.take_length]
      exact Aw.ret ⟨_, .cons (.tmp _) (.cons (.tmp _) .nil), congrArg (fun r => A.tup [.sl false .exact r, .int 0]) e, ⟨rfl, trivial⟩⟩
end Go.Proofs.Ytkfepnbanekfgaa

namespace Go.Proofs.Ytkfepnbanekfgaa
open Go Go.AL Go.AL.Q Go.AL.Sh
theorem can_r (s : Sea) (ho : s.Ok) (l : List Rep) (hl : RepFit s l) (wrong hour : Int) (h0 : 0 ≤ hour) (h1 : hour < s.hours) :
    RCall Try.prog 39 [.agg (logA s (.mp 20) l), .int wrong, .int hour] (landH s) (.tup [canA (canF s l wrong hour), .int (canE (canF s l wrong hour))]) :=
  RCall.of (enters_of Try.func39 rfl rfl) (landH_lt s) (landH_nms s) (allC (.agg _ (log_nms s l)) (allC (.s _) (all1 (.s _)))) (.tup _ (allC (canA_free _).nms (all1 (.s _)))) (fun _ => rfl) (can_s s ho l hl wrong hour h0 h1)
def askedB (s : Sea) (wrong hour : Int) : Bool := cond (wi wrong 0 24) (wi hour 0 (s.hours - 1)) false
theorem asked_iff {s : Sea} {wrong hour : Int} : askedB s wrong hour = true ↔ (0 ≤ wrong ∧ wrong ≤ 24) ∧ 0 ≤ hour ∧ hour < s.hours := by
  unfold askedB
  constructor
  · intro h; have h1 := wi_iff.1 (ac1 h); have h2 := wi_iff.1 (ac2 h); omega
  · rintro ⟨h1, h2, h3⟩; rw [wi_iff.2 h1, wi_iff.2 (show 0 ≤ hour ∧ hour ≤ s.hours - 1 by omega)]; rfl
def CanR (s : Sea) (l : List Rep) (wrong hour : Int) : List Int × Int :=
  if s.ok then if s.repsOk l then if askedB s wrong hour then (canF s l wrong hour, canE (canF s l wrong hour)) else ([], 7) else ([], 11) else ([], 10)
theorem Can_t (s : Sea) (hf : SeaFit s) (b : Bool) (l : List Rep) (hl : (l.length : Int) ≤ 9223372036854775806) (wrong hour : Int) :
    Ans Try.prog 15 [.agg s.c, .sl b .any (l.map Rep.c), .int wrong, .int hour] (.tup [canA (CanR s l wrong hour).1, .int (CanR s l wrong hour).2]) := by
  have hfr : Free (.tup [canA (CanR s l wrong hour).1, .int (CanR s l wrong hour).2]) := .tup _ (allC (canA_free _) (all1 (.s _)))
  refine told Try.func15 rfl rfl (Pure.of tab_ok Try.func15 rfl Try.ntmps15 rfl (allC (.agg _ s.free) (allC (free_map Rep.free _ _ _) (allC (.s _) (all1 (.s _))))) (allC (fun _ => rfl) (allC (fun _ => rfl) (allC (fun _ => rfl) (all1 (fun _ => rfl))))) (by first | exact .s _ | assumption | exact .tup _ (by intro x hx; simp only [List.mem_cons, List.not_mem_nil, or_false] at hx; rcases hx with rfl | rfl | rfl | rfl <;> first | exact .s _ | (simp_all; done))) fun E hE => ?_)
  refine Aw.sm tab_ok mb0 [] rfl rfl ?zo ?zk
  case zo =>
    repeat' apply AllP.cons
    all_goals first | exact trivial
  case zk =>
  cases hok : s.ok with
  | false =>
    have e : CanR s l wrong hour = ([], 10) := by simp [CanR, hok]
    rw [e]
    refine Aw.sm tab_ok mb0 [(2, [.tup [.agg zeroLog, .int 10]])] rfl rfl ?zo ?zk
    case zo =>
      repeat' apply AllP.cons
      all_goals first | exact trivial | exact rfl | exact Nat.le_of_ble_eq_true rfl | exact read_no s hf b l hok
    case zk =>
    refine Aw.seq (Aw.block ?_)
    refine Aw.sm tab_ok mb0 [] rfl rfl ?zo ?zk
    case zo =>
      repeat' apply AllP.cons
      all_goals first | exact trivial
    case zk =>
    refine Aw.cond rfl (fun h => ?_) (fun h => absurd h (by decide))
    refine Aw.sm tab_ok mb0 [] rfl rfl ?zo ?zk
    case zo =>
      repeat' apply AllP.cons
      all_goals first | exact trivial
    case zk =>
    exact Aw.ret ⟨_, .cons (.tmp _) (.cons (.tmp _) .nil), rfl⟩
  | true =>
  cases hr : s.repsOk l with
  | false =>
    have e : CanR s l wrong hour = ([], 11) := by simp [CanR, hok, hr]
    rw [e]
    refine Aw.sm tab_ok mb0 [(2, [.tup [.agg zeroLog, .int 11]])] rfl rfl ?zo ?zk
    case zo =>
      repeat' apply AllP.cons
      all_goals first | exact trivial | exact rfl | exact Nat.le_of_ble_eq_true rfl | exact read_bad s hf b l hl hok hr
    case zk =>
    refine Aw.seq (Aw.block ?_)
    refine Aw.sm tab_ok mb0 [] rfl rfl ?zo ?zk
    case zo =>
      repeat' apply AllP.cons
      all_goals first | exact trivial
    case zk =>
    refine Aw.cond rfl (fun h => ?_) (fun h => absurd h (by decide))
    refine Aw.sm tab_ok mb0 [] rfl rfl ?zo ?zk
    case zo =>
      repeat' apply AllP.cons
      all_goals first | exact trivial
    case zk =>
    exact Aw.ret ⟨_, .cons (.tmp _) (.cons (.tmp _) .nil), rfl⟩
  | true =>
  have ho := Sea.ok_of hok
  have hrf := reps_fit hr
  refine Aw.raise (c' := 20) (Nat.le_of_ble_eq_true rfl) ?_
  refine Aw.sm tab_ok mb0 [(2, [.tup [.agg (logA s (.mp 20) l), .int 0], .sl false .any (kvsTo (encM plE valB (landF s.wide s.land)))])] rfl rfl ?zo ?zk
  case zo =>
    repeat' apply AllP.cons
    all_goals first | exact trivial | exact rfl | exact Nat.le_of_ble_eq_true rfl | exact read_n s hf b l hok hr 20
  case zk =>
  refine Aw.seq (Aw.block ?_)
  refine Aw.sm tab_ok mb0 [] rfl rfl ?zo ?zk
  case zo =>
    repeat' apply AllP.cons
    all_goals first | exact trivial
  case zk =>
  refine Aw.cond rfl (fun h => absurd h (by decide)) (fun h => ?_)
  cases ha : askedB s wrong hour with
  | false =>
    have e : CanR s l wrong hour = ([], 7) := by simp [CanR, hok, hr, ha]
    rw [e]
    refine Aw.sm tab_ok mb0 [(3, [.bool false])] rfl rfl ?zo ?zk
    case zo =>
      repeat' apply AllP.cons
      all_goals first | exact trivial | exact Nat.le_of_ble_eq_true rfl | exact ha ▸ isAsked_t s ho l 20 wrong hour
    case zk =>
    refine Aw.cond rfl (fun h => ?_) (fun h => absurd h (by decide))
    refine Aw.sm tab_ok mb0 [] rfl rfl ?zo ?zk
    case zo =>
      repeat' apply AllP.cons
      all_goals first | exact trivial
    case zk =>
    exact Aw.ret ⟨_, .cons (.tmp _) (.cons (.tmp _) .nil), rfl⟩
  | true =>
    have e : CanR s l wrong hour = (canF s l wrong hour, canE (canF s l wrong hour)) := by simp [CanR, hok, hr, ha]
    have hh := asked_iff.1 ha
    have hcr := can_r s ho l hrf wrong hour hh.2.1 hh.2.2
    rw [e]
    refine Aw.sm tab_ok mb0 [(3, [.bool true])] rfl rfl ?zo ?zk
    case zo =>
      repeat' apply AllP.cons
      all_goals first | exact trivial | exact Nat.le_of_ble_eq_true rfl | exact ha ▸ isAsked_t s ho l 20 wrong hour
    case zk =>
    refine Aw.cond rfl (fun h => absurd h (by decide)) (fun h => Aw.skip ?_)
    generalize canF s l wrong hour = G at *
    cases G with
    | nil =>
      refine Aw.sm tab_ok mb0 [(3, [.tup [canA [], .int 12], .tup [.mp 20]])] rfl rfl ?zo ?zk
      case zo =>
        repeat' apply AllP.cons
        all_goals first | exact trivial | exact Nat.le_of_ble_eq_true rfl | exact at20 hcr (congrArg (fun x => some (B.map x)) (kvs_to _))
      case zk =>
      exact Aw.ret ⟨_, .cons (.tmp _) (.cons (.tmp _) .nil), rfl⟩
    | cons x t =>
      refine Aw.sm tab_ok mb0 [(3, [.tup [canA (x :: t), .int 0], .tup [.mp 20]])] rfl rfl ?zo ?zk
      case zo =>
        repeat' apply AllP.cons
        all_goals first | exact trivial | exact Nat.le_of_ble_eq_true rfl | exact at20 hcr (congrArg (fun x => some (B.map x)) (kvs_to _))
      case zk =>
      exact Aw.ret ⟨_, .cons (.tmp _) (.cons (.tmp _) .nil), rfl⟩
end Go.Proofs.Ytkfepnbanekfgaa

namespace Go.Proofs.Ytkfepnbanekfgaa
open Go Go.AL Go.AL.Q
theorem spanned_t (lo hi n : Int) : Ans Try.prog 43 [.agg [.int lo, .int hi], .int n] (.bool (spannedF lo hi 0 n)) := by
  have e : spannedF lo hi 0 n = cond (cond (decide (0 ≤ lo)) (decide (lo ≤ hi)) false) (decide (hi ≤ n)) false := by
    rw [Bool.eq_iff_iff]
    simp only [spannedF, c_and, Bool.and_eq_true, wi_iff, decide_eq_true_eq]
    omega
  rw [e]
  refine told Try.func43 rfl rfl (Pure.of tab_ok Try.func43 rfl Try.ntmps43 rfl (allC (.agg _ (allC (.s _) (all1 (.s _)))) (all1 (.s _))) (allC (fun _ => rfl) (all1 (fun _ => rfl))) (by first | exact .s _ | assumption | exact .tup _ (by intro x hx; simp only [List.mem_cons, List.not_mem_nil, or_false] at hx; rcases hx with rfl | rfl | rfl | rfl <;> first | exact .s _ | (simp_all; done))) fun E hE => ?_)
  refine Aw.sm tab_ok mb0 [] rfl rfl ?zo ?zk
  case zo =>
    repeat' apply AllP.cons
    all_goals first | exact trivial
  case zk =>
  refine Aw.sm tab_ok mb0 [] rfl rfl ?zo ?zk
  case zo =>
    repeat' apply AllP.cons
    all_goals first | exact trivial | exact id | exact fun _ => rfl | exact Nat.le_of_ble_eq_true rfl | exact fun _ => Nat.le_of_ble_eq_true rfl
  case zk =>
  exact Aw.ret ⟨_, .cons (.tmp _) .nil, rfl⟩
theorem aged_t (b : Bool) (l : List Scale) (f t : Int) (hl : (l.length : Int) ≤ 9223372036854775806) : Ans Try.prog 22 [.sl b .any (l.map Scale.c), .int f, .int t] (.tup (agedR l f t)) := by
  have hfr : Free (.tup (agedR l f t)) := .tup _ (allC (.agg _ (Sp.free _)) (all1 (.s _)))
  have hsl : Free (.sl b .any (l.map Scale.c)) := free_map Scale.free _ _ _
  have lz : ((l.map Scale.c).length : Int) = l.length := by simp
  refine told Try.func22 rfl rfl (Pure.of tab_ok Try.func22 rfl Try.ntmps22 rfl (allC (hsl) (allC (.s _) (all1 (.s _)))) (allC (fun _ => rfl) (allC (fun _ => rfl) (all1 (fun _ => rfl)))) (by first | exact .s _ | assumption | exact .tup _ (by intro x hx; simp only [List.mem_cons, List.not_mem_nil, or_false] at hx; rcases hx with rfl | rfl | rfl | rfl <;> first | exact .s _ | (simp_all; done))) fun E hE => ?_)
  refine Aw.sm tab_ok mb0 [] rfl rfl ?zo ?zk
  case zo =>
    repeat' apply AllP.cons
    all_goals first | exact trivial
  case zk =>
  refine Aw.sm tab_ok mb0 [] rfl rfl ?zo ?zk
  case zo =>
    repeat' apply AllP.cons
    all_goals first | exact trivial
  case zk =>
  generalize hb0 : decide ((((l.map Scale.c).length : Nat) : Int) ≤ 20) = b0
  have hb0' : b0 = decide ((l.length : Int) ≤ 20) := by rw [← hb0, lz]
  refine Aw.seq ?_
  refine Aw.sm tab_ok mb0 [] rfl rfl ?zo ?zk
  case zo =>
    repeat' apply AllP.cons
    all_goals first | exact trivial
  case zk =>
  have cst : UnderL 1 [(0, .sl b .any (l.map Scale.c)), (1, A.int f), (2, A.int t), (6, .ref 0 0), (17, .sl b .any (l.map Scale.c)), (18, .int (l.map Scale.c).length)] := ⟨hsl.under, .s _, .s _, .ref _ _ (by decide), hsl.under, .s _, trivial⟩
  have hE1 : ∀ id, 1 ≤ id → E.φ0 id = none := fun id h => hE id (by omega)
  refine Aw.block (Aw.rounds 1 hE1 [(0, .sl b .any (l.map Scale.c)), (1, .int f), (2, .int t), (6, .ref 0 0), (17, .sl b .any (l.map Scale.c)), (18, .int (l.map Scale.c).length)] (fun k : Nat => [(8, .bool (andAll b0 scaleOk l k)), (19, .int k)]) (fun _ => [(0, .cells [.int 0, .int 0])]) (fun k => k ≤ l.length) (fun k => l.length - k) 0
    (Nat.zero_le _) ⟨⟨.refl _, .refl _, .refl _, .refl _, .refl _, .refl _, trivial⟩, ⟨.of_eq (by rw [andAll_zero]; rfl), .refl _, trivial⟩, ⟨rfl, trivial⟩, Nat.le_of_ble_eq_true rfl⟩ cst (fun _ _ => ⟨.s _, .s _, trivial⟩) (fun _ _ => ⟨⟨by decide, .cells _ (allC (.s _) (all1 (.s _)))⟩, trivial⟩) fun k hk => ?_)
  refine Aw.sm tab_ok mb0 [] rfl rfl ?zo ?zk
  case zo =>
    repeat' apply AllP.cons
    all_goals first | exact trivial
  case zk =>
  refine Aw.seq (Aw.cond rfl (fun h1 => Aw.skip1 ?_) (fun h1 => Aw.exit2 ?_))
  · have hlt : k < l.length := by have := of_decide_eq_true h1; omega
    refine Aw.seq (Aw.block ?_)
    refine Aw.sm tab_ok mb0 [(0, l[k].c)] rfl rfl ?zo ?zk
    case zo =>
      repeat' apply AllP.cons
      all_goals first | exact trivial | exact rfl | exact Nat.le_of_ble_eq_true rfl | exact Int.natCast_nonneg _ | exact get_map hlt
    case zk =>
    refine Aw.em tab_ok mb0 [(4, [.bool (wi l[k].seen 0 10000)]), (9, [.bool (spannedF l[k].lo l[k].hi 0 20)])] rfl rfl ?zo ?zk
    case zo =>
      repeat' apply AllP.cons
      all_goals first | exact trivial | exact id | exact fun _ => rfl | exact fun _ => Nat.le_of_ble_eq_true rfl | exact (within_t _ _ _).un | exact fun _ => spanned_t _ _ _
    case zk =>
    refine Aw.em tab_ok mb0 [] rfl rfl ?zo ?zk
    case zo =>
      repeat' apply AllP.cons
      all_goals first | exact trivial | exact inrk k (by omega)
    case zk =>
    exact ⟨k + 1, hlt, by omega, ⟨.refl _, .refl _, .refl _, .refl _, .refl _, .refl _, trivial⟩, ⟨.of_eq (show A.bool (andAll b0 scaleOk l (k + 1)) = A.bool (cond (cond (andAll b0 scaleOk l k) (wi l[k].seen 0 10000) false) (spannedF l[k].lo l[k].hi 0 20) false) by rw [andAll_step hlt, cond_assoc]; rfl), .refl _, trivial⟩, ⟨rfl, trivial⟩, Nat.le_of_ble_eq_true rfl⟩
  have hle : k = l.length := by have := of_decide_eq_false h1; omega
  subst hle
  have hok : andAll b0 scaleOk l l.length = scalesOk l := by rw [andAll_full, hb0']; rfl
  rw [hok]
  refine Aw.seq ?_
  refine Aw.sm tab_ok mb0 [] rfl rfl ?zo ?zk
  case zo =>
    repeat' apply AllP.cons
    all_goals first | exact trivial
  case zk =>
  refine Aw.cond rfl (fun h1 => ?_) (fun h1 => Aw.skip ?_)
  · have hno : scalesOk l = false := by simpa using h1
    refine Aw.sm tab_ok mb0 [] rfl rfl ?zo ?zk
    case zo =>
      repeat' apply AllP.cons
      all_goals first | exact trivial | exact rfl | exact Nat.le_of_ble_eq_true rfl
    case zk =>
    exact Aw.ret ⟨_, .cons (resC rfl rfl (by decide) rfl rfl) (.cons (.tmp _) .nil), by simp only [agedR, agedS, agedE, hno]; rfl⟩
  have hok : scalesOk l = true := by simpa using h1
  obtain ⟨hl20, hsc⟩ := scales_in hok
  refine Aw.seq ?_
  refine Aw.sm tab_ok mb0 [(1, [.bool (wi f 0 20)]), (6, [.bool (wi t f 20)])] rfl rfl ?zo ?zk
  case zo =>
    repeat' apply AllP.cons
    all_goals first | exact trivial | exact id | exact fun _ => rfl | exact within_t _ _ _ | exact (within_t _ _ _).un | exact gq_f
  case zk =>
  have hro : cond (!wi f 0 20) true (!wi t f 20) = !rangeOk f t := by unfold rangeOk; cases wi f 0 20 <;> cases wi t f 20 <;> rfl
  rw [hro]
  refine Aw.cond rfl (fun h1 => ?_) (fun h1 => Aw.skip ?_)
  · have hno : rangeOk f t = false := by simpa using h1
    refine Aw.sm tab_ok mb0 [] rfl rfl ?zo ?zk
    case zo =>
      repeat' apply AllP.cons
      all_goals first | exact trivial | exact rfl | exact Nat.le_of_ble_eq_true rfl
    case zk =>
    exact Aw.ret ⟨_, .cons (resC rfl rfl (by decide) rfl rfl) (.cons (.tmp _) .nil), by simp only [agedR, agedS, agedE, hok, hno]; rfl⟩
  have hrg : rangeOk f t = true := by simpa using h1
  have hR : agedR l f t = [.agg (Sp.c ⟨agedL f t l, agedH f t l⟩), .int 0] := by simp only [agedR, agedS, agedE, hok, hrg]; rfl
  rw [hR]
  refine Aw.sm tab_ok mb0 [] rfl rfl ?zo ?zk
  case zo =>
    repeat' apply AllP.cons
    all_goals first | exact trivial
  case zk =>
  refine Aw.seq ?_
  refine Aw.sm tab_ok mb0 [] rfl rfl ?zo ?zk
  case zo =>
    repeat' apply AllP.cons
    all_goals first | exact trivial
  case zk =>
  have hE2 : ∀ id, 2 ≤ id → E.φ0 id = none := fun id h => hE id (by omega)
  have bdL : ∀ k, 0 ≤ agedL f t (l.take k) ∧ agedL f t (l.take k) ≤ 200000 := fun k => by
    have := filt_sum (p := isLow f t) (l := l.take k) fun s hs => (hsc s (List.mem_of_mem_take hs)).1
    have h2 : (l.take k).length ≤ 20 := by rw [List.length_take]; omega
    unfold agedL; omega
  have bdH : ∀ k, 0 ≤ agedH f t (l.take k) ∧ agedH f t (l.take k) ≤ 200000 := fun k => by
    have := filt_sum (p := isHigh f t) (l := l.take k) fun s hs => (hsc s (List.mem_of_mem_take hs)).1
    have h2 : (l.take k).length ≤ 20 := by rw [List.length_take]; omega
    unfold agedH; omega
  refine Aw.block (Aw.rounds 2 hE2 [(1, .int f), (2, .int t), (6, .ref 0 0), (11, .ref 1 0), (48, .sl b .any (l.map Scale.c)), (49, .int (l.map Scale.c).length)] (fun k : Nat => [(50, .int k)]) (fun k => [(0, .cells [.int 0, .int 0]), (1, .cells [.int (agedL f t (l.take k)), .int (agedH f t (l.take k))])]) (fun k => k ≤ l.length) (fun k => l.length - k) 0
    (Nat.zero_le _) ⟨⟨.refl _, .refl _, .refl _, .refl _, .refl _, .refl _, trivial⟩, ⟨.refl _, trivial⟩, ⟨rfl, rfl, trivial⟩, Nat.le_of_ble_eq_true rfl⟩ ⟨.s _, .s _, .ref _ _ (by decide), .ref _ _ (by decide), hsl.under, .s _, trivial⟩ (fun _ _ => ⟨.s _, trivial⟩) (fun _ _ => ⟨⟨by decide, .cells _ (allC (.s _) (all1 (.s _)))⟩, ⟨by decide, .cells _ (allC (.s _) (all1 (.s _)))⟩, trivial⟩) fun k hk => ?_)
  refine Aw.sm tab_ok mb0 [] rfl rfl ?zo ?zk
  case zo =>
    repeat' apply AllP.cons
    all_goals first | exact trivial
  case zk =>
  refine Aw.seq (Aw.cond rfl (fun h1 => Aw.skip1 ?_) (fun h1 => Aw.exit2 ?_))
  · have hlt : k < l.length := by have := of_decide_eq_true h1; omega
    have b1 := bdL k
    have b2 := bdH k
    have b3 := hsc l[k] (List.getElem_mem hlt)
    have s1 := agedL_step f t l k hlt
    have s2 := agedH_step f t l k hlt
    have gl : agedL f t (l.take k) + l[k].seen ≤ 210000 := by omega
    generalize agedL f t (l.take k) = x1 at *
    generalize agedH f t (l.take k) = x2 at *
    refine Aw.seq (Aw.block ?_)
    refine Aw.sm tab_ok mb0 [(0, l[k].c)] rfl rfl ?zo ?zk
    case zo =>
      repeat' apply AllP.cons
      all_goals first | exact trivial | exact rfl | exact Nat.le_of_ble_eq_true rfl | exact Int.natCast_nonneg _ | exact get_map hlt
    case zk =>
    have hE3 : ∀ id, 3 ≤ id → E.φ0 id = none := fun id h => hE id (by omega)
    have uc3 : UnderL 3 [(1, A.int f), (2, .int t), (6, .ref 0 0), (11, .ref 1 0), (13, .ref 2 0), (48, .sl b .any (l.map Scale.c)), (49, .int (l.map Scale.c).length), (50, .int k)] := ⟨.s _, .s _, .ref _ _ (by decide), .ref _ _ (by decide), .ref _ _ (by decide), hsl.under, .s _, .s _, trivial⟩
    have uh3 : ∀ y1 y2 : Int, UnderH 3 [(0, .cells [.int 0, .int 0]), (1, .cells [.int y1, .int y2]), (2, .cells l[k].c)] := fun y1 y2 => ⟨⟨by decide, .cells _ (allC (.s _) (all1 (.s _)))⟩, ⟨by decide, .cells _ (allC (.s _) (all1 (.s _)))⟩, ⟨by decide, .cells _ fun x hx => (l[k].free x hx).under⟩, trivial⟩
    refine Aw.join1 3 hE3 [(1, .int f), (2, .int t), (6, .ref 0 0), (11, .ref 1 0), (13, .ref 2 0), (48, .sl b .any (l.map Scale.c)), (49, .int (l.map Scale.c).length), (50, .int k)] [] [(0, .cells [.int 0, .int 0]), (1, .cells [.int (addIf (isLow f t l[k]) x1 l[k].seen), .int x2]), (2, .cells l[k].c)] uc3 trivial (uh3 _ _) ?_ ?_
    · refine Aw.sm tab_ok mb0 [] rfl rfl ?zo ?zk
      case zo =>
        repeat' apply AllP.cons
        all_goals first | exact trivial | exact id | exact fun _ => rfl | exact Nat.le_of_ble_eq_true rfl | exact fun _ => Nat.le_of_ble_eq_true rfl
      case zk =>
      refine Aw.cond rfl (fun h2 => ?_) (fun h2 => Aw.skip ?_)
      · have h2' : isLow f t l[k] = true := (c_and _ _).symm.trans h2
        rw [h2']
        refine Aw.em tab_ok mb0 [] rfl rfl ?zo ?zk
        case zo =>
          repeat' apply AllP.cons
          all_goals first | exact trivial | exact rfl | exact Nat.le_of_ble_eq_true rfl | exact (by simp only [Ob.of, inR]; omega)
        case zk =>
        exact ⟨⟨.refl _, .refl _, .refl _, .refl _, .refl _, .refl _, .refl _, .refl _, trivial⟩, trivial, ⟨rfl, rfl, rfl, trivial⟩, Nat.le_of_ble_eq_true rfl⟩
      · have h2' : isLow f t l[k] = false := (c_and _ _).symm.trans h2
        rw [h2']
        exact ⟨⟨.refl _, .refl _, .refl _, .refl _, .refl _, .refl _, .refl _, .refl _, trivial⟩, trivial, ⟨rfl, rfl, rfl, trivial⟩, Nat.le_of_ble_eq_true rfl⟩
    rw [← s1]
    refine Aw.sm tab_ok mb0 [] rfl rfl ?zo ?zk
    case zo =>
      repeat' apply AllP.cons
      all_goals first | exact trivial | exact id | exact fun _ => rfl | exact Nat.le_of_ble_eq_true rfl | exact fun _ => Nat.le_of_ble_eq_true rfl
    case zk =>
    refine Aw.cond rfl (fun h2 => ?_) (fun h2 => Aw.skip ?_)
    · have h2' : isHigh f t l[k] = true := (c_and _ _).symm.trans h2
      rw [h2'] at s2
      refine Aw.em tab_ok mb0 [] rfl rfl ?zo ?zk
      case zo =>
        repeat' apply AllP.cons
        all_goals first | exact trivial | exact rfl | exact Nat.le_of_ble_eq_true rfl | exact (by simp only [Ob.of, inR]; omega)
      case zk =>
      refine Aw.em tab_ok mb0 [] rfl rfl ?zo ?zk
      case zo =>
        repeat' apply AllP.cons
        all_goals first | exact trivial | exact inrk k (by omega)
      case zk =>
      exact ⟨k + 1, hlt, by omega, ⟨.refl _, .refl _, .refl _, .refl _, .refl _, .refl _, trivial⟩, ⟨.refl _, trivial⟩, ⟨rfl, by rw [s2]; rfl, trivial⟩, Nat.le_of_ble_eq_true rfl⟩
    · have h2' : isHigh f t l[k] = false := (c_and _ _).symm.trans h2
      rw [h2'] at s2
      refine Aw.em tab_ok mb0 [] rfl rfl ?zo ?zk
      case zo =>
        repeat' apply AllP.cons
        all_goals first | exact trivial | exact inrk k (by omega)
      case zk =>
      exact ⟨k + 1, hlt, by omega, ⟨.refl _, .refl _, .refl _, .refl _, .refl _, .refl _, trivial⟩, ⟨.refl _, trivial⟩, ⟨rfl, by rw [s2]; rfl, trivial⟩, Nat.le_of_ble_eq_true rfl⟩
  have hle : k = l.length := by have := of_decide_eq_false h1; omega
  subst hle
  rw [List.take_length]
  refine Aw.sm tab_ok mb0 [] rfl rfl ?zo ?zk
  case zo =>
    repeat' apply AllP.cons
    all_goals first | exact trivial | exact rfl | exact Nat.le_of_ble_eq_true rfl
  case zk =>
  exact Aw.ret ⟨_, .cons (resC rfl rfl (by decide) rfl rfl) (.cons (.tmp _) .nil), rfl⟩
set_option maxRecDepth 100000 in
theorem eq25 (a b c d : Int) : pureRun Try.prog (Op.equal 68 (.agg #[.int .i64 a, .int .i64 b]) (.agg #[.int .i64 c, .int .i64 d])) = some (a == c && b == d) := by
  have h1 : pureRun Try.prog (underlying 68) = Try.prog.underlying 68 := rfl
  have h2 : pureRun Try.prog program = some Try.prog := rfl
  have h3 : Try.prog.stoodInHeld 68 = false := by kernel_rfl
  have p1 : ∀ x y : Value, pureRun Try.prog (part 3 #[x, y] 0) = some x := fun x y => rfl
  have p2 : ∀ x y : Value, pureRun Try.prog (part 3 #[x, y] 1) = some y := fun x y => rfl
  have pp : ∀ {α : Type} (x : α), pureRun Try.prog (pure x) = some x := fun x => rfl
  rw [Op.equal, Op.maxDepth, show (10000 : Nat) = 9999 + 1 from rfl, Op.equalIn, pureRun_bind, h1, Try.underlying68]
  simp only [Option.bind_some, pureRun_bind, h2, h3]
  by_cases h : a = c
  · subst h
    by_cases h' : b = d
    · subst h'
      simp [pureRun_bind, p1, p2, eq3, pp]
    · have e : (b == d) = false := by simpa using h'
      simp [pureRun_bind, p1, p2, eq3, pp, e]
  · have e : (a == c) = false := by simpa using h
    simp [pureRun_bind, p1, eq3, pp, e]
theorem eg25 : Try.prog.eqGuardType Try.prog.depth 68 = false := by kernel_rfl
set_option maxRecDepth 100000 in
theorem eqSpan (x y : Operand) (s t : Sp) : EqIs tab .eql 68 x y (.agg s.c) (.agg t.c) (s == t) := by
  refine ⟨.agg #[.int .i64 s.lo, .int .i64 s.hi], .agg #[.int .i64 t.lo, .int .i64 t.hi], rfl, rfl, (congrFun (congrFun (congrFun (congrFun (congrFun (congrFun (show tab.eqv = pureEq Try.prog from rfl) _) _) _) _) _) _).trans ?_⟩
  show pureEq Try.prog .eql 68 x y (.agg #[.int .i64 s.lo, .int .i64 s.hi]) (.agg #[.int .i64 t.lo, .int .i64 t.hi]) = _
  have hp : pureRun Try.prog program = some Try.prog := rfl
  have pp : ∀ {α : Type} (x : α), pureRun Try.prog (pure x) = some x := fun x => rfl
  have e1 : pureRun Try.prog (eqGuard .eql 68 x y (.agg #[.int .i64 s.lo, .int .i64 s.hi]) (.agg #[.int .i64 t.lo, .int .i64 t.hi])) = some () := by
    simp [eqGuard, pureRun_bind, hp, eg25, pp]
  have e2 : pureRun Try.prog (binOp .eql 68 (.agg #[.int .i64 s.lo, .int .i64 s.hi]) (.agg #[.int .i64 t.lo, .int .i64 t.hi])) = some (.bool (s == t)) := by
    have : binOp .eql 68 (.agg #[.int .i64 s.lo, .int .i64 s.hi]) (.agg #[.int .i64 t.lo, .int .i64 t.hi]) = (Op.equal 68 (.agg #[.int .i64 s.lo, .int .i64 s.hi]) (.agg #[.int .i64 t.lo, .int .i64 t.hi]) >>= fun b => pure (.bool b)) := rfl
    rw [this, pureRun_bind, eq25, sp_beq]; rfl
  unfold pureEq
  rw [pureRun_bind, e1]
  exact e2
theorem to_t (a b : Int) : Ans Try.prog 23 [.int a, .int b] (.agg (Sp.c ⟨a, b⟩)) := by
  have hfr : Free (.agg (Sp.c ⟨a, b⟩)) := .agg _ (Sp.free _)
  refine told Try.func23 rfl rfl (Pure.of tab_ok Try.func23 rfl Try.ntmps23 rfl (allC (.s _) (all1 (.s _))) (allC (fun _ => rfl) (all1 (fun _ => rfl))) (by first | exact .s _ | assumption | exact .tup _ (by intro x hx; simp only [List.mem_cons, List.not_mem_nil, or_false] at hx; rcases hx with rfl | rfl | rfl | rfl <;> first | exact .s _ | (simp_all; done))) fun E hE => ?_)
  refine Aw.sm tab_ok mb0 [] rfl rfl ?zo ?zk
  case zo =>
    repeat' apply AllP.cons
    all_goals first | exact trivial
  case zk =>
  refine Aw.sm tab_ok mb0 [] rfl rfl ?zo ?zk
  case zo =>
    repeat' apply AllP.cons
    all_goals first | exact trivial | exact rfl | exact Nat.le_of_ble_eq_true rfl
  case zk =>
  exact Aw.ret ⟨_, .cons (resC rfl rfl (by decide) rfl rfl) .nil, rfl⟩
end Go.Proofs.Ytkfepnbanekfgaa

