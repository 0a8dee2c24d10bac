/- What the proof leans on, part 6: H19 H20 H21 H22 H23 H24. -/
import Derived.Test.YtohbjneaaahpcaaK5
set_option linter.all false
namespace Go.Proofs.Ytohbjneaaahpcaa
open Go Go.AL Go.AL.Q Go.AL.Sh
def mayB (s : Sea) (l : List Rep) (n : Int) (r : Rep) (c : Nat) : Bool := ((thrR s l r.hour.toNat).getD c 0 == n) && isTrueF s.wide r (placeP s.wide c)
def liarB (s : Sea) (l : List Rep) (n : Int) (r : Rep) : Bool := !(cellsL s).any (mayB s l n r)
def liarK (s : Sea) (l : List Rep) (n : Int) (k : Nat) : List Int := ((List.range k).filter fun i => liarB s l n (l.getD i ⟨0, 0, 0, false⟩)).map Int.ofNat
theorem liarK_succ (s : Sea) (l : List Rep) (n : Int) {k : Nat} (h : k < l.length) : liarK s l n (k + 1) = if liarB s l n l[k] then liarK s l n k ++ [(k : Int)] else liarK s l n k := by
  unfold liarK
  have : l.getD k ⟨0, 0, 0, false⟩ = l[k] := by simp [List.getD_eq_getElem?_getD, h]
  rw [List.range_succ, List.filter_append, List.map_append, List.filter_cons, this]
  cases liarB s l n l[k] <;> simp
theorem liarK_len (s : Sea) (l : List Rep) (n : Int) (k : Nat) : (liarK s l n k).length ≤ k := by
  unfold liarK; rw [List.length_map]
  exact Nat.le_trans (List.length_filter_le _ _) (by simp)
def LiarsR (s : Sea) (l : List Rep) : List Int × Int :=
  if s.ok then if s.repsOk l then if fewF s l < 1048576 then (liarK s l (fewF s l) l.length, 0) else ([], 4) else ([], 11) else ([], 10)
def liH (s : Sea) (l : List Rep) (RA : List (List A)) (n : Int) : List (Nat × B) := [(20, landB s), (21, .cells (logA s (.mp 20) l)), (22, .cells [.sl false .any RA]), (23, .cells [.int n])]
set_option maxRecDepth 20000 in
set_option maxHeartbeats 1000000 in
theorem Liars_t (s : Sea) (hf : SeaFit s) (b : Bool) (l : List Rep) (hl : (l.length : Int) ≤ 9223372036854775806) :
    Ans Try.prog 26 [.agg s.c, .sl b .any (l.map Rep.c)] (.tup [canA (LiarsR s l).1, .int (LiarsR s l).2]) := by
  have hfr : Free (.tup [canA (LiarsR s l).1, .int (LiarsR s l).2]) := .tup _ (allC (canA_free _) (all1 (.s _)))
  refine told Try.func26 rfl rfl (Pure.of tab_ok Try.func26 rfl Try.ntmps26 rfl (allC (.agg _ s.free) (all1 (free_map Rep.free _ _ _))) (allC (fun _ => rfl) (all1 (fun _ => rfl))) (by first | exact .s _ | assumption | exact .tup _ (by intro x hx; simp only [List.mem_cons, List.not_mem_nil, or_false] at hx; rcases hx with rfl | rfl | rfl | rfl <;> first | exact .s _ | (simp_all; done))) fun E hE => ?_)
  refine Aw.sm tab_ok mb0 [] rfl rfl ?zo ?zk
  case zo =>
    repeat' apply AllP.cons
    all_goals first | exact trivial
  case zk =>
  refine Aw.scope ?_
  cases hok : s.ok with
  | false =>
    have e : LiarsR s l = ([], 10) := by simp [LiarsR, hok]
    rw [e]
    refine Aw.sm tab_ok mb0 [(2, [.tup [.agg zeroLog, .int 10]])] rfl rfl ?zo ?zk
    case zo =>
      repeat' apply AllP.cons
      all_goals first | exact trivial | exact rfl | exact Nat.le_of_ble_eq_true rfl | exact read_no s hf b l hok
    case zk =>
    refine Aw.seq ?_
    refine Aw.sm tab_ok mb0 [] rfl rfl ?zo ?zk
    case zo =>
      repeat' apply AllP.cons
      all_goals first | exact trivial
    case zk =>
    refine Aw.cond rfl (fun h => ?_) (fun h => absurd h (by decide))
    refine Aw.sm tab_ok mb0 [] rfl rfl ?zo ?zk
    case zo =>
      repeat' apply AllP.cons
      all_goals first | exact trivial
    case zk =>
    exact Aw.ret ⟨_, .cons (.tmp _) (.cons (.tmp _) .nil), rfl⟩
  | true =>
  cases hr : s.repsOk l with
  | false =>
    have e : LiarsR s l = ([], 11) := by simp [LiarsR, hok, hr]
    rw [e]
    refine Aw.sm tab_ok mb0 [(2, [.tup [.agg zeroLog, .int 11]])] rfl rfl ?zo ?zk
    case zo =>
      repeat' apply AllP.cons
      all_goals first | exact trivial | exact rfl | exact Nat.le_of_ble_eq_true rfl | exact read_bad s hf b l hl hok hr
    case zk =>
    refine Aw.seq ?_
    refine Aw.sm tab_ok mb0 [] rfl rfl ?zo ?zk
    case zo =>
      repeat' apply AllP.cons
      all_goals first | exact trivial
    case zk =>
    refine Aw.cond rfl (fun h => ?_) (fun h => absurd h (by decide))
    refine Aw.sm tab_ok mb0 [] rfl rfl ?zo ?zk
    case zo =>
      repeat' apply AllP.cons
      all_goals first | exact trivial
    case zk =>
    exact Aw.ret ⟨_, .cons (.tmp _) (.cons (.tmp _) .nil), rfl⟩
  | true =>
  have ho := Sea.ok_of hok
  have hrf := reps_fit hr
  have hm := ho.many
  have hp := hrs_pos ho
  have hl24 : l.length ≤ 24 := by have := hrf.len; omega
  refine Aw.raise (c' := 20) (Nat.le_of_ble_eq_true rfl) ?_
  refine Aw.sm tab_ok mb0 [(2, [.tup [.agg (logA s (.mp 20) l), .int 0], .sl false .any (kvsTo (encM plE valB (landF s.wide s.land)))])] rfl rfl ?zo ?zk
  case zo =>
    repeat' apply AllP.cons
    all_goals first | exact trivial | exact rfl | exact Nat.le_of_ble_eq_true rfl | exact read_n s hf b l hok hr 20
  case zk =>
  have hland : some (B.map (kvsOf (kvsTo (encM plE valB (landF s.wide s.land))))) = some (landB s) := congrArg (fun x => some (B.map x)) (kvs_to _)
  refine Aw.seq ?_
  refine Aw.sm tab_ok mb0 [] rfl rfl ?zo ?zk
  case zo =>
    repeat' apply AllP.cons
    all_goals first | exact trivial
  case zk =>
  refine Aw.cond rfl (fun h => absurd h (by decide)) (fun h => Aw.skip ?_)
  have hth := through_r s ho l hrf
  have hfw := fewest_f s ho l
  have hfree := rowsA_free (thrR s l) (hrs s) false .any
  have hRA : ∀ {h : Nat}, h < hrs s → (rowsA (thrR s l) (hrs s))[h]? = some ((thrR s l h).map A.int) := fun h => rows_at h
  generalize rowsA (thrR s l) (hrs s) = RA at *
  refine Aw.sm tab_ok mb0 [(1, [.tup [.sl false .any RA, .sl false .any (rowsA (fun i => bkR s l (hrs s - 1 - i)) (hrs s))], .tup [.mp 20]])] rfl rfl ?zo ?zk
  case zo =>
    repeat' apply AllP.cons
    all_goals first | exact trivial | exact rfl | exact Nat.le_of_ble_eq_true rfl | exact at20 hth hland
  case zk =>
  refine Aw.sm tab_ok mb0 [(1, [.int (fewF s l)])] rfl rfl ?zo ?zk
  case zo =>
    repeat' apply AllP.cons
    all_goals first | exact trivial | exact rfl | exact Nat.le_of_ble_eq_true rfl | exact hfw
  case zk =>
  refine Aw.seq ?_
  refine Aw.sm tab_ok mb0 [] rfl rfl ?zo ?zk
  case zo =>
    repeat' apply AllP.cons
    all_goals first | exact trivial | exact Nat.le_of_ble_eq_true rfl
  case zk =>
  refine Aw.cond rfl (fun h => ?_) (fun h => Aw.skip ?_)
  · have h := of_decide_eq_true h
    have e : LiarsR s l = ([], 4) := by simp only [LiarsR, hok, hr, if_true]; rw [if_neg (by omega)]
    rw [e]
    refine Aw.sm tab_ok mb0 [] rfl rfl ?zo ?zk
    case zo =>
      repeat' apply AllP.cons
      all_goals first | exact trivial
    case zk =>
    exact Aw.ret ⟨_, .cons (.tmp _) (.cons (.tmp _) .nil), rfl⟩
  have h := of_decide_eq_false h
  have hlt : fewF s l < 1048576 := by omega
  have e : LiarsR s l = (liarK s l (fewF s l) l.length, 0) := by simp only [LiarsR, hok, hr, if_true]; rw [if_pos hlt]
  rw [e]
  generalize fewF s l = n at *
  have h24 : ∀ id, 24 ≤ id → E.φ0 id = none := fun id _ => hE id (Nat.zero_le _)
  have h25 : ∀ id, 25 ≤ id → E.φ0 id = none := fun id _ => hE id (Nat.zero_le _)
  refine Aw.sm tab_ok mb0 [] rfl rfl ?zo ?zk
  case zo =>
    repeat' apply AllP.cons
    all_goals first | exact trivial
  case zk =>
  refine Aw.seq (Aw.label ?_)
  refine Aw.seq ?_
  refine Aw.sm tab_ok mb0 [] rfl rfl ?zo ?zk
  case zo =>
    repeat' apply AllP.cons
    all_goals first | exact trivial | exact Nat.le_of_ble_eq_true rfl
  case zk =>
  have ll : ((l.map (repC s.wide)).length : Int) = l.length := by simp
  have urep : ∀ {m : Nat}, Under m (A.sl l.isEmpty .any (l.map (repC s.wide))) := (free_map (repC_free _) _ _ _).under
  have uLi : ∀ {m : Nat}, 23 < m → UnderH m (liH s l RA n) := fun h => ⟨⟨by omega, map_under _⟩, ⟨by omega, .cells _ (logA_under s (by omega) l)⟩, ⟨by omega, .cells _ (all1 hfree.under)⟩, ⟨by omega, .cells _ (all1 (.s _))⟩, trivial⟩
  refine Aw.block (Aw.rounds 24 h24 [(6, .ref 21 0), (8, .ref 22 0), (10, .ref 23 0), (34, .sl l.isEmpty .any (l.map (repC s.wide))), (35, .int l.length)] (fun k : Nat => [(11, grL 3 (liarK s l n k)), (36, .int k)]) (fun k => liH s l RA n) (fun k => k ≤ l.length) (fun k => l.length - k) 0 ?zg ⟨?zc, ?zv, ?zh, Nat.le_of_ble_eq_true rfl⟩ ?zu (fun k zhk => ?zw) (fun k zhk => ?zx) fun k hk => ?zr)
  case zg =>
    (repeat' (first | exact Nat.zero_le _ | exact Nat.le_refl _ | exact trivial | exact uLi (by decide) | exact hland | exact urep | exact .of_eq (congrArg A.int ll.symm) | (refine And.intro ?_ ?_)))
  case zc =>
    (repeat' (first | (refine And.intro ?_ ?_) | exact trivial | exact A.Le.refl _ | exact rfl | exact uLi (by decide) | exact hland | exact urep | exact .of_eq (congrArg A.int ll.symm)))
  case zv =>
    (repeat' (first | (refine And.intro ?_ ?_) | exact trivial | exact A.Le.refl _ | exact rfl | exact uLi (by decide) | exact hland | exact urep | exact .of_eq (congrArg A.int ll.symm)))
  case zh =>
    (repeat' (first | (refine And.intro ?_ ?_) | exact trivial | exact A.Le.refl _ | exact rfl | exact uLi (by decide) | exact hland | exact urep | exact .of_eq (congrArg A.int ll.symm)))
  case zu =>
    (repeat' (first | exact trivial | exact Under.s _ | exact Under.un | assumption | exact (free_ints _ _ _).under | exact Under.ref _ _ (by decide) | exact Under.ms _ _ _ (by decide) | exact Under.mp _ (by decide) | exact (Free.agg _ (by assumption)).under | exact (Free.pt _ (by assumption)).under | exact grL_under _ | exact outA_under _ | exact Nat.le_of_ble_eq_true rfl | exact (fun _ _ => rfl) | exact uLi (by decide) | exact hland | exact urep | exact .of_eq (congrArg A.int ll.symm) | (refine And.intro ?_ ?_)))
  case zw =>
    (repeat' (first | exact trivial | exact Under.s _ | exact Under.un | assumption | exact (free_ints _ _ _).under | exact Under.ref _ _ (by decide) | exact Under.ms _ _ _ (by decide) | exact Under.mp _ (by decide) | exact (Free.agg _ (by assumption)).under | exact (Free.pt _ (by assumption)).under | exact grL_under _ | exact outA_under _ | exact Nat.le_of_ble_eq_true rfl | exact (fun _ _ => rfl) | exact uLi (by decide) | exact hland | exact urep | exact .of_eq (congrArg A.int ll.symm) | (refine And.intro ?_ ?_)))
  case zx =>
    (repeat' (first | exact trivial | exact Under.s _ | exact Under.un | assumption | exact (free_ints _ _ _).under | exact Under.ref _ _ (by decide) | exact Under.ms _ _ _ (by decide) | exact Under.mp _ (by decide) | exact (Free.agg _ (by assumption)).under | exact (Free.pt _ (by assumption)).under | exact grL_under _ | exact outA_under _ | exact Nat.le_of_ble_eq_true rfl | exact (fun _ _ => rfl) | exact uLi (by decide) | exact hland | exact urep | exact .of_eq (congrArg A.int ll.symm) | (refine And.intro ?_ ?_)))
  case zr =>
  refine Aw.sm tab_ok mb0 [] rfl rfl ?zo ?zk
  case zo =>
    repeat' apply AllP.cons
    all_goals first | exact trivial
  case zk =>
  refine Aw.seq (Aw.cond rfl (fun h1 => Aw.skip1 ?_) (fun h1 => Aw.exit2 ?_))
  · have hh : k < l.length := by have := of_decide_eq_true h1; omega
    have hsu := liarK_succ s l n hh
    have hGl := liarK_len s l n k
    have hget : (l.map (repC s.wide))[k]? = some (repC s.wide l[k]) := by simp [hh]
    have hrin := hrf.at' l[k] (List.getElem_mem hh)
    have hrow := hRA (h := l[k].hour.toNat) (by omega)
    have hr80 : (thrR s l l[k].hour.toNat).length = 80 := setK_len _ _
    have hmay : ∀ c, mayB s l n l[k] c = (((thrR s l l[k].hour.toNat).getD c 0 == n) && isTrueF s.wide l[k] (placeP s.wide c)) := fun c => rfl
    have hli : liarB s l n l[k] = !(cellsL s).any (mayB s l n l[k]) := rfl
    generalize hP : mayB s l n l[k] = P at *
    generalize l[k] = rp at *
    generalize thrR s l rp.hour.toNat = R at *
    generalize liarK s l n k = G at *
    refine Aw.seq (Aw.block ?_)
    refine Aw.sm tab_ok mb0 [(1, repC s.wide rp)] rfl rfl ?zo ?zk
    case zo =>
      repeat' apply AllP.cons
      all_goals first | exact trivial | exact rfl | exact Nat.le_of_ble_eq_true rfl | exact Int.natCast_nonneg _ | exact hget
    case zk =>
    refine Aw.seq ?_
    refine Aw.sm tab_ok mb0 [(2, [.fn (.func 84) [] [.pt (seaA s (.mp 20))], .tup [.mp 20]])] rfl rfl ?zo ?zk
    case zo =>
      repeat' apply AllP.cons
      all_goals first | exact trivial | exact Nat.le_of_ble_eq_true rfl | exact at20 (cells_r s) rfl
    case zk =>
    have usa : Under 25 (A.pt (seaA s (.mp 20))) := .pt _ (sea_under s (by decide))
    have ufn : Under 25 (A.fn (.func 84) [] [.pt (seaA s (.mp 20))]) := .fn _ _ _ (fun _ h => nomatch h) (all1 usa)
    have ucst : UnderL 25 [(6, .ref 21 0), (8, .ref 22 0), (10, .ref 23 0), (12, .int k), (13, .ref 24 0), (34, .sl l.isEmpty .any (l.map (repC s.wide))), (35, .int l.length)] := ⟨.ref _ _ (by decide), .ref _ _ (by decide), .ref _ _ (by decide), .s _, .ref _ _ (by decide), urep, .s _, trivial⟩
    have uH : UnderH 25 ((24, .cells (repC s.wide rp)) :: liH s l RA n) := ⟨⟨by decide, .cells _ fun x hx => (repC_free s.wide rp x hx).under⟩, uLi (by decide)⟩
    refine Aw.keep (n := 25) (cst := [(6, .ref 21 0), (8, .ref 22 0), (10, .ref 23 0), (12, .int k), (13, .ref 24 0), (34, .sl l.isEmpty .any (l.map (repC s.wide))), (35, .int l.length)]) (v := [(11, grL 3 G), (36, .int k), (43, .fn (.func 84) [] [.pt (seaA s (.mp 20))])]) (Hl := (24, .cells (repC s.wide rp)) :: liH s l RA n) h25 ?zu ?zw ?zx ⟨?zc, ?zv, ?zh, Nat.le_of_ble_eq_true rfl⟩ ?zr
    case zu =>
      (repeat' (first | exact trivial | exact Under.s _ | exact Under.un | assumption | exact (free_ints _ _ _).under | exact Under.ref _ _ (by decide) | exact Under.ms _ _ _ (by decide) | exact Under.mp _ (by decide) | exact (Free.agg _ (by assumption)).under | exact (Free.pt _ (by assumption)).under | exact grL_under _ | exact outA_under _ | exact Nat.le_of_ble_eq_true rfl | exact (fun _ _ => rfl) | exact ucst | exact uH | (refine And.intro ?_ ?_)))
    case zw =>
      (repeat' (first | exact trivial | exact Under.s _ | exact Under.un | assumption | exact (free_ints _ _ _).under | exact Under.ref _ _ (by decide) | exact Under.ms _ _ _ (by decide) | exact Under.mp _ (by decide) | exact (Free.agg _ (by assumption)).under | exact (Free.pt _ (by assumption)).under | exact grL_under _ | exact outA_under _ | exact Nat.le_of_ble_eq_true rfl | exact (fun _ _ => rfl) | exact ucst | exact uH | (refine And.intro ?_ ?_)))
    case zx =>
      (repeat' (first | exact trivial | exact Under.s _ | exact Under.un | assumption | exact (free_ints _ _ _).under | exact Under.ref _ _ (by decide) | exact Under.ms _ _ _ (by decide) | exact Under.mp _ (by decide) | exact (Free.agg _ (by assumption)).under | exact (Free.pt _ (by assumption)).under | exact grL_under _ | exact outA_under _ | exact Nat.le_of_ble_eq_true rfl | exact (fun _ _ => rfl) | exact ucst | exact uH | (refine And.intro ?_ ?_)))
    case zc =>
      (repeat' (first | (refine And.intro ?_ ?_) | exact trivial | exact A.Le.refl _ | exact rfl | exact ucst | exact uH))
    case zv =>
      (repeat' (first | (refine And.intro ?_ ?_) | exact trivial | exact A.Le.refl _ | exact rfl | exact ucst | exact uH))
    case zh =>
      (repeat' (first | (refine And.intro ?_ ?_) | exact trivial | exact A.Le.refl _ | exact rfl | exact ucst | exact uH))
    case zr =>
    have hlen : ∀ z ∈ (cellsL s).map fun k : Nat => [A.int k], z.length = 1 := fun z h => by obtain ⟨p, _, rfl⟩ := List.mem_map.1 h; rfl
    have hlm : ((cellsL s).map fun k : Nat => [A.int k]).length = (cellsL s).length := List.length_map _
    refine Aw.block (Aw.iterM rfl (enters_of Try.func84 rfl rfl) ((cellsL s).map fun k : Nat => [A.int k]) (fun j H => H = ofH ((24, .cells (repC s.wide rp)) :: liH s l RA n) ∧ ∀ c ∈ (cellsL s).take j, P c = false)
      (fun e H => e = .exit 1 ∧ H = ofH ((24, .cells (repC s.wide rp)) :: liH s l RA n) ∧ (cellsL s).any P = true) rfl hlen
      (ofL2_under (UnderL.app (l := [(11, grL 3 G), (36, .int k), (43, .fn (.func 84) [] [.pt (seaA s (.mp 20))])]) ⟨grL_under _, .s _, ufn, trivial⟩ ucst))
      (by rintro j H ⟨rfl, _⟩; exact UnderH.ofH uH) (by rintro e H ⟨_, rfl, _⟩; exact UnderH.ofH uH)
      (fun it hIJ H hI => by rw [hlm]; exact cells1_t s ho it (Nat.lt_succ_self _) (Nat.le_of_ble_eq_true rfl) (fun k H h => by obtain ⟨H0, ⟨rfl, _⟩, h2⟩ := hIJ k H h; rw [h2 20 (Nat.ne_of_beq_eq_false rfl)]; rfl) hI) ⟨rfl, fun c hc => by simp at hc⟩ ?_ ?_ ?_)
    · intro lpB ulp j as' ha H hI2 E2 b2 hE2
      obtain ⟨rfl, hno⟩ := hI2
      obtain ⟨p, hp2, rfl⟩ : ∃ p, (cellsL s)[j]? = some p ∧ [A.int (p : Nat)] = as' := by
        rw [List.getElem?_map] at ha
        cases e : (cellsL s)[j]? with
        | none => rw [e] at ha; cases ha
        | some p => rw [e] at ha; exact ⟨p, rfl, by simpa using ha⟩
      have hpc := cellsL_in s ho hp2
      have pp : Int.toNat ((p : Nat) : Int) = p := Int.toNat_natCast p
      have hsp := hmay p
      have hld : (((R.map A.int).drop (Int.toNat ((p : Nat) : Int) * 1)).getD 0 .un).down = .int (R.getD p 0) := by
        rw [pp, Nat.mul_one, getD_drop, Nat.add_zero, getD_ints (by omega)]
      have hld2 : 0 < ((R.map A.int).drop (Int.toNat ((p : Nat) : Int) * 1)).length := by rw [pp, List.length_drop, List.length_map]; omega
      generalize R.getD p 0 = v at *
      generalize hq : isTrueF s.wide rp (placeP s.wide p) = tr at *
      refine Aw.em tab_ok mb0 [] rfl rfl ?zo ?zk
      case zo =>
        repeat' apply AllP.cons
        all_goals first | exact trivial
      case zk =>
      refine ⟨rfl, rfl, ?_⟩
      refine Aw.block ?_
      refine Aw.sd tab_ok mixed mb0 [(5, R.map A.int), (7, [.int v]), (15, [.agg (placeP s.wide p).c]), (16, [.bool tr])] rfl (by kernel_rfl) rfl rfl ?zo ?zk
      case zo =>
        repeat' apply AllP.cons
        all_goals first | exact trivial | exact id | exact fun _ => rfl | exact Nat.le_of_ble_eq_true rfl | exact fun _ => Nat.le_of_ble_eq_true rfl | exact Int.natCast_nonneg _ | exact hrow | exact (show (R.map A.int).length = 80 by simp [hr80]) | exact hld | exact hld2 | exact fun _ => plc_t s ho 20 p (by omega) | exact fun _ => hq ▸ isTrue_t s rp _ (placeP_near ho.w (by omega)) (placeP_near ho.w (by omega)) | exact (by simp only [Ob.of]; omega)
      case zk =>
      refine Aw.cond rfl (fun h2 => Aw.exit (blkN rfl ?_)) (fun h2 => Aw.skip ?_)
      · have h2 : cond (v == n) tr false = true := h2
        have hs : P p = true := by rw [hsp]; revert h2; cases (v == n) <;> cases tr <;> simp
        exact ⟨⟨_, _, rfl⟩, Nat.le_of_ble_eq_true rfl, _, ⟨rfl, rfl, List.any_eq_true.2 ⟨p, List.mem_of_getElem? hp2, hs⟩⟩, HasH.ofH (l := (24, .cells (repC s.wide rp)) :: liH s l RA n) ⟨rfl, rfl, rfl, rfl, rfl, trivial⟩⟩
      · have h2 : cond (v == n) tr false = false := h2
        have hs : P p = false := by rw [hsp]; revert h2; cases (v == n) <;> cases tr <;> simp
        exact ⟨⟨_, _, rfl⟩, Nat.le_of_ble_eq_true rfl, _, ⟨rfl, fun c hc => by
          obtain ⟨hj, e⟩ := List.getElem?_eq_some_iff.1 hp2
          rw [List.take_succ_eq_append_getElem hj, List.mem_append] at hc
          rcases hc with hc | hc
          · exact hno c hc
          · rw [List.mem_singleton] at hc; rw [hc, e]; exact hs⟩, HasH.ofH (l := (24, .cells (repC s.wide rp)) :: liH s l RA n) ⟨rfl, rfl, rfl, rfl, rfl, trivial⟩⟩
    · rintro H c' hc' ⟨H0, ⟨rfl, hno⟩, hs⟩
      have hH := hasH_of_sub (l := (24, .cells (repC s.wide rp)) :: liH s l RA n) rfl hs
      rw [hlm, List.take_length] at hno
      have hany : (cellsL s).any P = false := by
        rw [← Bool.not_eq_true, List.any_eq_true]; rintro ⟨c, h1, h2⟩; rw [hno c h1] at h2; cases h2
      rw [hli, hany] at hsu
      rw [if_pos (by decide)] at hsu
      refine Aw.keep (n := 24) (cst := [(6, .ref 21 0), (8, .ref 22 0), (10, .ref 23 0), (34, .sl l.isEmpty .any (l.map (repC s.wide))), (35, .int l.length)]) (v := [(11, grL 3 G), (12, .int k), (36, .int k)]) (Hl := liH s l RA n) h24 ⟨.ref _ _ (by decide), .ref _ _ (by decide), .ref _ _ (by decide), urep, .s _, trivial⟩ ⟨grL_under _, .s _, .s _, trivial⟩ (uLi (by decide))
        ⟨⟨.refl _, .refl _, .refl _, .refl _, .refl _, trivial⟩, ⟨.refl _, .refl _, .refl _, trivial⟩, hH.2, Nat.le_trans (show 24 ≤ 25 by decide) hc'⟩ ?_
      cases G with
      | nil =>
        refine Aw.em tab_ok mb0 [] rfl rfl ?zo ?zk
        case zo =>
          repeat' apply AllP.cons
          all_goals first | exact trivial | exact Nat.le_of_ble_eq_true rfl | exact (show ∀ z ∈ [] ++ [[A.int _]], z.length = 1 from fun z hz => by simp at hz; subst hz; rfl)
        case zk =>
        refine Aw.em tab_ok mb0 [] rfl rfl ?zo ?zk
        case zo =>
          repeat' apply AllP.cons
          all_goals first | exact trivial | exact inrk k (by omega)
        case zk =>
        refine ⟨k + 1, ?zg, ?zm, ⟨?zc, ?zv, ?zh, Nat.le_of_ble_eq_true rfl⟩⟩
        case zg =>
          (repeat' (first | assumption | omega | exact .of_eq (by rw [hsu]; rfl) | (refine And.intro ?_ ?_)))
        case zm =>
          (repeat' (first | omega | exact .of_eq (by rw [hsu]; rfl) | (refine And.intro ?_ ?_)))
        case zc =>
          (repeat' (first | (refine And.intro ?_ ?_) | exact trivial | exact A.Le.refl _ | exact rfl | exact .of_eq (by rw [hsu]; rfl)))
        case zv =>
          (repeat' (first | (refine And.intro ?_ ?_) | exact trivial | exact A.Le.refl _ | exact rfl | exact .of_eq (by rw [hsu]; rfl)))
        case zh =>
          (repeat' (first | (refine And.intro ?_ ?_) | exact trivial | exact A.Le.refl _ | exact rfl | exact .of_eq (by rw [hsu]; rfl)))
      | cons x t =>
        have hlen2 : (ints (x :: t)).length ≤ 24 := by simp only [ints, List.length_map]; omega
        have hz : ∀ z ∈ ints (x :: t), z.length = 1 := fun z hz => by obtain ⟨i, _, rfl⟩ := List.mem_map.1 hz; rfl
        refine Aw.em tab_ok mb0 [] rfl rfl ?zo ?zk
        case zo =>
          repeat' apply AllP.cons
          all_goals first | exact trivial | exact Nat.le_of_ble_eq_true rfl | exact (show ∀ z ∈ [[A.int _]], z.length = 1 from fun z hz => by simp at hz; subst hz; rfl) | exact hz | exact (show ((ints (x :: t)).length + 1) * 8 ≤ 140737488355328 by omega) | exact (show (ints (x :: t)).length + 1 ≤ maxLen by unfold maxLen; omega)
        case zk =>
        refine Aw.em tab_ok mb0 [] rfl rfl ?zo ?zk
        case zo =>
          repeat' apply AllP.cons
          all_goals first | exact trivial | exact inrk k (by omega)
        case zk =>
        refine ⟨k + 1, ?zg, ?zm, ⟨?zc, ?zv, ?zh, Nat.le_of_ble_eq_true rfl⟩⟩
        case zg =>
          (repeat' (first | assumption | omega | exact .of_eq (hsu ▸ (show grL 3 ((x :: t) ++ [(k : Int)]) = A.sl false (.own 3) (ints (x :: t) ++ [[A.int k]]) by simp [grL, ints])) | (refine And.intro ?_ ?_)))
        case zm =>
          (repeat' (first | omega | exact .of_eq (hsu ▸ (show grL 3 ((x :: t) ++ [(k : Int)]) = A.sl false (.own 3) (ints (x :: t) ++ [[A.int k]]) by simp [grL, ints])) | (refine And.intro ?_ ?_)))
        case zc =>
          (repeat' (first | (refine And.intro ?_ ?_) | exact trivial | exact A.Le.refl _ | exact rfl | exact .of_eq (hsu ▸ (show grL 3 ((x :: t) ++ [(k : Int)]) = A.sl false (.own 3) (ints (x :: t) ++ [[A.int k]]) by simp [grL, ints]))))
        case zv =>
          (repeat' (first | (refine And.intro ?_ ?_) | exact trivial | exact A.Le.refl _ | exact rfl | exact .of_eq (hsu ▸ (show grL 3 ((x :: t) ++ [(k : Int)]) = A.sl false (.own 3) (ints (x :: t) ++ [[A.int k]]) by simp [grL, ints]))))
        case zh =>
          (repeat' (first | (refine And.intro ?_ ?_) | exact trivial | exact A.Le.refl _ | exact rfl | exact .of_eq (hsu ▸ (show grL 3 ((x :: t) ++ [(k : Int)]) = A.sl false (.own 3) (ints (x :: t) ++ [[A.int k]]) by simp [grL, ints]))))
    · rintro e H c' hc' ⟨H0, ⟨rfl, rfl, hany⟩, hs⟩
      have hH := hasH_of_sub (l := (24, .cells (repC s.wide rp)) :: liH s l RA n) rfl hs
      rw [hli, hany, if_neg (by decide)] at hsu
      refine Aw.exit (blkN rfl (thenE (blkE ?_)))
      refine Aw.keep (n := 24) (cst := [(6, .ref 21 0), (8, .ref 22 0), (10, .ref 23 0), (34, .sl l.isEmpty .any (l.map (repC s.wide))), (35, .int l.length)]) (v := [(11, grL 3 G), (36, .int k)]) (Hl := liH s l RA n) h24 ⟨.ref _ _ (by decide), .ref _ _ (by decide), .ref _ _ (by decide), urep, .s _, trivial⟩ ⟨grL_under _, .s _, trivial⟩ (uLi (by decide))
        ⟨⟨.refl _, .refl _, .refl _, .refl _, .refl _, trivial⟩, ⟨.refl _, .refl _, trivial⟩, hH.2, Nat.le_trans (show 24 ≤ 25 by decide) hc'⟩ ?_
      refine Aw.em tab_ok mb0 [] rfl rfl ?zo ?zk
      case zo =>
        repeat' apply AllP.cons
        all_goals first | exact trivial | exact inrk k (by omega)
      case zk =>
      refine ⟨k + 1, ?zg, ?zm, ⟨?zc, ?zv, ?zh, Nat.le_of_ble_eq_true rfl⟩⟩
      case zg =>
        (repeat' (first | assumption | omega | exact .of_eq (by rw [hsu]; rfl) | (refine And.intro ?_ ?_)))
      case zm =>
        (repeat' (first | omega | exact .of_eq (by rw [hsu]; rfl) | (refine And.intro ?_ ?_)))
      case zc =>
        (repeat' (first | (refine And.intro ?_ ?_) | exact trivial | exact A.Le.refl _ | exact rfl | exact .of_eq (by rw [hsu]; rfl)))
      case zv =>
        (repeat' (first | (refine And.intro ?_ ?_) | exact trivial | exact A.Le.refl _ | exact rfl | exact .of_eq (by rw [hsu]; rfl)))
      case zh =>
        (repeat' (first | (refine And.intro ?_ ?_) | exact trivial | exact A.Le.refl _ | exact rfl | exact .of_eq (by rw [hsu]; rfl)))
  have hle : k = l.length := by have := of_decide_eq_false h1; omega
  subst hle
  generalize liarK s l n l.length = G at *
  cases G with
  | nil =>
    refine Aw.sm tab_ok mb0 [] rfl rfl ?zo ?zk
    case zo =>
      repeat' apply AllP.cons
      all_goals first | exact trivial | exact rfl | exact Int.natCast_nonneg _
    case zk =>
    exact Aw.ret ⟨_, .cons (.tmp _) (.cons (.tmp _) .nil), rfl⟩
  | cons x t =>
    refine Aw.sm tab_ok mb0 [] rfl rfl ?zo ?zk
    case zo =>
      repeat' apply AllP.cons
      all_goals first | exact trivial | exact rfl | exact Int.natCast_nonneg _ | exact (by simp only [Ob.of]; omega)
    case zk =>
    have e : (ints (x :: t)).take (Int.toNat ((ints (x :: t)).length : Int)) = ints (x :: t) := by rw [Int.toNat_natCast, List.take_length]
    exact Aw.ret ⟨_, .cons (.tmp _) (.cons (.tmp _) .nil), congrArg (fun r => A.tup [.sl false .exact r, .int 0]) e⟩
end Go.Proofs.Ytohbjneaaahpcaa

namespace Go.Proofs.Ytohbjneaaahpcaa
open Go Go.AL Go.AL.Q Go.AL.Sh
theorem placeP_inR {w cell : Int} (hw : 1 ≤ w ∧ w ≤ 10) (hc : inR cell) : inR (cell.tdiv w) := by
  have h2 : (cell.tdiv w).natAbs ≤ cell.natAbs := by rw [Int.natAbs_tdiv]; exact Nat.div_le_self _ _
  have h3 : 0 ≤ cell → 0 ≤ cell.tdiv w := fun h => Int.tdiv_nonneg h (by omega)
  have h4 : cell ≤ 0 → cell.tdiv w ≤ 0 := fun h => by
    have := Int.tdiv_nonneg (show 0 ≤ -cell by omega) (show 0 ≤ w by omega)
    rw [Int.neg_tdiv] at this; omega
  simp only [inR] at *
  omega
theorem place_a (s : Sea) (h : s.Ok) (cell : Int) (hc : inR cell) : Ans Try.prog 50 [.agg (seaA s .un), .int cell] (.agg (placeP s.wide cell).c) := by
  have hfr : Free (.agg (placeP s.wide cell).c) := .agg _ (Sp.free _)
  have hw := h.w
  have h2 := placeP_inR hw hc
  refine told Try.func50 rfl rfl (Pure.of tab_ok Try.func50 rfl Try.ntmps50 rfl (allC (.agg _ (seaA_free s)) (all1 (.s _))) (allC (fun _ => rfl) (all1 (fun _ => rfl))) (by first | exact .s _ | assumption | exact .tup _ (by intro x hx; simp only [List.mem_cons, List.not_mem_nil, or_false] at hx; rcases hx with rfl | rfl | rfl | rfl <;> first | exact .s _ | (simp_all; done))) fun E hE => ?_)
  refine Aw.sm tab_ok mb0 [] rfl rfl ?zo ?zk
  case zo =>
    repeat' apply AllP.cons
    all_goals first | exact trivial
  case zk =>
  refine Aw.sd tab_ok mixed mb0 [] rfl (by kernel_rfl) rfl rfl ?zo ?zk
  case zo =>
    repeat' apply AllP.cons
    all_goals first | exact trivial | exact rfl | exact Nat.le_of_ble_eq_true rfl | exact (show s.wide ≠ 0 by omega) | exact (show s.wide ≠ 0 ∧ inR (cell.tdiv s.wide) from ⟨by omega, h2⟩)
  case zk =>
  exact Aw.ret ⟨_, .cons (resC rfl rfl rfl rfl rfl) .nil, rfl⟩
theorem plca_t (s : Sea) (h : s.Ok) (i : Nat) (cell : Int) (hc : inR cell) : Ans Try.prog 50 [.agg (seaA s (.mp i)), .int cell] (.agg (placeP s.wide cell).c) :=
  (place_a s h cell hc).le rfl fun j hj => by
    match j, hj with
    | 0, _ => exact seaLe s _ fun _ => rfl
    | 1, _ => exact .refl _
def castC (w : Int) (c : Sp) : List A := (placeP w c.lo).c ++ [.int c.hi]
theorem castC_free (w : Int) (c : Sp) : ∀ x ∈ castC w c, Free x := fun x hx => (List.mem_append.1 hx).elim ((placeP w c.lo).free x) (all1 (.s _) x)
def castOk (s : Sea) (c : Sp) : Bool := cond (wi c.lo 0 (s.many - 1)) (wi c.hi 0 9) false
def castsOk (s : Sea) (casts : List Sp) : Bool := cond (wi casts.length 1 8) (casts.all (castOk s)) false
def AskE (s : Sea) (l : List Rep) (wrong hour : Int) (casts : List Sp) : Int :=
  if s.ok then if s.repsOk l then if askedB s wrong hour then if castsOk s casts then canE (canF s l wrong hour) else 13 else 7 else 11 else 10
def grR {α : Type} (e : Nat) (f : α → List A) : List α → A
  | [] => .sl true .exact []
  | x :: l => .sl false (.own e) ((x :: l).map f)
theorem grR_under {α : Type} {e n : Nat} {f : α → List A} (hf : ∀ a, ∀ x ∈ f a, Free x) : ∀ l : List α, Under n (grR e f l)
  | [] => .sl _ _ _ fun _ h => nomatch h
  | x :: l => .sl _ _ _ fun y hy z hz => by obtain ⟨a, _, rfl⟩ := List.mem_map.1 hy; exact (hf a z hz).under
structure CstFit (casts : List Sp) : Prop where
  len : casts.length * 16 ≤ 140737488351232
  r : ∀ c ∈ casts, inR c.lo ∧ inR c.hi
def askA (s : Sea) (l : List Rep) (wrong hour : Int) (casts : List Sp) : A :=
  if AskE s l wrong hour casts = 0 then .tup [.sl false .any ((canF s l wrong hour).map fun c => (placeP s.wide c).c), .sl false .any (casts.map (castC s.wide)), .int 0] else .tup [.sl true .exact [], .sl true .exact [], .int (AskE s l wrong hour casts)]
theorem canF_in {s : Sea} (ho : s.Ok) {l : List Rep} {wrong hour c : Int} (h : c ∈ canF s l wrong hour) : 0 ≤ c ∧ c < 80 := goL_in s ho h
set_option maxRecDepth 20000 in
set_option maxHeartbeats 1000000 in
theorem asked_t (s : Sea) (hf : SeaFit s) (b : Bool) (l : List Rep) (hl : (l.length : Int) ≤ 9223372036854775806) (wrong hour : Int) (cb : Bool) (casts : List Sp) (hcs : CstFit casts) :
    Ans Try.prog 67 [.agg s.c, .sl b .any (l.map Rep.c), .int wrong, .int hour, .sl cb .any (casts.map Sp.c)] (askA s l wrong hour casts) := by
  have fcs : Free (.sl cb .any (casts.map Sp.c)) := free_map Sp.free _ _ _
  have hfr : Free (askA s l wrong hour casts) := by
    unfold askA; split
    · exact .tup _ (allC (free_map (fun c => Sp.free _) _ _ _) (allC (free_map (castC_free _) _ _ _) (all1 (.s _))))
    · exact .tup _ (allC (.sl _ _ _ fun _ h => nomatch h) (allC (.sl _ _ _ fun _ h => nomatch h) (all1 (.s _))))
  have bad : ∀ e, e ≠ 0 → AskE s l wrong hour casts = e → askA s l wrong hour casts = .tup [.sl true .exact [], .sl true .exact [], .int e] := fun e h1 h2 => by unfold askA; rw [h2, if_neg h1]
  have hcl := hcs.len
  have lc : ((casts.map Sp.c).length : Int) = casts.length := by simp
  refine told Try.func67 rfl rfl (Pure.of tab_ok Try.func67 rfl Try.ntmps67 rfl (allC (.agg _ s.free) (allC (free_map Rep.free _ _ _) (allC (.s _) (allC (.s _) (all1 (fcs)))))) (allC (fun _ => rfl) (allC (fun _ => rfl) (allC (fun _ => rfl) (allC (fun _ => rfl) (all1 (fun _ => rfl)))))) (by first | exact .s _ | assumption | exact .tup _ (by intro x hx; simp only [List.mem_cons, List.not_mem_nil, or_false] at hx; rcases hx with rfl | rfl | rfl | rfl <;> first | exact .s _ | (simp_all; done))) fun E hE => ?_)
  refine Aw.sm tab_ok mb0 [] rfl rfl ?zo ?zk
  case zo =>
    repeat' apply AllP.cons
    all_goals first | exact trivial
  case zk =>
  cases hok : s.ok with
  | false =>
    rw [bad 10 (by decide) (by simp [AskE, hok])]
    refine Aw.sm tab_ok mb0 [(2, [.tup [.agg zeroLog, .int 10]])] rfl rfl ?zo ?zk
    case zo =>
      repeat' apply AllP.cons
      all_goals first | exact trivial | exact rfl | exact Nat.le_of_ble_eq_true rfl | exact read_no s hf b l hok
    case zk =>
    refine Aw.seq ?_
    refine Aw.sm tab_ok mb0 [] rfl rfl ?zo ?zk
    case zo =>
      repeat' apply AllP.cons
      all_goals first | exact trivial
    case zk =>
    refine Aw.cond rfl (fun h => ?_) (fun h => absurd h (by decide))
    refine Aw.sm tab_ok mb0 [] rfl rfl ?zo ?zk
    case zo =>
      repeat' apply AllP.cons
      all_goals first | exact trivial
    case zk =>
    exact Aw.ret ⟨_, .cons (.tmp _) (.cons (.tmp _) (.cons (.tmp _) .nil)), rfl⟩
  | true =>
  cases hr : s.repsOk l with
  | false =>
    rw [bad 11 (by decide) (by simp [AskE, hok, hr])]
    refine Aw.sm tab_ok mb0 [(2, [.tup [.agg zeroLog, .int 11]])] rfl rfl ?zo ?zk
    case zo =>
      repeat' apply AllP.cons
      all_goals first | exact trivial | exact rfl | exact Nat.le_of_ble_eq_true rfl | exact read_bad s hf b l hl hok hr
    case zk =>
    refine Aw.seq ?_
    refine Aw.sm tab_ok mb0 [] rfl rfl ?zo ?zk
    case zo =>
      repeat' apply AllP.cons
      all_goals first | exact trivial
    case zk =>
    refine Aw.cond rfl (fun h => ?_) (fun h => absurd h (by decide))
    refine Aw.sm tab_ok mb0 [] rfl rfl ?zo ?zk
    case zo =>
      repeat' apply AllP.cons
      all_goals first | exact trivial
    case zk =>
    exact Aw.ret ⟨_, .cons (.tmp _) (.cons (.tmp _) (.cons (.tmp _) .nil)), rfl⟩
  | true =>
  have ho := Sea.ok_of hok
  have hrf := reps_fit hr
  have hm := ho.many
  refine Aw.raise (c' := 20) (Nat.le_of_ble_eq_true rfl) ?_
  refine Aw.sm tab_ok mb0 [(2, [.tup [.agg (logA s (.mp 20) l), .int 0], .sl false .any (kvsTo (encM plE valB (landF s.wide s.land)))])] rfl rfl ?zo ?zk
  case zo =>
    repeat' apply AllP.cons
    all_goals first | exact trivial | exact rfl | exact Nat.le_of_ble_eq_true rfl | exact read_n s hf b l hok hr 20
  case zk =>
  have hland : some (B.map (kvsOf (kvsTo (encM plE valB (landF s.wide s.land))))) = some (landB s) := congrArg (fun x => some (B.map x)) (kvs_to _)
  refine Aw.seq ?_
  refine Aw.sm tab_ok mb0 [] rfl rfl ?zo ?zk
  case zo =>
    repeat' apply AllP.cons
    all_goals first | exact trivial
  case zk =>
  refine Aw.cond rfl (fun h => absurd h (by decide)) (fun h => Aw.skip ?_)
  refine Aw.seq ?_
  cases ha : askedB s wrong hour with
  | false =>
    rw [bad 7 (by decide) (by simp [AskE, hok, hr, ha])]
    refine Aw.sm tab_ok mb0 [(3, [.bool false])] rfl rfl ?zo ?zk
    case zo =>
      repeat' apply AllP.cons
      all_goals first | exact trivial | exact Nat.le_of_ble_eq_true rfl | exact ha ▸ isAsked_t s ho l 20 wrong hour
    case zk =>
    refine Aw.cond rfl (fun h => ?_) (fun h => absurd h (by decide))
    refine Aw.sm tab_ok mb0 [] rfl rfl ?zo ?zk
    case zo =>
      repeat' apply AllP.cons
      all_goals first | exact trivial
    case zk =>
    exact Aw.ret ⟨_, .cons (.tmp _) (.cons (.tmp _) (.cons (.tmp _) .nil)), rfl⟩
  | true =>
  have hh := asked_iff.1 ha
  refine Aw.sm tab_ok mb0 [(3, [.bool true])] rfl rfl ?zo ?zk
  case zo =>
    repeat' apply AllP.cons
    all_goals first | exact trivial | exact Nat.le_of_ble_eq_true rfl | exact ha ▸ isAsked_t s ho l 20 wrong hour
  case zk =>
  refine Aw.cond rfl (fun h => absurd h (by decide)) (fun h => Aw.skip ?_)
  refine Aw.sm tab_ok mb0 [(2, [.bool (wi casts.length 1 8)])] rfl rfl ?zo ?zk
  case zo =>
    repeat' apply AllP.cons
    all_goals first | exact trivial | exact lc ▸ within_t _ _ _
  case zk =>
  refine Aw.sm tab_ok mb0 [] rfl rfl ?zo ?zk
  case zo =>
    repeat' apply AllP.cons
    all_goals first | exact trivial
  case zk =>
  refine Aw.seq ?_
  refine Aw.sm tab_ok mb0 [] rfl rfl ?zo ?zk
  case zo =>
    repeat' apply AllP.cons
    all_goals first | exact trivial
  case zk =>
  have h22 : ∀ id, 22 ≤ id → E.φ0 id = none := fun id _ => hE id (Nat.zero_le _)
  have h23 : ∀ id, 23 ≤ id → E.φ0 id = none := fun id _ => hE id (Nat.zero_le _)
  have ucs : Under 22 (.sl cb .any (casts.map Sp.c)) := fcs.under
  have ulg : UnderH 22 [(20, landB s), (21, .cells (logA s (.mp 20) l))] := lgH_under s l (by decide)
  refine Aw.block (Aw.rounds 22 h22 [(2, .int wrong), (3, .int hour), (13, .ref 21 0), (40, .sl cb .any (casts.map Sp.c)), (41, .int casts.length)] (fun k : Nat => [(15, .bool (andAll (wi casts.length 1 8) (castOk s) casts k)), (16, grR 114 (castC s.wide) (casts.take k)), (42, .int k)]) (fun k => [(20, landB s), (21, .cells (logA s (.mp 20) l))]) (fun k => k ≤ casts.length) (fun k => casts.length - k) 0 ?zg ⟨?zc, ?zv, ?zh, Nat.le_of_ble_eq_true rfl⟩ ?zu (fun k zhk => ?zw) (fun k zhk => ?zx) fun k hk => ?zr)
  case zg =>
    (repeat' (first | exact Nat.zero_le _ | exact Nat.le_refl _ | exact trivial | exact ulg | exact ucs | exact hland | exact grR_under (castC_free _) _ | exact .of_eq (congrArg A.int lc.symm) | exact .of_eq (by rw [andAll_zero]; rfl) | (refine And.intro ?_ ?_)))
  case zc =>
    (repeat' (first | (refine And.intro ?_ ?_) | exact trivial | exact A.Le.refl _ | exact rfl | exact ulg | exact ucs | exact hland | exact grR_under (castC_free _) _ | exact .of_eq (congrArg A.int lc.symm) | exact .of_eq (by rw [andAll_zero]; rfl)))
  case zv =>
    (repeat' (first | (refine And.intro ?_ ?_) | exact trivial | exact A.Le.refl _ | exact rfl | exact ulg | exact ucs | exact hland | exact grR_under (castC_free _) _ | exact .of_eq (congrArg A.int lc.symm) | exact .of_eq (by rw [andAll_zero]; rfl)))
  case zh =>
    (repeat' (first | (refine And.intro ?_ ?_) | exact trivial | exact A.Le.refl _ | exact rfl | exact ulg | exact ucs | exact hland | exact grR_under (castC_free _) _ | exact .of_eq (congrArg A.int lc.symm) | exact .of_eq (by rw [andAll_zero]; rfl)))
  case zu =>
    (repeat' (first | exact trivial | exact Under.s _ | exact Under.un | assumption | exact (free_ints _ _ _).under | exact Under.ref _ _ (by decide) | exact Under.ms _ _ _ (by decide) | exact Under.mp _ (by decide) | exact (Free.agg _ (by assumption)).under | exact (Free.pt _ (by assumption)).under | exact grL_under _ | exact outA_under _ | exact Nat.le_of_ble_eq_true rfl | exact (fun _ _ => rfl) | exact ulg | exact ucs | exact hland | exact grR_under (castC_free _) _ | exact .of_eq (congrArg A.int lc.symm) | exact .of_eq (by rw [andAll_zero]; rfl) | (refine And.intro ?_ ?_)))
  case zw =>
    (repeat' (first | exact trivial | exact Under.s _ | exact Under.un | assumption | exact (free_ints _ _ _).under | exact Under.ref _ _ (by decide) | exact Under.ms _ _ _ (by decide) | exact Under.mp _ (by decide) | exact (Free.agg _ (by assumption)).under | exact (Free.pt _ (by assumption)).under | exact grL_under _ | exact outA_under _ | exact Nat.le_of_ble_eq_true rfl | exact (fun _ _ => rfl) | exact ulg | exact ucs | exact hland | exact grR_under (castC_free _) _ | exact .of_eq (congrArg A.int lc.symm) | exact .of_eq (by rw [andAll_zero]; rfl) | (refine And.intro ?_ ?_)))
  case zx =>
    (repeat' (first | exact trivial | exact Under.s _ | exact Under.un | assumption | exact (free_ints _ _ _).under | exact Under.ref _ _ (by decide) | exact Under.ms _ _ _ (by decide) | exact Under.mp _ (by decide) | exact (Free.agg _ (by assumption)).under | exact (Free.pt _ (by assumption)).under | exact grL_under _ | exact outA_under _ | exact Nat.le_of_ble_eq_true rfl | exact (fun _ _ => rfl) | exact ulg | exact ucs | exact hland | exact grR_under (castC_free _) _ | exact .of_eq (congrArg A.int lc.symm) | exact .of_eq (by rw [andAll_zero]; rfl) | (refine And.intro ?_ ?_)))
  case zr =>
  refine Aw.sm tab_ok mb0 [] rfl rfl ?zo ?zk
  case zo =>
    repeat' apply AllP.cons
    all_goals first | exact trivial
  case zk =>
  refine Aw.seq (Aw.cond rfl (fun h1 => Aw.skip1 ?_) (fun h1 => Aw.exit2 ?_))
  · have hlt : k < casts.length := by have := of_decide_eq_true h1; omega
    have hst := andAll_step (b := wi casts.length 1 8) (p := castOk s) hlt
    have hget := get_map (f := Sp.c) hlt
    have hin := hcs.r casts[k] (List.getElem_mem hlt)
    have htk := List.take_succ_eq_append_getElem hlt
    have hcok : castOk s casts[k] = cond (wi casts[k].lo 0 (s.many - 1)) (wi casts[k].hi 0 9) false := rfl
    have htl : (casts.take k).length = k := by simp; omega
    generalize casts[k] = c at *
    generalize casts.take k = tk at *
    generalize andAll (wi casts.length 1 8) (castOk s) casts k = ab at *
    refine Aw.seq (Aw.block ?_)
    refine Aw.sm tab_ok mb0 [(0, c.c)] rfl rfl ?zo ?zk
    case zo =>
      repeat' apply AllP.cons
      all_goals first | exact trivial | exact rfl | exact Nat.le_of_ble_eq_true rfl | exact Int.natCast_nonneg _ | exact hget
    case zk =>
    refine Aw.sd tab_ok mixed mb0 [(6, [.int s.many]), (8, [.bool (wi c.lo 0 (s.many - 1))]), (13, [.bool (wi c.hi 0 9)])] rfl (by kernel_rfl) rfl rfl ?zo ?zk
    case zo =>
      repeat' apply AllP.cons
      all_goals first | exact trivial | exact id | exact fun _ => rfl | exact fun _ => Nat.le_of_ble_eq_true rfl | exact (within_t _ _ _).un | exact fun _ => many_t s ho 20 | exact fun _ => (by simp only [Ob.of, inR]; omega)
    case zk =>
    cases tk with
    | nil =>
      refine Aw.ed tab_ok mixed mb0 [(5, [.agg (placeP s.wide c.lo).c])] rfl (by kernel_rfl) rfl rfl ?zo ?zk
      case zo =>
        repeat' apply AllP.cons
        all_goals first | exact trivial | exact Nat.le_of_ble_eq_true rfl | exact plca_t s ho 20 c.lo hin.1 | exact (show ∀ z ∈ [] ++ [castC s.wide c], z.length = 3 from fun z hz => by simp at hz; subst hz; rfl)
      case zk =>
      refine Aw.em tab_ok mb0 [] rfl rfl ?zo ?zk
      case zo =>
        repeat' apply AllP.cons
        all_goals first | exact trivial | exact inrk k (by omega)
      case zk =>
      refine ⟨k + 1, ?zg, ?zm, ⟨?zc, ?zv, ?zh, Nat.le_of_ble_eq_true rfl⟩⟩
      case zg =>
        (repeat' (first | assumption | omega | exact .of_eq (by rw [hst, hcok, ← cond_assoc]; rfl) | exact .of_eq (by rw [htk]; rfl) | (refine And.intro ?_ ?_)))
      case zm =>
        (repeat' (first | omega | exact .of_eq (by rw [hst, hcok, ← cond_assoc]; rfl) | exact .of_eq (by rw [htk]; rfl) | (refine And.intro ?_ ?_)))
      case zc =>
        (repeat' (first | (refine And.intro ?_ ?_) | exact trivial | exact A.Le.refl _ | exact rfl | exact .of_eq (by rw [hst, hcok, ← cond_assoc]; rfl) | exact .of_eq (by rw [htk]; rfl)))
      case zv =>
        (repeat' (first | (refine And.intro ?_ ?_) | exact trivial | exact A.Le.refl _ | exact rfl | exact .of_eq (by rw [hst, hcok, ← cond_assoc]; rfl) | exact .of_eq (by rw [htk]; rfl)))
      case zh =>
        (repeat' (first | (refine And.intro ?_ ?_) | exact trivial | exact A.Le.refl _ | exact rfl | exact .of_eq (by rw [hst, hcok, ← cond_assoc]; rfl) | exact .of_eq (by rw [htk]; rfl)))
    | cons x t =>
      have hml : ((x :: t).map (castC s.wide)).length = k := by rw [List.length_map]; exact htl
      have hz : ∀ z ∈ (x :: t).map (castC s.wide), z.length = 3 := fun z hz => by obtain ⟨a, _, rfl⟩ := List.mem_map.1 hz; rfl
      refine Aw.ed tab_ok mixed mb0 [(5, [.agg (placeP s.wide c.lo).c]), (10, [.un])] rfl (by kernel_rfl) rfl rfl ?zo ?zk
      case zo =>
        repeat' apply AllP.cons
        all_goals first | exact trivial | exact Nat.le_of_ble_eq_true rfl | exact plca_t s ho 20 c.lo hin.1 | exact (show ∀ z ∈ [castC s.wide c], z.length = 3 from fun z hz => by simp at hz; subst hz; rfl) | exact hz | exact (show (((x :: t).map (castC s.wide)).length + 1 + (((x :: t).map (castC s.wide)).length + 1) / 4 + 192) * 24 ≤ 281474976710656 by omega) | exact (show ((x :: t).map (castC s.wide)).length + 1 ≤ maxLen by unfold maxLen; omega)
      case zk =>
      refine Aw.em tab_ok mb0 [] rfl rfl ?zo ?zk
      case zo =>
        repeat' apply AllP.cons
        all_goals first | exact trivial | exact inrk k (by omega)
      case zk =>
      refine ⟨k + 1, ?zg, ?zm, ⟨?zc, ?zv, ?zh, Nat.le_of_ble_eq_true rfl⟩⟩
      case zg =>
        (repeat' (first | assumption | omega | exact .of_eq (by rw [hst, hcok, ← cond_assoc]; rfl) | exact .of_eq (by rw [htk]; show A.sl false (.own 114) (List.map (castC s.wide) ((x :: t) ++ [c])) = A.sl false (.own 114) (List.map (castC s.wide) (x :: t) ++ [castC s.wide c]); rw [List.map_append]; rfl) | (refine And.intro ?_ ?_)))
      case zm =>
        (repeat' (first | omega | exact .of_eq (by rw [hst, hcok, ← cond_assoc]; rfl) | exact .of_eq (by rw [htk]; show A.sl false (.own 114) (List.map (castC s.wide) ((x :: t) ++ [c])) = A.sl false (.own 114) (List.map (castC s.wide) (x :: t) ++ [castC s.wide c]); rw [List.map_append]; rfl) | (refine And.intro ?_ ?_)))
      case zc =>
        (repeat' (first | (refine And.intro ?_ ?_) | exact trivial | exact A.Le.refl _ | exact rfl | exact .of_eq (by rw [hst, hcok, ← cond_assoc]; rfl) | exact .of_eq (by rw [htk]; show A.sl false (.own 114) (List.map (castC s.wide) ((x :: t) ++ [c])) = A.sl false (.own 114) (List.map (castC s.wide) (x :: t) ++ [castC s.wide c]); rw [List.map_append]; rfl)))
      case zv =>
        (repeat' (first | (refine And.intro ?_ ?_) | exact trivial | exact A.Le.refl _ | exact rfl | exact .of_eq (by rw [hst, hcok, ← cond_assoc]; rfl) | exact .of_eq (by rw [htk]; show A.sl false (.own 114) (List.map (castC s.wide) ((x :: t) ++ [c])) = A.sl false (.own 114) (List.map (castC s.wide) (x :: t) ++ [castC s.wide c]); rw [List.map_append]; rfl)))
      case zh =>
        (repeat' (first | (refine And.intro ?_ ?_) | exact trivial | exact A.Le.refl _ | exact rfl | exact .of_eq (by rw [hst, hcok, ← cond_assoc]; rfl) | exact .of_eq (by rw [htk]; show A.sl false (.own 114) (List.map (castC s.wide) ((x :: t) ++ [c])) = A.sl false (.own 114) (List.map (castC s.wide) (x :: t) ++ [castC s.wide c]); rw [List.map_append]; rfl)))
  have hle : k = casts.length := by have := of_decide_eq_false h1; omega
  subst hle
  have hfull : andAll (wi casts.length 1 8) (castOk s) casts casts.length = castsOk s casts := andAll_full
  rw [hfull, List.take_length]
  refine Aw.seq ?_
  cases hco : castsOk s casts with
  | false =>
    rw [bad 13 (by decide) (by simp [AskE, hok, hr, ha, hco])]
    refine Aw.sm tab_ok mb0 [] rfl rfl ?zo ?zk
    case zo =>
      repeat' apply AllP.cons
      all_goals first | exact trivial
    case zk =>
    refine Aw.cond rfl (fun h => ?_) (fun h => absurd h (by decide))
    refine Aw.sm tab_ok mb0 [] rfl rfl ?zo ?zk
    case zo =>
      repeat' apply AllP.cons
      all_goals first | exact trivial
    case zk =>
    exact Aw.ret ⟨_, .cons (.tmp _) (.cons (.tmp _) (.cons (.tmp _) .nil)), rfl⟩
  | true =>
  refine Aw.sm tab_ok mb0 [] rfl rfl ?zo ?zk
  case zo =>
    repeat' apply AllP.cons
    all_goals first | exact trivial
  case zk =>
  refine Aw.cond rfl (fun h => absurd h (by decide)) (fun h => Aw.skip ?_)
  have hcr := can_r s ho l hrf wrong hour hh.2.1 hh.2.2
  have hE2 : AskE s l wrong hour casts = canE (canF s l wrong hour) := by simp [AskE, hok, hr, ha, hco]
  have hcf : ∀ c ∈ canF s l wrong hour, 0 ≤ c ∧ c < 80 := fun c h => canF_in ho h
  have hgl : (canF s l wrong hour).length ≤ 80 := Nat.le_trans (goL_len s _ _) (cellsL_len s ho)
  have hne : casts ≠ [] := by
    rintro rfl; have h1 := ac1 (show cond (wi (([] : List Sp).length : Int) 1 8) _ false = true from hco); simp [wi] at h1
  have hA : askA s l wrong hour casts = if canE (canF s l wrong hour) = 0 then .tup [.sl false .any ((canF s l wrong hour).map fun c => (placeP s.wide c).c), .sl false .any (casts.map (castC s.wide)), .int 0] else .tup [.sl true .exact [], .sl true .exact [], .int (canE (canF s l wrong hour))] := by
    unfold askA; rw [hE2]
  rw [hA]
  generalize canF s l wrong hour = G at *
  cases G with
  | nil =>
    rw [if_neg (by decide)]
    refine Aw.sm tab_ok mb0 [(3, [.tup [canA [], .int 12], .tup [.mp 20]])] rfl rfl ?zo ?zk
    case zo =>
      repeat' apply AllP.cons
      all_goals first | exact trivial | exact Nat.le_of_ble_eq_true rfl | exact at20 hcr rfl
    case zk =>
    refine Aw.seq ?_
    refine Aw.sm tab_ok mb0 [] rfl rfl ?zo ?zk
    case zo =>
      repeat' apply AllP.cons
      all_goals first | exact trivial
    case zk =>
    refine Aw.cond rfl (fun h => ?_) (fun h => absurd h (by decide))
    refine Aw.sm tab_ok mb0 [] rfl rfl ?zo ?zk
    case zo =>
      repeat' apply AllP.cons
      all_goals first | exact trivial
    case zk =>
    exact Aw.ret ⟨_, .cons (.tmp _) (.cons (.tmp _) (.cons (.tmp _) .nil)), rfl⟩
  | cons g0 G0 =>
  rw [if_pos (show canE (g0 :: G0) = 0 from rfl)]
  refine Aw.sm tab_ok mb0 [(3, [.tup [canA (g0 :: G0), .int 0], .tup [.mp 20]])] rfl rfl ?zo ?zk
  case zo =>
    repeat' apply AllP.cons
    all_goals first | exact trivial | exact Nat.le_of_ble_eq_true rfl | exact at20 hcr rfl
  case zk =>
  refine Aw.seq ?_
  refine Aw.sm tab_ok mb0 [] rfl rfl ?zo ?zk
  case zo =>
    repeat' apply AllP.cons
    all_goals first | exact trivial
  case zk =>
  refine Aw.cond rfl (fun h => absurd h (by decide)) (fun h => Aw.skip ?_)
  refine Aw.sm tab_ok mb0 [] rfl rfl ?zo ?zk
  case zo =>
    repeat' apply AllP.cons
    all_goals first | exact trivial
  case zk =>
  refine Aw.seq ?_
  refine Aw.sm tab_ok mb0 [] rfl rfl ?zo ?zk
  case zo =>
    repeat' apply AllP.cons
    all_goals first | exact trivial
  case zk =>
  generalize hG : g0 :: G0 = G at *
  have hlG := ints_lenI G
  have hnG : 0 < G.length := by rw [← hG]; simp
  have fplace : ∀ c : Int, ∀ x ∈ (placeP s.wide c).c, Free x := fun c => Sp.free _
  refine Aw.block (Aw.rounds 22 h22 [(13, .ref 21 0), (16, grR 114 (castC s.wide) casts), (85, .sl false .exact (ints G)), (86, .int G.length)] (fun k : Nat => [(20, grR 85 (fun c : Int => (placeP s.wide c).c) (G.take k)), (87, .int k)]) (fun k => [(20, landB s), (21, .cells (logA s (.mp 20) l))]) (fun k => k ≤ G.length) (fun k => G.length - k) 0 ?zg ⟨?zc, ?zv, ?zh, Nat.le_of_ble_eq_true rfl⟩ ?zu (fun k zhk => ?zw) (fun k zhk => ?zx) fun k hk => ?zr)
  case zg =>
    (repeat' (first | exact Nat.zero_le _ | exact Nat.le_refl _ | exact trivial | exact ulg | exact grR_under (castC_free _) _ | exact grR_under fplace _ | exact .of_eq (congrArg A.int hlG.symm) | (subst hG; exact A.Le.refl _) | (subst hG; exact .of_eq (congrArg A.int hlG.symm)) | (refine And.intro ?_ ?_)))
  case zc =>
    (repeat' (first | (refine And.intro ?_ ?_) | exact trivial | exact A.Le.refl _ | exact rfl | exact ulg | exact grR_under (castC_free _) _ | exact grR_under fplace _ | exact .of_eq (congrArg A.int hlG.symm) | (subst hG; exact A.Le.refl _) | (subst hG; exact .of_eq (congrArg A.int hlG.symm))))
  case zv =>
    (repeat' (first | (refine And.intro ?_ ?_) | exact trivial | exact A.Le.refl _ | exact rfl | exact ulg | exact grR_under (castC_free _) _ | exact grR_under fplace _ | exact .of_eq (congrArg A.int hlG.symm) | (subst hG; exact A.Le.refl _) | (subst hG; exact .of_eq (congrArg A.int hlG.symm))))
  case zh =>
    (repeat' (first | (refine And.intro ?_ ?_) | exact trivial | exact A.Le.refl _ | exact rfl | exact ulg | exact grR_under (castC_free _) _ | exact grR_under fplace _ | exact .of_eq (congrArg A.int hlG.symm) | (subst hG; exact A.Le.refl _) | (subst hG; exact .of_eq (congrArg A.int hlG.symm))))
  case zu =>
    (repeat' (first | exact trivial | exact Under.s _ | exact Under.un | assumption | exact (free_ints _ _ _).under | exact Under.ref _ _ (by decide) | exact Under.ms _ _ _ (by decide) | exact Under.mp _ (by decide) | exact (Free.agg _ (by assumption)).under | exact (Free.pt _ (by assumption)).under | exact grL_under _ | exact outA_under _ | exact Nat.le_of_ble_eq_true rfl | exact (fun _ _ => rfl) | exact ulg | exact grR_under (castC_free _) _ | exact grR_under fplace _ | exact .of_eq (congrArg A.int hlG.symm) | (subst hG; exact A.Le.refl _) | (subst hG; exact .of_eq (congrArg A.int hlG.symm)) | (refine And.intro ?_ ?_)))
  case zw =>
    (repeat' (first | exact trivial | exact Under.s _ | exact Under.un | assumption | exact (free_ints _ _ _).under | exact Under.ref _ _ (by decide) | exact Under.ms _ _ _ (by decide) | exact Under.mp _ (by decide) | exact (Free.agg _ (by assumption)).under | exact (Free.pt _ (by assumption)).under | exact grL_under _ | exact outA_under _ | exact Nat.le_of_ble_eq_true rfl | exact (fun _ _ => rfl) | exact ulg | exact grR_under (castC_free _) _ | exact grR_under fplace _ | exact .of_eq (congrArg A.int hlG.symm) | (subst hG; exact A.Le.refl _) | (subst hG; exact .of_eq (congrArg A.int hlG.symm)) | (refine And.intro ?_ ?_)))
  case zx =>
    (repeat' (first | exact trivial | exact Under.s _ | exact Under.un | assumption | exact (free_ints _ _ _).under | exact Under.ref _ _ (by decide) | exact Under.ms _ _ _ (by decide) | exact Under.mp _ (by decide) | exact (Free.agg _ (by assumption)).under | exact (Free.pt _ (by assumption)).under | exact grL_under _ | exact outA_under _ | exact Nat.le_of_ble_eq_true rfl | exact (fun _ _ => rfl) | exact ulg | exact grR_under (castC_free _) _ | exact grR_under fplace _ | exact .of_eq (congrArg A.int hlG.symm) | (subst hG; exact A.Le.refl _) | (subst hG; exact .of_eq (congrArg A.int hlG.symm)) | (refine And.intro ?_ ?_)))
  case zr =>
  refine Aw.sm tab_ok mb0 [] rfl rfl ?zo ?zk
  case zo =>
    repeat' apply AllP.cons
    all_goals first | exact trivial
  case zk =>
  refine Aw.seq (Aw.cond rfl (fun h1 => Aw.skip1 ?_) (fun h1 => Aw.exit2 ?_))
  · have hlt : k < G.length := by have := of_decide_eq_true h1; omega
    have hget := ints_get hlt
    have hin := hcf G[k] (List.getElem_mem hlt)
    have htk := List.take_succ_eq_append_getElem hlt
    have htl : (G.take k).length = k := by simp; omega
    generalize G[k] = c at *
    generalize G.take k = tk at *
    refine Aw.seq (Aw.block ?_)
    refine Aw.sm tab_ok mb0 [(0, [.int c])] rfl rfl ?zo ?zk
    case zo =>
      repeat' apply AllP.cons
      all_goals first | exact trivial | exact rfl | exact Nat.le_of_ble_eq_true rfl | exact Int.natCast_nonneg _ | exact hget
    case zk =>
    cases tk with
    | nil =>
      refine Aw.em tab_ok mb0 [(4, [.agg (placeP s.wide c).c])] rfl rfl ?zo ?zk
      case zo =>
        repeat' apply AllP.cons
        all_goals first | exact trivial | exact Nat.le_of_ble_eq_true rfl | exact plc_t s ho 20 c (by omega) | exact (show ∀ z ∈ [] ++ [(placeP s.wide c).c], z.length = 2 from fun z hz => by simp at hz; subst hz; rfl)
      case zk =>
      refine Aw.em tab_ok mb0 [] rfl rfl ?zo ?zk
      case zo =>
        repeat' apply AllP.cons
        all_goals first | exact trivial | exact inrk k (by omega)
      case zk =>
      refine ⟨k + 1, ?zg, ?zm, ⟨?zc, ?zv, ?zh, Nat.le_of_ble_eq_true rfl⟩⟩
      case zg =>
        (repeat' (first | assumption | omega | exact .of_eq (by rw [htk]; rfl) | (refine And.intro ?_ ?_)))
      case zm =>
        (repeat' (first | omega | exact .of_eq (by rw [htk]; rfl) | (refine And.intro ?_ ?_)))
      case zc =>
        (repeat' (first | (refine And.intro ?_ ?_) | exact trivial | exact A.Le.refl _ | exact rfl | exact .of_eq (by rw [htk]; rfl)))
      case zv =>
        (repeat' (first | (refine And.intro ?_ ?_) | exact trivial | exact A.Le.refl _ | exact rfl | exact .of_eq (by rw [htk]; rfl)))
      case zh =>
        (repeat' (first | (refine And.intro ?_ ?_) | exact trivial | exact A.Le.refl _ | exact rfl | exact .of_eq (by rw [htk]; rfl)))
    | cons x t =>
      have hml : ((x :: t).map fun c : Int => (placeP s.wide c).c).length = k := by rw [List.length_map]; exact htl
      have hz : ∀ z ∈ (x :: t).map fun c : Int => (placeP s.wide c).c, z.length = 2 := fun z hz => by obtain ⟨a, _, rfl⟩ := List.mem_map.1 hz; rfl
      refine Aw.em tab_ok mb0 [(4, [.agg (placeP s.wide c).c])] rfl rfl ?zo ?zk
      case zo =>
        repeat' apply AllP.cons
        all_goals first | exact trivial | exact Nat.le_of_ble_eq_true rfl | exact plc_t s ho 20 c (by omega) | exact (show ∀ z ∈ [(placeP s.wide c).c], z.length = 2 from fun z hz => by simp at hz; subst hz; rfl) | exact hz | exact (show (((x :: t).map fun c : Int => (placeP s.wide c).c).length + 1) * 16 ≤ 140737488355328 by omega) | exact (show ((x :: t).map fun c : Int => (placeP s.wide c).c).length + 1 ≤ maxLen by unfold maxLen; omega)
      case zk =>
      refine Aw.em tab_ok mb0 [] rfl rfl ?zo ?zk
      case zo =>
        repeat' apply AllP.cons
        all_goals first | exact trivial | exact inrk k (by omega)
      case zk =>
      refine ⟨k + 1, ?zg, ?zm, ⟨?zc, ?zv, ?zh, Nat.le_of_ble_eq_true rfl⟩⟩
      case zg =>
        (repeat' (first | assumption | omega | exact .of_eq (by rw [htk]; show A.sl false (.own 85) (List.map (fun c : Int => (placeP s.wide c).c) ((x :: t) ++ [c])) = A.sl false (.own 85) (List.map (fun c : Int => (placeP s.wide c).c) (x :: t) ++ [(placeP s.wide c).c]); rw [List.map_append]; rfl) | (refine And.intro ?_ ?_)))
      case zm =>
        (repeat' (first | omega | exact .of_eq (by rw [htk]; show A.sl false (.own 85) (List.map (fun c : Int => (placeP s.wide c).c) ((x :: t) ++ [c])) = A.sl false (.own 85) (List.map (fun c : Int => (placeP s.wide c).c) (x :: t) ++ [(placeP s.wide c).c]); rw [List.map_append]; rfl) | (refine And.intro ?_ ?_)))
      case zc =>
        (repeat' (first | (refine And.intro ?_ ?_) | exact trivial | exact A.Le.refl _ | exact rfl | exact .of_eq (by rw [htk]; show A.sl false (.own 85) (List.map (fun c : Int => (placeP s.wide c).c) ((x :: t) ++ [c])) = A.sl false (.own 85) (List.map (fun c : Int => (placeP s.wide c).c) (x :: t) ++ [(placeP s.wide c).c]); rw [List.map_append]; rfl)))
      case zv =>
        (repeat' (first | (refine And.intro ?_ ?_) | exact trivial | exact A.Le.refl _ | exact rfl | exact .of_eq (by rw [htk]; show A.sl false (.own 85) (List.map (fun c : Int => (placeP s.wide c).c) ((x :: t) ++ [c])) = A.sl false (.own 85) (List.map (fun c : Int => (placeP s.wide c).c) (x :: t) ++ [(placeP s.wide c).c]); rw [List.map_append]; rfl)))
      case zh =>
        (repeat' (first | (refine And.intro ?_ ?_) | exact trivial | exact A.Le.refl _ | exact rfl | exact .of_eq (by rw [htk]; show A.sl false (.own 85) (List.map (fun c : Int => (placeP s.wide c).c) ((x :: t) ++ [c])) = A.sl false (.own 85) (List.map (fun c : Int => (placeP s.wide c).c) (x :: t) ++ [(placeP s.wide c).c]); rw [List.map_append]; rfl)))
  have hle : k = G.length := by have := of_decide_eq_false h1; omega
  subst hle
  rw [List.take_length]
  cases casts with
  | nil => exact absurd rfl hne
  | cons c0 casts =>
  subst hG
  refine Aw.sm tab_ok mb0 [] rfl rfl ?zo ?zk
  case zo =>
    repeat' apply AllP.cons
    all_goals first | exact trivial
  case zk =>
  exact Aw.ret ⟨_, .cons (.tmp _) (.cons (.tmp _) (.cons (.tmp _) .nil)), rfl⟩
end Go.Proofs.Ytohbjneaaahpcaa

namespace Go.Proofs.Ytohbjneaaahpcaa
open Go Go.AL Go.AL.Q Go.AL.Sh
def covB (w : Int) (c : Sp) (p : Int) : Bool := decide (farF (placeP w c.lo) (placeP w p) ≤ c.hi)
def cntC (w : Int) (G : List Int) (c : Sp) (j : Nat) : Int := ((G.take j).countP (covB w c) : Nat)
def worstF (w : Int) (G : List Int) (c : Sp) : Int := gmax (cntC w G c G.length) (G.length - cntC w G c G.length)
def nextK (w : Int) (G : List Int) (casts : List Sp) : Nat → Int × Int
  | 0 => (0, 0)
  | k + 1 => if k = 0 ∨ worstF w G (casts.getD k ⟨0, 0⟩) < (nextK w G casts k).2 then ((k : Int), worstF w G (casts.getD k ⟨0, 0⟩)) else nextK w G casts k
def NextR (s : Sea) (l : List Rep) (wrong hour : Int) (casts : List Sp) : Int × Int × Int :=
  if AskE s l wrong hour casts = 0 then ((nextK s.wide (canF s l wrong hour) casts casts.length).1, (nextK s.wide (canF s l wrong hour) casts casts.length).2, 0) else (0, 0, AskE s l wrong hour casts)
theorem AskE_ok {s : Sea} {l : List Rep} {wrong hour : Int} {casts : List Sp} (h : AskE s l wrong hour casts = 0) : s.ok = true ∧ s.repsOk l = true ∧ askedB s wrong hour = true ∧ castsOk s casts = true ∧ canF s l wrong hour ≠ [] := by
  unfold AskE at h
  split at h
  · rename_i h1
    split at h
    · rename_i h2
      split at h
      · rename_i h3
        split at h
        · rename_i h4
          refine ⟨h1, h2, h3, h4, fun e => ?_⟩
          rw [e] at h; exact absurd h (by decide)
        · cases h
      · cases h
    · cases h
  · cases h
theorem castsOk_iff {s : Sea} {casts : List Sp} (h : castsOk s casts = true) : (1 ≤ casts.length ∧ casts.length ≤ 8) ∧ ∀ c ∈ casts, (0 ≤ c.lo ∧ c.lo ≤ s.many - 1) ∧ 0 ≤ c.hi ∧ c.hi ≤ 9 := by
  unfold castsOk at h
  have h1 := wi_iff.1 (ac1 h)
  refine ⟨by omega, fun c hc => ?_⟩
  have h2 := List.all_eq_true.1 (ac2 h) c hc
  unfold castOk at h2
  exact ⟨wi_iff.1 (ac1 h2), wi_iff.1 (ac2 h2)⟩
def plR (w : Int) (c : Int) : List A := (placeP w c).c
theorem plR_free (w : Int) (c : Int) : ∀ x ∈ plR w c, Free x := Sp.free _
theorem cov_t (s : Sea) (ho : s.Ok) (c : Sp) (hc : 0 ≤ c.lo ∧ c.lo ≤ s.many - 1) (p : Int) (hp : 0 ≤ p ∧ p < 80) : Ans Try.prog 68 [.agg (castC s.wide c), .agg (plR s.wide p)] (.bool (covB s.wide c p)) := by
  have hm := ho.many
  exact covers_t _ _ _ (placeP_near ho.w (by omega)) (placeP_near ho.w (by omega))
theorem cntC_succ (w : Int) {G : List Int} (c : Sp) {j : Nat} (h : j < G.length) : cntC w G c (j + 1) = cntC w G c j + if covB w c G[j] then 1 else 0 := cnt_take h
theorem cntC_bd (w : Int) (G : List Int) (c : Sp) (j : Nat) : 0 ≤ cntC w G c j ∧ cntC w G c j ≤ G.length := by
  have h1 := List.countP_le_length (p := covB w c) (l := G.take j)
  have h2 : (G.take j).length ≤ G.length := by rw [List.length_take]; omega
  unfold cntC; omega
set_option maxRecDepth 20000 in
set_option maxHeartbeats 1000000 in
theorem Next_t (s : Sea) (hf : SeaFit s) (b : Bool) (l : List Rep) (hl : (l.length : Int) ≤ 9223372036854775806) (wrong hour : Int) (cb : Bool) (casts : List Sp) (hcs : CstFit casts) :
    Ans Try.prog 28 [.agg s.c, .sl b .any (l.map Rep.c), .int wrong, .int hour, .sl cb .any (casts.map Sp.c)] (.tup [.int (NextR s l wrong hour casts).1, .int (NextR s l wrong hour casts).2.1, .int (NextR s l wrong hour casts).2.2]) := by
  have fcs : Free (.sl cb .any (casts.map Sp.c)) := free_map Sp.free _ _ _
  have hfr : Free (.tup [.int (NextR s l wrong hour casts).1, .int (NextR s l wrong hour casts).2.1, .int (NextR s l wrong hour casts).2.2]) := .tup _ (allC (.s _) (allC (.s _) (all1 (.s _))))
  have hask := asked_t s hf b l hl wrong hour cb casts hcs
  refine told Try.func28 rfl rfl (Pure.of tab_ok Try.func28 rfl Try.ntmps28 rfl (allC (.agg _ s.free) (allC (free_map Rep.free _ _ _) (allC (.s _) (allC (.s _) (all1 (fcs)))))) (allC (fun _ => rfl) (allC (fun _ => rfl) (allC (fun _ => rfl) (allC (fun _ => rfl) (all1 (fun _ => rfl)))))) (by first | exact .s _ | assumption | exact .tup _ (by intro x hx; simp only [List.mem_cons, List.not_mem_nil, or_false] at hx; rcases hx with rfl | rfl | rfl | rfl <;> first | exact .s _ | (simp_all; done))) fun E hE => ?_)
  refine Aw.sm tab_ok mb0 [] rfl rfl ?zo ?zk
  case zo =>
    repeat' apply AllP.cons
    all_goals first | exact trivial
  case zk =>
  by_cases hA : AskE s l wrong hour casts = 0
  rotate_left
  · have e : NextR s l wrong hour casts = (0, 0, AskE s l wrong hour casts) := by unfold NextR; rw [if_neg hA]
    have e2 : askA s l wrong hour casts = .tup [.sl true .exact [], .sl true .exact [], .int (AskE s l wrong hour casts)] := by unfold askA; rw [if_neg hA]
    rw [e]
    rw [e2] at hask
    generalize AskE s l wrong hour casts = er at *
    refine Aw.sm tab_ok mb0 [(5, [.tup [.sl true .exact [], .sl true .exact [], .int er]])] rfl rfl ?zo ?zk
    case zo =>
      repeat' apply AllP.cons
      all_goals first | exact trivial | exact Nat.le_of_ble_eq_true rfl | exact hask
    case zk =>
    refine Aw.seq ?_
    refine Aw.sm tab_ok mb0 [] rfl rfl ?zo ?zk
    case zo =>
      repeat' apply AllP.cons
      all_goals first | exact trivial
    case zk =>
    refine Aw.cond rfl (fun h => ?_) (fun h => absurd (show (er != 0) = true by simpa using hA) (by rw [show (er != 0) = false from h]; decide))
    refine Aw.sm tab_ok mb0 [] rfl rfl ?zo ?zk
    case zo =>
      repeat' apply AllP.cons
      all_goals first | exact trivial
    case zk =>
    exact Aw.ret ⟨_, .cons (.tmp _) (.cons (.tmp _) (.cons (.tmp _) .nil)), rfl⟩
  obtain ⟨hok, hr, hasked, hco, hne⟩ := AskE_ok hA
  have ho := Sea.ok_of hok
  have hm := ho.many
  have hci := castsOk_iff hco
  have hcf : ∀ c ∈ canF s l wrong hour, 0 ≤ c ∧ c < 80 := fun c h => canF_in ho h
  have hgl : (canF s l wrong hour).length ≤ 80 := Nat.le_trans (goL_len s _ _) (cellsL_len s ho)
  have e : NextR s l wrong hour casts = ((nextK s.wide (canF s l wrong hour) casts casts.length).1, (nextK s.wide (canF s l wrong hour) casts casts.length).2, 0) := by unfold NextR; rw [if_pos hA]
  have e2 : askA s l wrong hour casts = .tup [.sl false .any ((canF s l wrong hour).map (plR s.wide)), .sl false .any (casts.map (castC s.wide)), .int 0] := by unfold askA; rw [if_pos hA]; rfl
  rw [e]
  rw [e2] at hask
  generalize canF s l wrong hour = G at *
  have fG : Free (.sl false .any (G.map (plR s.wide))) := free_map (plR_free _) _ _ _
  have fC : Free (.sl false .any (casts.map (castC s.wide))) := free_map (castC_free _) _ _ _
  have lG : ((G.map (plR s.wide)).length : Int) = G.length := by simp
  have lC : ((casts.map (castC s.wide)).length : Int) = casts.length := by simp
  refine Aw.sm tab_ok mb0 [(5, [.tup [.sl false .any (G.map (plR s.wide)), .sl false .any (casts.map (castC s.wide)), .int 0]])] rfl rfl ?zo ?zk
  case zo =>
    repeat' apply AllP.cons
    all_goals first | exact trivial | exact Nat.le_of_ble_eq_true rfl | exact hask
  case zk =>
  refine Aw.seq ?_
  refine Aw.sm tab_ok mb0 [] rfl rfl ?zo ?zk
  case zo =>
    repeat' apply AllP.cons
    all_goals first | exact trivial
  case zk =>
  refine Aw.cond rfl (fun h => absurd h (by decide)) (fun h => Aw.skip ?_)
  refine Aw.sm tab_ok mb0 [] rfl rfl ?zo ?zk
  case zo =>
    repeat' apply AllP.cons
    all_goals first | exact trivial
  case zk =>
  refine Aw.seq ?_
  refine Aw.sm tab_ok mb0 [] rfl rfl ?zo ?zk
  case zo =>
    repeat' apply AllP.cons
    all_goals first | exact trivial
  case zk =>
  have h1e : ∀ id, 1 ≤ id → E.φ0 id = none := fun id _ => hE id (Nat.zero_le _)
  have uG : ∀ {m : Nat}, Under m (.sl false .any (G.map (plR s.wide))) := fG.under
  have uC : ∀ {m : Nat}, Under m (.sl false .any (casts.map (castC s.wide))) := fC.under
  have uF : ∀ {m : Nat}, Under m (A.fn (.func 68) [] []) := .fn _ _ _ (fun _ h => nomatch h) (fun _ h => nomatch h)
  refine Aw.block (Aw.rounds 0 hE [(13, .sl false .any (G.map (plR s.wide))), (15, .fn (.func 68) [] []), (34, .sl false .any (casts.map (castC s.wide))), (35, .int casts.length)] (fun k : Nat => [(10, .int (nextK s.wide G casts k).1), (11, .int (nextK s.wide G casts k).2), (36, .int k)]) (fun k => []) (fun k => k ≤ casts.length) (fun k => casts.length - k) 0 ?zg ⟨?zc, ?zv, ?zh, Nat.le_of_ble_eq_true rfl⟩ ?zu (fun k zhk => ?zw) (fun k zhk => ?zx) fun k hk => ?zr)
  case zg =>
    (repeat' (first | exact Nat.zero_le _ | exact Nat.le_refl _ | exact trivial | exact uG | exact uC | exact uF | exact .of_eq (congrArg A.int lC.symm) | (refine And.intro ?_ ?_)))
  case zc =>
    (repeat' (first | (refine And.intro ?_ ?_) | exact trivial | exact A.Le.refl _ | exact rfl | exact uG | exact uC | exact uF | exact .of_eq (congrArg A.int lC.symm)))
  case zv =>
    (repeat' (first | (refine And.intro ?_ ?_) | exact trivial | exact A.Le.refl _ | exact rfl | exact uG | exact uC | exact uF | exact .of_eq (congrArg A.int lC.symm)))
  case zh =>
    (repeat' (first | (refine And.intro ?_ ?_) | exact trivial | exact A.Le.refl _ | exact rfl | exact uG | exact uC | exact uF | exact .of_eq (congrArg A.int lC.symm)))
  case zu =>
    (repeat' (first | exact trivial | exact Under.s _ | exact Under.un | assumption | exact (free_ints _ _ _).under | exact Under.ref _ _ (by decide) | exact Under.ms _ _ _ (by decide) | exact Under.mp _ (by decide) | exact (Free.agg _ (by assumption)).under | exact (Free.pt _ (by assumption)).under | exact grL_under _ | exact outA_under _ | exact Nat.le_of_ble_eq_true rfl | exact (fun _ _ => rfl) | exact uG | exact uC | exact uF | exact .of_eq (congrArg A.int lC.symm) | (refine And.intro ?_ ?_)))
  case zw =>
    (repeat' (first | exact trivial | exact Under.s _ | exact Under.un | assumption | exact (free_ints _ _ _).under | exact Under.ref _ _ (by decide) | exact Under.ms _ _ _ (by decide) | exact Under.mp _ (by decide) | exact (Free.agg _ (by assumption)).under | exact (Free.pt _ (by assumption)).under | exact grL_under _ | exact outA_under _ | exact Nat.le_of_ble_eq_true rfl | exact (fun _ _ => rfl) | exact uG | exact uC | exact uF | exact .of_eq (congrArg A.int lC.symm) | (refine And.intro ?_ ?_)))
  case zx =>
    (repeat' (first | exact trivial | exact Under.s _ | exact Under.un | assumption | exact (free_ints _ _ _).under | exact Under.ref _ _ (by decide) | exact Under.ms _ _ _ (by decide) | exact Under.mp _ (by decide) | exact (Free.agg _ (by assumption)).under | exact (Free.pt _ (by assumption)).under | exact grL_under _ | exact outA_under _ | exact Nat.le_of_ble_eq_true rfl | exact (fun _ _ => rfl) | exact uG | exact uC | exact uF | exact .of_eq (congrArg A.int lC.symm) | (refine And.intro ?_ ?_)))
  case zr =>
  refine Aw.sm tab_ok mb0 [] rfl rfl ?zo ?zk
  case zo =>
    repeat' apply AllP.cons
    all_goals first | exact trivial
  case zk =>
  refine Aw.seq (Aw.cond rfl (fun h1 => Aw.skip1 ?_) (fun h1 => Aw.exit2 ?_))
  · have hlt : k < casts.length := by have := of_decide_eq_true h1; omega
    have hget := get_map (f := castC s.wide) hlt
    have hin := hci.2 casts[k] (List.getElem_mem hlt)
    have hst : nextK s.wide G casts (k + 1) = if k = 0 ∨ worstF s.wide G casts[k] < (nextK s.wide G casts k).2 then ((k : Int), worstF s.wide G casts[k]) else nextK s.wide G casts k := by
      rw [nextK, show casts.getD k ⟨0, 0⟩ = casts[k] by simp [List.getD_eq_getElem?_getD, hlt]]
    generalize casts[k] = c at *
    generalize nextK s.wide G casts k = nk at *
    obtain ⟨w1, w2⟩ := nk
    refine Aw.seq (Aw.block ?_)
    refine Aw.sm tab_ok mb0 [(1, castC s.wide c)] rfl rfl ?zo ?zk
    case zo =>
      repeat' apply AllP.cons
      all_goals first | exact trivial | exact rfl | exact Nat.le_of_ble_eq_true rfl | exact Int.natCast_nonneg _ | exact hget
    case zk =>
    refine Aw.sm tab_ok mb0 [] rfl rfl ?zo ?zk
    case zo =>
      repeat' apply AllP.cons
      all_goals first | exact trivial
    case zk =>
    refine Aw.seq ?_
    refine Aw.sm tab_ok mb0 [] rfl rfl ?zo ?zk
    case zo =>
      repeat' apply AllP.cons
      all_goals first | exact trivial
    case zk =>
    refine Aw.block (Aw.rounds 1 h1e [(10, .int w1), (11, .int w2), (13, .sl false .any (G.map (plR s.wide))), (15, .fn (.func 68) [] []), (16, .int k), (17, .ref 0 0), (34, .sl false .any (casts.map (castC s.wide))), (35, .int casts.length), (36, .int k), (41, .sl false .any (G.map (plR s.wide))), (42, .int G.length)] (fun j : Nat => [(18, .int (cntC s.wide G c j)), (43, .int j)]) (fun j => [(0, .cells (castC s.wide c))]) (fun j => j ≤ G.length) (fun j => G.length - j) 0 ?zg ⟨?zc, ?zv, ?zh, Nat.le_of_ble_eq_true rfl⟩ ?zu (fun j zhk => ?zw) (fun j zhk => ?zx) fun j hk => ?zr)
    case zg =>
      (repeat' (first | exact Nat.zero_le _ | exact Nat.le_refl _ | exact trivial | exact uG | exact uC | exact uF | exact .of_eq (congrArg A.int lG.symm) | exact (by decide) | exact .cells _ fun x hx => (castC_free s.wide c x hx).under | (refine And.intro ?_ ?_)))
    case zc =>
      (repeat' (first | (refine And.intro ?_ ?_) | exact trivial | exact A.Le.refl _ | exact rfl | exact uG | exact uC | exact uF | exact .of_eq (congrArg A.int lG.symm) | exact (by decide) | exact .cells _ fun x hx => (castC_free s.wide c x hx).under))
    case zv =>
      (repeat' (first | (refine And.intro ?_ ?_) | exact trivial | exact A.Le.refl _ | exact rfl | exact uG | exact uC | exact uF | exact .of_eq (congrArg A.int lG.symm) | exact (by decide) | exact .cells _ fun x hx => (castC_free s.wide c x hx).under))
    case zh =>
      (repeat' (first | (refine And.intro ?_ ?_) | exact trivial | exact A.Le.refl _ | exact rfl | exact uG | exact uC | exact uF | exact .of_eq (congrArg A.int lG.symm) | exact (by decide) | exact .cells _ fun x hx => (castC_free s.wide c x hx).under))
    case zu =>
      (repeat' (first | exact trivial | exact Under.s _ | exact Under.un | assumption | exact (free_ints _ _ _).under | exact Under.ref _ _ (by decide) | exact Under.ms _ _ _ (by decide) | exact Under.mp _ (by decide) | exact (Free.agg _ (by assumption)).under | exact (Free.pt _ (by assumption)).under | exact grL_under _ | exact outA_under _ | exact Nat.le_of_ble_eq_true rfl | exact (fun _ _ => rfl) | exact uG | exact uC | exact uF | exact .of_eq (congrArg A.int lG.symm) | exact (by decide) | exact .cells _ fun x hx => (castC_free s.wide c x hx).under | (refine And.intro ?_ ?_)))
    case zw =>
      (repeat' (first | exact trivial | exact Under.s _ | exact Under.un | assumption | exact (free_ints _ _ _).under | exact Under.ref _ _ (by decide) | exact Under.ms _ _ _ (by decide) | exact Under.mp _ (by decide) | exact (Free.agg _ (by assumption)).under | exact (Free.pt _ (by assumption)).under | exact grL_under _ | exact outA_under _ | exact Nat.le_of_ble_eq_true rfl | exact (fun _ _ => rfl) | exact uG | exact uC | exact uF | exact .of_eq (congrArg A.int lG.symm) | exact (by decide) | exact .cells _ fun x hx => (castC_free s.wide c x hx).under | (refine And.intro ?_ ?_)))
    case zx =>
      (repeat' (first | exact trivial | exact Under.s _ | exact Under.un | assumption | exact (free_ints _ _ _).under | exact Under.ref _ _ (by decide) | exact Under.ms _ _ _ (by decide) | exact Under.mp _ (by decide) | exact (Free.agg _ (by assumption)).under | exact (Free.pt _ (by assumption)).under | exact grL_under _ | exact outA_under _ | exact Nat.le_of_ble_eq_true rfl | exact (fun _ _ => rfl) | exact uG | exact uC | exact uF | exact .of_eq (congrArg A.int lG.symm) | exact (by decide) | exact .cells _ fun x hx => (castC_free s.wide c x hx).under | (refine And.intro ?_ ?_)))
    case zr =>
    refine Aw.sm tab_ok mb0 [] rfl rfl ?zo ?zk
    case zo =>
      repeat' apply AllP.cons
      all_goals first | exact trivial
    case zk =>
    refine Aw.seq (Aw.cond rfl (fun h2 => Aw.skip1 ?_) (fun h2 => Aw.exit2 ?_))
    · have hlt2 : j < G.length := by have := of_decide_eq_true h2; omega
      have hget2 := get_map (f := plR s.wide) hlt2
      have hin2 := hcf G[j] (List.getElem_mem hlt2)
      have hcs2 := cntC_succ s.wide c hlt2
      have hbd := cntC_bd s.wide G c j
      generalize G[j] = p at *
      have hcv := cov_t s ho c hin.1 p hin2
      generalize cntC s.wide G c j = n at *
      refine Aw.seq (Aw.block ?_)
      refine Aw.sm tab_ok mb0 [(0, plR s.wide p)] rfl rfl ?zo ?zk
      case zo =>
        repeat' apply AllP.cons
        all_goals first | exact trivial | exact rfl | exact Nat.le_of_ble_eq_true rfl | exact Int.natCast_nonneg _ | exact hget2
      case zk =>
      refine Aw.sm tab_ok mb0 [(3, [.bool (covB s.wide c p)])] rfl rfl ?zo ?zk
      case zo =>
        repeat' apply AllP.cons
        all_goals first | exact trivial | exact Nat.le_of_ble_eq_true rfl | exact hcv
      case zk =>
      refine Aw.cond rfl (fun h3 => ?_) (fun h3 => Aw.skip ?_)
      · have h3 : covB s.wide c p = true := h3
        rw [h3, if_pos rfl] at hcs2
        refine Aw.em tab_ok mb0 [] rfl rfl ?zo ?zk
        case zo =>
          repeat' apply AllP.cons
          all_goals first | exact trivial | exact (by simp only [Ob.of, inR]; omega)
        case zk =>
        refine Aw.em tab_ok mb0 [] rfl rfl ?zo ?zk
        case zo =>
          repeat' apply AllP.cons
          all_goals first | exact trivial | exact inrk j (by omega)
        case zk =>
        refine ⟨j + 1, ?zg, ?zm, ⟨?zc, ?zv, ?zh, Nat.le_of_ble_eq_true rfl⟩⟩
        case zg =>
          (repeat' (first | assumption | omega | exact .of_eq (congrArg A.int hcs2) | (refine And.intro ?_ ?_)))
        case zm =>
          (repeat' (first | omega | exact .of_eq (congrArg A.int hcs2) | (refine And.intro ?_ ?_)))
        case zc =>
          (repeat' (first | (refine And.intro ?_ ?_) | exact trivial | exact A.Le.refl _ | exact rfl | exact .of_eq (congrArg A.int hcs2)))
        case zv =>
          (repeat' (first | (refine And.intro ?_ ?_) | exact trivial | exact A.Le.refl _ | exact rfl | exact .of_eq (congrArg A.int hcs2)))
        case zh =>
          (repeat' (first | (refine And.intro ?_ ?_) | exact trivial | exact A.Le.refl _ | exact rfl | exact .of_eq (congrArg A.int hcs2)))
      · have h3 : covB s.wide c p = false := h3
        rw [h3, if_neg (by decide), Int.add_zero] at hcs2
        refine Aw.em tab_ok mb0 [] rfl rfl ?zo ?zk
        case zo =>
          repeat' apply AllP.cons
          all_goals first | exact trivial | exact inrk j (by omega)
        case zk =>
        refine ⟨j + 1, ?zg, ?zm, ⟨?zc, ?zv, ?zh, Nat.le_of_ble_eq_true rfl⟩⟩
        case zg =>
          (repeat' (first | assumption | omega | exact .of_eq (congrArg A.int hcs2) | (refine And.intro ?_ ?_)))
        case zm =>
          (repeat' (first | omega | exact .of_eq (congrArg A.int hcs2) | (refine And.intro ?_ ?_)))
        case zc =>
          (repeat' (first | (refine And.intro ?_ ?_) | exact trivial | exact A.Le.refl _ | exact rfl | exact .of_eq (congrArg A.int hcs2)))
        case zv =>
          (repeat' (first | (refine And.intro ?_ ?_) | exact trivial | exact A.Le.refl _ | exact rfl | exact .of_eq (congrArg A.int hcs2)))
        case zh =>
          (repeat' (first | (refine And.intro ?_ ?_) | exact trivial | exact A.Le.refl _ | exact rfl | exact .of_eq (congrArg A.int hcs2)))
    have hle2 : j = G.length := by have := of_decide_eq_false h2; omega
    subst hle2
    have hbd := cntC_bd s.wide G c G.length
    have hw : worstF s.wide G c = if (G.length - cntC s.wide G c G.length) > cntC s.wide G c G.length then (G.length - cntC s.wide G c G.length) else cntC s.wide G c G.length := rfl
    generalize hwf : worstF s.wide G c = wf at *
    generalize cntC s.wide G c G.length = n at *
    refine Aw.sm tab_ok mb0 [] rfl rfl ?zo ?zk
    case zo =>
      repeat' apply AllP.cons
      all_goals first | exact trivial | exact (by simp only [Ob.of, inR]; omega)
    case zk =>
    refine Aw.sm tab_ok mb0 [] rfl rfl ?zo ?zk
    case zo =>
      repeat' apply AllP.cons
      all_goals first | exact trivial | exact id | exact fun _ => rfl | exact gq_f
    case zk =>
    have hwE : (if (((G.map (plR s.wide)).length : Int) - n) > n then (((G.map (plR s.wide)).length : Int) - n) else n) = wf := by rw [lG, ← hw]
    refine Aw.cond rfl (fun h3 => ?_) (fun h3 => Aw.skip ?_)
    · have h3 : cond ((k : Int) == 0) true (decide ((if (((G.map (plR s.wide)).length : Int) - n) > n then (((G.map (plR s.wide)).length : Int) - n) else n) < w2)) = true := h3
      rw [hwE] at h3
      have hc : k = 0 ∨ wf < w2 := by
        cases h4 : ((k : Int) == 0) with
        | true => left; have := eq_of_beq h4; omega
        | false => rw [h4] at h3; right; exact of_decide_eq_true h3
      rw [if_pos hc] at hst
      refine Aw.em tab_ok mb0 [] rfl rfl ?zo ?zk
      case zo =>
        repeat' apply AllP.cons
        all_goals first | exact trivial
      case zk =>
      refine Aw.em tab_ok mb0 [] rfl rfl ?zo ?zk
      case zo =>
        repeat' apply AllP.cons
        all_goals first | exact trivial | exact inrk k (by omega)
      case zk =>
      refine ⟨k + 1, ?zg, ?zm, ⟨?zc, ?zv, ?zh, Nat.le_of_ble_eq_true rfl⟩⟩
      case zg =>
        (repeat' (first | assumption | omega | exact .of_eq (by rw [hst]; rfl) | exact .of_eq (by rw [hst]; exact congrArg A.int hwE.symm) | (refine And.intro ?_ ?_)))
      case zm =>
        (repeat' (first | omega | exact .of_eq (by rw [hst]; rfl) | exact .of_eq (by rw [hst]; exact congrArg A.int hwE.symm) | (refine And.intro ?_ ?_)))
      case zc =>
        (repeat' (first | (refine And.intro ?_ ?_) | exact trivial | exact A.Le.refl _ | exact rfl | exact .of_eq (by rw [hst]; rfl) | exact .of_eq (by rw [hst]; exact congrArg A.int hwE.symm)))
      case zv =>
        (repeat' (first | (refine And.intro ?_ ?_) | exact trivial | exact A.Le.refl _ | exact rfl | exact .of_eq (by rw [hst]; rfl) | exact .of_eq (by rw [hst]; exact congrArg A.int hwE.symm)))
      case zh =>
        (repeat' (first | (refine And.intro ?_ ?_) | exact trivial | exact A.Le.refl _ | exact rfl | exact .of_eq (by rw [hst]; rfl) | exact .of_eq (by rw [hst]; exact congrArg A.int hwE.symm)))
    · have h3 : cond ((k : Int) == 0) true (decide ((if (((G.map (plR s.wide)).length : Int) - n) > n then (((G.map (plR s.wide)).length : Int) - n) else n) < w2)) = false := h3
      rw [hwE] at h3
      have hc : ¬ (k = 0 ∨ wf < w2) := by
        cases h4 : ((k : Int) == 0) with
        | true => rw [h4] at h3; cases h3
        | false => rw [h4] at h3; have h5 := of_decide_eq_false h3; have h6 : ¬ ((k : Int) = 0) := by simpa using h4
                   omega
      rw [if_neg hc] at hst
      refine Aw.em tab_ok mb0 [] rfl rfl ?zo ?zk
      case zo =>
        repeat' apply AllP.cons
        all_goals first | exact trivial | exact inrk k (by omega)
      case zk =>
      refine ⟨k + 1, ?zg, ?zm, ⟨?zc, ?zv, ?zh, Nat.le_of_ble_eq_true rfl⟩⟩
      case zg =>
        (repeat' (first | assumption | omega | exact .of_eq (by rw [hst]; rfl) | (refine And.intro ?_ ?_)))
      case zm =>
        (repeat' (first | omega | exact .of_eq (by rw [hst]; rfl) | (refine And.intro ?_ ?_)))
      case zc =>
        (repeat' (first | (refine And.intro ?_ ?_) | exact trivial | exact A.Le.refl _ | exact rfl | exact .of_eq (by rw [hst]; rfl)))
      case zv =>
        (repeat' (first | (refine And.intro ?_ ?_) | exact trivial | exact A.Le.refl _ | exact rfl | exact .of_eq (by rw [hst]; rfl)))
      case zh =>
        (repeat' (first | (refine And.intro ?_ ?_) | exact trivial | exact A.Le.refl _ | exact rfl | exact .of_eq (by rw [hst]; rfl)))
  have hle : k = casts.length := by have := of_decide_eq_false h1; omega
  subst hle
  refine Aw.sm tab_ok mb0 [] rfl rfl ?zo ?zk
  case zo =>
    repeat' apply AllP.cons
    all_goals first | exact trivial
  case zk =>
  exact Aw.ret ⟨_, .cons (.tmp _) (.cons (.tmp _) (.cons (.tmp _) .nil)), rfl⟩
end Go.Proofs.Ytohbjneaaahpcaa

namespace Go.Proofs.Ytohbjneaaahpcaa
open Go Go.AL Go.AL.Q Go.AL.Sh
def c0 : Sp := ⟨0, 0⟩
def metB (w : Int) (casts : List Sp) (some : List Int) (p : Int) : Bool := some.any fun i => covB w (casts.getD i.toNat c0) p
def fndB (w : Int) (G : List Int) (casts : List Sp) (some : List Int) : Bool := G.all (metB w casts some)
def clA (w : Int) (G : List Int) : A := .sl false .any (G.map (plR w))
def caA (w : Int) (casts : List Sp) : A := .sl false .any (casts.map (castC w))
theorem clA_free (w : Int) (G : List Int) : Free (clA w G) := free_map (plR_free _) _ _ _
theorem caA_free (w : Int) (c : List Sp) : Free (caA w c) := free_map (castC_free _) _ _ _
structure FindOk (s : Sea) (G : List Int) (casts : List Sp) : Prop where
  ho : s.Ok
  g : ∀ c ∈ G, 0 ≤ c ∧ c < 80
  gl : G.length ≤ 80
  cl : casts.length ≤ 8
  c : ∀ c ∈ casts, 0 ≤ c.lo ∧ c.lo ≤ s.many - 1
set_option maxRecDepth 20000 in
theorem find_t (s : Sea) (G : List Int) (casts : List Sp) (hf : FindOk s G casts) (b : Bool) (sm : List Int) (hs : ∀ i ∈ sm, 0 ≤ i ∧ i < casts.length) (hsl : sm.length ≤ 8) :
    Ans Try.prog 71 [.sl b .any (ints sm), .pt [clA s.wide G], .pt [caA s.wide casts]] (.bool (fndB s.wide G casts sm)) := by
  have fs : Free (.sl b .any (ints sm)) := free_ints _ _ _
  have fG := clA_free s.wide G
  have fC := caA_free s.wide casts
  have hgl := hf.gl
  have lG : ((G.map (plR s.wide)).length : Int) = G.length := by simp
  have lS : ((ints sm).length : Int) = sm.length := by simp [ints]
  refine told Try.func71 rfl rfl (Pure.of tab_ok Try.func71 rfl Try.ntmps71 rfl (allC (fs) (allC (.pt _ (all1 fG)) (all1 (.pt _ (all1 fC))))) (allC (fun _ => rfl) (allC (fun _ => rfl) (all1 (fun _ => rfl)))) (by first | exact .s _ | assumption | exact .tup _ (by intro x hx; simp only [List.mem_cons, List.not_mem_nil, or_false] at hx; rcases hx with rfl | rfl | rfl | rfl <;> first | exact .s _ | (simp_all; done))) fun E hE => ?_)
  refine Aw.sm tab_ok mb0 [] rfl rfl ?zo ?zk
  case zo =>
    repeat' apply AllP.cons
    all_goals first | exact trivial
  case zk =>
  refine Aw.scope ?_
  refine Aw.seq (Aw.label ?_)
  refine Aw.seq ?_
  refine Aw.sm tab_ok mb0 [] rfl rfl ?zo ?zk
  case zo =>
    repeat' apply AllP.cons
    all_goals first | exact trivial | exact Nat.le_of_ble_eq_true rfl
  case zk =>
  have us : ∀ {m : Nat}, Under m (.sl b .any (ints sm)) := fs.under
  have uG : ∀ {m : Nat}, Under m (clA s.wide G) := fG.under
  have uC : ∀ {m : Nat}, Under m (A.pt [caA s.wide casts]) := (Free.pt _ (all1 fC)).under
  have h1e : ∀ id, 1 ≤ id → E.φ0 id = none := fun id _ => hE id (Nat.zero_le _)
  refine Aw.block (Aw.rounds 0 hE [(0, .sl b .any (ints sm)), (2, .pt [caA s.wide casts]), (9, clA s.wide G), (10, .int G.length)] (fun k : Nat => [(11, .int k)]) (fun k => []) (fun k => k ≤ G.length ∧ ∀ i, i < k → metB s.wide casts sm (G.getD i 0) = true) (fun k => G.length - k) 0 ?zg ⟨?zc, ?zv, ?zh, Nat.le_of_ble_eq_true rfl⟩ ?zu (fun k zhk => ?zw) (fun k zhk => ?zx) fun k hk => ?zr)
  case zg =>
    (repeat' (first | exact Nat.zero_le _ | exact Nat.le_refl _ | exact trivial | exact ⟨Nat.zero_le _, fun i h => absurd h (Nat.not_lt_zero _)⟩ | exact us | exact uG | exact uC | exact .of_eq (congrArg A.int lG.symm) | (refine And.intro ?_ ?_)))
  case zc =>
    (repeat' (first | (refine And.intro ?_ ?_) | exact trivial | exact A.Le.refl _ | exact rfl | exact ⟨Nat.zero_le _, fun i h => absurd h (Nat.not_lt_zero _)⟩ | exact us | exact uG | exact uC | exact .of_eq (congrArg A.int lG.symm)))
  case zv =>
    (repeat' (first | (refine And.intro ?_ ?_) | exact trivial | exact A.Le.refl _ | exact rfl | exact ⟨Nat.zero_le _, fun i h => absurd h (Nat.not_lt_zero _)⟩ | exact us | exact uG | exact uC | exact .of_eq (congrArg A.int lG.symm)))
  case zh =>
    (repeat' (first | (refine And.intro ?_ ?_) | exact trivial | exact A.Le.refl _ | exact rfl | exact ⟨Nat.zero_le _, fun i h => absurd h (Nat.not_lt_zero _)⟩ | exact us | exact uG | exact uC | exact .of_eq (congrArg A.int lG.symm)))
  case zu =>
    (repeat' (first | exact trivial | exact Under.s _ | exact Under.un | assumption | exact (free_ints _ _ _).under | exact Under.ref _ _ (by decide) | exact Under.ms _ _ _ (by decide) | exact Under.mp _ (by decide) | exact (Free.agg _ (by assumption)).under | exact (Free.pt _ (by assumption)).under | exact grL_under _ | exact outA_under _ | exact Nat.le_of_ble_eq_true rfl | exact (fun _ _ => rfl) | exact ⟨Nat.zero_le _, fun i h => absurd h (Nat.not_lt_zero _)⟩ | exact us | exact uG | exact uC | exact .of_eq (congrArg A.int lG.symm) | (refine And.intro ?_ ?_)))
  case zw =>
    (repeat' (first | exact trivial | exact Under.s _ | exact Under.un | assumption | exact (free_ints _ _ _).under | exact Under.ref _ _ (by decide) | exact Under.ms _ _ _ (by decide) | exact Under.mp _ (by decide) | exact (Free.agg _ (by assumption)).under | exact (Free.pt _ (by assumption)).under | exact grL_under _ | exact outA_under _ | exact Nat.le_of_ble_eq_true rfl | exact (fun _ _ => rfl) | exact ⟨Nat.zero_le _, fun i h => absurd h (Nat.not_lt_zero _)⟩ | exact us | exact uG | exact uC | exact .of_eq (congrArg A.int lG.symm) | (refine And.intro ?_ ?_)))
  case zx =>
    (repeat' (first | exact trivial | exact Under.s _ | exact Under.un | assumption | exact (free_ints _ _ _).under | exact Under.ref _ _ (by decide) | exact Under.ms _ _ _ (by decide) | exact Under.mp _ (by decide) | exact (Free.agg _ (by assumption)).under | exact (Free.pt _ (by assumption)).under | exact grL_under _ | exact outA_under _ | exact Nat.le_of_ble_eq_true rfl | exact (fun _ _ => rfl) | exact ⟨Nat.zero_le _, fun i h => absurd h (Nat.not_lt_zero _)⟩ | exact us | exact uG | exact uC | exact .of_eq (congrArg A.int lG.symm) | (refine And.intro ?_ ?_)))
  case zr =>
  obtain ⟨hkk, hgo⟩ := hk
  refine Aw.sm tab_ok mb0 [] rfl rfl ?zo ?zk
  case zo =>
    repeat' apply AllP.cons
    all_goals first | exact trivial
  case zk =>
  refine Aw.seq (Aw.cond rfl (fun h1 => Aw.skip1 ?_) (fun h1 => Aw.exit2 ?_))
  · have hlt : k < G.length := by have := of_decide_eq_true h1; omega
    have hget := get_map (f := plR s.wide) hlt
    have hin := hf.g G[k] (List.getElem_mem hlt)
    have hgk : G.getD k 0 = G[k] := by simp [List.getD_eq_getElem?_getD, hlt]
    have hmem := List.getElem_mem hlt
    generalize G[k] = p at *
    refine Aw.seq (Aw.block ?_)
    refine Aw.sm tab_ok mb0 [(0, plR s.wide p)] rfl rfl ?zo ?zk
    case zo =>
      repeat' apply AllP.cons
      all_goals first | exact trivial | exact rfl | exact Nat.le_of_ble_eq_true rfl | exact Int.natCast_nonneg _ | exact hget
    case zk =>
    refine Aw.seq ?_
    refine Aw.sm tab_ok mb0 [] rfl rfl ?zo ?zk
    case zo =>
      repeat' apply AllP.cons
      all_goals first | exact trivial
    case zk =>
    refine Aw.block (Aw.rounds 1 h1e [(0, .sl b .any (ints sm)), (2, .pt [caA s.wide casts]), (6, .ref 0 0), (9, clA s.wide G), (10, .int G.length), (11, .int k), (15, .sl b .any (ints sm)), (16, .int sm.length)] (fun j : Nat => [(17, .int j)]) (fun j => [(0, .cells (plR s.wide p))]) (fun j => j ≤ sm.length ∧ ∀ i, i < j → covB s.wide (casts.getD (sm.getD i 0).toNat c0) p = false) (fun j => sm.length - j) 0 ?zg ⟨?zc, ?zv, ?zh, Nat.le_of_ble_eq_true rfl⟩ ?zu (fun j zhk => ?zw) (fun j zhk => ?zx) fun j hk => ?zr)
    case zg =>
      (repeat' (first | exact Nat.zero_le _ | exact Nat.le_refl _ | exact trivial | exact ⟨Nat.zero_le _, fun i h => absurd h (Nat.not_lt_zero _)⟩ | exact us | exact uG | exact uC | exact .of_eq (congrArg A.int lS.symm) | exact (by decide) | exact .cells _ fun x hx => (plR_free s.wide p x hx).under | (refine And.intro ?_ ?_)))
    case zc =>
      (repeat' (first | (refine And.intro ?_ ?_) | exact trivial | exact A.Le.refl _ | exact rfl | exact ⟨Nat.zero_le _, fun i h => absurd h (Nat.not_lt_zero _)⟩ | exact us | exact uG | exact uC | exact .of_eq (congrArg A.int lS.symm) | exact (by decide) | exact .cells _ fun x hx => (plR_free s.wide p x hx).under))
    case zv =>
      (repeat' (first | (refine And.intro ?_ ?_) | exact trivial | exact A.Le.refl _ | exact rfl | exact ⟨Nat.zero_le _, fun i h => absurd h (Nat.not_lt_zero _)⟩ | exact us | exact uG | exact uC | exact .of_eq (congrArg A.int lS.symm) | exact (by decide) | exact .cells _ fun x hx => (plR_free s.wide p x hx).under))
    case zh =>
      (repeat' (first | (refine And.intro ?_ ?_) | exact trivial | exact A.Le.refl _ | exact rfl | exact ⟨Nat.zero_le _, fun i h => absurd h (Nat.not_lt_zero _)⟩ | exact us | exact uG | exact uC | exact .of_eq (congrArg A.int lS.symm) | exact (by decide) | exact .cells _ fun x hx => (plR_free s.wide p x hx).under))
    case zu =>
      (repeat' (first | exact trivial | exact Under.s _ | exact Under.un | assumption | exact (free_ints _ _ _).under | exact Under.ref _ _ (by decide) | exact Under.ms _ _ _ (by decide) | exact Under.mp _ (by decide) | exact (Free.agg _ (by assumption)).under | exact (Free.pt _ (by assumption)).under | exact grL_under _ | exact outA_under _ | exact Nat.le_of_ble_eq_true rfl | exact (fun _ _ => rfl) | exact ⟨Nat.zero_le _, fun i h => absurd h (Nat.not_lt_zero _)⟩ | exact us | exact uG | exact uC | exact .of_eq (congrArg A.int lS.symm) | exact (by decide) | exact .cells _ fun x hx => (plR_free s.wide p x hx).under | (refine And.intro ?_ ?_)))
    case zw =>
      (repeat' (first | exact trivial | exact Under.s _ | exact Under.un | assumption | exact (free_ints _ _ _).under | exact Under.ref _ _ (by decide) | exact Under.ms _ _ _ (by decide) | exact Under.mp _ (by decide) | exact (Free.agg _ (by assumption)).under | exact (Free.pt _ (by assumption)).under | exact grL_under _ | exact outA_under _ | exact Nat.le_of_ble_eq_true rfl | exact (fun _ _ => rfl) | exact ⟨Nat.zero_le _, fun i h => absurd h (Nat.not_lt_zero _)⟩ | exact us | exact uG | exact uC | exact .of_eq (congrArg A.int lS.symm) | exact (by decide) | exact .cells _ fun x hx => (plR_free s.wide p x hx).under | (refine And.intro ?_ ?_)))
    case zx =>
      (repeat' (first | exact trivial | exact Under.s _ | exact Under.un | assumption | exact (free_ints _ _ _).under | exact Under.ref _ _ (by decide) | exact Under.ms _ _ _ (by decide) | exact Under.mp _ (by decide) | exact (Free.agg _ (by assumption)).under | exact (Free.pt _ (by assumption)).under | exact grL_under _ | exact outA_under _ | exact Nat.le_of_ble_eq_true rfl | exact (fun _ _ => rfl) | exact ⟨Nat.zero_le _, fun i h => absurd h (Nat.not_lt_zero _)⟩ | exact us | exact uG | exact uC | exact .of_eq (congrArg A.int lS.symm) | exact (by decide) | exact .cells _ fun x hx => (plR_free s.wide p x hx).under | (refine And.intro ?_ ?_)))
    case zr =>
    obtain ⟨hj, hno⟩ := hk
    refine Aw.sm tab_ok mb0 [] rfl rfl ?zo ?zk
    case zo =>
      repeat' apply AllP.cons
      all_goals first | exact trivial
    case zk =>
    refine Aw.seq (Aw.cond rfl (fun h2 => Aw.skip1 ?_) (fun h2 => Aw.exit2 ?_))
    · have hlt2 : j < sm.length := by have := of_decide_eq_true h2; omega
      have hget2 := ints_get hlt2
      have hin2 := hs sm[j] (List.getElem_mem hlt2)
      have hgj : sm.getD j 0 = sm[j] := by simp [List.getD_eq_getElem?_getD, hlt2]
      have hmem2 := List.getElem_mem hlt2
      generalize sm[j] = i at *
      have hlt3 : i.toNat < casts.length := by omega
      have hget3 := get_map (f := castC s.wide) hlt3
      have hin3 := hf.c _ (List.getElem_mem hlt3)
      have hgc : casts.getD i.toNat c0 = casts[i.toNat] := by simp [List.getD_eq_getElem?_getD, hlt3]
      have hcv := cov_t s hf.ho _ hin3 p hin
      generalize casts[i.toNat] = c at *
      refine Aw.seq (Aw.block ?_)
      refine Aw.sm tab_ok mb0 [(0, [.int i])] rfl rfl ?zo ?zk
      case zo =>
        repeat' apply AllP.cons
        all_goals first | exact trivial | exact rfl | exact Nat.le_of_ble_eq_true rfl | exact Int.natCast_nonneg _ | exact hget2
      case zk =>
      refine Aw.sd tab_ok mixed mb0 [(2, castC s.wide c), (5, [.bool (covB s.wide c p)])] rfl (by kernel_rfl) rfl rfl ?zo ?zk
      case zo =>
        repeat' apply AllP.cons
        all_goals first | exact trivial | exact rfl | exact Nat.le_of_ble_eq_true rfl | exact hget3 | exact hcv | exact hin2.1
      case zk =>
      refine Aw.cond rfl (fun h3 => Aw.exit (blkN rfl (thenE (thenE (blkN rfl (thenE (blkE ?_))))))) (fun h3 => Aw.skip ?_)
      · have h3 : covB s.wide c p = true := h3
        have hmet : metB s.wide casts sm p = true := List.any_eq_true.2 ⟨i, hmem2, by rw [hgc]; exact h3⟩
        refine Aw.em tab_ok mb0 [] rfl rfl ?zo ?zk
        case zo =>
          repeat' apply AllP.cons
          all_goals first | exact trivial | exact inrk k (by omega)
        case zk =>
        refine ⟨k + 1, ?zg, ?zm, ⟨?zc, ?zv, ?zh, Nat.le_of_ble_eq_true rfl⟩⟩
        case zg =>
          (repeat' (first | assumption | omega | exact ⟨hlt, fun i2 hi => by rcases Nat.lt_or_ge i2 k with h | h; exact hgo i2 h; rw [show i2 = k by omega, hgk]; exact hmet⟩ | (refine And.intro ?_ ?_)))
        case zm =>
          (repeat' (first | omega | exact ⟨hlt, fun i2 hi => by rcases Nat.lt_or_ge i2 k with h | h; exact hgo i2 h; rw [show i2 = k by omega, hgk]; exact hmet⟩ | (refine And.intro ?_ ?_)))
        case zc =>
          (repeat' (first | (refine And.intro ?_ ?_) | exact trivial | exact A.Le.refl _ | exact rfl | exact ⟨hlt, fun i2 hi => by rcases Nat.lt_or_ge i2 k with h | h; exact hgo i2 h; rw [show i2 = k by omega, hgk]; exact hmet⟩))
        case zv =>
          (repeat' (first | (refine And.intro ?_ ?_) | exact trivial | exact A.Le.refl _ | exact rfl | exact ⟨hlt, fun i2 hi => by rcases Nat.lt_or_ge i2 k with h | h; exact hgo i2 h; rw [show i2 = k by omega, hgk]; exact hmet⟩))
        case zh =>
          (repeat' (first | (refine And.intro ?_ ?_) | exact trivial | exact A.Le.refl _ | exact rfl | exact ⟨hlt, fun i2 hi => by rcases Nat.lt_or_ge i2 k with h | h; exact hgo i2 h; rw [show i2 = k by omega, hgk]; exact hmet⟩))
      · have h3 : covB s.wide c p = false := h3
        refine Aw.em tab_ok mb0 [] rfl rfl ?zo ?zk
        case zo =>
          repeat' apply AllP.cons
          all_goals first | exact trivial | exact inrk j (by omega)
        case zk =>
        refine ⟨j + 1, ?zg, ?zm, ⟨?zc, ?zv, ?zh, Nat.le_of_ble_eq_true rfl⟩⟩
        case zg =>
          (repeat' (first | assumption | omega | exact ⟨hlt2, fun i2 hi => by rcases Nat.lt_or_ge i2 j with h | h; exact hno i2 h; rw [show i2 = j by omega, hgj, hgc]; exact h3⟩ | (refine And.intro ?_ ?_)))
        case zm =>
          (repeat' (first | omega | exact ⟨hlt2, fun i2 hi => by rcases Nat.lt_or_ge i2 j with h | h; exact hno i2 h; rw [show i2 = j by omega, hgj, hgc]; exact h3⟩ | (refine And.intro ?_ ?_)))
        case zc =>
          (repeat' (first | (refine And.intro ?_ ?_) | exact trivial | exact A.Le.refl _ | exact rfl | exact ⟨hlt2, fun i2 hi => by rcases Nat.lt_or_ge i2 j with h | h; exact hno i2 h; rw [show i2 = j by omega, hgj, hgc]; exact h3⟩))
        case zv =>
          (repeat' (first | (refine And.intro ?_ ?_) | exact trivial | exact A.Le.refl _ | exact rfl | exact ⟨hlt2, fun i2 hi => by rcases Nat.lt_or_ge i2 j with h | h; exact hno i2 h; rw [show i2 = j by omega, hgj, hgc]; exact h3⟩))
        case zh =>
          (repeat' (first | (refine And.intro ?_ ?_) | exact trivial | exact A.Le.refl _ | exact rfl | exact ⟨hlt2, fun i2 hi => by rcases Nat.lt_or_ge i2 j with h | h; exact hno i2 h; rw [show i2 = j by omega, hgj, hgc]; exact h3⟩))
    have hle2 : j = sm.length := by have := of_decide_eq_false h2; omega
    subst hle2
    have hmet : metB s.wide casts sm p = false := by
      rw [← Bool.not_eq_true]; intro h
      obtain ⟨i, h4, h5⟩ := List.any_eq_true.1 h
      obtain ⟨k2, hk2, rfl⟩ := List.getElem_of_mem h4
      have := hno k2 hk2
      rw [show sm.getD k2 0 = sm[k2] by simp [List.getD_eq_getElem?_getD, hk2]] at this
      rw [this] at h5; cases h5
    have hres : fndB s.wide G casts sm = false := by
      rw [← Bool.not_eq_true]; intro h
      have := List.all_eq_true.1 h p hmem
      rw [hmet] at this; cases this
    rw [hres]
    refine Aw.sm tab_ok mb0 [] rfl rfl ?zo ?zk
    case zo =>
      repeat' apply AllP.cons
      all_goals first | exact trivial
    case zk =>
    exact Aw.ret ⟨_, .cons (.tmp _) .nil, rfl⟩
  have hle : k = G.length := by have := of_decide_eq_false h1; omega
  subst hle
  have hres : fndB s.wide G casts sm = true := List.all_eq_true.2 fun p hp => by
    obtain ⟨k2, hk2, rfl⟩ := List.getElem_of_mem hp
    have := hgo k2 hk2
    rwa [show G.getD k2 0 = G[k2] by simp [List.getD_eq_getElem?_getD, hk2]] at this
  rw [hres]
  refine Aw.sm tab_ok mb0 [] rfl rfl ?zo ?zk
  case zo =>
    repeat' apply AllP.cons
    all_goals first | exact trivial
  case zk =>
  exact Aw.ret ⟨_, .cons (.tmp _) .nil, rfl⟩
end Go.Proofs.Ytohbjneaaahpcaa

namespace Go.Proofs.Ytohbjneaaahpcaa
open Go Go.AL Go.AL.Q Go.AL.Sh
def fromN (l : List Int) : Nat := match l.getLast? with | none => 0 | some x => (x + 1).toNat
abbrev Cst := Bool × List Int
def chGo (rec : List Int → List Int → Cst) (l : List Int) : List Nat → List Int → Cst
  | [], o => (false, o)
  | i :: is, o => if (rec (l ++ [(i : Int)]) o).1 then rec (l ++ [(i : Int)]) o else chGo rec l is (rec (l ++ [(i : Int)]) o).2
def chF (fd : List Int → Bool) (n : Nat) : Nat → List Int → List Int → Cst
  | 0, l, _ => (fd l, l)
  | f + 1, l, o => chGo (chF fd n f) l ((List.range n).drop (fromN l)) o
def suGo (fd : List Int → Bool) (n : Nat) : List Nat → List Int → Option (List Int)
  | [], _ => none
  | k :: ks, o => if (chF fd n (k + 1) [] o).1 then some (chF fd n (k + 1) [] o).2 else suGo fd n ks (chF fd n (k + 1) [] o).2
def SureR (s : Sea) (l : List Rep) (wrong hour : Int) (casts : List Sp) : List Int × Int :=
  if AskE s l wrong hour casts = 0 then match suGo (fndB s.wide (canF s l wrong hour) casts) casts.length (List.range casts.length) [] with
    | some o => (o, 0)
    | none => ([], 4)
  else ([], AskE s l wrong hour casts)
def fiA (w : Int) (G : List Int) (casts : List Sp) : A := .fn (.func 71) [] [.pt [clA w G], .pt [caA w casts]]
theorem fiA_free (w : Int) (G : List Int) (casts : List Sp) : Free (fiA w G casts) := .fn _ _ _ (fun _ h => nomatch h) (allC (.pt _ (all1 (clA_free w G))) (all1 (.pt _ (all1 (caA_free w casts)))))
def chA (w : Int) (G : List Int) (casts : List Sp) : A := .fn (.func 72) [] [.ref 3 0, .pt [fiA w G casts], .pt [caA w casts], .ref 4 0]
def suH (w : Int) (G : List Int) (casts : List Sp) (o : List Int) : List (Nat × B) := [(3, .cells [outA o]), (4, .cells [chA w G casts])]
theorem chA_under (w : Int) (G : List Int) (casts : List Sp) {n : Nat} (h : 5 ≤ n) : Under n (chA w G casts) := .fn _ _ _ (fun _ h => nomatch h) (allC (.ref _ _ (by omega)) (allC (Free.pt _ (all1 (fiA_free w G casts))).under (allC (Free.pt _ (all1 (caA_free w casts))).under (all1 (.ref _ _ (by omega))))))
theorem suH_under (w : Int) (G : List Int) (casts : List Sp) (o : List Int) {n : Nat} (h : 5 ≤ n) : UnderH n (suH w G casts o) := ⟨⟨by omega, .cells _ (all1 (outA_free _).under)⟩, ⟨by omega, .cells _ (all1 (chA_under w G casts h))⟩, trivial⟩
def InSu (i : Nat) : Prop := i = 3 ∨ i = 4
theorem suH_dom (w : Int) (G : List Int) (casts : List Sp) (o : List Int) (i : Nat) : (ofH (suH w G casts o) i).isSome = true ↔ InSu i := by
  simp only [suH, ofH, updH_apply, InSu]
  by_cases h1 : i = 3 <;> by_cases h4 : i = 4 <;> simp [h1, h4]
theorem chA_nms (w : Int) (G : List Int) (casts : List Sp) : Nms InSu (chA w G casts) := .fn _ _ _ (fun _ h => nomatch h) (allC (.ref _ _ (.inl rfl)) (allC (Free.pt _ (all1 (fiA_free w G casts))).nms (allC (Free.pt _ (all1 (caA_free w casts))).nms (all1 (.ref _ _ (.inr rfl))))))
theorem suH_nms (w : Int) (G : List Int) (casts : List Sp) (o : List Int) (i : Nat) (bx : B) (h : ofH (suH w G casts o) i = some bx) : InSu i ∧ NmsB InSu bx := by
  refine ⟨(suH_dom w G casts o i).1 (by rw [h]; rfl), ?_⟩
  simp only [suH, ofH, updH_apply] at h
  split at h
  · cases h; exact .cells _ (all1 (outA_free _).nms)
  · split at h
    · cases h; exact .cells _ (all1 (chA_nms w G casts))
    · cases h
theorem su_frame {w : Int} {G : List Int} {casts : List Sp} {l : List Int} {x : A} (hx : x = outA l) {many : Int} {o : List Int} {R : Cst} (h : SCall Try.prog 72 [x, .int many, .ref 3 0, .pt [fiA w G casts], .pt [caA w casts], .ref 4 0] (ofH (suH w G casts o)) 5 (fun v H' _ => v = .bool R.1 ∧ H' = ofH (suH w G casts R.2))) {H : Hp} {c : Nat} (hH : HasH H (suH w G casts o)) :
    SCall Try.prog 72 [x, .int many, .ref 3 0, .pt [fiA w G casts], .pt [caA w casts], .ref 4 0] H c fun v H1 c1 => v = .bool R.1 ∧ c1 = c ∧ H1 = overH H (ofH (suH w G casts o)) (ofH (suH w G casts R.2)) := by
  subst hx
  have dn : (fun i => (ofH (suH w G casts o) i).isSome = true) = InSu := by funext i; exact propext (suH_dom w G casts o i)
  refine (h.frame (H := H) (c := c) (fun id bx hb => ?_) (fun id bx hb => ?_) ?_ ?_).mono ?_
  · rcases (suH_nms w G casts o id bx hb).1 with rfl | rfl <;> decide
  · rw [dn]; exact ⟨(suH_nms w G casts o id bx hb).2, hH.ofH id bx hb⟩
  · rw [dn]
    exact allC (outA_free _).nms (allC (.s _) (allC (.ref _ _ (.inl rfl)) (allC (Free.pt _ (all1 (fiA_free w G casts))).nms (allC (Free.pt _ (all1 (caA_free w casts))).nms (all1 (.ref _ _ (.inr rfl)))))))
  · rintro v H' c' ⟨rfl, rfl⟩
    rw [dn]
    refine ⟨.s _, fun id bx hb => ?_⟩
    have := suH_nms w G casts _ id bx hb
    exact ⟨(suH_dom w G casts o id).2 this.1, this.2⟩
  · rintro v H1 c1 ⟨H', c', ⟨rfl, rfl⟩, h2, h3⟩
    exact ⟨rfl, h3, h2⟩
set_option maxHeartbeats 1000000 in
theorem choose_t (s : Sea) (G : List Int) (casts : List Sp) (hf : FindOk s G casts) : ∀ (f : Nat) (l o : List Int) (many : Nat), l.length + f = many → 1 ≤ many → many ≤ 8 → (∀ i ∈ l, 0 ≤ i ∧ i < casts.length) →
    SCall Try.prog 72 [outA l, .int many, .ref 3 0, .pt [fiA s.wide G casts], .pt [caA s.wide casts], .ref 4 0] (ofH (suH s.wide G casts o)) 5 (fun v H' _ => v = .bool (chF (fndB s.wide G casts) casts.length f l o).1 ∧ H' = ofH (suH s.wide G casts (chF (fndB s.wide G casts) casts.length f l o).2)) := by
  have nl := hf.cl
  intro f
  induction f with
  | zero =>
    intro l o many hlen h1 hm hl
    have hfi := find_t s G casts hf false l hl (by omega)
    have hch : chF (fndB s.wide G casts) casts.length 0 l o = (fndB s.wide G casts l, l) := rfl
    rw [hch]
    have hz : ((ints l).length : Int) = many := by simp [ints]; omega
    have ho : outA l = .sl false .any (ints l) := by
      cases l with
      | nil => simp at hlen; omega
      | cons x l => rfl
    have hol := ho
    rw [ho]
    generalize fndB s.wide G casts l = v at *
    refine SCall.drop (post := fun v' H' _ => v' = .bool v ∧ HasH H' (suH s.wide G casts l)) (SCall.of_bodyN tab_ok Try.func72 rfl Try.ntmps72 (Nat.le_of_ble_eq_true rfl) (allC (fun _ => rfl) (allC (fun _ => rfl) (allC (fun _ => rfl) (allC (fun _ => rfl) (allC (fun _ => rfl) (all1 fun _ => rfl)))))) fun E hE => ?_)
      (fun v H' c' h => ⟨_, h.2.ofH, h.1, rfl⟩)
    refine Aw.sm tab_ok mb0 [] rfl rfl ?zo ?zk
    case zo =>
      repeat' apply AllP.cons
      all_goals first | exact trivial
    case zk =>
    refine Aw.seq ?_
    refine Aw.sm tab_ok mb0 [] rfl rfl ?zo ?zk
    case zo =>
      repeat' apply AllP.cons
      all_goals first | exact trivial
    case zk =>
    have hq : (((ints l).length : Int) == many) = true := by rw [hz]; simp
    refine Aw.cond rfl (fun _ => ?_) (fun h2 => ?_)
    · refine Aw.sm tab_ok mb0 [] rfl rfl ?zo ?zk
      case zo =>
        repeat' apply AllP.cons
        all_goals first | exact trivial | exact rfl | exact Nat.le_of_ble_eq_true rfl
      case zk =>
      refine Aw.sm tab_ok mb0 [(2, [.bool v])] rfl rfl ?zo ?zk
      case zo =>
        repeat' apply AllP.cons
        all_goals first | exact trivial | exact Nat.le_of_ble_eq_true rfl | exact hfi
      case zk =>
      exact Aw.ret ⟨_, .cons (.tmp _) .nil, rfl, ⟨congrArg (fun x => some (B.cells [x])) hol.symm, rfl, trivial⟩⟩
    · have h2 : (((ints l).length : Int) == many) = false := h2
      rw [hq] at h2; cases h2
  | succ f ih =>
    intro l o many hlen h1 hm hl
    have hch : chF (fndB s.wide G casts) casts.length (f + 1) l o = chGo (chF (fndB s.wide G casts) casts.length f) l ((List.range casts.length).drop (fromN l)) o := rfl
    rw [hch]
    generalize hR : chGo (chF (fndB s.wide G casts) casts.length f) l ((List.range casts.length).drop (fromN l)) o = R
    have hol : ∀ {n : Nat}, Under n (outA l) := (outA_free l).under
    have hfn : fromN l ≤ casts.length := by
      unfold fromN
      cases e : l.getLast? with
      | none => exact Nat.zero_le _
      | some x => have := hl x (List.mem_of_getLast? e); show (x + 1).toNat ≤ _; omega
    refine SCall.drop (post := fun v H' _ => v = .bool R.1 ∧ HasH H' (suH s.wide G casts R.2)) (SCall.of_bodyN tab_ok Try.func72 rfl Try.ntmps72 (Nat.le_of_ble_eq_true rfl) (allC (fun _ => by cases l <;> rfl) (allC (fun _ => rfl) (allC (fun _ => rfl) (allC (fun _ => rfl) (allC (fun _ => rfl) (all1 fun _ => rfl)))))) fun E hE => ?_)
      (fun v H' c' h => ⟨_, h.2.ofH, h.1, rfl⟩)
    have h5E : ∀ id, 5 ≤ id → E.φ0 id = none := hE
    have ucl : ∀ {m : Nat}, Under m (A.pt [caA s.wide casts]) := (Free.pt _ (all1 (caA_free s.wide casts))).under
    have uc : UnderL 5 [(0, outA l), (1, .int many), (4, .pt [caA s.wide casts]), (5, .ref 4 0)] := ⟨hol, .s _, ucl, .ref _ _ (by decide), trivial⟩
    have uh : ∀ o, UnderH 5 (suH s.wide G casts o) := fun o => suH_under s.wide G casts o (Nat.le_refl _)
    have hlc : ((casts.map (castC s.wide)).length : Int) = casts.length := by simp
    refine Aw.sm tab_ok mb0 [] rfl rfl ?zo ?zk
    case zo =>
      repeat' apply AllP.cons
      all_goals first | exact trivial
    case zk =>
    refine Aw.join1 5 h5E [(0, outA l), (1, .int many), (4, .pt [caA s.wide casts]), (5, .ref 4 0)] [] (suH s.wide G casts o) uc trivial (uh o) ?_ ?_
    · cases l with
      | nil =>
        refine Aw.sm tab_ok mb0 [] rfl rfl ?zo ?zk
        case zo =>
          repeat' apply AllP.cons
          all_goals first | exact trivial
        case zk =>
        refine Aw.cond rfl (fun h2 => ?_) (fun _ => Aw.skip ⟨⟨.refl _, .refl _, .refl _, .refl _, trivial⟩, trivial, ⟨rfl, rfl, trivial⟩, Nat.le_refl _⟩)
        have h2 : (((([] : List (List A)).length : Nat) : Int) == many) = true := h2
        simp at h2; omega
      | cons x l =>
        refine Aw.sm tab_ok mb0 [] rfl rfl ?zo ?zk
        case zo =>
          repeat' apply AllP.cons
          all_goals first | exact trivial
        case zk =>
        refine Aw.cond rfl (fun h2 => ?_) (fun _ => Aw.skip ⟨⟨.refl _, .refl _, .refl _, .refl _, trivial⟩, trivial, ⟨rfl, rfl, trivial⟩, Nat.le_refl _⟩)
        have h2 : ((((ints (x :: l)).length : Nat) : Int) == many) = true := h2
        simp [ints] at h2
        simp at hlen; omega
    refine Aw.sm tab_ok mb0 [] rfl rfl ?zo ?zk
    case zo =>
      repeat' apply AllP.cons
      all_goals first | exact trivial
    case zk =>
    refine Aw.join1 5 h5E [(0, outA l), (1, .int many), (4, .pt [caA s.wide casts]), (5, .ref 4 0)] [(9, .int (fromN l))] (suH s.wide G casts o) uc ⟨.s _, trivial⟩ (uh o) ?_ ?_
    · cases l with
      | nil =>
        refine Aw.sm tab_ok mb0 [] rfl rfl ?zo ?zk
        case zo =>
          repeat' apply AllP.cons
          all_goals first | exact trivial
        case zk =>
        exact Aw.cond rfl (fun h2 => by cases h2) (fun _ => Aw.skip ⟨⟨.refl _, .refl _, .refl _, .refl _, trivial⟩, ⟨.refl _, trivial⟩, ⟨rfl, rfl, trivial⟩, Nat.le_refl _⟩)
      | cons x l =>
        generalize hL : x :: l = L at *
        have hLl : L.length ≤ 8 ∧ 0 < L.length := by rw [← hL]; simp; rw [← hL] at hlen; simp at hlen; omega
        obtain ⟨y, hy⟩ : ∃ y, L[L.length - 1]? = some y := ⟨L[L.length - 1]'(by omega), by simp [show L.length - 1 < L.length by omega]⟩
        have hyb := hl y (List.mem_of_getElem? hy)
        have hfy : A.int (fromN L) = .int (y + 1) := by
          unfold fromN; rw [List.getLast?_eq_getElem?, hy]
          show A.int (((y + 1).toNat : Nat) : Int) = _
          rw [Int.toNat_of_nonneg (by omega)]
        have hlz : ((ints L).length : Int) = L.length := by simp [ints]
        have hyi : (ints L)[Int.toNat (((ints L).length : Int) - 1)]? = some [.int y] := by
          have : Int.toNat (((ints L).length : Int) - 1) = L.length - 1 := by omega
          rw [this]; simp [ints, hy]
        have hoL : outA L = .sl false .any (ints L) := by rw [← hL]; rfl
        rw [hoL]
        refine Aw.sm tab_ok mb0 [] rfl rfl ?zo ?zk
        case zo =>
          repeat' apply AllP.cons
          all_goals first | exact trivial
        case zk =>
        refine Aw.cond rfl (fun _ => ?_) (fun h2 => ?_)
        · refine Aw.em tab_ok mb0 [(4, [.int y])] rfl rfl ?zo ?zk
          case zo =>
            repeat' apply AllP.cons
            all_goals first | exact trivial | exact rfl | exact Nat.le_of_ble_eq_true rfl | exact hyi | exact (by simp only [Ob.of, inR]; omega)
          case zk =>
          exact ⟨⟨.refl _, .refl _, .refl _, .refl _, trivial⟩, ⟨.of_eq hfy, trivial⟩, ⟨rfl, rfl, trivial⟩, Nat.le_of_ble_eq_true rfl⟩
        · have h2 : decide (((ints L).length : Int) > 0) = false := h2
          have := of_decide_eq_false h2; omega
    refine Aw.seq ?_
    refine Aw.sm tab_ok mb0 [] rfl rfl ?zo ?zk
    case zo =>
      repeat' apply AllP.cons
      all_goals first | exact trivial
    case zk =>
    refine Aw.block (Aw.rounds (ι := Nat × List Int) 5 h5E [(0, outA l), (1, .int many), (4, .pt [caA s.wide casts]), (5, .ref 4 0)] (fun i => [(10, .int i.1)]) (fun i => suH s.wide G casts i.2)
      (fun i => i.1 ≤ casts.length ∧ chGo (chF (fndB s.wide G casts) casts.length f) l ((List.range casts.length).drop i.1) i.2 = R) (fun i => casts.length - i.1) (fromN l, o)
      ⟨hfn, hR⟩ ⟨⟨.refl _, .refl _, .refl _, .refl _, trivial⟩, ⟨.refl _, trivial⟩, ⟨rfl, rfl, trivial⟩, Nat.le_refl _⟩ uc (fun _ _ => ⟨.s _, trivial⟩) (fun i _ => uh i.2) ?_)
    rintro ⟨i, o2⟩ ⟨hi, hrun⟩
    simp only at hi hrun
    refine Aw.seq ?_
    refine Aw.sm tab_ok mb0 [] rfl rfl ?zo ?zk
    case zo =>
      repeat' apply AllP.cons
      all_goals first | exact trivial | exact Nat.le_of_ble_eq_true rfl
    case zk =>
    refine Aw.cond rfl (fun h2 => Aw.skip ?_) (fun h2 => ?_)
    · have hlt : i < casts.length := by have := of_decide_eq_true h2; omega
      have hdr : (List.range casts.length).drop i = i :: (List.range casts.length).drop (i + 1) := by
        rw [List.drop_eq_getElem_cons (by simpa using hlt)]; simp
      rw [hdr, chGo] at hrun
      have hz8 : (ints l).length ≤ 8 := by simp [ints]; omega
      have hcall := ih (l ++ [(i : Int)]) o2 many (by simp; omega) h1 hm (fun j hj => by
        rcases List.mem_append.1 hj with h | h
        · exact hl j h
        · simp at h; subst h; omega)
      generalize chF (fndB s.wide G casts) casts.length f (l ++ [(i : Int)]) o2 = s3 at *
      obtain ⟨fb, o3⟩ := s3
      have hone : ∀ z ∈ [[A.int (i : Int)]], z.length = 1 := fun z hz => by simp at hz; subst hz; rfl
      have hzs : ∀ z ∈ ints l, z.length = 1 := fun z hz => by obtain ⟨i, _, rfl⟩ := List.mem_map.1 hz; rfl
      refine Aw.seq (Aw.block (Aw.seq (SegW.start mixed ?_)))
      have ht : (ints l).take (Int.toNat ((ints l).length : Int)) = ints l := by rw [Int.toNat_natCast, List.take_length]
      have hb1 : ∀ z ∈ (ints l).take (Int.toNat ((ints l).length : Int)) ++ [[A.int (i : Int)]], z.length = 1 := fun z hz => by
        rw [ht] at hz
        rcases List.mem_append.1 hz with h | h
        · exact hzs z h
        · exact hone z h
      have hb2 : (((ints l).take (Int.toNat ((ints l).length : Int))).length + 1) * 8 ≤ 140737488355328 := by rw [ht]; omega
      have hb3 : ((ints l).take (Int.toNat ((ints l).length : Int))).length + 1 ≤ maxLen := by rw [ht]; unfold maxLen; omega
      cases l with
      | nil =>
        refine SegW.run (b := 0) tab_ok mb0 11 [] rfl (by kernel_rfl) rfl rfl ?zo ?zk
        case zo =>
          repeat' apply AllP.cons
          all_goals first | exact trivial | exact id | exact rfl | exact Nat.le_of_ble_eq_true rfl | exact hone | exact Int.le_refl _
        case zk =>
        refine SegW.step rfl (by kernel_rfl) rfl (fun i h1 h2 => by have h2 : i < 12 := h2; omega) (Does.raw rfl (DoesR.call rfl rfl (enters_of Try.func72 rfl rfl) (su_frame rfl hcall (H := _) (c := _) ⟨rfl, rfl, trivial⟩) ?_))
        rintro v H' c' ⟨rfl, rfl, rfl⟩
        refine SegW.done (by kernel_rfl) (Nat.le_of_ble_eq_true rfl) ?_
        cases fb with
        | true =>
          have hrun : (true, o3) = R := hrun
          subst hrun
          refine Aw.cond rfl (fun _ => ?_) (fun h3 => Bool.noConfusion (show true = false from h3))
          refine Aw.sm tab_ok mb0 [] rfl rfl ?zo ?zk
          case zo =>
            repeat' apply AllP.cons
            all_goals first | exact trivial
          case zk =>
          exact Aw.ret ⟨_, .cons (.tmp _) .nil, rfl, ⟨rfl, rfl, trivial⟩⟩
        | false =>
          have hrun : chGo (chF (fndB s.wide G casts) casts.length f) [] ((List.range casts.length).drop (i + 1)) o3 = R := hrun
          refine Aw.cond rfl (fun h3 => Bool.noConfusion (show false = true from h3)) (fun _ => Aw.skip ?_)
          refine Aw.em tab_ok mb0 [] rfl rfl ?zo ?zk
          case zo =>
            repeat' apply AllP.cons
            all_goals first | exact trivial | exact (by simp only [Ob.of, inR]; omega)
          case zk =>
          exact ⟨(i + 1, o3), ⟨hlt, hrun⟩, by show casts.length - (i + 1) < casts.length - i; omega, ⟨.refl _, .refl _, .refl _, .refl _, trivial⟩, ⟨.refl _, trivial⟩, ⟨rfl, rfl, trivial⟩, Nat.le_of_ble_eq_true rfl⟩
      | cons x l =>
        have hL : outA (x :: l) = .sl false .any (ints (x :: l)) := rfl
        generalize hgl : x :: l = L at *
        rw [hL]
        have hres : outA (L ++ [(i : Int)]) = .sl false .any ((ints L).take (Int.toNat ((ints L).length : Int)) ++ [[A.int (i : Int)]]) := by
          rw [ht, ← hgl]; simp [ints, outA]
        rw [hres] at hcall
        refine SegW.run (b := 0) tab_ok mb0 11 [] rfl (by kernel_rfl) rfl rfl ?zo ?zk
        case zo =>
          repeat' apply AllP.cons
          all_goals first | exact trivial | exact id | exact rfl | exact Nat.le_of_ble_eq_true rfl | exact hb1 | exact hb2 | exact hb3 | exact Int.natCast_nonneg _ | exact Int.le_refl _
        case zk =>
        refine SegW.step rfl (by kernel_rfl) rfl (fun i h1 h2 => by have h2 : i < 12 := h2; omega) (Does.raw rfl (DoesR.call (fst := []) (cap := [.ref 3 0, .pt [fiA s.wide G casts], .pt [caA s.wide casts], .ref 4 0]) rfl rfl (enters_of Try.func72 rfl rfl) (su_frame hres.symm hcall (H := _) (c := _) ⟨rfl, rfl, trivial⟩) ?_))
        rintro v H' c' ⟨rfl, rfl, rfl⟩
        refine SegW.done (by kernel_rfl) (Nat.le_of_ble_eq_true rfl) ?_
        cases fb with
        | true =>
          have hrun : (true, o3) = R := hrun
          subst hrun
          refine Aw.cond rfl (fun _ => ?_) (fun h3 => Bool.noConfusion (show true = false from h3))
          refine Aw.sm tab_ok mb0 [] rfl rfl ?zo ?zk
          case zo =>
            repeat' apply AllP.cons
            all_goals first | exact trivial
          case zk =>
          exact Aw.ret ⟨_, .cons (.tmp _) .nil, rfl, ⟨rfl, rfl, trivial⟩⟩
        | false =>
          have hrun : chGo (chF (fndB s.wide G casts) casts.length f) L ((List.range casts.length).drop (i + 1)) o3 = R := hrun
          refine Aw.cond rfl (fun h3 => Bool.noConfusion (show false = true from h3)) (fun _ => Aw.skip ?_)
          refine Aw.em tab_ok mb0 [] rfl rfl ?zo ?zk
          case zo =>
            repeat' apply AllP.cons
            all_goals first | exact trivial | exact (by simp only [Ob.of, inR]; omega)
          case zk =>
          exact ⟨(i + 1, o3), ⟨hlt, hrun⟩, by show casts.length - (i + 1) < casts.length - i; omega, ⟨.refl _, .refl _, .refl _, .refl _, trivial⟩, ⟨.refl _, trivial⟩, ⟨rfl, rfl, trivial⟩, Nat.le_of_ble_eq_true rfl⟩
    · have hend : i = casts.length := by have := of_decide_eq_false h2; omega
      subst hend
      rw [List.drop_of_length_le (by simp), chGo] at hrun
      subst hrun
      refine Aw.exit2 ?_
      refine Aw.sm tab_ok mb0 [] rfl rfl ?zo ?zk
      case zo =>
        repeat' apply AllP.cons
        all_goals first | exact trivial
      case zk =>
      exact Aw.ret ⟨_, .cons (.tmp _) .nil, rfl, ⟨rfl, rfl, trivial⟩⟩
set_option maxRecDepth 20000 in
set_option maxHeartbeats 1000000 in
theorem Sure_t (s : Sea) (hf : SeaFit s) (b : Bool) (l : List Rep) (hl : (l.length : Int) ≤ 9223372036854775806) (wrong hour : Int) (cb : Bool) (casts : List Sp) (hcs : CstFit casts) :
    Ans Try.prog 30 [.agg s.c, .sl b .any (l.map Rep.c), .int wrong, .int hour, .sl cb .any (casts.map Sp.c)] (.tup [outA (SureR s l wrong hour casts).1, .int (SureR s l wrong hour casts).2]) := by
  have fcs : Free (.sl cb .any (casts.map Sp.c)) := free_map Sp.free _ _ _
  have hfr : Free (.tup [outA (SureR s l wrong hour casts).1, .int (SureR s l wrong hour casts).2]) := .tup _ (allC (outA_free _) (all1 (.s _)))
  have hask := asked_t s hf b l hl wrong hour cb casts hcs
  refine told Try.func30 rfl rfl (Pure.of tab_ok Try.func30 rfl Try.ntmps30 rfl (allC (.agg _ s.free) (allC (free_map Rep.free _ _ _) (allC (.s _) (allC (.s _) (all1 (fcs)))))) (allC (fun _ => rfl) (allC (fun _ => rfl) (allC (fun _ => rfl) (allC (fun _ => rfl) (all1 (fun _ => rfl)))))) (by first | exact .s _ | assumption | exact .tup _ (by intro x hx; simp only [List.mem_cons, List.not_mem_nil, or_false] at hx; rcases hx with rfl | rfl | rfl | rfl <;> first | exact .s _ | (simp_all; done))) fun E hE => ?_)
  refine Aw.sm tab_ok mb0 [] rfl rfl ?zo ?zk
  case zo =>
    repeat' apply AllP.cons
    all_goals first | exact trivial
  case zk =>
  by_cases hA : AskE s l wrong hour casts = 0
  rotate_left
  · have e : SureR s l wrong hour casts = ([], AskE s l wrong hour casts) := by unfold SureR; rw [if_neg hA]
    have e2 : askA s l wrong hour casts = .tup [.sl true .exact [], .sl true .exact [], .int (AskE s l wrong hour casts)] := by unfold askA; rw [if_neg hA]
    rw [e]
    rw [e2] at hask
    generalize AskE s l wrong hour casts = er at *
    refine Aw.sm tab_ok mb0 [(5, [.tup [.sl true .exact [], .sl true .exact [], .int er]])] rfl rfl ?zo ?zk
    case zo =>
      repeat' apply AllP.cons
      all_goals first | exact trivial | exact rfl | exact Nat.le_of_ble_eq_true rfl | exact hask
    case zk =>
    refine Aw.seq ?_
    refine Aw.sm tab_ok mb0 [] rfl rfl ?zo ?zk
    case zo =>
      repeat' apply AllP.cons
      all_goals first | exact trivial
    case zk =>
    refine Aw.cond rfl (fun h => ?_) (fun h => absurd (show (er != 0) = true by simpa using hA) (by rw [show (er != 0) = false from h]; decide))
    refine Aw.sm tab_ok mb0 [] rfl rfl ?zo ?zk
    case zo =>
      repeat' apply AllP.cons
      all_goals first | exact trivial
    case zk =>
    exact Aw.ret ⟨_, .cons (.tmp _) (.cons (.tmp _) .nil), rfl⟩
  obtain ⟨hok, hr, hasked, hco, hne⟩ := AskE_ok hA
  have ho := Sea.ok_of hok
  have hm := ho.many
  have hci := castsOk_iff hco
  have hcf : ∀ c ∈ canF s l wrong hour, 0 ≤ c ∧ c < 80 := fun c h => canF_in ho h
  have hgl : (canF s l wrong hour).length ≤ 80 := Nat.le_trans (goL_len s _ _) (cellsL_len s ho)
  have e : SureR s l wrong hour casts = match suGo (fndB s.wide (canF s l wrong hour) casts) casts.length (List.range casts.length) [] with
    | some o => (o, 0)
    | none => ([], 4) := by unfold SureR; rw [if_pos hA]
  have e2 : askA s l wrong hour casts = .tup [clA s.wide (canF s l wrong hour), caA s.wide casts, .int 0] := by unfold askA; rw [if_pos hA]; rfl
  rw [e]
  rw [e2] at hask
  generalize canF s l wrong hour = G at *
  have hfo : FindOk s G casts := ⟨ho, hcf, hgl, hci.1.2, fun c hc => (hci.2 c hc).1⟩
  generalize hR : suGo (fndB s.wide G casts) casts.length (List.range casts.length) [] = R
  refine Aw.sm tab_ok mb0 [(5, [.tup [clA s.wide G, caA s.wide casts, .int 0]])] rfl rfl ?zo ?zk
  case zo =>
    repeat' apply AllP.cons
    all_goals first | exact trivial | exact rfl | exact Nat.le_of_ble_eq_true rfl | exact hask
  case zk =>
  refine Aw.seq ?_
  refine Aw.sm tab_ok mb0 [] rfl rfl ?zo ?zk
  case zo =>
    repeat' apply AllP.cons
    all_goals first | exact trivial
  case zk =>
  refine Aw.cond rfl (fun h => absurd h (by decide)) (fun h => Aw.skip ?_)
  refine Aw.freeze (id := 0) (t := 12) (cs := [clA s.wide G]) rfl rfl ?_
  refine Aw.freeze (id := 1) (t := 13) (cs := [caA s.wide casts]) rfl rfl ?_
  refine Aw.sm tab_ok mb0 [] rfl rfl ?zo ?zk
  case zo =>
    repeat' apply AllP.cons
    all_goals first | exact trivial | exact rfl | exact Nat.le_of_ble_eq_true rfl
  case zk =>
  refine Aw.freeze (id := 2) (t := 15) (cs := [fiA s.wide G casts]) rfl rfl ?_
  refine Aw.sm tab_ok mb0 [] rfl rfl ?zo ?zk
  case zo =>
    repeat' apply AllP.cons
    all_goals first | exact trivial
  case zk =>
  refine Aw.sm tab_ok mb0 [] rfl rfl ?zo ?zk
  case zo =>
    repeat' apply AllP.cons
    all_goals first | exact trivial
  case zk =>
  refine Aw.sm tab_ok mb0 [] rfl rfl ?zo ?zk
  case zo =>
    repeat' apply AllP.cons
    all_goals first | exact trivial | exact rfl | exact Nat.le_of_ble_eq_true rfl
  case zk =>
  have h5E : ∀ id, 5 ≤ id → E.φ0 id = none := fun id _ => hE id (Nat.zero_le _)
  have uca : ∀ {m : Nat}, Under m (A.pt [caA s.wide casts]) := (Free.pt _ (all1 (caA_free s.wide casts))).under
  have uh : ∀ o, UnderH 5 (suH s.wide G casts o) := fun o => suH_under s.wide G casts o (Nat.le_refl _)
  refine Aw.keep (n := 5) (cst := [(13, .pt [caA s.wide casts]), (16, .ref 3 0), (17, .ref 4 0)]) (v := []) (Hl := suH s.wide G casts []) h5E ?zu ?zw ?zx ⟨?zc, ?zv, ?zh, Nat.le_of_ble_eq_true rfl⟩ ?zr
  case zu =>
    (repeat' (first | exact trivial | exact Under.s _ | exact Under.un | assumption | exact (free_ints _ _ _).under | exact Under.ref _ _ (by decide) | exact Under.ms _ _ _ (by decide) | exact Under.mp _ (by decide) | exact (Free.agg _ (by assumption)).under | exact (Free.pt _ (by assumption)).under | exact grL_under _ | exact outA_under _ | exact Nat.le_of_ble_eq_true rfl | exact (fun _ _ => rfl) | exact uca | exact uh _ | (refine And.intro ?_ ?_)))
  case zw =>
    (repeat' (first | exact trivial | exact Under.s _ | exact Under.un | assumption | exact (free_ints _ _ _).under | exact Under.ref _ _ (by decide) | exact Under.ms _ _ _ (by decide) | exact Under.mp _ (by decide) | exact (Free.agg _ (by assumption)).under | exact (Free.pt _ (by assumption)).under | exact grL_under _ | exact outA_under _ | exact Nat.le_of_ble_eq_true rfl | exact (fun _ _ => rfl) | exact uca | exact uh _ | (refine And.intro ?_ ?_)))
  case zx =>
    (repeat' (first | exact trivial | exact Under.s _ | exact Under.un | assumption | exact (free_ints _ _ _).under | exact Under.ref _ _ (by decide) | exact Under.ms _ _ _ (by decide) | exact Under.mp _ (by decide) | exact (Free.agg _ (by assumption)).under | exact (Free.pt _ (by assumption)).under | exact grL_under _ | exact outA_under _ | exact Nat.le_of_ble_eq_true rfl | exact (fun _ _ => rfl) | exact uca | exact uh _ | (refine And.intro ?_ ?_)))
  case zc =>
    (repeat' (first | (refine And.intro ?_ ?_) | exact trivial | exact A.Le.refl _ | exact rfl | exact uca | exact uh _))
  case zv =>
    (repeat' (first | (refine And.intro ?_ ?_) | exact trivial | exact A.Le.refl _ | exact rfl | exact uca | exact uh _))
  case zh =>
    (repeat' (first | (refine And.intro ?_ ?_) | exact trivial | exact A.Le.refl _ | exact rfl | exact uca | exact uh _))
  case zr =>
  refine Aw.seq ?_
  refine Aw.sm tab_ok mb0 [] rfl rfl ?zo ?zk
  case zo =>
    repeat' apply AllP.cons
    all_goals first | exact trivial | exact Nat.le_of_ble_eq_true rfl
  case zk =>
  have lC : ((casts.map (castC s.wide)).length : Int) = casts.length := by simp
  have nl := hfo.cl
  refine Aw.block (Aw.rounds 5 h5E [(16, .ref 3 0), (17, .ref 4 0), (35, .int casts.length)] (fun i : (Nat×List Int) => [(36, .int i.1)]) (fun i => suH s.wide G casts i.2) (fun i => i.1 ≤ casts.length ∧ suGo (fndB s.wide G casts) casts.length ((List.range casts.length).drop i.1) i.2 = R) (fun i => casts.length - i.1) (0, []) ?zg ⟨?zc, ?zv, ?zh, Nat.le_of_ble_eq_true rfl⟩ ?zu (fun i zhk => ?zw) (fun i zhk => ?zx) fun i hk => ?zr)
  case zg =>
    (repeat' (first | exact Nat.zero_le _ | exact Nat.le_refl _ | exact trivial | exact ⟨Nat.zero_le _, hR⟩ | exact uh _ | exact .of_eq (congrArg A.int lC.symm) | (refine And.intro ?_ ?_)))
  case zc =>
    (repeat' (first | (refine And.intro ?_ ?_) | exact trivial | exact A.Le.refl _ | exact rfl | exact ⟨Nat.zero_le _, hR⟩ | exact uh _ | exact .of_eq (congrArg A.int lC.symm)))
  case zv =>
    (repeat' (first | (refine And.intro ?_ ?_) | exact trivial | exact A.Le.refl _ | exact rfl | exact ⟨Nat.zero_le _, hR⟩ | exact uh _ | exact .of_eq (congrArg A.int lC.symm)))
  case zh =>
    (repeat' (first | (refine And.intro ?_ ?_) | exact trivial | exact A.Le.refl _ | exact rfl | exact ⟨Nat.zero_le _, hR⟩ | exact uh _ | exact .of_eq (congrArg A.int lC.symm)))
  case zu =>
    (repeat' (first | exact trivial | exact Under.s _ | exact Under.un | assumption | exact (free_ints _ _ _).under | exact Under.ref _ _ (by decide) | exact Under.ms _ _ _ (by decide) | exact Under.mp _ (by decide) | exact (Free.agg _ (by assumption)).under | exact (Free.pt _ (by assumption)).under | exact grL_under _ | exact outA_under _ | exact Nat.le_of_ble_eq_true rfl | exact (fun _ _ => rfl) | exact ⟨Nat.zero_le _, hR⟩ | exact uh _ | exact .of_eq (congrArg A.int lC.symm) | (refine And.intro ?_ ?_)))
  case zw =>
    (repeat' (first | exact trivial | exact Under.s _ | exact Under.un | assumption | exact (free_ints _ _ _).under | exact Under.ref _ _ (by decide) | exact Under.ms _ _ _ (by decide) | exact Under.mp _ (by decide) | exact (Free.agg _ (by assumption)).under | exact (Free.pt _ (by assumption)).under | exact grL_under _ | exact outA_under _ | exact Nat.le_of_ble_eq_true rfl | exact (fun _ _ => rfl) | exact ⟨Nat.zero_le _, hR⟩ | exact uh _ | exact .of_eq (congrArg A.int lC.symm) | (refine And.intro ?_ ?_)))
  case zx =>
    (repeat' (first | exact trivial | exact Under.s _ | exact Under.un | assumption | exact (free_ints _ _ _).under | exact Under.ref _ _ (by decide) | exact Under.ms _ _ _ (by decide) | exact Under.mp _ (by decide) | exact (Free.agg _ (by assumption)).under | exact (Free.pt _ (by assumption)).under | exact grL_under _ | exact outA_under _ | exact Nat.le_of_ble_eq_true rfl | exact (fun _ _ => rfl) | exact ⟨Nat.zero_le _, hR⟩ | exact uh _ | exact .of_eq (congrArg A.int lC.symm) | (refine And.intro ?_ ?_)))
  case zr =>
  obtain ⟨k, o⟩ := i
  obtain ⟨hkk, hrun⟩ := hk
  simp only at hkk hrun
  refine Aw.sm tab_ok mb0 [] rfl rfl ?zo ?zk
  case zo =>
    repeat' apply AllP.cons
    all_goals first | exact trivial
  case zk =>
  refine Aw.seq (Aw.cond rfl (fun h2 => Aw.skip1 ?_) (fun h2 => Aw.exit2 ?_))
  · have hlt : k < casts.length := by have := of_decide_eq_true h2; omega
    have hdr : (List.range casts.length).drop k = k :: (List.range casts.length).drop (k + 1) := by
      rw [List.drop_eq_getElem_cons (by simpa using hlt)]; simp
    rw [hdr, suGo] at hrun
    have hcall := choose_t s G casts hfo (k + 1) [] o (k + 1) (by simp) (by omega) (by omega) (fun _ h => nomatch h)
    generalize chF (fndB s.wide G casts) casts.length (k + 1) [] o = s3 at *
    obtain ⟨fb, o3⟩ := s3
    refine Aw.seq (Aw.block ?_)
    refine Aw.sm tab_ok mb0 [] rfl rfl ?zo ?zk
    case zo =>
      repeat' apply AllP.cons
      all_goals first | exact trivial
    case zk =>
    refine Aw.seq ?_
    refine Aw.es rfl ?_
    rw [show (((k + 1 : Nat)) : Int) = (k : Int) + 1 from rfl] at hcall
    refine RegL.partE tab_ok mb0 false 3 0 [] ?_
    conv => arg 5; whnf
    refine PartK.mk ?zo ?zk
    case zo =>
      repeat' apply AllP.cons
      all_goals first | exact trivial | exact Nat.le_of_ble_eq_true rfl | exact (by simp only [Ob.of, inR]; omega)
    case zk =>
    refine Does.raw rfl (DoesR.call (fst := []) (cap := [.ref 3 0, .pt [fiA s.wide G casts], .pt [caA s.wide casts], .ref 4 0]) rfl rfl (enters_of Try.func72 rfl rfl) (su_frame rfl hcall (H := _) (c := _) ⟨rfl, rfl, trivial⟩) ?_)
    rintro v H' c' ⟨rfl, rfl, rfl⟩
    refine RegL.partE tab_ok mb0 false 9 4 [] ?_
    conv => arg 5; whnf
    refine PartK.mk ?zo ?zk
    case zo =>
      repeat' apply AllP.cons
      all_goals first | exact trivial
    case zk =>
    cases fb with
    | true =>
      have hrun : some o3 = R := hrun
      subst hrun
      refine Aw.cond rfl (fun _ => ?_) (fun h3 => Bool.noConfusion (show true = false from h3))
      cases o3 with
      | nil =>
        refine Aw.sm tab_ok mb0 [] rfl rfl ?zo ?zk
        case zo =>
          repeat' apply AllP.cons
          all_goals first | exact trivial | exact Nat.le_of_ble_eq_true rfl
        case zk =>
        exact Aw.ret ⟨_, .cons (.tmp _) (.cons (.tmp _) .nil), rfl⟩
      | cons x t =>
        refine Aw.sm tab_ok mb0 [] rfl rfl ?zo ?zk
        case zo =>
          repeat' apply AllP.cons
          all_goals first | exact trivial | exact Nat.le_of_ble_eq_true rfl
        case zk =>
        exact Aw.ret ⟨_, .cons (.tmp _) (.cons (.tmp _) .nil), rfl⟩
    | false =>
      have hrun : suGo (fndB s.wide G casts) casts.length ((List.range casts.length).drop (k + 1)) o3 = R := hrun
      refine Aw.cond rfl (fun h3 => Bool.noConfusion (show false = true from h3)) (fun _ => Aw.skip ?_)
      refine Aw.em tab_ok mb0 [] rfl rfl ?zo ?zk
      case zo =>
        repeat' apply AllP.cons
        all_goals first | exact trivial | exact (by simp only [Ob.of, inR]; omega)
      case zk =>
      refine ⟨(k + 1, o3), ?zg, ?zm, ⟨?zc, ?zv, ?zh, Nat.le_of_ble_eq_true rfl⟩⟩
      case zg =>
        (repeat' (first | assumption | omega | exact ⟨hlt, hrun⟩ | exact (by show casts.length - (k + 1) < casts.length - k; omega) | (refine And.intro ?_ ?_)))
      case zm =>
        (repeat' (first | omega | exact ⟨hlt, hrun⟩ | exact (by show casts.length - (k + 1) < casts.length - k; omega) | (refine And.intro ?_ ?_)))
      case zc =>
        (repeat' (first | (refine And.intro ?_ ?_) | exact trivial | exact A.Le.refl _ | exact rfl | exact ⟨hlt, hrun⟩ | exact (by show casts.length - (k + 1) < casts.length - k; omega)))
      case zv =>
        (repeat' (first | (refine And.intro ?_ ?_) | exact trivial | exact A.Le.refl _ | exact rfl | exact ⟨hlt, hrun⟩ | exact (by show casts.length - (k + 1) < casts.length - k; omega)))
      case zh =>
        (repeat' (first | (refine And.intro ?_ ?_) | exact trivial | exact A.Le.refl _ | exact rfl | exact ⟨hlt, hrun⟩ | exact (by show casts.length - (k + 1) < casts.length - k; omega)))
  · have hend : k = casts.length := by have := of_decide_eq_false h2; omega
    subst hend
    rw [List.drop_of_length_le (by simp), suGo] at hrun
    subst hrun
    refine Aw.sm tab_ok mb0 [] rfl rfl ?zo ?zk
    case zo =>
      repeat' apply AllP.cons
      all_goals first | exact trivial
    case zk =>
    exact Aw.ret ⟨_, .cons (.tmp _) (.cons (.tmp _) .nil), rfl⟩
end Go.Proofs.Ytohbjneaaahpcaa

namespace Go.Proofs.Ytohbjneaaahpcaa
open Go Go.AL Go.AL.Q Go.AL.Sh
theorem Ans_out {f : FuncId} {args : List A} {v v' : A} (h : Ans Try.prog f args v) (hl : A.Le v' v) : Ans Try.prog f args v' := ⟨h.ent, fun φ Z w vs hz hvs => (h.pure φ Z w vs hz hvs).mono fun e w' ⟨u, Z', h1, h2, h3, h4⟩ =>
  ⟨u, Z', h1, h2, hl.vr _ _ _ _ h3, fun u' => by
    cases hs : spareOf v' u' with
    | none => rfl
    | some p => have := hl.own _ _ hs; rw [h4 u'] at this; cases this⟩⟩
theorem AnsL {f : FuncId} {az bs : List A} {v : A} (h : Ans Try.prog f az v) (k : LeL az bs) : Ans Try.prog f bs v := h.le k.len fun i _ => k.get i
def outW (l : List Int) : A := .sl l.isEmpty .any (ints l)
theorem outW_free (l : List Int) : Free (outW l) := free_ints _ _ _
theorem canA_le (l : List Int) : A.Le (outW l) (canA l) := by cases l <;> exact .any _ _ _
theorem outA_le (l : List Int) : A.Le (outW l) (outA l) := by cases l; exact .any _ _ _; exact .refl _
theorem leT2 {a b a' b' : A} (h : A.Le a a') (k : A.Le b b') : A.Le (.tup [a, b]) (.tup [a', b']) := .tupL (.cons h (.cons k .nil))
theorem leT3 {a b c a' b' c' : A} (h : A.Le a a') (k : A.Le b b') (m : A.Le c c') : A.Le (.tup [a, b, c]) (.tup [a', b', c']) := .tupL (.cons h (.cons k (.cons m .nil)))
structure Srch where
  s : Sea
  rn : Bool
  l : List Rep
structure SrFit (x : Srch) : Prop where
  s : SeaFit x.s
  l : (x.l.length : Int) ≤ 9223372036854775806
def Srch.rA (x : Srch) : A := .sl x.rn .any (x.l.map Rep.c)
theorem Srch.rfree (x : Srch) : Free x.rA := free_map Rep.free _ _ _
def Srch.c (x : Srch) : List A := x.s.c ++ [x.rA]
theorem Srch.free (x : Srch) : ∀ y ∈ x.c, Free y := fun y hy => (List.mem_append.1 hy).elim (x.s.free y) (all1 x.rfree y)
theorem IsTrack_w (x : Srch) (hx : SrFit x) (b : Bool) (t : List Int) (ht : (t.length : Int) ≤ 9223372036854775806) : Ans Try.prog 16 [.agg x.s.c, x.rA, .sl b .any (ints t)] (.tup [.int (TrackR x.s x.l t).1, .bool (TrackR x.s x.l t).2.1, .int (TrackR x.s x.l t).2.2]) := IsTrack_t x.s hx.s x.rn x.l hx.l b t ht
theorem Least_w (x : Srch) (hx : SrFit x) : Ans Try.prog 20 [.agg x.s.c, x.rA] (.tup [.int (LeastR x.s x.l).1, outW (LeastR x.s x.l).2.1, .int (LeastR x.s x.l).2.2]) := Ans_out (Least_t x.s hx.s x.rn x.l hx.l) (leT3 (.refl _) (canA_le _) (.refl _))
theorem Can_w (x : Srch) (hx : SrFit x) (wrong hour : Int) : Ans Try.prog 24 [.agg x.s.c, x.rA, .int wrong, .int hour] (.tup [outW (CanR x.s x.l wrong hour).1, .int (CanR x.s x.l wrong hour).2]) := Ans_out (Can_t x.s hx.s x.rn x.l hx.l wrong hour) (leT2 (canA_le _) (.refl _))
theorem Liars_w (x : Srch) (hx : SrFit x) : Ans Try.prog 26 [.agg x.s.c, x.rA] (.tup [outW (LiarsR x.s x.l).1, .int (LiarsR x.s x.l).2]) := Ans_out (Liars_t x.s hx.s x.rn x.l hx.l) (leT2 (canA_le _) (.refl _))
theorem Next_w (x : Srch) (hx : SrFit x) (wrong hour : Int) (cb : Bool) (casts : List Sp) (hcs : CstFit casts) : Ans Try.prog 28 [.agg x.s.c, x.rA, .int wrong, .int hour, .sl cb .any (casts.map Sp.c)] (.tup [.int (NextR x.s x.l wrong hour casts).1, .int (NextR x.s x.l wrong hour casts).2.1, .int (NextR x.s x.l wrong hour casts).2.2]) := Next_t x.s hx.s x.rn x.l hx.l wrong hour cb casts hcs
theorem Sure_w (x : Srch) (hx : SrFit x) (wrong hour : Int) (cb : Bool) (casts : List Sp) (hcs : CstFit casts) : Ans Try.prog 30 [.agg x.s.c, x.rA, .int wrong, .int hour, .sl cb .any (casts.map Sp.c)] (.tup [outW (SureR x.s x.l wrong hour casts).1, .int (SureR x.s x.l wrong hour casts).2]) := Ans_out (Sure_t x.s hx.s x.rn x.l hx.l wrong hour cb casts hcs) (leT2 (outA_le _) (.refl _))
def rowS : Sea := ⟨4, 1, true, [], 3, false, [⟨1, 0⟩, ⟨0, 0⟩], 1⟩
def rep5 : List Rep := [⟨0, 0, 0, true⟩, ⟨2, 3, 0, true⟩, ⟨1, 0, 1, true⟩, ⟨1, 0, 1, true⟩, ⟨1, 0, 1, true⟩]
theorem row_t : Ans Try.prog 45 [] (.agg rowS.c) := by
  have h : Ans Try.prog 45 [] (.agg [.int 4, .int 1, .sl true .exact [], .int 3, .sl false .exact [[.int 1, .int 0], [.int 0, .int 0]], .int 1]) := by
    have hfr : Free (.agg [.int 4, .int 1, .sl true .exact [], .int 3, .sl false .exact [[.int 1, .int 0], [.int 0, .int 0]], .int 1]) := .agg _ (allC (.s _) (allC (.s _) (allC (.sl _ _ _ fun _ h => nomatch h) (allC (.s _) (allC (.sl _ _ _ (fun e he x hx => by
      simp at he; rcases he with rfl | rfl <;> (simp at hx; rcases hx with rfl | rfl <;> exact .s _))) (all1 (.s _)))))))
    refine told Try.func45 rfl rfl (Pure.of tab_ok Try.func45 rfl Try.ntmps45 rfl allN allN hfr fun E hE => ?_)
    refine Aw.sm tab_ok mb0 [] rfl rfl ?zo ?zk
    case zo =>
      repeat' apply AllP.cons
      all_goals first | exact trivial
    case zk =>
    refine Aw.sm tab_ok mb0 [] rfl rfl ?zo ?zk
    case zo =>
      repeat' apply AllP.cons
      all_goals first | exact trivial | exact rfl | exact Nat.le_of_ble_eq_true rfl
    case zk =>
    exact Aw.ret ⟨_, .cons (resC rfl rfl rfl rfl rfl) .nil, rfl⟩
  exact Ans_out h (.agg (.cons (.refl _) (.cons (.refl _) (.cons (.any _ _ _) (.cons (.refl _) (.cons (.any _ _ _) (.cons (.refl _) .nil)))))))
theorem reports_t (n : Nat) (hn : n ≤ 5) : Ans Try.prog 46 [.int n] (.sl false .any ((rep5.take n).map Rep.c)) := by
  have hfr : Free (.sl false .any ((rep5.take n).map Rep.c)) := free_map Rep.free _ _ _
  refine told Try.func46 rfl rfl (Pure.of tab_ok Try.func46 rfl Try.ntmps46 rfl (all1 (.s _)) (all1 (fun _ => rfl)) (by first | exact .s _ | assumption | exact .tup _ (by intro x hx; simp only [List.mem_cons, List.not_mem_nil, or_false] at hx; rcases hx with rfl | rfl | rfl | rfl <;> first | exact .s _ | (simp_all; done))) fun E hE => ?_)
  refine Aw.sm tab_ok mb0 [] rfl rfl ?zo ?zk
  case zo =>
    repeat' apply AllP.cons
    all_goals first | exact trivial
  case zk =>
  refine Aw.sm tab_ok mb0 [] rfl rfl ?zo ?zk
  case zo =>
    repeat' apply AllP.cons
    all_goals first | exact trivial | exact Nat.le_of_ble_eq_true rfl | exact Int.natCast_nonneg _ | exact (show ((n : Nat) : Int) ≤ ((5 : Nat) : Int) by omega)
  case zk =>
  exact Aw.ret ⟨_, .cons (.tmp _) .nil, by rw [List.map_take]; exact congrArg (A.sl false .any) (congrArg (fun k => List.take k (rep5.map Rep.c)) (Int.toNat_natCast n))⟩
def exS (n : Nat) : Srch := ⟨rowS, false, rep5.take n⟩
theorem exFit (n : Nat) : SrFit (exS n) := ⟨⟨show ((0 : Nat) : Int) ≤ 9223372036854775806 by decide, show ((2 : Nat) : Int) ≤ 9223372036854775806 by decide⟩, by
  have : (rep5.take n).length ≤ 5 := by rw [List.length_take]; exact Nat.min_le_right _ _
  show ((rep5.take n).length : Int) ≤ _; omega⟩
theorem rep_t (n : Nat) (hn : n ≤ 5) : Ans Try.prog 46 [.int n] (exS n).rA := reports_t n hn
theorem w1 : TrackR rowS (rep5.take 2) [0, 2, 3] = (0, true, 0) := by decide +kernel
theorem w2 : LeastR rowS (rep5.take 3) = (1, [0, 0, 0], 0) := by decide +kernel
theorem w3 : CanR rowS (rep5.take 3) 1 1 = ([0, 1, 2], 0) := by decide +kernel
theorem w4 : LiarsR rowS (rep5.take 5) = ([1], 0) := by decide +kernel
theorem w5 : NextR rowS (rep5.take 3) 1 1 [⟨1, 1⟩, ⟨0, 0⟩] = (1, 2, 0) := by decide +kernel
theorem w6 : SureR rowS (rep5.take 3) 1 1 [⟨0, 0⟩, ⟨2, 0⟩, ⟨1, 0⟩] = ([0, 1, 2], 0) := by decide +kernel
theorem cfit {l : List Sp} (h : l.length ≤ 100) (hr : ∀ c ∈ l, (-1000 ≤ c.lo ∧ c.lo ≤ 1000) ∧ -1000 ≤ c.hi ∧ c.hi ≤ 1000) : CstFit l := ⟨by omega, fun c hc => by have := hr c hc; simp only [inR]; omega⟩
theorem x1 : Ans Try.prog 16 [.agg rowS.c, (exS 2).rA, .sl false .exact (ints [0, 2, 3])] (.tup [.int 0, .bool true, .int 0]) := by
  have h := IsTrack_w (exS 2) (exFit 2) false [0, 2, 3] (by decide)
  rw [show TrackR (exS 2).s (exS 2).l [0, 2, 3] = (0, true, 0) from w1] at h
  exact AnsL h (.cons (.refl _) (.cons (.refl _) (.cons (.any _ _ _) .nil)))
theorem x2 : Ans Try.prog 20 [.agg rowS.c, (exS 3).rA] (.tup [.int 1, outW [0, 0, 0], .int 0]) := by
  have h := Least_w (exS 3) (exFit 3)
  rw [show LeastR (exS 3).s (exS 3).l = (1, [0, 0, 0], 0) from w2] at h
  exact h
theorem x3 : Ans Try.prog 24 [.agg rowS.c, (exS 3).rA, .int 1, .int 1] (.tup [outW [0, 1, 2], .int 0]) := by
  have h := Can_w (exS 3) (exFit 3) 1 1
  rw [show CanR (exS 3).s (exS 3).l 1 1 = ([0, 1, 2], 0) from w3] at h
  exact h
theorem x4 : Ans Try.prog 26 [.agg rowS.c, (exS 5).rA] (.tup [outW [1], .int 0]) := by
  have h := Liars_w (exS 5) (exFit 5)
  rw [show LiarsR (exS 5).s (exS 5).l = ([1], 0) from w4] at h
  exact h
theorem x5 : Ans Try.prog 28 [.agg rowS.c, (exS 3).rA, .int 1, .int 1, .sl false .exact ([(⟨1, 1⟩ : Sp), ⟨0, 0⟩].map Sp.c)] (.tup [.int 1, .int 2, .int 0]) := by
  have h := Next_w (exS 3) (exFit 3) 1 1 false [⟨1, 1⟩, ⟨0, 0⟩] (cfit (by decide) (by decide))
  rw [show NextR (exS 3).s (exS 3).l 1 1 [⟨1, 1⟩, ⟨0, 0⟩] = (1, 2, 0) from w5] at h
  exact AnsL h (.cons (.refl _) (.cons (.refl _) (.cons (.refl _) (.cons (.refl _) (.cons (.any _ _ _) .nil)))))
theorem x6 : Ans Try.prog 30 [.agg rowS.c, (exS 3).rA, .int 1, .int 1, .sl false .exact ([(⟨0, 0⟩ : Sp), ⟨2, 0⟩, ⟨1, 0⟩].map Sp.c)] (.tup [outW [0, 1, 2], .int 0]) := by
  have h := Sure_w (exS 3) (exFit 3) 1 1 false [⟨0, 0⟩, ⟨2, 0⟩, ⟨1, 0⟩] (cfit (by decide) (by decide))
  rw [show SureR (exS 3).s (exS 3).l 1 1 [⟨0, 0⟩, ⟨2, 0⟩, ⟨1, 0⟩] = ([0, 1, 2], 0) from w6] at h
  exact AnsL h (.cons (.refl _) (.cons (.refl _) (.cons (.refl _) (.cons (.refl _) (.cons (.any _ _ _) .nil)))))
theorem same_e (a b : List Int) (p : Bool) (hl : (a.length : Int) ≤ 9223372036854775806) : Ans Try.prog 22 [.sl p .any (ints a), .sl false .exact (ints b)] (.bool (a == b)) := AnsL (same_t p false a b hl) (.cons (.refl _) (.cons (.any _ _ _) .nil))
set_option maxRecDepth 20000 in
theorem works_t : Ans Try.prog 23 [] (.bool true) := by
  refine told Try.func23 rfl rfl (Pure.of tab_ok Try.func23 rfl Try.ntmps23 rfl allN allN (.s _) fun E hE => ?_)
  refine Aw.sm tab_ok mb0 [] rfl rfl ?zo ?zk
  case zo =>
    repeat' apply AllP.cons
    all_goals first | exact trivial
  case zk =>
  refine Aw.sm tab_ok mb0 [(0, [.agg rowS.c]), (1, [(exS 2).rA]), (3, [.tup [.int 0, .bool true, .int 0]])] rfl rfl ?zo ?zk
  case zo =>
    repeat' apply AllP.cons
    all_goals first | exact trivial | exact Nat.le_of_ble_eq_true rfl | exact row_t | exact rep_t 2 (by decide) | exact x1
  case zk =>
  refine Aw.sm tab_ok mb0 [(0, [.agg rowS.c]), (1, [(exS 3).rA]), (2, [.tup [.int 1, outW [0, 0, 0], .int 0]])] rfl rfl ?zo ?zk
  case zo =>
    repeat' apply AllP.cons
    all_goals first | exact trivial | exact row_t | exact rep_t 3 (by decide) | exact x2
  case zk =>
  refine Aw.sm tab_ok mb0 [(0, [.agg rowS.c]), (1, [(exS 3).rA]), (2, [.tup [outW [0, 1, 2], .int 0]])] rfl rfl ?zo ?zk
  case zo =>
    repeat' apply AllP.cons
    all_goals first | exact trivial | exact row_t | exact rep_t 3 (by decide) | exact x3
  case zk =>
  refine Aw.sm tab_ok mb0 [(0, [.agg rowS.c]), (1, [(exS 5).rA]), (2, [.tup [outW [1], .int 0]])] rfl rfl ?zo ?zk
  case zo =>
    repeat' apply AllP.cons
    all_goals first | exact trivial | exact row_t | exact rep_t 5 (by decide) | exact x4
  case zk =>
  refine Aw.seq ?_
  refine Aw.sm tab_ok mb0 [(29, [.bool true]), (35, [.bool true]), (41, [.bool true])] rfl rfl ?zo ?zk
  case zo =>
    repeat' apply AllP.cons
    all_goals first | exact trivial | exact id | exact fun _ => rfl | exact fun _ => Nat.le_of_ble_eq_true rfl | exact fun _ => same_e [0, 0, 0] [0, 0, 0] _ (by decide) | exact fun _ => same_e [0, 1, 2] [0, 1, 2] _ (by decide) | exact fun _ => same_e [1] [1] _ (by decide)
  case zk =>
  refine Aw.cond rfl (fun h => absurd h (by decide)) (fun h => Aw.skip ?_)
  refine Aw.sm tab_ok mb0 [(0, [.agg rowS.c]), (1, [(exS 3).rA]), (5, [.tup [.int 1, .int 2, .int 0]])] rfl rfl ?zo ?zk
  case zo =>
    repeat' apply AllP.cons
    all_goals first | exact trivial | exact Nat.le_of_ble_eq_true rfl | exact row_t | exact rep_t 3 (by decide) | exact x5
  case zk =>
  refine Aw.sm tab_ok mb0 [(0, [.agg rowS.c]), (1, [(exS 3).rA]), (6, [.tup [outW [0, 1, 2], .int 0]])] rfl rfl ?zo ?zk
  case zo =>
    repeat' apply AllP.cons
    all_goals first | exact trivial | exact Nat.le_of_ble_eq_true rfl | exact row_t | exact rep_t 3 (by decide) | exact x6
  case zk =>
  refine Aw.sm tab_ok mb0 [(17, [.bool true])] rfl rfl ?zo ?zk
  case zo =>
    repeat' apply AllP.cons
    all_goals first | exact trivial | exact id | exact fun _ => rfl | exact fun _ => Nat.le_of_ble_eq_true rfl | exact fun _ => same_e [0, 1, 2] [0, 1, 2] _ (by decide)
  case zk =>
  exact Aw.ret ⟨_, .cons (.tmp _) .nil, rfl⟩
end Go.Proofs.Ytohbjneaaahpcaa

