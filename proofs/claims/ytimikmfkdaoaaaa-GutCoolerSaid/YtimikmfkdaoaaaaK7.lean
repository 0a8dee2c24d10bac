/- What the proof leans on, part 7: R8 P5 L2. -/
import Derived.Test.YtimikmfkdaoaaaaK6
set_option linter.all false
namespace Go.Proofs.Ytimikmfkdaoaaaa
open Go Go.AL
def lotD : Lot := ⟨0, 0, 0, 0⟩
def tLot (d : Day) (t : Task) : Lot := d.lots.getD t.lot.toNat lotD
def tWk (d : Day) (t : Task) : Wk := d.wks.getD t.worker.toNat wkD
def tCan (d : Day) (t : Task) : Bool := canF (tLot d t) (tWk d t) t.hour (untilF d (fE false) (tLot d t))
def hourIn (d : Day) (t : Task) : Bool := wi t.hour 0 (d.hours - 1)
def rBad4 (d : Day) (t : Task) : Bool := cond (cond (cond (!lotIn d t) true (!wkIn d t)) true (!hourIn d t)) true (!wi t.crans 1 50)
def rBad (d : Day) (t : Task) : Bool := cond (rBad4 d t) true (!tCan d t)
def ofT (t x : Task) : Int := if x.lot == t.lot then x.crans else 0
def byT' (t x : Task) : Int := if cond (x.worker == t.worker) (x.hour == t.hour) false then x.crans else 0
def ofL (l : List Task) (t : Task) : Int := (l.map (ofT t)).sum
def byL (l : List Task) (t : Task) : Int := (l.map (byT' t)).sum
def crT (l : List Task) : Int := (l.map Task.crans).sum
def rOver (d : Day) (pl : List Task) (i : Nat) (t : Task) : Bool := cond (decide (ofL (pl.take (i + 1)) t > (tLot d t).crans)) true (decide (byL (pl.take (i + 1)) t > (tWk d t).rate))
def rchk (d : Day) (pl : List Task) : Nat → Nat → Bool
  | 0, _ => true
  | m + 1, i => match pl[i]? with
    | none => true
    | some t => if rBad d t then false else if rOver d pl i t then false else rchk d pl m (i + 1)
def rPlanV (d : Day) (pl : List Task) : Option Int := if 400 < pl.length then none else if rchk d pl pl.length 0 then some (cransOf d - crT pl) else none
def rPlanR (d : Day) (pl : List Task) : List A := if d.ok then (match rPlanV d pl with | some n => [.int n, .bool true, .int 0] | none => [.int 0, .bool false, .int 0]) else [.int 0, .bool false, .int 50]
theorem bad4_no {d : Day} {t : Task} (h : rBad4 d t = false) : lotIn d t = true ∧ wkIn d t = true ∧ hourIn d t = true ∧ wi t.crans 1 50 = true := by
  unfold rBad4 at h
  cases h1 : lotIn d t <;> cases h2 : wkIn d t <;> cases h3 : hourIn d t <;> cases h4 : wi t.crans 1 50 <;> simp_all
theorem take_map_succ {α : Type} {l : List α} {k : Nat} (h : k < l.length) (g : α → Int) : ((l.take (k + 1)).map g).sum = ((l.take k).map g).sum + g l[k] := by
  rw [List.take_succ_eq_append_getElem h, List.map_append, List.sum_append]; simp
theorem sum_bd2 {α : Type} {l : List α} {g : α → Int} (h : ∀ x ∈ l, 0 ≤ g x ∧ g x ≤ 50) (hl : l.length ≤ 400) : 0 ≤ (l.map g).sum ∧ (l.map g).sum ≤ 20000 := by
  have := sum_bd (l := l.map g) (b := 50) fun x hx => by
    obtain ⟨y, hy, rfl⟩ := List.mem_map.1 hx
    exact h y hy
  rw [List.length_map] at this
  omega
set_option maxHeartbeats 2000000 in
theorem rIsPlan_t (d : Day) (b : Bool) (pl : List Task) (hs : Small d) (hw : (pl.length : Int) ≤ 9223372036854775807) : Ans Try.prog 22 [.agg d.c, .sl b .any (pl.map Task.c)] (.tup (rPlanR d pl)) := by
  have hfr : Free (.tup (rPlanR d pl)) := .tup _ (by
    unfold rPlanR; split
    · split <;> exact allC (.s _) (allC (.s _) (all1 (.s _)))
    · exact allC (.s _) (allC (.s _) (all1 (.s _))))
  have hpf : Free (.sl b .any (pl.map Task.c)) := free_map Task.free _ _ _
  refine told Try.func22 rfl rfl (Pure.of tab_ok Try.func22 rfl Try.ntmps22 rfl (allC (.agg _ d.free) (all1 (hpf))) (allC (fun _ => rfl) (all1 (fun _ => rfl))) (by first | exact .s _ | assumption | exact .tup _ (by intro x hx; simp only [List.mem_cons, List.not_mem_nil, or_false] at hx; rcases hx with rfl | rfl | rfl | rfl <;> first | exact .s _ | (simp_all; done))) fun E hE => ?_)
  have udc : Under 0 (A.pt d.c) := (Free.pt _ d.free).under
  have udc1 : Under 1 (A.pt d.c) := (Free.pt _ d.free).under
  refine Aw.sm tab_ok mb0 [] rfl rfl ?zo ?zk
  case zo =>
    repeat' apply AllP.cons
    all_goals first | exact trivial
  case zk =>
  refine Aw.seq ?_
  refine Aw.sm tab_ok mb0 [(1, [.int d.errA])] rfl rfl ?zo ?zk
  case zo =>
    repeat' apply AllP.cons
    all_goals first | exact trivial | exact Nat.le_of_ble_eq_true rfl | exact rcheck_t d hs
  case zk =>
  refine Aw.sm tab_ok mb0 [] rfl rfl ?zo ?zk
  case zo =>
    repeat' apply AllP.cons
    all_goals first | exact trivial
  case zk =>
  refine Aw.cond rfl (fun h1 => ?_) (fun h1 => Aw.skip ?_)
  · have hno : d.ok = false := by
      cases h : d.ok with
      | false => rfl
      | true => rw [err_ok h] at h1; exact absurd h1 (by decide)
    refine Aw.sm tab_ok mb0 [] rfl rfl ?zo ?zk
    case zo =>
      repeat' apply AllP.cons
      all_goals first | exact trivial
    case zk =>
    exact Aw.ret ⟨_, .cons (.tmp _) (.cons (.tmp _) (.cons (.tmp _) .nil)), by simp only [rPlanR, hno]; rw [err_no hno]; rfl⟩
  have hok : d.ok = true := by
    cases h : d.ok with
    | true => rfl
    | false => rw [err_no h] at h1; exact absurd h1 (by decide)
  have hd := DayOk.of hok
  have nl := hd.nl
  have nw := hd.nw
  have hh := hd.hours
  have lp : ((pl.map Task.c).length : Int) = pl.length := by simp
  have ll : ((d.lots.map Lot.c).length : Int) = d.lots.length := by simp
  have lw : ((d.wks.map Wk.c).length : Int) = d.wks.length := by simp
  refine Aw.seq ?_
  refine Aw.sm tab_ok mb0 [] rfl rfl ?zo ?zk
  case zo =>
    repeat' apply AllP.cons
    all_goals first | exact trivial
  case zk =>
  refine Aw.cond rfl (fun h2 => ?_) (fun h2 => Aw.skip ?_)
  · have hgt : 400 < pl.length := by have := of_decide_eq_true h2; omega
    refine Aw.sm tab_ok mb0 [] rfl rfl ?zo ?zk
    case zo =>
      repeat' apply AllP.cons
      all_goals first | exact trivial
    case zk =>
    exact Aw.ret ⟨_, .cons (.tmp _) (.cons (.tmp _) (.cons (.tmp _) .nil)), by simp only [rPlanR, hok, rPlanV, if_pos hgt]; rfl⟩
  have hle : pl.length ≤ 400 := by have := of_decide_eq_false h2; omega
  refine Aw.sm tab_ok mb0 [(1, [.int (cransOf d)])] rfl rfl ?zo ?zk
  case zo =>
    repeat' apply AllP.cons
    all_goals first | exact trivial | exact Nat.le_of_ble_eq_true rfl | exact all_t d hd
  case zk =>
  have hcr : 0 ≤ cransOf d ∧ cransOf d ≤ 400 := by
    have := crans_bd hd d.lots.length
    unfold cransL at this
    rw [List.take_length] at this; exact this
  have hplan : rPlanV d pl = if rchk d pl pl.length 0 then some (cransOf d - crT pl) else none := by unfold rPlanV; rw [if_neg (by omega)]
  generalize cransOf d = c0 at *
  generalize hR : rchk d pl pl.length 0 = R at *
  refine Aw.seq ?_
  refine Aw.sm tab_ok mb0 [] rfl rfl ?zo ?zk
  case zo =>
    repeat' apply AllP.cons
    all_goals first | exact trivial
  case zk =>
  refine Aw.block (Aw.rounds 0 hE [(1, .sl b .any (pl.map Task.c)), (2, .pt d.c)] (fun i : Nat => [(8, .int (c0 - crT (pl.take i))), (9, .int i)]) (fun _ => []) (fun i => i ≤ pl.length ∧ (∀ x ∈ pl.take i, 1 ≤ x.crans ∧ x.crans ≤ 50) ∧ rchk d pl (pl.length - i) i = R) (fun i => pl.length - i) 0
    ⟨Nat.zero_le _, (fun x hx => by simp at hx), hR⟩ ⟨⟨.refl _, .refl _, trivial⟩, ⟨.of_eq (show A.int (c0 - 0) = .int c0 by rw [Int.sub_zero]), .refl _, trivial⟩, trivial, Nat.zero_le _⟩ ⟨hpf.under, udc, trivial⟩ (fun _ _ => ⟨.s _, .s _, trivial⟩) (fun _ _ => trivial) fun i hi => ?_)
  obtain ⟨hi, hall, hrun⟩ := hi
  refine Aw.seq ?_
  refine Aw.sm tab_ok mb0 [] rfl rfl ?zo ?zk
  case zo =>
    repeat' apply AllP.cons
    all_goals first | exact trivial
  case zk =>
  refine Aw.cond rfl (fun h3 => Aw.skip ?_) (fun h3 => ?_)
  · have hlt : i < pl.length := by have := of_decide_eq_true h3; omega
    rw [show pl.length - i = (pl.length - (i + 1)) + 1 by omega, rchk, List.getElem?_eq_getElem hlt] at hrun
    simp only at hrun
    have hcT : crT (pl.take (i + 1)) = crT (pl.take i) + pl[i].crans := take_map_succ hlt _
    have hget := get_map (f := Task.c) hlt
    have htk1 : pl.take (i + 1) = pl.take i ++ [pl[i]] := List.take_succ_eq_append_getElem hlt
    generalize pl[i] = t at *
    have hcb := sum_bd2 (g := Task.crans) (l := pl.take i) (fun x hx => by have := hall x hx; omega) (by rw [List.length_take]; omega)
    have hcT0 : 0 ≤ crT (pl.take i) ∧ crT (pl.take i) ≤ 20000 := hcb
    generalize crT (pl.take i) = cT at *
    refine Aw.seq (Aw.block ?_)
    refine Aw.sm tab_ok mb0 [(2, t.c)] rfl rfl ?zo ?zk
    case zo =>
      repeat' apply AllP.cons
      all_goals first | exact trivial | exact rfl | exact Nat.le_of_ble_eq_true rfl | exact Int.natCast_nonneg _ | exact hget
    case zk =>
    refine Aw.seq ?_
    have g4 : gq (rBad4 d t) false = true → lotIn d t = true ∧ wkIn d t = true ∧ hourIn d t = true ∧ wi t.crans 1 50 = true := fun h => bad4_no (gq_of h)
    have hli : lotIn d t = true → 0 ≤ t.lot ∧ d.lots[t.lot.toNat]? = some (tLot d t) := fun h => by
      have := wi_iff.1 h
      have h5 : t.lot.toNat < d.lots.length := by omega
      exact ⟨this.1, by unfold tLot; simp [List.getD_eq_getElem?_getD, h5]⟩
    have hwi : wkIn d t = true → 0 ≤ t.worker ∧ d.wks[t.worker.toNat]? = some (tWk d t) := fun h => by
      have := wi_iff.1 h
      have h5 : t.worker.toNat < d.wks.length := by omega
      exact ⟨this.1, by unfold tWk; simp [List.getD_eq_getElem?_getD, h5]⟩
    have hwg : wkIn d t = true → (d.wks.map Wk.c)[t.worker.toNat]? = some (tWk d t).c := fun h => by rw [List.getElem?_map, (hwi h).2]; rfl
    have hlg : lotIn d t = true → (d.lots.map Lot.c)[t.lot.toNat]? = some (tLot d t).c := fun h => by rw [List.getElem?_map, (hli h).2]; rfl
    have hwk : wkIn d t = true → isWorker (tWk d t) d.hours = true := fun h => hd.wks _ (List.mem_of_getElem? (hwi h).2)
    refine Aw.sd tab_ok mixed mb0 [(6, [.bool (lotIn d t)]), (15, [.bool (wkIn d t)]), (24, [.bool (hourIn d t)]), (30, [.bool (wi t.crans 1 50)]), (39, (tWk d t).c), (45, [.bool (tCan d t)])] rfl (by kernel_rfl) rfl rfl ?zo ?zk
    case zo =>
      repeat' apply AllP.cons
      all_goals first | exact trivial | exact id | exact fun _ => rfl | exact Nat.le_of_ble_eq_true rfl | exact fun _ => Nat.le_of_ble_eq_true rfl | exact in_t _ _ _ | exact (in_t _ _ _).un | exact (by simp only [Ob.of, inR]; omega) | exact gq_f | exact fun h => hwg (g4 h).2.1 | exact fun h => (hwi (g4 h).2.1).1 | exact fun h => takes_t d (tWk d t) t.lot t.hour false (tLot d t) hd (hli (g4 h).1).1 (hli (g4 h).1).2 (wkOk_iff (hwk (g4 h).2.1)).1.1
    case zk =>
    refine Aw.cond rfl (fun h4 => ?_) (fun h4 => Aw.skip ?_)
    · have h4 : rBad d t = true := h4
      rw [if_pos h4] at hrun
      subst hrun
      refine Aw.sm tab_ok mb0 [] rfl rfl ?zo ?zk
      case zo =>
        repeat' apply AllP.cons
        all_goals first | exact trivial
      case zk =>
      exact Aw.ret ⟨_, .cons (.tmp _) (.cons (.tmp _) (.cons (.tmp _) .nil)), by simp only [rPlanR, hok, hplan]; rfl⟩
    have h4 : rBad d t = false := h4
    have h4b : rBad4 d t = false := by
      unfold rBad at h4
      cases e : rBad4 d t with
      | false => rfl
      | true => rw [e] at h4; cases h4
    obtain ⟨k1, k2, k3, k4⟩ := bad4_no h4b
    have k4' := wi_iff.1 k4
    rw [h4, if_neg (by decide)] at hrun
    refine Aw.sm tab_ok mb0 [] rfl rfl ?zo ?zk
    case zo =>
      repeat' apply AllP.cons
      all_goals first | exact trivial | exact Nat.le_of_ble_eq_true rfl | exact (by simp only [Ob.of, inR]; omega)
    case zk =>
    refine Aw.sm tab_ok mb0 [] rfl rfl ?zo ?zk
    case zo =>
      repeat' apply AllP.cons
      all_goals first | exact trivial
    case zk =>
    refine Aw.seq ?_
    refine Aw.sm tab_ok mb0 [] rfl rfl ?zo ?zk
    case zo =>
      repeat' apply AllP.cons
      all_goals first | exact trivial
    case zk =>
    have hall1 : ∀ x ∈ pl.take (i + 1), 1 ≤ x.crans ∧ x.crans ≤ 50 := fun x hx => by
      rw [htk1] at hx
      rcases List.mem_append.1 hx with h | h
      · exact hall x h
      · simp at h; subst h; exact k4'
    have hmem : ∀ k, k ≤ i + 1 → ∀ x ∈ pl.take k, 1 ≤ x.crans ∧ x.crans ≤ 50 := fun k hk x hx => hall1 x (by
      have : pl.take k = (pl.take (i + 1)).take k := by rw [List.take_take, Nat.min_eq_left hk]
      rw [this] at hx; exact List.mem_of_mem_take hx)
    have hofb : ∀ k, k ≤ i + 1 → 0 ≤ ofL (pl.take k) t ∧ ofL (pl.take k) t ≤ 20000 := fun k hk => sum_bd2 (fun x hx => by have := hmem k hk x hx; unfold ofT; split <;> omega) (by rw [List.length_take]; omega)
    have hbyb : ∀ k, k ≤ i + 1 → 0 ≤ byL (pl.take k) t ∧ byL (pl.take k) t ≤ 20000 := fun k hk => sum_bd2 (fun x hx => by have := hmem k hk x hx; unfold byT'; split <;> omega) (by rw [List.length_take]; omega)
    have h1E : ∀ id, 1 ≤ id → E.φ0 id = none := fun id h => hE id (by omega)
    refine Aw.block (Aw.rounds 1 h1E [(1, .sl b .any (pl.map Task.c)), (2, .pt d.c), (8, .int (c0 - cT - t.crans)), (9, .int i), (10, .ref 0 0)] (fun k : Nat => [(11, .int (ofL (pl.take k) t)), (12, .int (byL (pl.take k) t)), (13, .int k)]) (fun _ => [(0, .cells t.c)]) (fun k => k ≤ i + 1) (fun k => i + 1 - k) 0
      (Nat.zero_le _) ⟨⟨.refl _, .refl _, .refl _, .refl _, .refl _, trivial⟩, ⟨.refl _, .refl _, .refl _, trivial⟩, ⟨rfl, trivial⟩, Nat.le_of_ble_eq_true rfl⟩ ⟨hpf.under, udc1, .s _, .s _, .ref _ _ (by decide), trivial⟩ (fun _ _ => ⟨.s _, .s _, .s _, trivial⟩) (fun _ _ => ⟨⟨by decide, .cells _ fun x hx => (t.free x hx).under⟩, trivial⟩) fun k hk => ?_)
    refine Aw.seq ?_
    refine Aw.sm tab_ok mb0 [] rfl rfl ?zo ?zk
    case zo =>
      repeat' apply AllP.cons
      all_goals first | exact trivial
    case zk =>
    refine Aw.cond rfl (fun h5 => Aw.skip ?_) (fun h5 => ?_)
    · have hki : k < i + 1 := by have := of_decide_eq_true h5; omega
      have hlk : k < pl.length := by omega
      have ho : ofL (pl.take (k + 1)) t = ofL (pl.take k) t + ofT t pl[k] := take_map_succ hlk _
      have hb : byL (pl.take (k + 1)) t = byL (pl.take k) t + byT' t pl[k] := take_map_succ hlk _
      have hgk := get_map (f := Task.c) hlk
      have o1 := hofb k hk
      have o2 := hofb (k + 1) hki
      have b1 := hbyb k hk
      have b2 := hbyb (k + 1) hki
      generalize pl[k] = x at *
      generalize ofL (pl.take k) t = s1 at *
      generalize byL (pl.take k) t = s2 at *
      have inrx : inR ((k : Int) + 1) := by simp only [inR]; omega
      refine Aw.seq (Aw.block ?_)
      refine Aw.seq ?_
      refine Aw.sd tab_ok mixed mb0 [(2, x.c)] rfl (by kernel_rfl) rfl rfl ?zo ?zk
      case zo =>
        repeat' apply AllP.cons
        all_goals first | exact trivial | exact rfl | exact Nat.le_of_ble_eq_true rfl | exact Int.natCast_nonneg _ | exact hgk
      case zk =>
      refine Aw.cond rfl (fun h6 => ?_) (fun h6 => Aw.skip ?_)
      · have h6 : (x.lot == t.lot) = true := h6
        have e1 : ofT t x = x.crans := by unfold ofT; rw [if_pos h6]
        rw [e1] at ho
        refine Aw.em tab_ok mb0 [(3, x.c)] rfl rfl ?zo ?zk
        case zo =>
          repeat' apply AllP.cons
          all_goals first | exact trivial | exact rfl | exact Nat.le_of_ble_eq_true rfl | exact Int.natCast_nonneg _ | exact hgk | exact (by simp only [Ob.of, inR]; omega)
        case zk =>
        refine Aw.sd tab_ok mixed mb0 [(2, x.c), (11, x.c)] rfl (by kernel_rfl) rfl rfl ?zo ?zk
        case zo =>
          repeat' apply AllP.cons
          all_goals first | exact trivial | exact id | exact rfl | exact fun _ => rfl | exact Nat.le_of_ble_eq_true rfl | exact fun _ => Nat.le_of_ble_eq_true rfl | exact Int.natCast_nonneg _ | exact fun _ => Int.natCast_nonneg _ | exact hgk | exact fun _ => hgk
        case zk =>
        refine Aw.cond rfl (fun h7 => ?_) (fun h7 => Aw.skip ?_)
        · have h7 : cond (x.worker == t.worker) (x.hour == t.hour) false = true := h7
          have e2 : byT' t x = x.crans := by unfold byT'; rw [if_pos h7]
          rw [e2] at hb
          refine Aw.em tab_ok mb0 [(3, x.c)] rfl rfl ?zo ?zk
          case zo =>
            repeat' apply AllP.cons
            all_goals first | exact trivial | exact rfl | exact Nat.le_of_ble_eq_true rfl | exact Int.natCast_nonneg _ | exact hgk | exact (by simp only [Ob.of, inR]; omega)
          case zk =>
          refine Aw.em tab_ok mb0 [] rfl rfl ?zo ?zk
          case zo =>
            repeat' apply AllP.cons
            all_goals first | exact trivial | exact inrx
          case zk =>
          exact ⟨k + 1, hki, by omega, ⟨.refl _, .refl _, .refl _, .refl _, .refl _, trivial⟩, ⟨.of_eq (by rw [ho]; rfl), .of_eq (by rw [hb]; rfl), .refl _, trivial⟩, ⟨rfl, trivial⟩, Nat.le_of_ble_eq_true rfl⟩
        · have h7 : cond (x.worker == t.worker) (x.hour == t.hour) false = false := h7
          have e2 : byT' t x = 0 := by unfold byT'; rw [h7]; rfl
          rw [e2, Int.add_zero] at hb
          refine Aw.em tab_ok mb0 [] rfl rfl ?zo ?zk
          case zo =>
            repeat' apply AllP.cons
            all_goals first | exact trivial | exact inrx
          case zk =>
          exact ⟨k + 1, hki, by omega, ⟨.refl _, .refl _, .refl _, .refl _, .refl _, trivial⟩, ⟨.of_eq (by rw [ho]; rfl), .of_eq (by rw [hb]; rfl), .refl _, trivial⟩, ⟨rfl, trivial⟩, Nat.le_of_ble_eq_true rfl⟩
      · have h6 : (x.lot == t.lot) = false := h6
        have e1 : ofT t x = 0 := by unfold ofT; rw [h6]; rfl
        rw [e1, Int.add_zero] at ho
        refine Aw.sd tab_ok mixed mb0 [(2, x.c), (11, x.c)] rfl (by kernel_rfl) rfl rfl ?zo ?zk
        case zo =>
          repeat' apply AllP.cons
          all_goals first | exact trivial | exact id | exact rfl | exact fun _ => rfl | exact Nat.le_of_ble_eq_true rfl | exact fun _ => Nat.le_of_ble_eq_true rfl | exact Int.natCast_nonneg _ | exact fun _ => Int.natCast_nonneg _ | exact hgk | exact fun _ => hgk
        case zk =>
        refine Aw.cond rfl (fun h7 => ?_) (fun h7 => Aw.skip ?_)
        · have h7 : cond (x.worker == t.worker) (x.hour == t.hour) false = true := h7
          have e2 : byT' t x = x.crans := by unfold byT'; rw [if_pos h7]
          rw [e2] at hb
          refine Aw.em tab_ok mb0 [(3, x.c)] rfl rfl ?zo ?zk
          case zo =>
            repeat' apply AllP.cons
            all_goals first | exact trivial | exact rfl | exact Nat.le_of_ble_eq_true rfl | exact Int.natCast_nonneg _ | exact hgk | exact (by simp only [Ob.of, inR]; omega)
          case zk =>
          refine Aw.em tab_ok mb0 [] rfl rfl ?zo ?zk
          case zo =>
            repeat' apply AllP.cons
            all_goals first | exact trivial | exact inrx
          case zk =>
          exact ⟨k + 1, hki, by omega, ⟨.refl _, .refl _, .refl _, .refl _, .refl _, trivial⟩, ⟨.of_eq (by rw [ho]; rfl), .of_eq (by rw [hb]; rfl), .refl _, trivial⟩, ⟨rfl, trivial⟩, Nat.le_of_ble_eq_true rfl⟩
        · have h7 : cond (x.worker == t.worker) (x.hour == t.hour) false = false := h7
          have e2 : byT' t x = 0 := by unfold byT'; rw [h7]; rfl
          rw [e2, Int.add_zero] at hb
          refine Aw.em tab_ok mb0 [] rfl rfl ?zo ?zk
          case zo =>
            repeat' apply AllP.cons
            all_goals first | exact trivial | exact inrx
          case zk =>
          exact ⟨k + 1, hki, by omega, ⟨.refl _, .refl _, .refl _, .refl _, .refl _, trivial⟩, ⟨.of_eq (by rw [ho]; rfl), .of_eq (by rw [hb]; rfl), .refl _, trivial⟩, ⟨rfl, trivial⟩, Nat.le_of_ble_eq_true rfl⟩
    have hki : k = i + 1 := by have := of_decide_eq_false h5; omega
    subst hki
    refine Aw.exit2 ?_
    refine Aw.sm tab_ok mb0 [(5, (tLot d t).c), (15, (tWk d t).c)] rfl rfl ?zo ?zk
    case zo =>
      repeat' apply AllP.cons
      all_goals first | exact trivial | exact id | exact rfl | exact fun _ => rfl | exact Nat.le_of_ble_eq_true rfl | exact fun _ => Nat.le_of_ble_eq_true rfl | exact hlg k1 | exact (hli k1).1 | exact fun _ => hwg k2 | exact fun _ => (hwi k2).1 | exact gq_f
    case zk =>
    refine Aw.cond rfl (fun h8 => ?_) (fun h8 => Aw.skip ?_)
    · have h8 : rOver d pl i t = true := h8
      rw [if_pos h8] at hrun
      subst hrun
      refine Aw.sm tab_ok mb0 [] rfl rfl ?zo ?zk
      case zo =>
        repeat' apply AllP.cons
        all_goals first | exact trivial
      case zk =>
      exact Aw.ret ⟨_, .cons (.tmp _) (.cons (.tmp _) (.cons (.tmp _) .nil)), by simp only [rPlanR, hok, hplan]; rfl⟩
    have h8 : rOver d pl i t = false := h8
    rw [h8, if_neg (by decide)] at hrun
    refine Aw.em tab_ok mb0 [] rfl rfl ?zo ?zk
    case zo =>
      repeat' apply AllP.cons
      all_goals first | exact trivial | exact (by simp only [Ob.of, inR]; omega)
    case zk =>
    exact ⟨i + 1, ⟨hlt, hall1, hrun⟩, by omega, ⟨.refl _, .refl _, trivial⟩, ⟨.of_eq (congrArg A.int (show _ = c0 - cT - t.crans by rw [hcT]; omega)), .refl _, trivial⟩, trivial, Nat.zero_le _⟩
  · have hend : i = pl.length := by have := of_decide_eq_false h3; omega
    subst hend
    rw [Nat.sub_self, rchk] at hrun
    subst hrun
    refine Aw.exit2 ?_
    refine Aw.sm tab_ok mb0 [] rfl rfl ?zo ?zk
    case zo =>
      repeat' apply AllP.cons
      all_goals first | exact trivial
    case zk =>
    exact Aw.ret ⟨_, .cons (.tmp _) (.cons (.tmp _) (.cons (.tmp _) .nil)), by simp only [rPlanR, hok, hplan]; rw [List.take_length]; rfl⟩
end Go.Proofs.Ytimikmfkdaoaaaa
namespace Go.Proofs.Ytimikmfkdaoaaaa
open Go Go.AL
theorem tLot_get {d : Day} {t : Task} (h : lotIn d t = true) : 0 ≤ t.lot ∧ t.lot.toNat < d.lots.length ∧ d.lots[t.lot.toNat]? = some (tLot d t) := by
  have := wi_iff.1 h
  simp only [List.length_map] at this
  have h5 : t.lot.toNat < d.lots.length := by omega
  exact ⟨this.1, h5, by unfold tLot; simp [List.getD_eq_getElem?_getD, h5]⟩
theorem tWk_get {d : Day} {t : Task} (h : wkIn d t = true) : 0 ≤ t.worker ∧ t.worker.toNat < d.wks.length ∧ d.wks[t.worker.toNat]? = some (tWk d t) := by
  have := wi_iff.1 h
  simp only [List.length_map] at this
  have h5 : t.worker.toNat < d.wks.length := by omega
  exact ⟨this.1, h5, by unfold tWk; simp [List.getD_eq_getElem?_getD, h5]⟩
theorem canT_is {d : Day} {t : Task} (h1 : lotIn d t = true) (h2 : wkIn d t = true) : canT (opened d Spn.hi) t = tCan d t := by
  have g1 := (tLot_get h1).2.2
  have g2 := (tWk_get h2).2.2
  have g3 := openU_get (f := Spn.hi) g1
  unfold canT tCan
  have e : (opened d Spn.hi).g = d := rfl
  rw [e, g1, g2, g3]; rfl
theorem tCan_hour {d : Day} (hd : DayOk d) {t : Task} (h2 : wkIn d t = true) (h : tCan d t = true) : hourIn d t = true := by
  have hw := wkOk_iff (hd.wks _ (List.mem_of_getElem? (tWk_get h2).2.2))
  have h3 := wi_iff.1 (ac2 (ac1 h))
  exact wi_iff.2 (by omega)
theorem bad_is {d : Day} (hd : DayOk d) (t : Task) : badT (opened d Spn.hi) t = rBad d t := by
  unfold badT rBad rBad4
  have e : (opened d Spn.hi).g = d := rfl
  rw [e]
  cases h1 : lotIn d t with
  | false => rfl
  | true =>
    cases h2 : wkIn d t with
    | false => rfl
    | true =>
      rw [canT_is h1 h2]
      cases h3 : tCan d t with
      | false => cases hourIn d t <;> cases wi t.crans 1 50 <;> rfl
      | true =>
        rw [tCan_hour hd h2 h3]
        cases wi t.crans 1 50 <;> rfl
def Good (d : Day) (t : Task) : Prop := lotIn d t = true ∧ wkIn d t = true ∧ hourIn d t = true
theorem slotP_inj {d : Day} {t x : Task} (ht : Good d t) (hx : Good d x) : slotP d t = slotP d x ↔ t.worker = x.worker ∧ t.hour = x.hour := by
  have t2 := (tWk_get ht.2.1).1
  have x2 := (tWk_get hx.2.1).1
  have t3 := wi_iff.1 ht.2.2
  have x3 := wi_iff.1 hx.2.2
  have h0 : 0 < d.hours.toNat := by omega
  have t4 : t.hour.toNat < d.hours.toNat := by omega
  have x4 : x.hour.toNat < d.hours.toNat := by omega
  unfold slotP
  constructor
  · intro h
    have q1 := congrArg (· / d.hours.toNat) h
    have q2 := congrArg (· % d.hours.toNat) h
    have dv : ∀ a b, b < d.hours.toNat → (a * d.hours.toNat + b) / d.hours.toNat = a := fun a b hb => by rw [Nat.mul_comm, Nat.mul_add_div h0, Nat.div_eq_of_lt hb]; rfl
    have md : ∀ a b, b < d.hours.toNat → (a * d.hours.toNat + b) % d.hours.toNat = b := fun a b hb => by rw [Nat.mul_comm, Nat.mul_add_mod, Nat.mod_eq_of_lt hb]
    have q1 : t.worker.toNat = x.worker.toNat := (dv _ _ t4).symm.trans (q1.trans (dv _ _ x4))
    have q2 : t.hour.toNat = x.hour.toNat := (md _ _ t4).symm.trans (q2.trans (md _ _ x4))
    omega
  · rintro ⟨h1, h2⟩; rw [h1, h2]
theorem busy_put (b : List (Nat × Int)) (p q : Nat) (v : Int) : busyAt (mput b p v) q = if p = q then v else busyAt b q := by
  unfold busyAt
  rw [mget_put]
  by_cases h : p = q <;> simp [h]
structure PInv (d : Day) (pre : List Task) (tk : List Int) (bs : List (Nat × Int)) : Prop where
  len : tk.length = d.lots.length
  good : ∀ x ∈ pre, Good d x
  of : ∀ t, Good d t → tk.getD t.lot.toNat 0 = ofL pre t
  by' : ∀ t, Good d t → busyAt bs (slotP d t) = byL pre t
  sum : tk.sum = crT pre
theorem PInv.next {d : Day} {pre : List Task} {tk : List Int} {bs : List (Nat × Int)} (h : PInv d pre tk bs) {t : Task} (ht : Good d t) :
    PInv d (pre ++ [t]) (tk.set t.lot.toNat (tk.getD t.lot.toNat 0 + t.crans)) (mput bs (slotP d t) (busyAt bs (slotP d t) + t.crans)) := by
  have hlt : t.lot.toNat < tk.length := by rw [h.len]; exact (tLot_get ht.1).2.1
  refine ⟨by rw [List.length_set]; exact h.len, fun x hx => ?_, fun x hx => ?_, fun x hx => ?_, ?_⟩
  · rcases List.mem_append.1 hx with h1 | h1
    · exact h.good x h1
    · simp at h1; subst h1; exact ht
  · rw [getD_set' _ _ _ _ hlt]
    have e : ofL (pre ++ [t]) x = ofL pre x + ofT x t := by unfold ofL; rw [List.map_append, List.sum_append]; simp
    rw [e, ← h.of x hx]
    have := (tLot_get ht.1).1
    have := (tLot_get hx.1).1
    unfold ofT
    by_cases e1 : t.lot = x.lot
    · rw [if_pos (by rw [e1]), if_pos (by simp [e1]), e1]
    · rw [if_neg (by omega), if_neg (by simp [e1])]; omega
  · rw [busy_put]
    have e : byL (pre ++ [t]) x = byL pre x + byT' x t := by unfold byL; rw [List.map_append, List.sum_append]; simp
    rw [e, ← h.by' x hx]
    have hi := slotP_inj ht hx
    unfold byT'
    by_cases e1 : slotP d t = slotP d x
    · rw [if_pos e1, if_pos (by simp [hi.1 e1]), e1]
    · rw [if_neg e1]
      have : cond (t.worker == x.worker) (t.hour == x.hour) false = false := by
        cases e2 : cond (t.worker == x.worker) (t.hour == x.hour) false with
        | false => rfl
        | true => rw [c_and, Bool.and_eq_true, beq_iff_eq, beq_iff_eq] at e2; exact absurd (hi.2 e2) e1
      rw [this, if_neg (by decide)]; omega
  · rw [sum_set _ _ _ hlt, h.sum]
    unfold crT
    rw [List.map_append, List.sum_append]; simp; omega
theorem chk_is {d : Day} (hd : DayOk d) (pl : List Task) : ∀ (m i : Nat) (tk : List Int) (bs : List (Nat × Int)), i + m = pl.length → PInv d (pl.take i) tk bs →
    (chkF (opened d Spn.hi) (pl.drop i) tk bs).map List.sum = if rchk d pl m i then some (crT pl) else none
  | 0, i, tk, bs, hm, h => by
    rw [List.drop_eq_nil_of_le (by omega), chkF, rchk]
    have := h.sum
    rw [List.take_of_length_le (by omega)] at this
    simp [this]
  | m + 1, i, tk, bs, hm, h => by
    have hlt : i < pl.length := by omega
    rw [List.drop_eq_getElem_cons hlt, chkF, rchk, List.getElem?_eq_getElem hlt]
    have htk1 : pl.take (i + 1) = pl.take i ++ [pl[i]] := List.take_succ_eq_append_getElem hlt
    simp only
    have hov : ∀ t, pl[i] = t → Good d t → (tk.getD t.lot.toNat 0 + t.crans > cransAt d t ∨ busyAt bs (slotP d t) + t.crans > wkRate d t ↔ rOver d pl i t = true) := fun t et hg => by
      have g1 := (tLot_get hg.1).2.2
      have g2 := (tWk_get hg.2.1).2.2
      unfold rOver cransAt wkRate
      rw [g1, g2, htk1, et]
      have e1 : ofL (pl.take i ++ [t]) t = ofL (pl.take i) t + t.crans := by unfold ofL; rw [List.map_append, List.sum_append]; simp [ofT]
      have e2 : byL (pl.take i ++ [t]) t = byL (pl.take i) t + t.crans := by unfold byL; rw [List.map_append, List.sum_append]; simp [byT']
      rw [e1, e2, h.of t hg, h.by' t hg]
      by_cases h1 : ofL (pl.take i) t + t.crans > (tLot d t).crans
      · simp [h1]
      · rw [decide_eq_false h1]; simp [h1]
    rw [bad_is hd]
    have e0 : (opened d Spn.hi).g = d := rfl
    rw [e0]
    by_cases hb : rBad d pl[i] = true
    · rw [if_pos hb]; simp [hb]
    · have hb' : rBad d pl[i] = false := by simpa using hb
      have h4 : rBad4 d pl[i] = false := by
        unfold rBad at hb'
        cases e : rBad4 d pl[i] with
        | false => rfl
        | true => rw [e] at hb'; cases hb'
      obtain ⟨k1, k2, k3, _⟩ := bad4_no h4
      have hg : Good d pl[i] := ⟨k1, k2, k3⟩
      rw [if_neg hb]
      simp only [hb', Bool.false_eq_true, if_false]
      by_cases ho : rOver d pl i pl[i] = true
      · rw [if_pos ((hov _ rfl hg).2 ho)]; simp [ho]
      · rw [if_neg (fun h1 => ho ((hov _ rfl hg).1 h1))]
        simp only [ho, if_false]
        exact chk_is hd pl m (i + 1) _ _ (by omega) (htk1 ▸ h.next hg)
theorem getD_rep (n i : Nat) : (List.replicate n (0 : Int)).getD i 0 = 0 := by
  rw [List.getD_eq_getElem?_getD, List.getElem?_replicate]; split <;> rfl
theorem plan_is {d : Day} (hd : DayOk d) (pl : List Task) : planV d pl = rPlanV d pl := by
  unfold planV rPlanV
  split
  · rfl
  · have h := chk_is hd pl pl.length 0 (List.replicate d.lots.length 0) [] (by omega) ⟨by simp, fun x hx => by simp at hx, fun t _ => by rw [getD_rep]; rfl, fun t _ => rfl, by simp [crT]⟩
    rw [List.drop_zero] at h
    cases e : chkF (opened d Spn.hi) pl (List.replicate d.lots.length 0) [] with
    | none =>
      rw [e] at h
      simp only [Option.map_none] at h
      split at h
      · cases h
      · rename_i h1; rw [if_neg h1]
    | some tk =>
      rw [e] at h
      simp only [Option.map_some] at h
      split at h
      · rename_i h1; rw [if_pos h1]; simp only [Option.some.injEq] at h; simp only [h]
      · cases h
theorem sum_filter (c : Nat → Bool) (g : Nat → Int) : ∀ n, (((List.range n).filter c).map g).sum = sumN n fun p => if c p then g p else 0
  | 0 => rfl
  | n + 1 => by
    rw [List.range_succ, List.filter_append, List.map_append, List.sum_append, sum_filter c g n, sumN]
    cases h : c n <;> simp [h]
theorem sum_range (g : Nat → Int) (n : Nat) : ((List.range n).map g).sum = sumN n g := by
  have := sum_filter (fun _ => true) g n
  rw [List.filter_eq_self.2 (fun _ _ => rfl)] at this
  simpa using this
section
variable {d : Day} {m : Ld} (hd : DayOk d) (hm : FOk (opened d Spn.hi) m)
include hm
theorem task_cond (p i : Nat) : ((!(ld m p == zeros8)) = true ∧ 0 < (ld m p).getD i 0) ↔ 0 < lod m p i := by
  constructor
  · exact fun h => h.2
  · intro h
    refine ⟨?_, h⟩
    cases e : (ld m p == zeros8) with
    | false => rfl
    | true =>
      have e : ld m p = zeros8 := by simpa using e
      unfold lod at h
      rw [e, (LOk.zero 0).no i (Nat.zero_le _)] at h
      omega
theorem tasks_sum {g : Task → Int} (hg : ∀ i p, lod m p i = 0 → g (taskAt d m i p) = 0) (i : Nat) : ∀ ps : List Nat, ((tasksF d m i ps).map g).sum = (ps.map fun p => g (taskAt d m i p)).sum
  | [] => rfl
  | p :: ps => by
    rw [tasksF, List.map_cons, List.sum_cons, ← tasks_sum hg i ps]
    by_cases h : 0 < lod m p i
    · rw [if_pos ((task_cond hm p i).2 h)]; rfl
    · rw [if_neg (fun h1 => h ((task_cond hm p i).1 h1)), hg i p (by have := lod_pos hm p i; omega)]; omega
theorem slots_sum {g : Task → Int} (hg : ∀ i p, lod m p i = 0 → g (taskAt d m i p) = 0) (i : Nat) : ((slotsOf (opened d Spn.hi) i).map fun p => g (taskAt d m i p)).sum = sumN (nP (opened d Spn.hi)) fun p => g (taskAt d m i p) := by
  have key : ∀ p, p ∉ slotsOf (opened d Spn.hi) i → g (taskAt d m i p) = 0 := fun p hp => hg i p (by
    have h1 := lod_pos hm p i
    have : ¬ 0 < lod m p i := fun h => hp (hm.can p i h)
    omega)
  have hex : ∃ c : Nat → Bool, slotsOf (opened d Spn.hi) i = (List.range (nP (opened d Spn.hi))).filter c := by
    unfold slotsOf
    split
    · exact ⟨_, rfl⟩
    · exact ⟨fun _ => false, by simp⟩
  obtain ⟨c, hc⟩ := hex
  rw [hc] at key ⊢
  rw [sum_filter]
  refine sumN_congr fun p hp => ?_
  cases h : c p with
  | true => simp
  | false =>
    rw [key p (fun h1 => by have := (List.mem_filter.1 h1).2; rw [h] at this; cases this)]
    simp
theorem plan_sum {g : Task → Int} (hg : ∀ i p, lod m p i = 0 → g (taskAt d m i p) = 0) : ∀ is : List Nat, ((planL (opened d Spn.hi) m is).map g).sum = (is.map fun i => sumN (nP (opened d Spn.hi)) fun p => g (taskAt d m i p)).sum
  | [] => rfl
  | i :: is => by
    rw [planL, List.map_append, List.sum_append, plan_sum hg is, List.map_cons, List.sum_cons, ← slots_sum hm hg i]
    have e : (opened d Spn.hi).g = d := rfl
    rw [e, tasks_sum hm hg i]
theorem tasks_mem {i : Nat} {t : Task} : ∀ {ps : List Nat}, t ∈ tasksF d m i ps → ∃ p, p ∈ ps ∧ t = taskAt d m i p ∧ 0 < lod m p i
  | [], h => by cases h
  | p :: ps, h => by
    rw [tasksF] at h
    split at h
    · rename_i hc
      rcases List.mem_cons.1 h with rfl | h
      · exact ⟨p, List.mem_cons_self .., rfl, hc.2⟩
      · obtain ⟨q, h1, h2⟩ := tasks_mem h
        exact ⟨q, List.mem_cons_of_mem _ h1, h2⟩
    · obtain ⟨q, h1, h2⟩ := tasks_mem h
      exact ⟨q, List.mem_cons_of_mem _ h1, h2⟩
theorem plan_mem {t : Task} : ∀ {is : List Nat}, t ∈ planL (opened d Spn.hi) m is → ∃ i p, p ∈ slotsOf (opened d Spn.hi) i ∧ t = taskAt d m i p ∧ 0 < lod m p i
  | [], h => by cases h
  | i :: is, h => by
    rw [planL] at h
    rcases List.mem_append.1 h with h | h
    · obtain ⟨p, h1, h2, h3⟩ := tasks_mem hm h
      exact ⟨i, p, h1, h2, h3⟩
    · exact plan_mem h
end
theorem plan_inv {d : Day} (hd : DayOk d) (f : Spn → Int) : DInv (cd := opened d f) (crN (opened d f)) (doneF (opened d f)) :=
  done_inv (cd := opened d f) hd.nl (rate_ge hd) (rate_le hd) (fun l hl => by have := (lotOk_iff (hd.lots l hl)).1; omega)
theorem cransOf_sumN (d : Day) (u : List Int) : cransOf d = sumN d.lots.length (crN ⟨d, u⟩) := by
  unfold cransOf
  rw [sum_sumN, List.length_map]
  refine sumN_congr fun i hi => ?_
  unfold crN
  simp [List.getD_eq_getElem?_getD, hi]
structure TOk (d : Day) (m : Ld) (t : Task) (i p : Nat) : Prop where
  slot : p ∈ slotsOf (opened d Spn.hi) i
  is : t = taskAt d m i p
  pos : 0 < lod m p i
theorem best_mem {d : Day} (hd : DayOk d) {t : Task} (h : t ∈ planF d) : ∃ i p, TOk d (doneF (opened d Spn.hi)).1 t i p := by
  obtain ⟨i, p, h1, h2, h3⟩ := plan_mem (plan_inv hd Spn.hi).ok h
  exact ⟨i, p, h1, h2, h3⟩
theorem best_sum {d : Day} (hd : DayOk d) {g : Task → Int} (hg : ∀ i p, lod (doneF (opened d Spn.hi)).1 p i = 0 → g (taskAt d (doneF (opened d Spn.hi)).1 i p) = 0) :
    ((planF d).map g).sum = sumN d.lots.length fun i => sumN (nP (opened d Spn.hi)) fun p => g (taskAt d (doneF (opened d Spn.hi)).1 i p) := by
  unfold planF
  rw [plan_sum (plan_inv hd Spn.hi).ok hg, sum_range]
theorem TOk.good {d : Day} (hd : DayOk d) {m : Ld} (hm : FOk (opened d Spn.hi) m) {t : Task} {i p : Nat} (h : TOk d m t i p) : rBad d t = false ∧ Good d t ∧ t.lot = i ∧ t.worker = ((p / d.hours.toNat : Nat) : Int) ∧ t.hour = ((p % d.hours.toNat : Nat) : Int) ∧ t.crans = lod m p i := by
  obtain ⟨h1, rfl, h3⟩ := h
  have hh := hd.hours
  have h0 : 0 < d.hours.toNat := by omega
  obtain ⟨hp, hi⟩ := slotsOf_lt _ h1
  have hp : p < d.wks.length * d.hours.toNat := hp
  have hi : i < d.lots.length := hi
  have hw : p / d.hours.toNat < d.wks.length := Nat.div_lt_of_lt_mul (by rw [Nat.mul_comm]; exact hp)
  have hm2 : p % d.hours.toNat < d.hours.toNat := Nat.mod_lt _ h0
  have a1 : lotIn d (taskAt d m i p) = true := wi_iff.2 (by simp only [taskAt, List.length_map]; omega)
  have a2 : wkIn d (taskAt d m i p) = true := wi_iff.2 (show (0 : Int) ≤ ((p / d.hours.toNat : Nat) : Int) ∧ ((p / d.hours.toNat : Nat) : Int) ≤ ((d.wks.map Wk.c).length : Int) - 1 by rw [List.length_map]; generalize p / d.hours.toNat = q at *; omega)
  have a3 : hourIn d (taskAt d m i p) = true := wi_iff.2 (show (0 : Int) ≤ ((p % d.hours.toNat : Nat) : Int) ∧ ((p % d.hours.toNat : Nat) : Int) ≤ d.hours - 1 by generalize p % d.hours.toNat = q at *; omega)
  have hs := sum_ge (hm.lok p).pos i
  have hr := (hm.lok p).sum
  have a4 : wi (taskAt d m i p).crans 1 50 = true := wi_iff.2 (by
    have e : (taskAt d m i p).crans = lod m p i := rfl
    rw [e]; unfold lod at *; omega)
  have a5 : tCan d (taskAt d m i p) = true := by
    have h2 := slots_has hd Spn.hi (p / d.hours.toNat) (p % d.hours.toNat) hw hm2 i
    rw [Nat.mul_comm, Nat.div_add_mod] at h2
    rw [List.contains_iff_mem.2 h1] at h2
    have g1 : d.lots[(i : Int).toNat]? = some (tLot d (taskAt d m i p)) := (tLot_get a1).2.2
    unfold canLot at h2
    rw [g1] at h2
    exact h2.symm
  refine ⟨?_, ⟨a1, a2, a3⟩, rfl, rfl, rfl, rfl⟩
  unfold rBad rBad4
  rw [a1, a2, a3, a4, a5]; rfl
theorem sum_take_le {α : Type} {l : List α} {g : α → Int} (h : ∀ x ∈ l, 0 ≤ g x) (n : Nat) : ((l.take n).map g).sum ≤ (l.map g).sum := by
  have e : (l.map g).sum = ((l.take n).map g).sum + ((l.drop n).map g).sum := by
    rw [← List.sum_append, ← List.map_append, List.take_append_drop]
  have : 0 ≤ ((l.drop n).map g).sum := by
    have key : ∀ k : List α, (∀ x ∈ k, 0 ≤ g x) → 0 ≤ (k.map g).sum := fun k hk => by
      induction k with
      | nil => simp
      | cons a k ih => have := hk a (by simp); have := ih fun x hx => hk x (by simp [hx]); simp only [List.map_cons, List.sum_cons]; omega
    exact key _ fun x hx => h x (List.mem_of_mem_drop hx)
  omega
theorem best_of {d : Day} (hd : DayOk d) (t : Task) (h0 : 0 ≤ t.lot) (h1 : t.lot.toNat < d.lots.length) : ofL (planF d) t = tot (opened d Spn.hi) (doneF (opened d Spn.hi)).1 t.lot.toNat := by
  unfold ofL
  rw [best_sum hd (fun i p h => by unfold ofT; split; exact h; rfl)]
  rw [← sumN_one (n := d.lots.length) (k := t.lot.toNat) (tot (opened d Spn.hi) (doneF (opened d Spn.hi)).1 t.lot.toNat) h1]
  refine sumN_congr fun i hi => ?_
  unfold ofT tot
  by_cases e : i = t.lot.toNat
  · rw [if_pos e]
    subst e
    refine sumN_congr fun p _ => ?_
    rw [if_pos (by simp [taskAt]; omega)]; rfl
  · rw [if_neg e]
    refine sumN_zero' fun p _ => ?_
    rw [if_neg (by simp [taskAt]; omega)]
theorem best_by {d : Day} (hd : DayOk d) (t : Task) (hg : Good d t) : byL (planF d) t = (ld (doneF (opened d Spn.hi)).1 (slotP d t)).sum := by
  have hm := (plan_inv hd Spn.hi).ok
  unfold byL
  rw [best_sum hd (fun i p h => by unfold byT'; split; exact h; rfl), sumN_comm]
  have g2 := tWk_get hg.2.1
  have g3 := wi_iff.1 hg.2.2
  have hh := hd.hours
  have h0 : 0 < d.hours.toNat := by omega
  have hsl : slotP d t < nP (opened d Spn.hi) := by
    show t.worker.toNat * d.hours.toNat + t.hour.toNat < d.wks.length * d.hours.toNat
    have : (t.worker.toNat + 1) * d.hours.toNat ≤ d.wks.length * d.hours.toNat := Nat.mul_le_mul_right _ g2.2.1
    rw [Nat.succ_mul] at this; omega
  rw [← sumN_one (n := nP (opened d Spn.hi)) (k := slotP d t) (ld (doneF (opened d Spn.hi)).1 (slotP d t)).sum hsl]
  refine sumN_congr fun p hp => ?_
  have hiff : (cond ((taskAt d (doneF (opened d Spn.hi)).1 0 p).worker == t.worker) ((taskAt d (doneF (opened d Spn.hi)).1 0 p).hour == t.hour) false = true) ↔ p = slotP d t := by
    rw [c_and, Bool.and_eq_true, beq_iff_eq, beq_iff_eq]
    show ((p / d.hours.toNat : Nat) : Int) = t.worker ∧ ((p % d.hours.toNat : Nat) : Int) = t.hour ↔ _
    unfold slotP
    have hdm := Nat.div_add_mod p d.hours.toNat
    have t4 : t.hour.toNat < d.hours.toNat := by omega
    constructor
    · rintro ⟨h1, h2⟩
      have e1 : p / d.hours.toNat = t.worker.toNat := by omega
      have e2 : p % d.hours.toNat = t.hour.toNat := by omega
      rw [e1, e2] at hdm
      rw [Nat.mul_comm]; exact hdm.symm
    · intro h
      rw [h, Nat.mul_comm, Nat.mul_add_div h0, Nat.div_eq_of_lt t4, Nat.mul_add_mod, Nat.mod_eq_of_lt t4]
      omega
  by_cases e : p = slotP d t
  · rw [if_pos e]
    have := lod_sum hm hd.nl (slotP d t)
    rw [← this]
    refine sumN_congr fun i hi => ?_
    show (if cond ((taskAt d (doneF (opened d Spn.hi)).1 0 p).worker == t.worker) ((taskAt d (doneF (opened d Spn.hi)).1 0 p).hour == t.hour) false then (taskAt d (doneF (opened d Spn.hi)).1 i p).crans else 0) = _
    rw [if_pos (hiff.2 e), ← e]; rfl
  · rw [if_neg e]
    refine sumN_zero' fun i _ => ?_
    show (if cond ((taskAt d (doneF (opened d Spn.hi)).1 0 p).worker == t.worker) ((taskAt d (doneF (opened d Spn.hi)).1 0 p).hour == t.hour) false then (taskAt d (doneF (opened d Spn.hi)).1 i p).crans else 0) = _
    rw [if_neg (fun h => e (hiff.1 h))]
theorem best_cr {d : Day} (hd : DayOk d) : crT (planF d) = sumN d.lots.length (tot (opened d Spn.hi) (doneF (opened d Spn.hi)).1) := by
  unfold crT
  rw [best_sum hd (fun i p h => h)]
  rfl
theorem best_pos {d : Day} (hd : DayOk d) : ∀ t ∈ planF d, 1 ≤ t.crans ∧ t.crans ≤ 20 := fun t ht => by
  have hm := (plan_inv hd Spn.hi).ok
  obtain ⟨i, p, h⟩ := best_mem hd ht
  have := (h.good hd hm).2.2.2.2.2
  have := h.pos
  have hs := sum_ge (hm.lok p).pos i
  have hr := (hm.lok p).sum
  unfold lod at *
  omega
theorem lost_sum {d : Day} (hd : DayOk d) : lostE d Spn.hi = cransOf d - crT (planF d) := by
  have h := (plan_inv hd Spn.hi).lost
  unfold lostE
  rw [h, best_cr hd, cransOf_sumN d (opened d Spn.hi).u, ← sumN_sub]
  rfl
theorem best_len {d : Day} (hd : DayOk d) : (planF d).length ≤ 400 := by
  have h1 : ∀ l : List Task, (∀ t ∈ l, 1 ≤ t.crans) → (l.length : Int) ≤ crT l := fun l hl => by
    induction l with
    | nil => simp [crT]
    | cons a l ih =>
      have := ih fun t ht => hl t (List.mem_cons_of_mem _ ht)
      have := hl a (List.mem_cons_self ..)
      simp only [crT, List.map_cons, List.sum_cons, List.length_cons] at *
      omega
  have h2 := h1 (planF d) fun t ht => (best_pos hd t ht).1
  have h3 := lost_sum hd
  have h4 : 0 ≤ lostE d Spn.hi := by
    rw [lost_gre hd]
    exact (gre_inv d Spn.hi d.wks _).pos
  have h5 := crans_bd hd d.lots.length
  unfold cransL at h5
  rw [List.take_length] at h5
  have h5 : 0 ≤ cransOf d ∧ cransOf d ≤ 400 := h5
  omega
theorem best_over {d : Day} (hd : DayOk d) {t : Task} (ht : t ∈ planF d) : ofL (planF d) t ≤ (tLot d t).crans ∧ byL (planF d) t ≤ (tWk d t).rate := by
  have inv := plan_inv hd Spn.hi
  obtain ⟨i, p, h⟩ := best_mem hd ht
  obtain ⟨_, hg, _⟩ := h.good hd inv.ok
  have g1 := tLot_get hg.1
  have g2 := tWk_get hg.2.1
  constructor
  · rw [best_of hd t g1.1 g1.2.1]
    have := inv.le t.lot.toNat
    have e : crN (opened d Spn.hi) t.lot.toNat = (tLot d t).crans := by unfold crN; rw [show (opened d Spn.hi).g = d from rfl, g1.2.2]
    omega
  · rw [best_by hd t hg]
    have h1 := inv.ok.rate (slotP d t)
    have g3 := wi_iff.1 hg.2.2
    have e : rateAt (opened d Spn.hi).g (slotP d t) = (tWk d t).rate := by
      show rateAt d (t.worker.toNat * d.hours.toNat + t.hour.toNat) = _
      rw [rate_at hd (by omega)]; rfl
    omega
theorem best_chk {d : Day} (hd : DayOk d) : ∀ m i, rchk d (planF d) m i = true
  | 0, _ => rfl
  | m + 1, i => by
    rw [rchk]
    cases h : (planF d)[i]? with
    | none => rfl
    | some t =>
      have ht := List.mem_of_getElem? h
      obtain ⟨j, p, hk⟩ := best_mem hd ht
      obtain ⟨h1, hg, _⟩ := hk.good hd (plan_inv hd Spn.hi).ok
      have ho := best_over hd ht
      have hpos : ∀ x ∈ planF d, 0 ≤ x.crans := fun x hx => by have := best_pos hd x hx; omega
      have o1 := sum_take_le (l := planF d) (g := ofT t) (fun x hx => by unfold ofT; split; exact hpos x hx; exact Int.le_refl _) (i + 1)
      have o2 := sum_take_le (l := planF d) (g := byT' t) (fun x hx => by unfold byT'; split; exact hpos x hx; exact Int.le_refl _) (i + 1)
      have hov : rOver d (planF d) i t = false := by
        unfold rOver ofL byL at *
        rw [decide_eq_false (by omega), decide_eq_false (by omega)]; rfl
      simp only [h1, hov]
      exact best_chk hd m (i + 1)
theorem best_is {d : Day} (hd : DayOk d) : rPlanV d (planF d) = some (lostE d Spn.hi) := by
  unfold rPlanV
  rw [if_neg (by have := best_len hd; omega), if_pos (best_chk hd _ _), lost_sum hd]
end Go.Proofs.Ytimikmfkdaoaaaa
namespace Go.Proofs.Ytimikmfkdaoaaaa
open Go Go.AL
set_option maxRecDepth 100000 in
theorem eq47v (a b c d : Int) : pureRun Try.prog (Op.equal 47 (.agg #[.int .i64 a, .int .i64 b]) (.agg #[.int .i64 c, .int .i64 d])) = some (a == c && b == d) := by
  have h1 : pureRun Try.prog (underlying 47) = Try.prog.underlying 47 := rfl
  have h2 : pureRun Try.prog program = some Try.prog := rfl
  have h3 : Try.prog.stoodInHeld 47 = false := by kernel_rfl
  have p1 : ∀ x y : Value, pureRun Try.prog (part 3 #[x, y] 0) = some x := fun x y => rfl
  have p2 : ∀ x y : Value, pureRun Try.prog (part 3 #[x, y] 1) = some y := fun x y => rfl
  have pp : ∀ {α : Type} (x : α), pureRun Try.prog (pure x) = some x := fun x => rfl
  have u : Try.prog.underlying 47 = some (.struct #[⟨"Low", 3, 0, false, "", "", 0⟩, ⟨"High", 3, 1, false, "", "", 8⟩]) := by kernel_rfl
  rw [Op.equal, Op.maxDepth, show (10000 : Nat) = 9999 + 1 from rfl, Op.equalIn, pureRun_bind, h1, u]
  simp only [Option.bind_some, pureRun_bind, h2, h3]
  by_cases h : a = c
  · subst h
    by_cases h' : b = d
    · subst h'
      simp [pureRun_bind, p1, p2, eq3, pp]
    · have e : (b == d) = false := by simpa using h'
      simp [pureRun_bind, p1, p2, eq3, pp, e]
  · have e : (a == c) = false := by simpa using h
    simp [pureRun_bind, p1, eq3, pp, e]
theorem eg47 : Try.prog.eqGuardType Try.prog.depth 47 = false := by kernel_rfl
set_option maxRecDepth 100000 in
theorem eqSpn (x y : Operand) (a b c d : Int) : EqIs tab .eql 47 x y (.agg [.int a, .int b]) (.agg [.int c, .int d]) (a == c && b == d) := by
  refine ⟨.agg #[.int .i64 a, .int .i64 b], .agg #[.int .i64 c, .int .i64 d], rfl, rfl, (congrFun (congrFun (congrFun (congrFun (congrFun (congrFun (show tab.eqv = pureEq Try.prog from rfl) _) _) _) _) _) _).trans ?_⟩
  have hp : pureRun Try.prog program = some Try.prog := rfl
  have pp : ∀ {α : Type} (x : α), pureRun Try.prog (pure x) = some x := fun x => rfl
  have e1 : pureRun Try.prog (eqGuard .eql 47 x y (.agg #[.int .i64 a, .int .i64 b]) (.agg #[.int .i64 c, .int .i64 d])) = some () := by
    simp [eqGuard, pureRun_bind, hp, eg47, pp]
  have e2 : pureRun Try.prog (binOp .eql 47 (.agg #[.int .i64 a, .int .i64 b]) (.agg #[.int .i64 c, .int .i64 d])) = some (.bool (a == c && b == d)) := by
    have : binOp .eql 47 (.agg #[.int .i64 a, .int .i64 b]) (.agg #[.int .i64 c, .int .i64 d]) = (Op.equal 47 (.agg #[.int .i64 a, .int .i64 b]) (.agg #[.int .i64 c, .int .i64 d]) >>= fun b => pure (.bool b)) := rfl
    rw [this, pureRun_bind, eq47v]; rfl
  unfold pureEq
  rw [pureRun_bind, e1]
  exact e2
theorem leTup2 {a b c d : A} (h : A.Le a c) (k : A.Le b d) : A.Le (.tup [a, b]) (.tup [c, d]) := ⟨fun φ Z w v hv => by
  obtain ⟨vs, rfl, h1, h2⟩ := inv_tup hv
  exact .tup _ _ h1 fun i hi => by
    match i, hi with
    | 0, _ => exact h.1 _ _ _ _ (h2 0 (Nat.zero_lt_succ _))
    | 1, _ => exact k.1 _ _ _ _ (h2 1 (Nat.succ_lt_succ (Nat.zero_lt_succ _))), fun v p h => by simp [spareOf] at h⟩
theorem deficits_same (d : Day) (l : List Int) (hs : Small d) (b : Bool) (hw : (l.length : Int) ≤ 9223372036854775807) : ∃ x e, Ans Try.prog 25 [.agg d.c, .sl b .any (ints l)] (.tup [.int x, .int e]) ∧ Ans Try.prog 26 [.agg d.c, .sl b .any (ints l)] (.tup [.int x, .int e]) := by
  have h1 := Deficit_t d b l hs hw
  have h2 := rDeficit_t d b l hs hw
  unfold deficitR at h1
  unfold rDefR at h2
  by_cases hok : d.ok = true
  · by_cases hr : risingF (nLots d) (-1) l = true
    · rw [if_pos hok, if_pos hr] at h1 h2
      have hri := rising_in hr (Int.le_refl _) (by unfold nLots; omega)
      rw [deficit_is (.of hok) Spn.hi (fun i hi => by have := hri.1 i hi; omega)] at h1
      exact ⟨_, _, h1, h2⟩
    · rw [if_pos hok, if_neg hr] at h1 h2
      exact ⟨_, _, h1, h2⟩
  · rw [if_neg hok] at h1 h2
    exact ⟨_, _, h1, h2⟩
theorem proofs_same (d : Day) (hs : Small d) : ∃ l e, (l.length : Int) ≤ 8 ∧ Ans Try.prog 27 [.agg d.c] (.tup [outW l, .int e]) ∧ Ans Try.prog 28 [.agg d.c] (.tup [outW l, .int e]) := by
  have h1 := Proof_t d hs
  have h2 := rProof_t d hs
  unfold proofR at h1
  unfold rProofR at h2
  by_cases hok : d.ok = true
  · rw [if_pos hok] at h1 h2
    have hd := DayOk.of hok
    have e : proofV d = (greF d Spn.hi d.wks).2 := congrArg Prod.snd (proof_is hd Spn.hi)
    rw [e] at h1
    refine ⟨_, _, ?_, Ans_out h1 (leTup2 (outW_le _) (.refl _)), h2⟩
    have := gre_len d Spn.hi d.wks (2 ^ d.lots.length - 1)
    have := hd.nl
    unfold greF; omega
  · rw [if_neg hok] at h1 h2
    exact ⟨[], _, by simp, Ans_out h1 (leTup2 (outW_le _) (.refl _)), Ans_out h2 (leTup2 (outW_le _) (.refl _))⟩
theorem tolds_same (d : Day) (hs : Small d) : ∃ x y e, Ans Try.prog 30 [.agg d.c] (.tup [.agg [.int x, .int y], .int e]) ∧ Ans Try.prog 31 [.agg d.c] (.tup [.agg [.int x, .int y], .int e]) := by
  have h1 := told_t d hs
  have h2 := rTold_t d hs
  unfold toldR at h1
  unfold rToldR at h2
  by_cases hok : d.ok = true
  · rw [if_pos hok] at h1 h2
    rw [lost_gre (.of hok), lost_gre (.of hok)] at h1
    exact ⟨_, _, _, h1, h2⟩
  · rw [if_neg hok] at h1 h2
    exact ⟨_, _, _, h1, h2⟩
theorem beq_no' {x : Int} (h : (!(x == x)) = true) : False := by simp at h
set_option maxHeartbeats 1000000 in
theorem law_deficits (d : Day) (b : Bool) (l : List Int) (hs : Small d) (hw : (l.length : Int) ≤ 9223372036854775807) : Ans Try.prog 5 [.agg d.c, .sl b .any (ints l)] (.bool true) := by
  obtain ⟨x, e, h1, h2⟩ := deficits_same d l hs b hw
  obtain ⟨l2, e2, hl2, h3, h4⟩ := proofs_same d hs
  obtain ⟨u, v, e3, h5, h6⟩ := tolds_same d hs
  refine told Try.func5 rfl rfl (Pure.of tab_ok Try.func5 rfl Try.ntmps5 rfl (allC (.agg _ d.free) (all1 (free_ints _ _ _))) (allC (fun _ => rfl) (all1 (fun _ => rfl))) (by first | exact .s _ | assumption | exact .tup _ (by intro x hx; simp only [List.mem_cons, List.not_mem_nil, or_false] at hx; rcases hx with rfl | rfl | rfl | rfl <;> first | exact .s _ | (simp_all; done))) fun E hE => ?_)
  refine Aw.sm tab_ok mb0 [] rfl rfl ?zo ?zk
  case zo =>
    repeat' apply AllP.cons
    all_goals first | exact trivial
  case zk =>
  refine Aw.sm tab_ok mb0 [(2, [.tup [.int x, .int e]])] rfl rfl ?zo ?zk
  case zo =>
    repeat' apply AllP.cons
    all_goals first | exact trivial | exact Nat.le_of_ble_eq_true rfl | exact h1
  case zk =>
  refine Aw.sm tab_ok mb0 [(2, [.tup [.int x, .int e]])] rfl rfl ?zo ?zk
  case zo =>
    repeat' apply AllP.cons
    all_goals first | exact trivial | exact Nat.le_of_ble_eq_true rfl | exact h2
  case zk =>
  refine Aw.seq ?_
  refine Aw.sm tab_ok mb0 [] rfl rfl ?zo ?zk
  case zo =>
    repeat' apply AllP.cons
    all_goals first | exact trivial | exact id | exact fun _ => rfl | exact gq_f
  case zk =>
  refine Aw.cond rfl (fun h => absurd (show cond (!(x == x)) true (!(e == e)) = true from h) (by simp)) (fun _ => Aw.skip ?_)
  refine Aw.sm tab_ok mb0 [(1, [.tup [outW l2, .int e2]])] rfl rfl ?zo ?zk
  case zo =>
    repeat' apply AllP.cons
    all_goals first | exact trivial | exact Nat.le_of_ble_eq_true rfl | exact h3
  case zk =>
  refine Aw.sm tab_ok mb0 [(1, [.tup [outW l2, .int e2]])] rfl rfl ?zo ?zk
  case zo =>
    repeat' apply AllP.cons
    all_goals first | exact trivial | exact Nat.le_of_ble_eq_true rfl | exact h4
  case zk =>
  refine Aw.seq ?_
  refine Aw.sm tab_ok mb0 [(2, [.bool (l2 == l2)])] rfl rfl ?zo ?zk
  case zo =>
    repeat' apply AllP.cons
    all_goals first | exact trivial | exact id | exact fun _ => rfl | exact same_t _ _ l2 l2 (by omega) | exact gq_f
  case zk =>
  refine Aw.cond rfl (fun h => absurd (show cond (!(l2 == l2)) true (!(e2 == e2)) = true from h) (by simp)) (fun _ => Aw.skip ?_)
  refine Aw.sm tab_ok mb0 [(1, [.tup [.agg [.int u, .int v], .int e3]])] rfl rfl ?zo ?zk
  case zo =>
    repeat' apply AllP.cons
    all_goals first | exact trivial | exact rfl | exact Nat.le_of_ble_eq_true rfl | exact h5
  case zk =>
  refine Aw.sm tab_ok mb0 [(1, [.tup [.agg [.int u, .int v], .int e3]])] rfl rfl ?zo ?zk
  case zo =>
    repeat' apply AllP.cons
    all_goals first | exact trivial | exact rfl | exact Nat.le_of_ble_eq_true rfl | exact h6
  case zk =>
  refine Aw.sm tab_ok mb0 [(0, [.agg [.int u, .int v]]), (1, [.agg [.int u, .int v]]), (2, [.bool (u == u && v == v)]), (9, [.bool true])] rfl rfl ?zo ?zk
  case zo =>
    repeat' apply AllP.cons
    all_goals first | exact trivial | exact id | exact rfl | exact fun _ => rfl | exact Nat.le_of_ble_eq_true rfl | exact eqSpn _ _ _ _ _ _ | exact fun _ => works_t
  case zk =>
  refine Aw.ret ⟨_, .cons (.tmp _) .nil, ?_⟩
  show A.bool (cond (cond (u == u && v == v) (e3 == e3) false) true false) = .bool true
  simp
theorem gre_hire (d : Day) (w : Wk) (f : Spn → Int) (ws : List Wk) : ∀ j, gre (hire d w) f ws j = gre d f ws j
  | 0 => rfl
  | j + 1 => by rw [gre, gre, gre_hire d w f ws j]; rfl
theorem greF_hire (d : Day) (w : Wk) (f : Spn → Int) (ws : List Wk) : greF (hire d w) f ws = greF d f ws := gre_hire d w f ws _
theorem rHelp_is {d : Day} (hok : d.ok = true) : ∀ (ws : List Wk), (∀ w ∈ ws, isWorker w d.hours = true) → ∀ (i : Nat) (s : Int × Int), rHelp d ws i s = helpF d ws i s
  | [], _, _, _ => rfl
  | w :: ws, h, i, s => by
    have e : lostE (hire d w) Spn.hi = (greF d Spn.hi (d.wks ++ [w])).1 := (lost_gre (DayOk.hire hok (h w (List.mem_cons_self ..))) Spn.hi).trans (congrArg Prod.fst (greF_hire d w Spn.hi _))
    rw [rHelp, helpF, e]
    exact rHelp_is hok ws (fun y hy => h y (List.mem_cons_of_mem _ hy)) _ _
theorem helps_same (d : Day) (b : Bool) (ws : List Wk) (hs : Small d) (hw : (ws.length : Int) ≤ 9223372036854775807) : ∃ x y e, Ans Try.prog 32 [.agg d.c, .sl b .any (ws.map Wk.c)] (.tup [.int x, .int y, .int e]) ∧ Ans Try.prog 33 [.agg d.c, .sl b .any (ws.map Wk.c)] (.tup [.int x, .int y, .int e]) := by
  have h1 := help_t d b ws hs hw
  have h2 := rHelp_t d b ws hs hw
  unfold helpR at h1
  unfold rHelpR at h2
  by_cases hok : d.ok = true
  · by_cases hr : helpOk d ws = true
    · rw [if_pos hok, if_pos hr] at h1 h2
      rw [rHelp_is hok ws (List.all_eq_true.1 (ac2 hr))] at h2
      exact ⟨_, _, _, h1, h2⟩
    · rw [if_pos hok, if_neg hr] at h1 h2
      exact ⟨_, _, _, h1, h2⟩
  · rw [if_neg hok] at h1 h2
    exact ⟨_, _, _, h1, h2⟩
theorem law_helped (d : Day) (b : Bool) (ws : List Wk) (hs : Small d) (hw : (ws.length : Int) ≤ 9223372036854775807) : Ans Try.prog 6 [.agg d.c, .sl b .any (ws.map Wk.c)] (.bool true) := by
  obtain ⟨x, y, e, h1, h2⟩ := helps_same d b ws hs hw
  refine told Try.func6 rfl rfl (Pure.of tab_ok Try.func6 rfl Try.ntmps6 rfl (allC (.agg _ d.free) (all1 (free_map Wk.free _ _ _))) (allC (fun _ => rfl) (all1 (fun _ => rfl))) (by first | exact .s _ | assumption | exact .tup _ (by intro x hx; simp only [List.mem_cons, List.not_mem_nil, or_false] at hx; rcases hx with rfl | rfl | rfl | rfl <;> first | exact .s _ | (simp_all; done))) fun E hE => ?_)
  refine Aw.sm tab_ok mb0 [] rfl rfl ?zo ?zk
  case zo =>
    repeat' apply AllP.cons
    all_goals first | exact trivial
  case zk =>
  refine Aw.sm tab_ok mb0 [(2, [.tup [.int x, .int y, .int e]])] rfl rfl ?zo ?zk
  case zo =>
    repeat' apply AllP.cons
    all_goals first | exact trivial | exact Nat.le_of_ble_eq_true rfl | exact h1
  case zk =>
  refine Aw.sm tab_ok mb0 [(2, [.tup [.int x, .int y, .int e]])] rfl rfl ?zo ?zk
  case zo =>
    repeat' apply AllP.cons
    all_goals first | exact trivial | exact Nat.le_of_ble_eq_true rfl | exact h2
  case zk =>
  refine Aw.sm tab_ok mb0 [(14, [.bool true])] rfl rfl ?zo ?zk
  case zo =>
    repeat' apply AllP.cons
    all_goals first | exact trivial | exact id | exact fun _ => rfl | exact fun _ => works_t
  case zk =>
  refine Aw.ret ⟨_, .cons (.tmp _) .nil, ?_⟩
  show A.bool (cond (cond (cond (x == x) (y == y) false) (e == e) false) true false) = .bool true
  simp
end Go.Proofs.Ytimikmfkdaoaaaa
