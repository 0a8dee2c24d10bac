/- GutCooler holds: with less heat, a greater Keep, a greater Rate, or a worker more not more crans are lost, and lots keep as long, or longer. No condition. -/
import Derived.Test.YtimikmfkdaoaaaaK9
import Derived.Laws.IdiomArrays
set_option linter.all false
namespace Go.Proofs.Ytimikmfkdaoaaaa
open Go Go.AL
structure HInv (d : Day) (ws : List Wk) (k : Nat) (s : Int × Int) : Prop where
  none : k = 0 → s = (0, 0)
  wh : 0 < k → 0 ≤ s.1 ∧ s.1 < k ∧ ∃ w, ws[s.1.toNat]? = some w ∧ lostE (hire d w) Spn.hi = s.2
  least : ∀ (i : Nat) w, i < k → ws[i]? = some w → s.2 ≤ lostE (hire d w) Spn.hi
  first : ∀ (i : Nat) w, (i : Int) < s.1 → ws[i]? = some w → lostE (hire d w) Spn.hi ≠ s.2
theorem help_inv (d : Day) (ws : List Wk) : ∀ (l : List Wk) (k : Nat) (s : Int × Int), ws.drop k = l → HInv d ws k s → HInv d ws ws.length (helpF d l k s)
  | [], k, s, hk, h => by
    have hk := List.drop_eq_nil_iff.1 hk
    rw [helpF]
    by_cases e : k = ws.length
    · rw [← e]; exact h
    · refine ⟨fun h0 => h.none (Nat.eq_zero_of_not_pos fun hp => ?_), fun h0 => ?_, fun i w hi hw => h.least i w (by omega) hw, h.first⟩
      · obtain ⟨a, b, w, hw, _⟩ := h.wh hp
        have := (List.getElem?_eq_some_iff.1 hw).1; omega
      · obtain ⟨a, b, w, hw, hl⟩ := h.wh (by omega)
        have := (List.getElem?_eq_some_iff.1 hw).1
        exact ⟨a, by omega, w, hw, hl⟩
  | w :: l, k, s, hk, h => by
    have hlt : k < ws.length := by
      refine Nat.lt_of_not_le fun hle => ?_
      rw [List.drop_eq_nil_of_le hle] at hk; cases hk
    have hw : ws[k]? = some w := by
      have := congrArg (fun x => x[0]?) hk
      simpa using this
    rw [helpF]
    refine help_inv d ws l (k + 1) _ (by rw [← List.drop_drop, hk]; rfl) ?_
    by_cases hc : k = 0 ∨ lostE (hire d w) Spn.hi < s.2
    · rw [if_pos hc]
      refine ⟨fun h0 => by omega, fun _ => ⟨by simp, by simp; omega, w, by simpa using hw, rfl⟩, fun i x hi hx => ?_, fun i x hi hx => ?_⟩
      · by_cases e : i = k
        · subst e; rw [hw] at hx; cases hx; exact Int.le_refl _
        · rcases hc with h0 | h0
          · omega
          · have := h.least i x (by omega) hx
            show lostE (hire d w) Spn.hi ≤ _; omega
      · have hi : (i : Int) < (k : Int) := hi
        rcases hc with h0 | h0
        · omega
        · have := h.least i x (by omega) hx
          show _ ≠ lostE (hire d w) Spn.hi; omega
    · rw [if_neg hc]
      have hk0 : 0 < k := by omega
      refine ⟨fun h0 => by omega, fun _ => ?_, fun i x hi hx => ?_, h.first⟩
      · obtain ⟨a, b, w, hw, hl⟩ := h.wh hk0
        exact ⟨a, by omega, w, hw, hl⟩
      · by_cases e : i = k
        · subst e; rw [hw] at hx; cases hx; omega
        · exact h.least i x (by omega) hx
theorem ok_hire {d : Day} (hok : d.ok = true) (h6 : d.wks.length < 6) {w : Wk} (hw : isWorker w d.hours = true) : (hire d w).ok = true := by
  have h1 := ac1 (ac1 (ac1 hok))
  have h2 := ac2 (ac1 (ac1 hok))
  have h3 := ac2 (ac1 hok)
  have h4 := ac2 hok
  have e1 : (hire d w).head = true := by
    have g1 := ac1 h1
    unfold Day.head
    show cond (cond (cond (wi d.hours 1 24) (((d.heat.map Spn.c).length : Int) == d.hours) false) (decide (((d.lots.map Lot.c).length : Int) ≤ 8)) false) (decide ((((d.wks ++ [w]).map Wk.c).length : Int) ≤ 6)) false = true
    rw [g1, decide_eq_true (by simp; omega)]; rfl
  unfold Day.ok
  rw [e1]
  show cond (cond (cond true (d.heat.all heatOk) false) (d.lots.all (lotOk d.hours)) false) ((d.wks ++ [w]).all fun w => isWorker w d.hours) false = true
  have h2 : d.heat.all heatOk = true := h2
  have h3 : d.lots.all (lotOk d.hours) = true := h3
  have h4 : (d.wks.all fun w => isWorker w d.hours) = true := h4
  rw [h2, h3, List.all_append, h4]
  simp [hw]
theorem help_answer (d : Day) (b : Bool) (ws : List Wk) (hs : Small d) (hw : (ws.length : Int) ≤ 9223372036854775807) : ∃ x y e, Ans Try.prog 32 [.agg d.c, .sl b .any (ws.map Wk.c)] (.tup [.int x, .int y, .int e]) ∧
    ((d.ok = true ∧ e = 0 ∧ helpOk d ws = true ∧ HInv d ws ws.length (x, y)) ∨ ((e = 50 ∨ e = 52) ∧ x = 0 ∧ y = 0)) := by
  have h1 := help_t d b ws hs hw
  unfold helpR at h1
  by_cases hok : d.ok = true
  · by_cases hr : helpOk d ws = true
    · rw [if_pos hok, if_pos hr] at h1
      refine ⟨_, _, _, h1, .inl ⟨hok, rfl, hr, ?_⟩⟩
      exact help_inv d ws ws 0 (0, 0) (by simp) ⟨fun _ => rfl, fun h => absurd h (Nat.lt_irrefl _), fun i w hi => by omega, fun i w hi => by have hi : (i : Int) < 0 := hi; omega⟩
    · rw [if_pos hok, if_neg hr] at h1
      exact ⟨_, _, _, h1, .inr ⟨.inr rfl, rfl, rfl⟩⟩
  · rw [if_neg hok] at h1
    exact ⟨_, _, _, h1, .inr ⟨.inl rfl, rfl, rfl⟩⟩
set_option maxHeartbeats 4000000 in
theorem law_hired (d : Day) (b : Bool) (ws : List Wk) (hs : Small d) (hw : (ws.length : Int) ≤ 9223372036854775807) : Ans Try.prog 14 [.agg d.c, .sl b .any (ws.map Wk.c)] (.bool true) := by
  obtain ⟨x, y, e, h1, hc⟩ := help_answer d b ws hs hw
  have hwf : Free (.sl b .any (ws.map Wk.c)) := free_map Wk.free _ _ _
  have lws : ((ws.map Wk.c).length : Int) = ws.length := by simp
  refine told Try.func14 rfl rfl (Pure.of tab_ok Try.func14 rfl Try.ntmps14 rfl (allC (.agg _ d.free) (all1 (hwf))) (allC (fun _ => rfl) (all1 (fun _ => rfl))) (by first | exact .s _ | assumption | exact .tup _ (by intro x hx; simp only [List.mem_cons, List.not_mem_nil, or_false] at hx; rcases hx with rfl | rfl | rfl | rfl <;> first | exact .s _ | (simp_all; done))) fun E hE => ?_)
  have udc : Under 0 (A.pt d.c) := (Free.pt _ d.free).under
  refine Aw.sm tab_ok mb0 [] rfl rfl ?zo ?zk
  case zo =>
    repeat' apply AllP.cons
    all_goals first | exact trivial
  case zk =>
  refine Aw.sm tab_ok mb0 [(2, [.tup [.int x, .int y, .int e]])] rfl rfl ?zo ?zk
  case zo =>
    repeat' apply AllP.cons
    all_goals first | exact trivial | exact Nat.le_of_ble_eq_true rfl | exact h1
  case zk =>
  refine Aw.seq ?_
  refine Aw.sm tab_ok mb0 [(4, [.bool d.ok])] rfl rfl ?zo ?zk
  case zo =>
    repeat' apply AllP.cons
    all_goals first | exact trivial | exact id | exact fun _ => rfl | exact fun _ => Nat.le_of_ble_eq_true rfl | exact fun _ => sound_t d hs | exact gq_f
  case zk =>
  rcases hc with ⟨hok, rfl, hho, hinv⟩ | ⟨he, rfl, rfl⟩
  case inr =>
    rcases he with rfl | rfl
    all_goals
      refine Aw.cond rfl (fun _ => ?_) (fun h => by cases h)
      refine Aw.sm tab_ok mb0 [(11, [.bool true])] rfl rfl ?zo ?zk
      case zo =>
        repeat' apply AllP.cons
        all_goals first | exact trivial | exact id | exact fun _ => rfl | exact fun _ => works_t
      case zk =>
      exact Aw.ret ⟨_, .cons (.tmp _) .nil, rfl⟩
  have hd := DayOk.of hok
  have hn := wi_iff.1 (ac1 hho)
  have hall : ∀ w ∈ ws, isWorker w d.hours = true := List.all_eq_true.1 (ac2 hho)
  have lwk : ((d.wks.map Wk.c).length : Int) = d.wks.length := by simp
  obtain ⟨i0, i1, w0, hw0, hl0⟩ := hinv.wh (by omega)
  have hleast := hinv.least
  have hfirst := hinv.first
  simp only at i0 i1 hw0 hl0 hleast hfirst
  refine Aw.cond rfl (fun h => ?_) (fun _ => Aw.skip ?_)
  · have h : cond (cond (!((0 : Int) == 0)) true (!d.ok)) true (decide (((ws.map Wk.c).length : Int) > 6)) = true := h
    rw [hok, decide_eq_false (by omega)] at h
    cases h
  refine Aw.seq ?_
  refine Aw.sm tab_ok mb0 [(4, [.bool (wi x 0 (((ws.map Wk.c).length) - 1))])] rfl rfl ?zo ?zk
  case zo =>
    repeat' apply AllP.cons
    all_goals first | exact trivial | exact in_t _ _ _ | exact (by simp only [Ob.of, inR]; omega)
  case zk =>
  refine Aw.cond rfl (fun h => ?_) (fun _ => Aw.skip ?_)
  · have h : (!wi x 0 (((ws.map Wk.c).length : Int) - 1)) = true := h
    rw [wi_iff.2 (by omega)] at h
    cases h
  refine Aw.seq ?_
  refine Aw.sm tab_ok mb0 [] rfl rfl ?zo ?zk
  case zo =>
    repeat' apply AllP.cons
    all_goals first | exact trivial
  case zk =>
  refine Aw.block (Aw.rounds 0 hE [(1, .sl b .any (ws.map Wk.c)), (2, .pt d.c), (5, .int x), (6, .int y)] (fun i : Nat => [(8, .int i)]) (fun _ => []) (fun i => i ≤ ws.length) (fun i => ws.length - i) 0
    (Nat.zero_le _) ⟨⟨.refl _, .refl _, .refl _, .refl _, trivial⟩, ⟨.refl _, trivial⟩, trivial, Nat.zero_le _⟩ ⟨hwf.under, udc, .s _, .s _, trivial⟩ (fun _ _ => ⟨.s _, trivial⟩) (fun _ _ => trivial) fun i hi => ?_)
  refine Aw.seq ?_
  refine Aw.sm tab_ok mb0 [] rfl rfl ?zo ?zk
  case zo =>
    repeat' apply AllP.cons
    all_goals first | exact trivial | exact id | exact fun _ => rfl | exact fun _ => Nat.le_of_ble_eq_true rfl
  case zk =>
  refine Aw.cond rfl (fun h2 => Aw.skip ?_) (fun h2 => ?_)
  · have h2 : cond (decide ((i : Int) < ((ws.map Wk.c).length : Int))) (decide (((d.wks.map Wk.c).length : Int) < 6)) false = true := h2
    have hlt : i < ws.length := by have := of_decide_eq_true (ac1 h2); omega
    have h6 : d.wks.length < 6 := by have := of_decide_eq_true (ac2 h2); omega
    have hwk := hall _ (List.getElem_mem hlt)
    have hget := get_map (f := Wk.c) hlt
    have hl1 := hleast i ws[i] (by omega) (List.getElem?_eq_getElem hlt)
    have hl2 := fun h => hfirst i ws[i] h (List.getElem?_eq_getElem hlt)
    have hl3 : (i : Int) = x → lostE (hire d ws[i]) Spn.hi = y := fun h => by
      subst h
      rw [Int.toNat_natCast, List.getElem?_eq_getElem hlt] at hw0
      cases hw0; exact hl0
    generalize ws[i] = w at *
    have hokx := ok_hire hok h6 hwk
    have hsx : Small (hire d w) := ⟨hs.h, hs.l, by show ((d.wks ++ [w]).length : Int) ≤ _; rw [List.length_append, List.length_singleton]; push_cast; omega⟩
    obtain ⟨P, n, e2, hb, hc2⟩ := best_lost (hire d w) hsx
    have hb := hb
    obtain ⟨hb, _, hc2⟩ := (⟨hb, hc2⟩ : _ ∧ _)
    rcases hc2 with ⟨_, rfl, rfl, rfl⟩ | ⟨h, _⟩
    case inr => rw [hokx] at h; cases h
    have hcs1 : ∀ z ∈ d.wks.map Wk.c, z.length = 4 := fun z hz => by obtain ⟨y, _, rfl⟩ := List.mem_map.1 hz; rfl
    have hcs2 : ∀ z ∈ [w.c], z.length = 4 := fun z hz => by simp at hz; subst hz; rfl
    have hln : (d.wks.map Wk.c).length = d.wks.length := by simp
    have hm : d.wks.map Wk.c ++ [w.c] = (hire d w).wks.map Wk.c := by show _ = (d.wks ++ [w]).map Wk.c; simp
    refine Aw.seq (Aw.block ?_)
    refine Aw.sm tab_ok mb0 [] rfl rfl ?zo ?zk
    case zo =>
      repeat' apply AllP.cons
      all_goals first | exact trivial | exact rfl | exact Nat.le_of_ble_eq_true rfl
    case zk =>
    refine Aw.sd tab_ok mixed mb0 [(6, w.c), (7, [.agg w.c])] rfl (by kernel_rfl) rfl rfl ?zo ?zk
    case zo =>
      repeat' apply AllP.cons
      all_goals first | exact trivial | exact rfl | exact Nat.le_of_ble_eq_true rfl | exact Int.natCast_nonneg _ | exact hget | exact hcs1 | exact hcs2 | exact (show 0 + (d.wks.map Wk.c).length ≤ maxLen by unfold maxLen; omega) | exact (show (d.wks.map Wk.c).length + 1 ≤ maxLen by unfold maxLen; omega) | exact (show (0 + (d.wks.map Wk.c).length) * 32 ≤ 140737488355328 by omega) | exact (show ((d.wks.map Wk.c).length + 1) * 32 ≤ 140737488355328 by omega)
    case zk =>
    have hld : A.agg (((List.drop 0 (setSeg [.int d.hours, d.heatA, d.lotsA, d.wksA] (0 + 3) [.sl false (.own 61) (d.wks.map Wk.c ++ [w.c])])).take 4).map A.down) = .agg (hire d w).c := by rw [hm]; rfl
    refine Aw.sm tab_ok mb0 [(0, [.agg (hire d w).c]), (1, [.tup [planA (planF (hire d w)), .int (lostE (hire d w) Spn.hi), .int 0]])] rfl rfl ?zo ?zk
    case zo =>
      repeat' apply AllP.cons
      all_goals first | exact trivial | exact Nat.le_of_ble_eq_true rfl | exact hb | exact hld
    case zk =>
    generalize lostE (hire d w) Spn.hi = n at *
    refine Aw.sm tab_ok mb0 [] rfl rfl ?zo ?zk
    case zo =>
      repeat' apply AllP.cons
      all_goals first | exact trivial | exact id | exact fun _ => rfl | exact gq_f | exact gq_c | exact fun _ _ => rfl
    case zk =>
    refine Aw.cond rfl (fun h3 => ?_) (fun _ => Aw.skip ?_)
    · have h3 : cond (cond (cond (!((0 : Int) == 0)) true (decide (n < y))) true (cond (decide ((i : Int) < x)) (n == y) false)) true (cond ((i : Int) == x) (!(n == y)) false) = true := h3
      rw [decide_eq_false (show ¬ n < y by omega)] at h3
      by_cases q1 : (i : Int) < x
      · have q2 := hl2 q1
        have q3 : (n == y) = false := by simpa using q2
        have q4 : ((i : Int) == x) = false := by simp; omega
        rw [decide_eq_true q1, q3, q4] at h3
        cases h3
      · rw [decide_eq_false q1] at h3
        by_cases q2 : (i : Int) = x
        · have q3 : (n == y) = true := by simpa using hl3 q2
          have q4 : ((i : Int) == x) = true := by simpa using q2
          rw [q3, q4] at h3; cases h3
        · have q4 : ((i : Int) == x) = false := by simpa using q2
          rw [q4] at h3; cases h3
    refine Aw.em tab_ok mb0 [] rfl rfl ?zo ?zk
    case zo =>
      repeat' apply AllP.cons
      all_goals first | exact trivial | exact (by simp only [Ob.of, inR]; omega)
    case zk =>
    exact ⟨i + 1, hlt, by omega, ⟨.refl _, .refl _, .refl _, .refl _, trivial⟩, ⟨.refl _, trivial⟩, trivial, Nat.zero_le _⟩
  · obtain ⟨P, n, e2, hb, _, hc2⟩ := best_lost d hs
    rcases hc2 with ⟨_, rfl, rfl, rfl⟩ | ⟨h, _⟩
    case inr => rw [hok] at h; cases h
    have hwk0 := hall w0 (List.mem_of_getElem? hw0)
    have f1 := hire_le hd (DayOk.hire hok hwk0) Spn.hi
    have f2 := lost_pos (DayOk.hire hok hwk0) Spn.hi
    rw [hl0] at f1 f2
    refine Aw.exit2 ?_
    refine Aw.sm tab_ok mb0 [(1, [.tup [planA (planF d), .int (lostE d Spn.hi), .int 0]])] rfl rfl ?zo ?zk
    case zo =>
      repeat' apply AllP.cons
      all_goals first | exact trivial | exact Nat.le_of_ble_eq_true rfl | exact hb
    case zk =>
    refine Aw.sm tab_ok mb0 [(12, [.bool true])] rfl rfl ?zo ?zk
    case zo =>
      repeat' apply AllP.cons
      all_goals first | exact trivial | exact id | exact fun _ => rfl | exact fun _ => works_t
    case zk =>
    refine Aw.ret ⟨_, .cons (.tmp _) .nil, ?_⟩
    show A.bool (cond (cond (cond ((0 : Int) == 0) (decide (y ≤ lostE d Spn.hi)) false) (decide (y ≥ 0)) false) true false) = .bool true
    rw [decide_eq_true f1, decide_eq_true (show y ≥ 0 from f2)]; rfl
end Go.Proofs.Ytimikmfkdaoaaaa
namespace Go.Proofs.Ytimikmfkdaoaaaa
open Go Go.AL
def grS : List Spn → A
  | [] => .sl true .exact []
  | s :: l => .sl false (.own 47) ((s :: l).map Spn.c)
theorem grS_under {n : Nat} : ∀ l : List Spn, Under n (grS l)
  | [] => .sl _ _ _ (fun _ h => by cases h)
  | s :: l => .sl _ _ _ fun e he x hx => by
    obtain ⟨y, _, rfl⟩ := List.mem_map.1 he
    exact (Spn.free y x hx).under
theorem grS_down {l : List Spn} (h : l ≠ []) : (grS l).down = .sl false .any (l.map Spn.c) := by
  cases l with
  | nil => exact absurd rfl h
  | cons s l => rfl
def spanL (g : Nat → Int) (k : Nat) : List Spn := (List.range k).map fun h => ⟨g h, g h⟩
theorem spanL_succ (g : Nat → Int) (k : Nat) : spanL g (k + 1) = spanL g k ++ [⟨g k, g k⟩] := by
  unfold spanL; rw [List.range_succ, List.map_append]; rfl
theorem spanL_len (g : Nat → Int) (k : Nat) : (spanL g k).length = k := by simp [spanL]
theorem spanL_get (g : Nat → Int) (k h : Nat) : (spanL g k).getD h ⟨0, 0⟩ = if h < k then ⟨g h, g h⟩ else ⟨0, 0⟩ := by
  unfold spanL
  rw [List.getD_eq_getElem?_getD, List.getElem?_map]
  by_cases e : h < k
  · rw [if_pos e]; simp [e]
  · rw [if_neg e, List.getElem?_eq_none (by simp; omega)]; rfl
def withHeat (d : Day) (l : List Spn) : Day := { d with hn := false, heat := l }
theorem ok_heat {d : Day} (hok : d.ok = true) {l : List Spn} (hl : l.length = d.heat.length) (h : ∀ s ∈ l, heatOk s = true) : (withHeat d l).ok = true := by
  have h1 := ac1 (ac1 (ac1 hok))
  have h3 := ac2 (ac1 hok)
  have h4 := ac2 hok
  have e1 : (withHeat d l).head = true := by
    have : (withHeat d l).head = d.head := by
      unfold Day.head
      have : ((withHeat d l).heat.map Spn.c).length = (d.heat.map Spn.c).length := by simp; exact hl
      rw [this]; rfl
    rw [this]; exact h1
  unfold Day.ok
  rw [e1]
  show cond (cond (cond true (l.all heatOk) false) (d.lots.all (lotOk d.hours)) false) (d.wks.all fun w => isWorker w d.hours) false = true
  have h3 : d.lots.all (lotOk d.hours) = true := h3
  have h4 : (d.wks.all fun w => isWorker w d.hours) = true := h4
  rw [List.all_eq_true.2 h, h3, h4]; rfl
theorem told_answer (d : Day) (hs : Small d) : ∃ x y e, Ans Try.prog 30 [.agg d.c] (.tup [.agg [.int x, .int y], .int e]) ∧
    ((d.ok = true ∧ e = 0 ∧ x = lostE d Spn.lo ∧ y = lostE d Spn.hi) ∨ (e = 50 ∧ x = 0 ∧ y = 0)) := by
  have h1 := told_t d hs
  unfold toldR at h1
  by_cases hok : d.ok = true
  · rw [if_pos hok] at h1
    exact ⟨_, _, _, h1, .inl ⟨hok, rfl, rfl, rfl⟩⟩
  · rw [if_neg hok] at h1
    exact ⟨_, _, _, h1, .inr ⟨rfl, rfl, rfl⟩⟩
theorem best_ok' {d : Day} (hs : Small d) (hok : d.ok = true) : Ans Try.prog 23 [.agg d.c] (.tup [planA (planF d), .int (lostE d Spn.hi), .int 0]) := by
  obtain ⟨P, n, e2, hb, _, hc2⟩ := best_lost d hs
  rcases hc2 with ⟨_, rfl, rfl, rfl⟩ | ⟨h, _⟩
  · exact hb
  · rw [hok] at h; cases h
set_option maxHeartbeats 8000000 in
theorem law_between (d : Day) (b : Bool) (bits : List Int) (hs : Small d) (hw : (bits.length : Int) ≤ 9223372036854775807) : Ans Try.prog 13 [.agg d.c, .sl b .any (ints bits)] (.bool true) := by
  obtain ⟨x, y, e, h1, hc⟩ := told_answer d hs
  refine told Try.func13 rfl rfl (Pure.of tab_ok Try.func13 rfl Try.ntmps13 rfl (allC (.agg _ d.free) (all1 (free_ints _ _ _))) (allC (fun _ => rfl) (all1 (fun _ => rfl))) (by first | exact .s _ | assumption | exact .tup _ (by intro x hx; simp only [List.mem_cons, List.not_mem_nil, or_false] at hx; rcases hx with rfl | rfl | rfl | rfl <;> first | exact .s _ | (simp_all; done))) fun E hE => ?_)
  have udc : Under 0 (A.pt d.c) := (Free.pt _ d.free).under
  refine Aw.sm tab_ok mb0 [] rfl rfl ?zo ?zk
  case zo =>
    repeat' apply AllP.cons
    all_goals first | exact trivial
  case zk =>
  refine Aw.sm tab_ok mb0 [(1, [.tup [.agg [.int x, .int y], .int e]])] rfl rfl ?zo ?zk
  case zo =>
    repeat' apply AllP.cons
    all_goals first | exact trivial | exact rfl | exact Nat.le_of_ble_eq_true rfl | exact h1
  case zk =>
  refine Aw.seq ?_
  refine Aw.sm tab_ok mb0 [(4, [.bool d.ok])] rfl rfl ?zo ?zk
  case zo =>
    repeat' apply AllP.cons
    all_goals first | exact trivial | exact id | exact fun _ => rfl | exact fun _ => Nat.le_of_ble_eq_true rfl | exact fun _ => sound_t d hs | exact gq_f
  case zk =>
  rcases hc with ⟨hok, rfl, rfl, rfl⟩ | ⟨rfl, rfl, rfl⟩
  case inr =>
    refine Aw.cond rfl (fun _ => ?_) (fun h => by cases h)
    refine Aw.sm tab_ok mb0 [(3, [.agg [.int 0, .int 0]]), (5, [.bool true]), (8, [.bool true])] rfl rfl ?zo ?zk
    case zo =>
      repeat' apply AllP.cons
      all_goals first | exact trivial | exact id | exact fun _ => rfl | exact fun _ => Nat.le_of_ble_eq_true rfl | exact fun _ => works_t | exact fun _ => eqSpn _ _ 0 0 0 0
    case zk =>
    exact Aw.ret ⟨_, .cons (.tmp _) .nil, rfl⟩
  have hd := DayOk.of hok
  have hh := hd.hours
  have hht := hd.heat
  refine Aw.cond rfl (fun h => by rw [hok] at h; cases h) (fun _ => Aw.skip ?_)
  have lh : ((d.heat.map Spn.c).length : Int) = d.heat.length := by simp
  have llo : ∀ h, h < d.heat.length → d.heat.getD h ⟨0, 0⟩ ∈ d.heat := fun h hlt => by simp [List.getD_eq_getElem?_getD, hlt]
  let gl : Nat → Int := fun h => (d.heat.getD h ⟨0, 0⟩).lo
  have hx1 : (withHeat d (spanL (warm d bits) d.heat.length)).ok = true := ok_heat hok (spanL_len _ _) fun s hs => by
    obtain ⟨h, _, rfl⟩ := List.mem_map.1 hs
    have := warm_in hd bits h
    unfold heatOk
    rw [decide_eq_true (show (0 : Int) ≤ warm d bits h by omega), decide_eq_true (Int.le_refl _), decide_eq_true (show warm d bits h ≤ 100 by omega)]; rfl
  have hx2 : (withHeat d (spanL gl d.heat.length)).ok = true := ok_heat hok (spanL_len _ _) fun s hs => by
    obtain ⟨h, _, rfl⟩ := List.mem_map.1 hs
    have := heat_ge hd true h
    simp only [if_true] at this
    have e : gl h = (d.heat.getD h ⟨0, 0⟩).lo := rfl
    unfold heatOk
    rw [decide_eq_true (show (0 : Int) ≤ gl h by omega), decide_eq_true (Int.le_refl _), decide_eq_true (show gl h ≤ 100 by omega)]; rfl
  have hsm : ∀ g : Nat → Int, Small (withHeat d (spanL g d.heat.length)) := fun g => ⟨by show ((spanL g d.heat.length).length : Int) ≤ _; rw [spanL_len]; exact hs.h, hs.l, hs.w⟩
  have hb1 := best_ok' (hsm _) hx1
  have hb2 := best_ok' (hsm _) hx2
  have hb := best_ok' hs hok
  have m1 : lostE (withHeat d (spanL (warm d bits) d.heat.length)) Spn.hi ≤ lostE d Spn.hi := cool_le hd (.of hx1) rfl rfl rfl fun k => by
    show ((spanL (warm d bits) d.heat.length).getD k ⟨0, 0⟩).hi ≤ _
    rw [spanL_get]
    have := warm_in hd bits k
    have h0 := heat_ge hd false k
    simp only [Bool.false_eq_true, if_false] at h0
    split
    · exact this.2.1
    · exact h0.1
  have m2 : lostE d Spn.lo ≤ lostE (withHeat d (spanL (warm d bits) d.heat.length)) Spn.hi := cool_le (.of hx1) hd rfl rfl rfl fun k => by
    show _ ≤ ((spanL (warm d bits) d.heat.length).getD k ⟨0, 0⟩).hi
    rw [spanL_get]
    have := warm_in hd bits k
    split
    · exact this.2.2.1
    · rename_i h; rw [List.getD_eq_getElem?_getD, List.getElem?_eq_none (by omega)]; exact Int.le_refl _
  have m3 : lostE (withHeat d (spanL gl d.heat.length)) Spn.hi = lostE d Spn.lo := Int.le_antisymm
    (cool_le hd (.of hx2) rfl rfl rfl fun k => by
      show ((spanL gl d.heat.length).getD k ⟨0, 0⟩).hi ≤ _
      rw [spanL_get]
      split
      · exact Int.le_refl _
      · rename_i h; rw [List.getD_eq_getElem?_getD, List.getElem?_eq_none (by omega)]; exact Int.le_refl _)
    (cool_le (.of hx2) hd rfl rfl rfl fun k => by
      show _ ≤ ((spanL gl d.heat.length).getD k ⟨0, 0⟩).hi
      rw [spanL_get]
      split
      · exact Int.le_refl _
      · rename_i h; rw [List.getD_eq_getElem?_getD, List.getElem?_eq_none (by omega)]; exact Int.le_refl _)
  have m4 := lost_pos hd Spn.lo
  have m5 := lost_crans hd Spn.hi
  have hcr := crans_bd hd d.lots.length
  refine Aw.sm tab_ok mb0 [(2, [outW (warmL d bits d.heat.length)])] rfl rfl ?zo ?zk
  case zo =>
    repeat' apply AllP.cons
    all_goals first | exact trivial | exact Nat.le_of_ble_eq_true rfl | exact warmed_w d b bits hd hw
  case zk =>
  refine Aw.sd tab_ok mixed mb0 [] rfl (by kernel_rfl) rfl rfl ?zo ?zk
  case zo =>
    repeat' apply AllP.cons
    all_goals first | exact trivial | exact rfl | exact Nat.le_of_ble_eq_true rfl
  case zk =>
  refine Aw.sm tab_ok mb0 [] rfl rfl ?zo ?zk
  case zo =>
    repeat' apply AllP.cons
    all_goals first | exact trivial | exact rfl | exact Nat.le_of_ble_eq_true rfl
  case zk =>
  refine Aw.seq ?_
  refine Aw.sm tab_ok mb0 [] rfl rfl ?zo ?zk
  case zo =>
    repeat' apply AllP.cons
    all_goals first | exact trivial
  case zk =>
  have h7E : ∀ id, 7 ≤ id → E.φ0 id = none := fun id h => hE id (by omega)
  have ucl : ∀ (X : A), Under 7 X → UnderB 7 (.cells [.int d.hours, X, d.lotsA, d.wksA]) := fun X hX => .cells _ (allC (.s _) (allC hX (allC (free_map Lot.free _ _ _).under (all1 (free_map Wk.free _ _ _).under))))
  have HU : ∀ i, UnderH 7 [(0, .cells [.int (lostE d Spn.lo), .int (lostE d Spn.hi)]), (3, .cells [.int d.hours, grS (spanL (warm d bits) i), d.lotsA, d.wksA]), (4, .cells [.int d.hours, grS (spanL gl i), d.lotsA, d.wksA])] := fun i =>
    ⟨⟨by decide, .cells _ (allC (.s _) (all1 (.s _)))⟩, ⟨by decide, ucl _ (grS_under _)⟩, ⟨by decide, ucl _ (grS_under _)⟩, trivial⟩
  refine Aw.block (Aw.rounds 7 h7E [(2, .pt d.c), (5, .ref 0 0), (7, outW (warmL d bits d.heat.length)), (8, .ref 3 0), (9, .ref 4 0)] (fun i : Nat => [(10, .int i)])
    (fun i => [(0, .cells [.int (lostE d Spn.lo), .int (lostE d Spn.hi)]), (3, .cells [.int d.hours, grS (spanL (warm d bits) i), d.lotsA, d.wksA]), (4, .cells [.int d.hours, grS (spanL gl i), d.lotsA, d.wksA])]) (fun i => i ≤ d.heat.length) (fun i => d.heat.length - i) 0
    (Nat.zero_le _) ⟨⟨.refl _, .refl _, .refl _, .refl _, .refl _, trivial⟩, ⟨.refl _, trivial⟩, ⟨rfl, rfl, rfl, trivial⟩, Nat.le_of_ble_eq_true rfl⟩ ⟨(Free.pt _ d.free).under, .ref _ _ (by decide), (outW_free _).under, .ref _ _ (by decide), .ref _ _ (by decide), trivial⟩ (fun _ _ => ⟨.s _, trivial⟩) (fun i _ => HU i) fun i hi => ?_)
  have lw : ((ints (warmL d bits d.heat.length)).length : Int) = d.heat.length := by simp [ints, warmL_len]
  refine Aw.seq ?_
  refine Aw.sm tab_ok mb0 [] rfl rfl ?zo ?zk
  case zo =>
    repeat' apply AllP.cons
    all_goals first | exact trivial
  case zk =>
  refine Aw.cond rfl (fun h2 => Aw.skip ?_) (fun h2 => ?_)
  · have hlt : i < d.heat.length := by have := of_decide_eq_true h2; omega
    have hwg : (ints (warmL d bits d.heat.length))[((i : Int)).toNat]? = some [.int (warm d bits i)] := by
      rw [Int.toNat_natCast, ints_get (by rw [warmL_len]; exact hlt)]
      simp [warmL]
    have hgl : d.heat[i].lo = gl i := by show _ = (d.heat.getD i ⟨0, 0⟩).lo; simp [List.getD_eq_getElem?_getD, hlt]
    have hget := get_map (f := Spn.c) hlt
    have e1 := spanL_succ (warm d bits) i
    have e2 := spanL_succ gl i
    have l1 := spanL_len (warm d bits) i
    have l2 := spanL_len gl i
    have to1 : Ans Try.prog 44 [.int (warm d bits i), .int (warm d bits i)] (.agg (Spn.c ⟨warm d bits i, warm d bits i⟩)) := to_t _ _
    have to2 : Ans Try.prog 44 [.int d.heat[i].lo, .int d.heat[i].lo] (.agg (Spn.c ⟨gl i, gl i⟩)) := hgl ▸ to_t _ _
    refine Aw.seq (Aw.block ?_)
    cases hm : spanL (warm d bits) i with
    | nil =>
      have hi0 : i = 0 := by rw [hm] at l1; exact l1.symm
      have hm2 : spanL gl i = [] := by rw [hi0]; rfl
      rw [hm] at e1
      rw [hm2] at e2 ⊢
      refine Aw.ed tab_ok mixed mb0 [(1, []), (4, [.int (warm d bits i)]), (8, [.int (warm d bits i)]), (10, [.agg (Spn.c ⟨warm d bits i, warm d bits i⟩)]), (14, []), (18, d.heat[i].c), (24, d.heat[i].c), (27, [.agg (Spn.c ⟨gl i, gl i⟩)])] rfl (by kernel_rfl) rfl rfl ?zo ?zk
      case zo =>
        repeat' apply AllP.cons
        all_goals first | exact trivial | exact rfl | exact Nat.le_of_ble_eq_true rfl | exact Int.natCast_nonneg _ | exact hwg | exact hget | exact to1 | exact to2 | exact (show ∀ z ∈ [] ++ [Spn.c _], z.length = 2 from fun z hz => by simp at hz; subst hz; rfl)
      case zk =>
      refine Aw.em tab_ok mb0 [] rfl rfl ?zo ?zk
      case zo =>
        repeat' apply AllP.cons
        all_goals first | exact trivial | exact inrk i (by omega)
      case zk =>
      exact ⟨i + 1, hlt, by omega, ⟨.refl _, .refl _, .refl _, .refl _, .refl _, trivial⟩, ⟨.refl _, trivial⟩, ⟨rfl, congrArg (fun x => some (B.cells [.int d.hours, x, d.lotsA, d.wksA])) (show A.sl false (.own 47) [Spn.c ⟨warm d bits i, warm d bits i⟩] = grS (spanL (warm d bits) (i + 1)) by rw [e1]; rfl), congrArg (fun x => some (B.cells [.int d.hours, x, d.lotsA, d.wksA])) (show A.sl false (.own 47) [Spn.c ⟨gl i, gl i⟩] = grS (spanL gl (i + 1)) by rw [e2]; rfl), trivial⟩, Nat.le_of_ble_eq_true rfl⟩
    | cons s l =>
      have hz2 : ∀ (l : List Spn), ∀ z ∈ l.map Spn.c, z.length = 2 := fun l z hz => by obtain ⟨y, _, rfl⟩ := List.mem_map.1 hz; rfl
      have hz1 : ∀ s : Spn, ∀ z ∈ [s.c], z.length = 2 := fun s z hz => by simp at hz; subst hz; rfl
      cases hm2 : spanL gl i with
      | nil => rw [hm2] at l2; rw [hm] at l1; simp at l1 l2; omega
      | cons s2 k =>
        rw [hm] at e1 l1
        rw [hm2] at e2 l2
        have n1 : ((s :: l).map Spn.c).length = i := by rw [List.length_map]; exact l1
        have n2 : ((s2 :: k).map Spn.c).length = i := by rw [List.length_map]; exact l2
        refine Aw.ed tab_ok mixed mb0 [(1, []), (4, [.int (warm d bits i)]), (8, [.int (warm d bits i)]), (10, [.agg (Spn.c ⟨warm d bits i, warm d bits i⟩)]), (14, []), (18, d.heat[i].c), (24, d.heat[i].c), (27, [.agg (Spn.c ⟨gl i, gl i⟩)])] rfl (by kernel_rfl) rfl rfl ?zo ?zk
        case zo =>
          repeat' apply AllP.cons
          all_goals first | exact trivial | exact rfl | exact Nat.le_of_ble_eq_true rfl | exact Int.natCast_nonneg _ | exact hwg | exact hget | exact to1 | exact to2 | exact hz1 _ | exact hz2 (s :: l) | exact hz2 (s2 :: k) | exact (show (((s :: l).map Spn.c).length + 1) * 16 ≤ 140737488355328 by omega) | exact (show (((s2 :: k).map Spn.c).length + 1) * 16 ≤ 140737488355328 by omega) | exact (show ((s :: l).map Spn.c).length + 1 ≤ maxLen by unfold maxLen; omega) | exact (show ((s2 :: k).map Spn.c).length + 1 ≤ maxLen by unfold maxLen; omega)
        case zk =>
        refine Aw.em tab_ok mb0 [] rfl rfl ?zo ?zk
        case zo =>
          repeat' apply AllP.cons
          all_goals first | exact trivial | exact inrk i (by omega)
        case zk =>
        exact ⟨i + 1, hlt, by omega, ⟨.refl _, .refl _, .refl _, .refl _, .refl _, trivial⟩, ⟨.refl _, trivial⟩, ⟨rfl, congrArg (fun x => some (B.cells [.int d.hours, x, d.lotsA, d.wksA])) (show A.sl false (.own 47) ((s :: l).map Spn.c ++ [Spn.c ⟨warm d bits i, warm d bits i⟩]) = grS (spanL (warm d bits) (i + 1)) by rw [e1]; show _ = A.sl false (.own 47) (((s :: l) ++ [_]).map Spn.c); rw [List.map_append]; rfl), congrArg (fun x => some (B.cells [.int d.hours, x, d.lotsA, d.wksA])) (show A.sl false (.own 47) ((s2 :: k).map Spn.c ++ [Spn.c ⟨gl i, gl i⟩]) = grS (spanL gl (i + 1)) by rw [e2]; show _ = A.sl false (.own 47) (((s2 :: k) ++ [_]).map Spn.c); rw [List.map_append]; rfl), trivial⟩, Nat.le_of_ble_eq_true rfl⟩
  · have hend : i = d.heat.length := by have := of_decide_eq_false h2; omega
    subst hend
    refine Aw.exit2 ?_
    have hne : ∀ g : Nat → Int, spanL g d.heat.length ≠ [] := fun g h => by have := spanL_len g d.heat.length; rw [h] at this; simp at this; omega
    have hld : ∀ g : Nat → Int, A.agg (((List.drop 0 [.int d.hours, grS (spanL g d.heat.length), d.lotsA, d.wksA]).take 4).map A.down) = .agg (withHeat d (spanL g d.heat.length)).c := fun g => by
      show A.agg [.int d.hours, (grS (spanL g d.heat.length)).down, d.lotsA, d.wksA] = _
      rw [grS_down (hne g)]; rfl
    refine Aw.sm tab_ok mb0 [(0, [.agg (withHeat d (spanL (warm d bits) d.heat.length)).c]), (1, [.tup [planA (planF (withHeat d (spanL (warm d bits) d.heat.length))), .int (lostE (withHeat d (spanL (warm d bits) d.heat.length)) Spn.hi), .int 0]])] rfl rfl ?zo ?zk
    case zo =>
      repeat' apply AllP.cons
      all_goals first | exact trivial | exact Nat.le_of_ble_eq_true rfl | exact hld _ | exact hb1
    case zk =>
    refine Aw.sm tab_ok mb0 [(1, [.tup [planA (planF d), .int (lostE d Spn.hi), .int 0]])] rfl rfl ?zo ?zk
    case zo =>
      repeat' apply AllP.cons
      all_goals first | exact trivial | exact Nat.le_of_ble_eq_true rfl | exact hb
    case zk =>
    refine Aw.sm tab_ok mb0 [(0, [.agg (withHeat d (spanL gl d.heat.length)).c]), (1, [.tup [planA (planF (withHeat d (spanL gl d.heat.length))), .int (lostE (withHeat d (spanL gl d.heat.length)) Spn.hi), .int 0]])] rfl rfl ?zo ?zk
    case zo =>
      repeat' apply AllP.cons
      all_goals first | exact trivial | exact Nat.le_of_ble_eq_true rfl | exact hld _ | exact hb2
    case zk =>
    generalize hX : lostE (withHeat d (spanL (warm d bits) d.heat.length)) Spn.hi = X at *
    generalize hY : lostE (withHeat d (spanL gl d.heat.length)) Spn.hi = Y at *
    generalize hL : lostE d Spn.lo = lo at *
    generalize hHi : lostE d Spn.hi = hi at *
    have hsp : Ans Try.prog 47 [.agg [.int lo, .int hi], .int 0, .int (cransOf d)] (.bool (cond (wi lo 0 (cransOf d)) (wi hi lo (cransOf d)) false)) := spanned_t ⟨lo, hi⟩ 0 (cransOf d)
    refine Aw.sd tab_ok mixed mb0 [(11, [.agg [.int lo, .int hi]]), (13, [.bool (wi X lo hi)]), (28, [.agg [.int lo, .int hi]]), (30, [.int (cransOf d)]), (31, [.bool (cond (wi lo 0 (cransOf d)) (wi hi lo (cransOf d)) false)]), (34, [.bool true])] rfl (by kernel_rfl) rfl rfl ?zo ?zk
    case zo =>
      repeat' apply AllP.cons
      all_goals first | exact trivial | exact id | exact fun _ => rfl | exact fun _ => Nat.le_of_ble_eq_true rfl | exact fun _ => works_t | exact fun _ => lcrans_t d hd | exact fun _ => holds_t ⟨lo, hi⟩ X | exact fun _ => hsp
    case zk =>
    refine Aw.ret ⟨_, .cons (.tmp _) .nil, ?_⟩
    show A.bool (cond (cond (cond (cond (cond (cond (cond ((0 : Int) == 0) ((0 : Int) == 0) false) ((0 : Int) == 0) false) (wi X lo hi) false) (hi == hi) false) (lo == Y) false) (cond (wi lo 0 (cransOf d)) (wi hi lo (cransOf d)) false) false) true false) = .bool true
    rw [wi_iff.2 ⟨m2, m1⟩, wi_iff.2 (show 0 ≤ lo ∧ lo ≤ cransOf d by omega), wi_iff.2 (show lo ≤ hi ∧ hi ≤ cransOf d by omega), m3]
    simp
end Go.Proofs.Ytimikmfkdaoaaaa
namespace Go.Proofs.Ytimikmfkdaoaaaa
open Go Go.AL
theorem last_of (g : Task → Task → Int) (p : Task → Task → Bool) (hp : ∀ t x, p t x = false → g t x = 0) : ∀ (n : Nat) (l : List Task) (t : Task), l.length = n → (∃ x ∈ l, p t x = true) →
    ∃ m x, l[m]? = some x ∧ p t x = true ∧ ((l.take (m + 1)).map (g t)).sum = (l.map (g t)).sum
  | 0, l, t, hn, ⟨x, hx, _⟩ => by
    have := List.eq_nil_of_length_eq_zero hn
    subst this; cases hx
  | n + 1, l, t, hn, ⟨x, hx, hpx⟩ => by
    have hlt : n < l.length := by omega
    have hl : l = l.take n ++ [l[n]] := by
      have := List.take_succ_eq_append_getElem hlt
      rw [← this, List.take_of_length_le (by omega)]
    by_cases h : p t l[n] = true
    · exact ⟨n, l[n], by simp [hlt], h, by rw [List.take_of_length_le (by omega)]⟩
    · have h0 := hp t l[n] (by simpa using h)
      obtain ⟨m, y, h1, h2, h3⟩ := last_of g p hp n (l.take n) t (by rw [List.length_take]; omega) ⟨x, by
        rw [hl] at hx
        rcases List.mem_append.1 hx with h4 | h4
        · exact h4
        · simp at h4; subst h4; exact absurd hpx h, hpx⟩
      have hm : m < n := by have := (List.getElem?_eq_some_iff.1 h1).1; rw [List.length_take] at this; omega
      refine ⟨m, y, by rw [List.getElem?_take, if_pos hm] at h1; exact h1, h2, ?_⟩
      have e1 : (l.take n).take (m + 1) = l.take (m + 1) := by rw [List.take_take, Nat.min_eq_left (by omega)]
      rw [e1] at h3
      rw [h3]
      conv => rhs; rw [hl]
      rw [List.map_append, List.sum_append]; simp [h0]
theorem rchk_at {d : Day} {pl : List Task} : ∀ (m i : Nat), i + m = pl.length → rchk d pl m i = true → ∀ k x, i ≤ k → pl[k]? = some x → rBad d x = false ∧ rOver d pl k x = false
  | 0, i, hm, _, k, x, hk, hx => by have := (List.getElem?_eq_some_iff.1 hx).1; omega
  | m + 1, i, hm, h, k, x, hk, hx => by
    have hlt : i < pl.length := by omega
    rw [rchk, List.getElem?_eq_getElem hlt] at h
    simp only at h
    by_cases h1 : rBad d pl[i] = true
    · rw [if_pos h1] at h; cases h
    · rw [if_neg h1] at h
      by_cases h2 : rOver d pl i pl[i] = true
      · rw [if_pos h2] at h; cases h
      · rw [if_neg h2] at h
        by_cases e : k = i
        · subst e
          rw [List.getElem?_eq_getElem hlt] at hx; cases hx
          exact ⟨by simpa using h1, by simpa using h2⟩
        · exact rchk_at m (i + 1) (by omega) h k x (by omega) hx
theorem rchk_of {d : Day} {pl : List Task} (h : ∀ k x, pl[k]? = some x → rBad d x = false ∧ rOver d pl k x = false) : ∀ (m i : Nat), rchk d pl m i = true
  | 0, _ => rfl
  | m + 1, i => by
    rw [rchk]
    cases e : pl[i]? with
    | none => rfl
    | some x =>
      obtain ⟨h1, h2⟩ := h i x e
      simp only [h1, h2]
      exact rchk_of h m (i + 1)
theorem over_no {d : Day} {pl : List Task} {i : Nat} {t : Task} (h : rOver d pl i t = false) : ofL (pl.take (i + 1)) t ≤ (tLot d t).crans ∧ byL (pl.take (i + 1)) t ≤ (tWk d t).rate := by
  unfold rOver at h
  by_cases h1 : ofL (pl.take (i + 1)) t > (tLot d t).crans
  · rw [decide_eq_true h1] at h; cases h
  · rw [decide_eq_false h1] at h
    have h2 := of_decide_eq_false (show decide (byL (pl.take (i + 1)) t > (tWk d t).rate) = false from h)
    omega
theorem over_of {d : Day} {pl : List Task} {i : Nat} {t : Task} (h1 : ofL (pl.take (i + 1)) t ≤ (tLot d t).crans) (h2 : byL (pl.take (i + 1)) t ≤ (tWk d t).rate) : rOver d pl i t = false := by
  unfold rOver
  rw [decide_eq_false (by omega), decide_eq_false (by omega)]; rfl
theorem rchk_iff {d : Day} {pl : List Task} (hpos : ∀ x ∈ pl, 0 ≤ x.crans) : rchk d pl pl.length 0 = true ↔ ∀ t ∈ pl, rBad d t = false ∧ ofL pl t ≤ (tLot d t).crans ∧ byL pl t ≤ (tWk d t).rate := by
  constructor
  · intro h t ht
    obtain ⟨k, hk, rfl⟩ := List.mem_iff_getElem.1 ht
    have hat := rchk_at pl.length 0 (by omega) h
    refine ⟨(hat k _ (Nat.zero_le _) (List.getElem?_eq_getElem hk)).1, ?_, ?_⟩
    · obtain ⟨m, x, h1, h2, h3⟩ := last_of ofT (fun t x => x.lot == t.lot) (fun t x h => by unfold ofT; rw [h]; rfl) pl.length pl pl[k] rfl ⟨pl[k], ht, by simp⟩
      have e : x.lot = pl[k].lot := by simpa using h2
      have h4 := (over_no (hat m x (Nat.zero_le _) h1).2).1
      have e2 : ofT x = ofT pl[k] := by funext y; unfold ofT; rw [e]
      have e3 : tLot d x = tLot d pl[k] := by unfold tLot; rw [e]
      unfold ofL at h4 ⊢
      rw [e2, h3, e3] at h4
      exact h4
    · obtain ⟨m, x, h1, h2, h3⟩ := last_of byT' (fun t x => cond (x.worker == t.worker) (x.hour == t.hour) false) (fun t x h => by unfold byT'; rw [h]; rfl) pl.length pl pl[k] rfl ⟨pl[k], ht, by simp⟩
      rw [c_and, Bool.and_eq_true, beq_iff_eq, beq_iff_eq] at h2
      have h4 := (over_no (hat m x (Nat.zero_le _) h1).2).2
      have e2 : byT' x = byT' pl[k] := by funext y; unfold byT'; rw [h2.1, h2.2]
      have e3 : tWk d x = tWk d pl[k] := by unfold tWk; rw [h2.1]
      unfold byL at h4 ⊢
      rw [e2, h3, e3] at h4
      exact h4
  · intro h
    refine rchk_of (fun k x hx => ?_) _ _
    have hm := List.mem_of_getElem? hx
    obtain ⟨h1, h2, h3⟩ := h x hm
    have o1 := sum_take_le (l := pl) (g := ofT x) (fun y hy => by unfold ofT; split; exact hpos y hy; exact Int.le_refl _) (k + 1)
    have o2 := sum_take_le (l := pl) (g := byT' x) (fun y hy => by unfold byT'; split; exact hpos y hy; exact Int.le_refl _) (k + 1)
    exact ⟨h1, over_of (by unfold ofL at *; omega) (by unfold byL at *; omega)⟩
theorem less_sum (l : List Task) (k : Nat) (h : k < l.length) (g : Task → Int) : ((l.take k ++ l.drop (k + 1)).map g).sum = (l.map g).sum - g l[k] := by
  have e : l = l.take k ++ (l[k] :: l.drop (k + 1)) := by rw [← List.drop_eq_getElem_cons h, List.take_append_drop]
  conv => rhs; arg 1; rw [e]
  simp only [List.map_append, List.map_cons, List.sum_append, List.sum_cons]
  omega
theorem set_sum (l : List Task) (k : Nat) (h : k < l.length) (y : Task) (g : Task → Int) : ((l.set k y).map g).sum = (l.map g).sum - g l[k] + g y := by
  have e : l = l.take k ++ (l[k] :: l.drop (k + 1)) := by rw [← List.drop_eq_getElem_cons h, List.take_append_drop]
  have e2 : l.set k y = l.take k ++ (y :: l.drop (k + 1)) := by rw [List.set_eq_take_append_cons_drop, if_pos h]
  rw [e2]
  conv => rhs; arg 1; arg 1; rw [e]
  simp only [List.map_append, List.map_cons, List.sum_append, List.sum_cons]
  omega
theorem less_is {d : Day} (hd : DayOk d) {k : Nat} (hk : k < (planF d).length) : rPlanV d ((planF d).take k ++ (planF d).drop (k + 1)) = some (lostE d Spn.hi + (planF d)[k].crans) := by
  have hbl := best_len hd
  have hpos : ∀ x ∈ planF d, 0 ≤ x.crans := fun x hx => by have := best_pos hd x hx; omega
  have hsub : ∀ x ∈ (planF d).take k ++ (planF d).drop (k + 1), x ∈ planF d := fun x hx => by
    rcases List.mem_append.1 hx with h | h
    · exact List.mem_of_mem_take h
    · exact List.mem_of_mem_drop h
  have hc : rchk d ((planF d).take k ++ (planF d).drop (k + 1)) ((planF d).take k ++ (planF d).drop (k + 1)).length 0 = true := (rchk_iff fun x hx => hpos x (hsub x hx)).2 fun t ht => by
    have htm := hsub t ht
    obtain ⟨i, p, hi⟩ := best_mem hd htm
    have h1 := (hi.good hd (plan_inv hd Spn.hi).ok).1
    have h2 := best_over hd htm
    refine ⟨h1, ?_, ?_⟩
    · unfold ofL
      rw [less_sum _ _ hk]
      have : 0 ≤ ofT t (planF d)[k] := by unfold ofT; split; exact hpos _ (List.getElem_mem hk); exact Int.le_refl _
      unfold ofL at h2; omega
    · unfold byL
      rw [less_sum _ _ hk]
      have : 0 ≤ byT' t (planF d)[k] := by unfold byT'; split; exact hpos _ (List.getElem_mem hk); exact Int.le_refl _
      unfold byL at h2; omega
  unfold rPlanV
  rw [if_neg (by simp; omega), if_pos hc, lost_sum hd]
  congr 1
  unfold crT
  rw [less_sum _ _ hk]; omega
def cranMore (t : Task) : Task := ⟨t.lot, t.worker, t.hour, t.crans + 1⟩
theorem more_is {d : Day} (hd : DayOk d) {k : Nat} (hk : k < (planF d).length) : ∃ n, rPlanV d ((planF d).set k (cranMore (planF d)[k])) = if 1 + ofL (planF d) (planF d)[k] ≤ (tLot d (planF d)[k]).crans ∧ 1 + byL (planF d) (planF d)[k] ≤ (tWk d (planF d)[k]).rate then some n else none := by
  have hbl := best_len hd
  have hmem := List.getElem_mem hk
  have hpos : ∀ x ∈ planF d, 0 ≤ x.crans := fun x hx => by have := best_pos hd x hx; omega
  have ht := best_pos hd _ hmem
  generalize ht0 : (planF d)[k] = t at *
  have hset : ∀ x ∈ (planF d).set k (cranMore t), x ∈ planF d ∨ x = cranMore t := fun x hx => List.mem_or_eq_of_mem_set hx
  have hin : cranMore t ∈ (planF d).set k (cranMore t) := by
    refine List.mem_iff_getElem.2 ⟨k, by simp [hk], by simp⟩
  have hof : ∀ x, ofL ((planF d).set k (cranMore t)) x = ofL (planF d) x + if t.lot = x.lot then 1 else 0 := fun x => by
    unfold ofL
    rw [set_sum _ _ hk, ht0]
    unfold ofT cranMore
    by_cases e : t.lot = x.lot
    · simp [e]; omega
    · have : (t.lot == x.lot) = false := by simpa using e
      simp [this, e]
  have hby : ∀ x, byL ((planF d).set k (cranMore t)) x = byL (planF d) x + if t.worker = x.worker ∧ t.hour = x.hour then 1 else 0 := fun x => by
    unfold byL
    rw [set_sum _ _ hk, ht0]
    unfold byT' cranMore
    by_cases e : t.worker = x.worker ∧ t.hour = x.hour
    · simp [e]; omega
    · have : cond (t.worker == x.worker) (t.hour == x.hour) false = false := by
        cases e2 : cond (t.worker == x.worker) (t.hour == x.hour) false with
        | false => rfl
        | true => rw [c_and, Bool.and_eq_true, beq_iff_eq, beq_iff_eq] at e2; exact absurd e2 e
      simp only [this, if_neg e]; simp
  have hpos2 : ∀ x ∈ (planF d).set k (cranMore t), 0 ≤ x.crans := fun x hx => by
    rcases hset x hx with h | rfl
    · exact hpos x h
    · show 0 ≤ t.crans + 1; omega
  have e1 : tLot d (cranMore t) = tLot d t := rfl
  have e2 : tWk d (cranMore t) = tWk d t := rfl
  have e3 : ∀ x y : Task, x.lot = y.lot → tLot d x = tLot d y := fun x y h => by unfold tLot; rw [h]
  have e4 : ∀ x y : Task, x.worker = y.worker → tWk d x = tWk d y := fun x y h => by unfold tWk; rw [h]
  have e5 : ∀ x y : Task, x.lot = y.lot → ofL (planF d) x = ofL (planF d) y := fun x y h => by
    unfold ofL
    have : ofT x = ofT y := by funext z; unfold ofT; rw [h]
    rw [this]
  have e6 : ∀ x y : Task, x.worker = y.worker → x.hour = y.hour → byL (planF d) x = byL (planF d) y := fun x y h h' => by
    unfold byL
    have : byT' x = byT' y := by funext z; unfold byT'; rw [h, h']
    rw [this]
  have hbad : rBad d (cranMore t) = false := by
    obtain ⟨i, p, hi⟩ := best_mem hd hmem
    have h1 := (hi.good hd (plan_inv hd Spn.hi).ok).1
    obtain ⟨hg, _, _, hcan⟩ := best_can hd hmem
    unfold rBad rBad4
    have a1 : lotIn d (cranMore t) = true := hg.1
    have a2 : wkIn d (cranMore t) = true := hg.2.1
    have a3 : hourIn d (cranMore t) = true := hg.2.2
    have a4 : wi (cranMore t).crans 1 50 = true := wi_iff.2 (show 1 ≤ t.crans + 1 ∧ t.crans + 1 ≤ 50 by omega)
    have a5 : tCan d (cranMore t) = true := hcan
    rw [a1, a2, a3, a4, a5]; rfl
  have hiff : rchk d ((planF d).set k (cranMore t)) ((planF d).set k (cranMore t)).length 0 = true ↔ (1 + ofL (planF d) t ≤ (tLot d t).crans ∧ 1 + byL (planF d) t ≤ (tWk d t).rate) := by
    rw [rchk_iff hpos2]
    constructor
    · intro h
      obtain ⟨_, h1, h2⟩ := h _ hin
      rw [hof, e1] at h1
      rw [hby, e2] at h2
      rw [if_pos (show t.lot = (cranMore t).lot from rfl), e5 (cranMore t) t rfl] at h1
      rw [if_pos (show t.worker = (cranMore t).worker ∧ t.hour = (cranMore t).hour from ⟨rfl, rfl⟩), e6 (cranMore t) t rfl rfl] at h2
      omega
    · rintro ⟨h1, h2⟩ x hx
      have hb : rBad d x = false ∧ ofL (planF d) x ≤ (tLot d x).crans ∧ byL (planF d) x ≤ (tWk d x).rate ∨ x = cranMore t := by
        rcases hset x hx with h | h
        · obtain ⟨i, p, hi⟩ := best_mem hd h
          exact .inl ⟨(hi.good hd (plan_inv hd Spn.hi).ok).1, best_over hd h⟩
        · exact .inr h
      refine ⟨?_, ?_, ?_⟩
      · rcases hb with h | h
        · exact h.1
        · rw [h]; exact hbad
      · rw [hof]
        by_cases e : t.lot = x.lot
        · rw [if_pos e, e5 x t e.symm, e3 x t e.symm]; omega
        · rw [if_neg e]
          rcases hb with h | h
          · omega
          · rw [h] at e; exact absurd rfl e
      · rw [hby]
        by_cases e : t.worker = x.worker ∧ t.hour = x.hour
        · rw [if_pos e, e6 x t e.1.symm e.2.symm, e4 x t e.1.symm]; omega
        · rw [if_neg e]
          rcases hb with h | h
          · omega
          · rw [h] at e; exact absurd ⟨rfl, rfl⟩ e
  refine ⟨cransOf d - crT ((planF d).set k (cranMore t)), ?_⟩
  unfold rPlanV
  rw [if_neg (by simp; omega)]
  by_cases h : 1 + ofL (planF d) t ≤ (tLot d t).crans ∧ 1 + byL (planF d) t ≤ (tWk d t).rate
  · rw [if_pos (hiff.2 h), if_pos h]
  · rw [if_neg (fun h1 => h (hiff.1 h1)), if_neg h]
theorem isPlan_answer {d : Day} (hs : Small d) (hok : d.ok = true) (pl : List Task) (hl : pl.length ≤ 400) (v : Option Int) (h : rPlanV d pl = v) : ∃ n, Ans Try.prog 21 [.agg d.c, .sl false .any (pl.map Task.c)] (.tup [.int n, .bool v.isSome, .int 0]) ∧ ∀ m, v = some m → n = m := by
  have h5 := isPlan_t d false pl hs (by omega)
  unfold isPlanR at h5
  rw [if_pos hok, plan_is (.of hok), h] at h5
  cases v with
  | none => exact ⟨0, h5, fun m hm => by cases hm⟩
  | some n => exact ⟨n, h5, fun m hm => by cases hm; rfl⟩
end Go.Proofs.Ytimikmfkdaoaaaa
namespace Go.Proofs.Ytimikmfkdaoaaaa
open Go Go.AL
theorem rows_of {ys : List (List A)} {sz : Nat} (hs : ∀ y ∈ ys, y.length = sz) (hd : ys.flatten.map A.down = ys.flatten) : RowsAre ys.flatten ys sz := by
  refine ⟨hs, by rw [flat_len hs]; exact Nat.le_refl _, fun i j hi hj => ?_⟩
  have hk : i * sz + j < ys.length * sz := by
    have : (i + 1) * sz ≤ ys.length * sz := Nat.mul_le_mul_right _ hi
    rw [Nat.add_mul, Nat.one_mul] at this; omega
  have h0 : 0 < sz := by omega
  have e1 : (i * sz + j) / sz = i := by rw [Nat.mul_comm, Nat.mul_add_div h0, Nat.div_eq_of_lt hj]; rfl
  have e2 : (i * sz + j) % sz = j := by rw [Nat.mul_comm, Nat.mul_add_mod, Nat.mod_eq_of_lt hj]
  have e3 := flat_get hs (i * sz + j) hk
  rw [e1, e2] at e3
  have hl : i * sz + j < ys.flatten.length := by rw [flat_len hs]; exact hk
  have e4 : (ys.flatten.getD (i * sz + j) .un).down = ys.flatten.getD (i * sz + j) .un := by
    have := congrArg (fun l => l.getD (i * sz + j) .un) hd
    simp only [List.getD_eq_getElem?_getD, List.getElem?_map, List.getElem?_eq_getElem hl] at this ⊢
    exact this
  rw [e4, e3]
section
variable {α : Type} {c : α → List A} {sz : Nat}
theorem flat_down (hd : ∀ a, (c a).map A.down = c a) (l : List α) : (l.map c).flatten.map A.down = (l.map c).flatten := by
  rw [List.map_flatten, List.map_map]
  congr 1
  exact List.map_congr_left fun a _ => hd a
theorem rows_set (hc : ∀ a, (c a).length = sz) (hd : ∀ a, (c a).map A.down = c a) {l : List α} {k : Nat} (hk : k < l.length) (a : α) : setSeg ((l.map c).flatten.map A.down) (0 + k * sz) (c a) = ((l.set k a).map c).flatten := by
  rw [flat_down hd, Nat.zero_add]
  have e : l = l.take k ++ (l[k] :: l.drop (k + 1)) := by rw [← List.drop_eq_getElem_cons hk, List.take_append_drop]
  have e2 : l.set k a = l.take k ++ (a :: l.drop (k + 1)) := by rw [List.set_eq_take_append_cons_drop, if_pos hk]
  have h1 : ((l.take k).map c).flatten.length = k * sz := by
    rw [flat_len (sz := sz) fun y hy => by obtain ⟨b, _, rfl⟩ := List.mem_map.1 hy; exact hc b, List.length_map, List.length_take, Nat.min_eq_left (by omega)]
  have e3 : (l.map c).flatten = ((l.take k).map c).flatten ++ (c l[k] ++ ((l.drop (k + 1)).map c).flatten) := by
    conv => lhs; rw [e]
    rw [List.map_append, List.flatten_append, List.map_cons, List.flatten_cons]
  rw [e3, e2]
  unfold setSeg
  rw [← h1, List.take_left]
  have e4 : List.drop (((l.take k).map c).flatten.length + (c a).length) (((l.take k).map c).flatten ++ (c l[k] ++ ((l.drop (k + 1)).map c).flatten)) = ((l.drop (k + 1)).map c).flatten := by
    rw [hc, ← hc l[k], ← List.drop_drop, List.drop_left, List.drop_left]
  rw [e4, List.map_append, List.flatten_append, List.map_cons, List.flatten_cons]
theorem rows_all (hc : ∀ a, (c a).length = sz) (hd : ∀ a, (c a).map A.down = c a) (l : List α) : RowsAre (l.map c).flatten (l.map c) sz := rows_of (fun y hy => by obtain ⟨b, _, rfl⟩ := List.mem_map.1 hy; exact hc b) (flat_down hd l)
end
set_option maxHeartbeats 8000000 in
theorem law_spoilt (d : Day) (k0 : Int) (hs : Small d) : Ans Try.prog 10 [.agg d.c, .int k0] (.bool true) := by
  obtain ⟨P, n, e2, h3, _, hc⟩ := best_lost d hs
  refine told Try.func10 rfl rfl (Pure.of tab_ok Try.func10 rfl Try.ntmps10 rfl (allC (.agg _ d.free) (all1 (.s _))) (allC (fun _ => rfl) (all1 (fun _ => rfl))) (by first | exact .s _ | assumption | exact .tup _ (by intro x hx; simp only [List.mem_cons, List.not_mem_nil, or_false] at hx; rcases hx with rfl | rfl | rfl | rfl <;> first | exact .s _ | (simp_all; done))) fun E hE => ?_)
  have udc : Under 0 (A.pt d.c) := (Free.pt _ d.free).under
  refine Aw.sm tab_ok mb0 [] rfl rfl ?zo ?zk
  case zo =>
    repeat' apply AllP.cons
    all_goals first | exact trivial
  case zk =>
  refine Aw.sm tab_ok mb0 [(1, [.tup [planA P, .int n, .int e2]])] rfl rfl ?zo ?zk
  case zo =>
    repeat' apply AllP.cons
    all_goals first | exact trivial | exact Nat.le_of_ble_eq_true rfl | exact h3
  case zk =>
  refine Aw.seq ?_
  refine Aw.sm tab_ok mb0 [(4, [.bool d.ok])] rfl rfl ?zo ?zk
  case zo =>
    repeat' apply AllP.cons
    all_goals first | exact trivial | exact id | exact fun _ => rfl | exact fun _ => Nat.le_of_ble_eq_true rfl | exact fun _ => sound_t d hs | exact gq_f
  case zk =>
  rcases hc with ⟨hok, rfl, rfl, rfl⟩ | ⟨hno, rfl, rfl, rfl⟩
  case inr =>
    refine Aw.cond rfl (fun _ => ?_) (fun h => by cases h)
    refine Aw.sm tab_ok mb0 [(8, [.bool true])] rfl rfl ?zo ?zk
    case zo =>
      repeat' apply AllP.cons
      all_goals first | exact trivial | exact id | exact fun _ => rfl | exact fun _ => works_t
    case zk =>
    exact Aw.ret ⟨_, .cons (.tmp _) .nil, rfl⟩
  have hd := DayOk.of hok
  have hh := hd.hours
  have nl := hd.nl
  have nw := hd.nw
  have ll : ((d.lots.map Lot.c).length : Int) = d.lots.length := by simp
  have lw : ((d.wks.map Wk.c).length : Int) = d.wks.length := by simp
  have lpl : (((planF d).map Task.c).length : Int) = (planF d).length := by simp
  have hbl := best_len hd
  by_cases hemp : planF d = []
  · refine Aw.cond rfl (fun _ => ?_) (fun h => ?_)
    · refine Aw.sm tab_ok mb0 [(8, [.bool true])] rfl rfl ?zo ?zk
      case zo =>
        repeat' apply AllP.cons
        all_goals first | exact trivial | exact id | exact fun _ => rfl | exact gq_f | exact fun _ => works_t
      case zk =>
      exact Aw.ret ⟨_, .cons (.tmp _) .nil, rfl⟩
    · have h : cond (cond (cond (!((0 : Int) == 0)) true (!d.ok)) true (((((planF d).map Task.c).length : Int)) == 0)) true (decide ((((planF d).map Task.c).length : Int) > 400)) = false := h
      rw [hok, hemp] at h; cases h
  have hpos : 0 < (planF d).length := List.length_pos_iff.2 hemp
  have hie : (planF d).isEmpty = false := by simpa using hemp
  refine Aw.cond rfl (fun h => ?_) (fun _ => Aw.skip ?_)
  · have h : cond (cond (cond (!((0 : Int) == 0)) true (!d.ok)) true (((((planF d).map Task.c).length : Int)) == 0)) true (decide ((((planF d).map Task.c).length : Int) > 400)) = true := h
    have q : ((((planF d).map Task.c).length : Int) == 0) = false := by simp; exact hemp
    rw [hok, q, decide_eq_false (by omega)] at h; cases h
  have g1 := Int.emod_nonneg k0 (show ((planF d).length : Int) ≠ 0 by omega)
  have g2 := Int.emod_lt_of_pos k0 (show 0 < ((planF d).length : Int) by omega)
  have hmod : Ans Try.prog 40 [.int k0, .int (((planF d).map Task.c).length : Int)] (.int (k0 % ((planF d).length : Int))) := by rw [lpl]; exact mod_t k0 _ (by omega) (by omega)
  obtain ⟨k, hk⟩ : ∃ k : Nat, k0 % ((planF d).length : Int) = k := ⟨(k0 % ((planF d).length : Int)).toNat, (Int.toNat_of_nonneg g1).symm⟩
  rw [hk] at g1 g2 hmod
  have hlt : k < (planF d).length := by omega
  refine Aw.sm tab_ok mb0 [(3, [.int k])] rfl rfl ?zo ?zk
  case zo =>
    repeat' apply AllP.cons
    all_goals first | exact trivial | exact hmod
  case zk =>
  have hmem := List.getElem_mem hlt
  have hget := get_map (f := Task.c) hlt
  obtain ⟨hg, hc1, hc2, hcan⟩ := best_can hd hmem
  have hov := best_over hd hmem
  have hless := less_is hd hlt
  obtain ⟨nm, hmore⟩ := more_is hd hlt
  have hpc : ∀ x ∈ planF d, 0 ≤ x.crans ∧ x.crans ≤ 50 := fun x hx => by have := best_pos hd x hx; omega
  have hll := less_sum (planF d) k hlt Task.crans
  generalize ht0 : (planF d)[k] = t at *
  have hlp := lost_pos hd Spn.hi
  have hlc := lost_crans hd Spn.hi
  have hcr := crans_bd hd d.lots.length
  unfold cransL at hcr
  rw [List.take_length] at hcr
  have hcr : 0 ≤ cransOf d ∧ cransOf d ≤ 400 := hcr
  obtain ⟨n1, a1, b1⟩ := isPlan_answer hs hok ((planF d).take k ++ (planF d).drop (k + 1)) (by simp; omega) _ hless
  have b1 := b1 _ rfl
  subst b1
  obtain ⟨n2, a2, _⟩ := isPlan_answer hs hok ((planF d).set k (cranMore t)) (by simp; omega) _ hmore
  refine Aw.sm tab_ok mb0 [(2, t.c)] rfl rfl ?zo ?zk
  case zo =>
    repeat' apply AllP.cons
    all_goals first | exact trivial | exact rfl | exact Nat.le_of_ble_eq_true rfl | exact Int.natCast_nonneg _ | exact hget
  case zk =>
  have hcs : ∀ l : List Task, ∀ z ∈ l.map Task.c, z.length = 4 := fun l z hz => by obtain ⟨y, _, rfl⟩ := List.mem_map.1 hz; rfl
  have hm0 : ((planF d).map Task.c).take k = ((planF d).take k).map Task.c := (List.map_take ..).symm
  have hm1 : ((planF d).map Task.c).drop (k + 1) = ((planF d).drop (k + 1)).map Task.c := (List.map_drop ..).symm
  have tk : ((k : Int)).toNat = k := Int.toNat_natCast k
  have tk1 : ((k : Int) + 1).toNat = k + 1 := by omega
  have hlA : A.sl false .any (((planF d).map Task.c).take ((k : Int)).toNat ++ ((planF d).map Task.c).drop ((k : Int) + 1).toNat) = .sl false .any (((planF d).take k ++ (planF d).drop (k + 1)).map Task.c) := by rw [tk, tk1, hm0, hm1, List.map_append]
  have lt1 : (((planF d).map Task.c).take ((k : Int)).toNat).length = k := by rw [tk, List.length_take, List.length_map]; omega
  have lt2 : (((planF d).map Task.c).drop ((k : Int) + 1).toNat).length ≤ 400 := by rw [tk1, List.length_drop, List.length_map]; omega
  have z1 : ∀ z ∈ ((planF d).map Task.c).take ((k : Int)).toNat, z.length = 4 := fun z hz => hcs _ z (List.mem_of_mem_take hz)
  have z2 : ∀ z ∈ ((planF d).map Task.c).drop ((k : Int) + 1).toNat, z.length = 4 := fun z hz => hcs _ z (List.mem_of_mem_drop hz)
  have hkp : (k : Int) ≤ (((planF d).map Task.c).length : Int) := by omega
  refine Aw.sd tab_ok mixed mb0 [] rfl (by kernel_rfl) rfl rfl ?zo ?zk
  case zo =>
    repeat' apply AllP.cons
    all_goals first | exact trivial | exact Nat.le_of_ble_eq_true rfl | exact Int.natCast_nonneg _ | exact hkp | exact hcs _ | exact z1 | exact z2 | exact (show (k : Int) + 1 ≤ (((planF d).map Task.c).length : Int) by omega) | exact (show inR ((k : Int) + 1) by simp only [inR]; omega) | exact (show (0 + (((planF d).map Task.c).take ((k : Int)).toNat).length) * 32 ≤ 140737488355328 by omega) | exact (show 0 + (((planF d).map Task.c).take ((k : Int)).toNat).length ≤ maxLen by unfold maxLen; omega) | exact (show ((((planF d).map Task.c).take ((k : Int)).toNat).length + (((planF d).map Task.c).drop ((k : Int) + 1).toNat).length) * 32 ≤ 140737488355328 by omega) | exact (show (((planF d).map Task.c).take ((k : Int)).toNat).length + (((planF d).map Task.c).drop ((k : Int) + 1).toNat).length ≤ maxLen by unfold maxLen; omega)
  case zk =>
  have a1' : Ans Try.prog 21 [.agg d.c, .sl false .any (((planF d).map Task.c).take ((k : Int)).toNat ++ ((planF d).map Task.c).drop ((k : Int) + 1).toNat)] (.tup [.int (lostE d Spn.hi + t.crans), .bool true, .int 0]) := by rw [hlA]; exact a1
  refine Aw.sm tab_ok mb0 [(2, [.tup [.int (lostE d Spn.hi + t.crans), .bool true, .int 0]])] rfl rfl ?zo ?zk
  case zo =>
    repeat' apply AllP.cons
    all_goals first | exact trivial | exact Nat.le_of_ble_eq_true rfl | exact a1'
  case zk =>
  refine Aw.seq ?_
  have hir : inR (lostE d Spn.hi + t.crans) := by simp only [inR]; omega
  refine Aw.sm tab_ok mb0 [(21, [.bool (lotIn d t)]), (31, [.bool (wkIn d t)])] rfl rfl ?zo ?zk
  case zo =>
    repeat' apply AllP.cons
    all_goals first | exact trivial | exact id | exact fun _ => rfl | exact fun _ => Nat.le_of_ble_eq_true rfl | exact (in_t _ _ _).un | exact gq_f | exact fun _ => hir | exact fun _ => (by simp only [Ob.of, inR]; omega)
  case zk =>
  refine Aw.cond rfl (fun h => ?_) (fun _ => Aw.skip ?_)
  · have h : cond (cond (cond (cond (!((0 : Int) == 0)) true (!true)) true (!(lostE d Spn.hi + t.crans == lostE d Spn.hi + t.crans))) true (!lotIn d t)) true (!wkIn d t) = true := h
    rw [hg.1, hg.2.1] at h
    simp at h
  have hne : (planF d).map Task.c ≠ [] := by simpa using hemp
  refine Aw.sm tab_ok mb0 [(2, [.ms 0 0 0])] rfl rfl ?zo ?zk
  case zo =>
    repeat' apply AllP.cons
    all_goals first | exact trivial | exact rfl | exact Nat.le_of_ble_eq_true rfl | exact hne | exact hcs _ | exact (show ((planF d).map Task.c).length * 32 ≤ 140737488355328 by omega) | exact (show ((planF d).map Task.c).length ≤ maxLen by unfold maxLen; omega)
  case zk =>
  have hfl : ((((planF d).map Task.c).flatten).map A.down).length = (planF d).length * 4 := by rw [List.length_map, flat_len (hcs _), List.length_map]
  have tsk : Ans Try.prog 43 [.int t.lot, .int t.worker, .int t.hour, .int (t.crans + 1)] (.agg (Task.c (cranMore t))) := task_t _ _ _ _
  refine Aw.sm tab_ok mb0 [(11, [.agg (Task.c (cranMore t))])] rfl rfl ?zo ?zk
  case zo =>
    repeat' apply AllP.cons
    all_goals first | exact trivial | exact rfl | exact Nat.le_of_ble_eq_true rfl | exact Int.natCast_nonneg _ | exact tsk | exact (show inR (t.crans + 1) by simp only [inR]; omega) | exact (show (k : Int) < ((((planF d).map Task.c).length : Nat) : Int) by omega) | exact (show 0 + ((k : Int)).toNat * 4 + 4 ≤ ((((planF d).map Task.c).flatten).map A.down).length by rw [hfl, tk]; omega)
  case zk =>
  refine Aw.freezeS (id := 12) (t := 12) (sz := 4) (cs := setSeg ((((planF d).map Task.c).flatten).map A.down) (0 + k * 4) (Task.c (cranMore t))) (((planF d).set k (cranMore t)).map Task.c) rfl rfl (by
    rw [rows_set (c := Task.c) (sz := 4) (fun _ => rfl) (fun _ => rfl) hlt]
    exact rows_all (c := Task.c) (fun _ => rfl) (fun _ => rfl) _) (by simp) ?_
  refine Aw.sm tab_ok mb0 [] rfl rfl ?zo ?zk
  case zo =>
    repeat' apply AllP.cons
    all_goals first | exact trivial
  case zk =>
  refine Aw.seq ?_
  refine Aw.sm tab_ok mb0 [] rfl rfl ?zo ?zk
  case zo =>
    repeat' apply AllP.cons
    all_goals first | exact trivial
  case zk =>
  have h1E : ∀ id, 1 ≤ id → E.φ0 id = none := fun id h => hE id (by omega)
  have udc1 : Under 1 (A.pt d.c) := (Free.pt _ d.free).under
  have hofb : ∀ k, 0 ≤ ofL ((planF d).take k) t ∧ ofL ((planF d).take k) t ≤ 20000 := fun k => (hofb0 (d := d) t (fun x hx => hpc x (List.mem_of_mem_take hx)) (by rw [List.length_take]; omega)).1
  have hbyb : ∀ k, 0 ≤ byL ((planF d).take k) t ∧ byL ((planF d).take k) t ≤ 20000 := fun k => (hofb0 (d := d) t (fun x hx => hpc x (List.mem_of_mem_take hx)) (by rw [List.length_take]; omega)).2
  refine Aw.block (Aw.rounds 1 h1E [(2, .pt d.c), (5, planA (planF d)), (8, .ref 0 0), (12, .sl false .any (((planF d).set k (cranMore t)).map Task.c))] (fun i : Nat => [(13, .int (1 + ofL ((planF d).take i) t)), (14, .int (1 + byL ((planF d).take i) t)), (15, .int i)]) (fun _ => [(0, .cells t.c)]) (fun i => i ≤ (planF d).length) (fun i => (planF d).length - i) 0
    (Nat.zero_le _) ⟨⟨.refl _, .refl _, .refl _, .refl _, trivial⟩, ⟨.refl _, .refl _, .refl _, trivial⟩, ⟨rfl, trivial⟩, Nat.le_of_ble_eq_true rfl⟩ ⟨udc1, (planA_free _).under, .ref _ _ (by decide), (free_map Task.free _ _ _).under, trivial⟩ (fun _ _ => ⟨.s _, .s _, .s _, trivial⟩) (fun _ _ => ⟨⟨by decide, .cells _ fun x hx => (t.free x hx).under⟩, trivial⟩) fun i hi => ?_)
  refine Aw.seq ?_
  refine Aw.sm tab_ok mb0 [] rfl rfl ?zo ?zk
  case zo =>
    repeat' apply AllP.cons
    all_goals first | exact trivial
  case zk =>
  refine Aw.cond rfl (fun h5 => Aw.skip ?_) (fun h5 => ?_)
  · have hki : i < (planF d).length := by have := of_decide_eq_true h5; omega
    have ho : ofL ((planF d).take (i + 1)) t = ofL ((planF d).take i) t + ofT t (planF d)[i] := take_map_succ hki _
    have hb : byL ((planF d).take (i + 1)) t = byL ((planF d).take i) t + byT' t (planF d)[i] := take_map_succ hki _
    have hgk := get_map (f := Task.c) hki
    have o1 := hofb i
    have o2 := hofb (i + 1)
    have b1 := hbyb i
    have b2 := hbyb (i + 1)
    generalize (planF d)[i] = x at *
    generalize ofL ((planF d).take i) t = s1 at *
    generalize byL ((planF d).take i) t = s2 at *
    have inrx : inR ((i : Int) + 1) := by simp only [inR]; omega
    refine Aw.seq (Aw.block ?_)
    refine Aw.seq ?_
    refine Aw.sd tab_ok mixed mb0 [(2, x.c)] rfl (by kernel_rfl) rfl rfl ?zo ?zk
    case zo =>
      repeat' apply AllP.cons
      all_goals first | exact trivial | exact rfl | exact Nat.le_of_ble_eq_true rfl | exact Int.natCast_nonneg _ | exact hgk
    case zk =>
    refine Aw.cond rfl (fun h6 => ?_) (fun h6 => Aw.skip ?_)
    · have h6 : (x.lot == t.lot) = true := h6
      have e1 : ofT t x = x.crans := by unfold ofT; rw [if_pos h6]
      rw [e1] at ho
      refine Aw.em tab_ok mb0 [(3, x.c)] rfl rfl ?zo ?zk
      case zo =>
        repeat' apply AllP.cons
        all_goals first | exact trivial | exact rfl | exact Nat.le_of_ble_eq_true rfl | exact Int.natCast_nonneg _ | exact hgk | exact (show inR (1 + s1 + x.crans) by simp only [inR]; omega)
      case zk =>
      refine Aw.sd tab_ok mixed mb0 [(2, x.c), (11, x.c)] rfl (by kernel_rfl) rfl rfl ?zo ?zk
      case zo =>
        repeat' apply AllP.cons
        all_goals first | exact trivial | exact id | exact rfl | exact fun _ => rfl | exact Nat.le_of_ble_eq_true rfl | exact fun _ => Nat.le_of_ble_eq_true rfl | exact Int.natCast_nonneg _ | exact fun _ => Int.natCast_nonneg _ | exact hgk | exact fun _ => hgk
      case zk =>
      refine Aw.cond rfl (fun h7 => ?_) (fun h7 => Aw.skip ?_)
      · have h7 : cond (x.worker == t.worker) (x.hour == t.hour) false = true := h7
        have e2 : byT' t x = x.crans := by unfold byT'; rw [if_pos h7]
        rw [e2] at hb
        refine Aw.em tab_ok mb0 [(3, x.c)] rfl rfl ?zo ?zk
        case zo =>
          repeat' apply AllP.cons
          all_goals first | exact trivial | exact rfl | exact Nat.le_of_ble_eq_true rfl | exact Int.natCast_nonneg _ | exact hgk | exact (show inR (1 + s2 + x.crans) by simp only [inR]; omega)
        case zk =>
        refine Aw.em tab_ok mb0 [] rfl rfl ?zo ?zk
        case zo =>
          repeat' apply AllP.cons
          all_goals first | exact trivial | exact inrx
        case zk =>
        exact ⟨i + 1, hki, by omega, ⟨.refl _, .refl _, .refl _, .refl _, trivial⟩, ⟨.of_eq (congrArg A.int (show _ = 1 + s1 + x.crans by omega)), .of_eq (congrArg A.int (show _ = 1 + s2 + x.crans by omega)), .refl _, trivial⟩, ⟨rfl, trivial⟩, Nat.le_of_ble_eq_true rfl⟩
      · have h7 : cond (x.worker == t.worker) (x.hour == t.hour) false = false := h7
        have e2 : byT' t x = 0 := by unfold byT'; rw [h7]; rfl
        rw [e2, Int.add_zero] at hb
        refine Aw.em tab_ok mb0 [] rfl rfl ?zo ?zk
        case zo =>
          repeat' apply AllP.cons
          all_goals first | exact trivial | exact inrx
        case zk =>
        exact ⟨i + 1, hki, by omega, ⟨.refl _, .refl _, .refl _, .refl _, trivial⟩, ⟨.of_eq (congrArg A.int (show _ = 1 + s1 + x.crans by omega)), .of_eq (congrArg A.int (show _ = 1 + s2 by omega)), .refl _, trivial⟩, ⟨rfl, trivial⟩, Nat.le_of_ble_eq_true rfl⟩
    · have h6 : (x.lot == t.lot) = false := h6
      have e1 : ofT t x = 0 := by unfold ofT; rw [h6]; rfl
      rw [e1, Int.add_zero] at ho
      refine Aw.sd tab_ok mixed mb0 [(2, x.c), (11, x.c)] rfl (by kernel_rfl) rfl rfl ?zo ?zk
      case zo =>
        repeat' apply AllP.cons
        all_goals first | exact trivial | exact id | exact rfl | exact fun _ => rfl | exact Nat.le_of_ble_eq_true rfl | exact fun _ => Nat.le_of_ble_eq_true rfl | exact Int.natCast_nonneg _ | exact fun _ => Int.natCast_nonneg _ | exact hgk | exact fun _ => hgk
      case zk =>
      refine Aw.cond rfl (fun h7 => ?_) (fun h7 => Aw.skip ?_)
      · have h7 : cond (x.worker == t.worker) (x.hour == t.hour) false = true := h7
        have e2 : byT' t x = x.crans := by unfold byT'; rw [if_pos h7]
        rw [e2] at hb
        refine Aw.em tab_ok mb0 [(3, x.c)] rfl rfl ?zo ?zk
        case zo =>
          repeat' apply AllP.cons
          all_goals first | exact trivial | exact rfl | exact Nat.le_of_ble_eq_true rfl | exact Int.natCast_nonneg _ | exact hgk | exact (show inR (1 + s2 + x.crans) by simp only [inR]; omega)
        case zk =>
        refine Aw.em tab_ok mb0 [] rfl rfl ?zo ?zk
        case zo =>
          repeat' apply AllP.cons
          all_goals first | exact trivial | exact inrx
        case zk =>
        exact ⟨i + 1, hki, by omega, ⟨.refl _, .refl _, .refl _, .refl _, trivial⟩, ⟨.of_eq (congrArg A.int (show _ = 1 + s1 by omega)), .of_eq (congrArg A.int (show _ = 1 + s2 + x.crans by omega)), .refl _, trivial⟩, ⟨rfl, trivial⟩, Nat.le_of_ble_eq_true rfl⟩
      · have h7 : cond (x.worker == t.worker) (x.hour == t.hour) false = false := h7
        have e2 : byT' t x = 0 := by unfold byT'; rw [h7]; rfl
        rw [e2, Int.add_zero] at hb
        refine Aw.em tab_ok mb0 [] rfl rfl ?zo ?zk
        case zo =>
          repeat' apply AllP.cons
          all_goals first | exact trivial | exact inrx
        case zk =>
        exact ⟨i + 1, hki, by omega, ⟨.refl _, .refl _, .refl _, .refl _, trivial⟩, ⟨.of_eq (congrArg A.int (show _ = 1 + s1 by omega)), .of_eq (congrArg A.int (show _ = 1 + s2 by omega)), .refl _, trivial⟩, ⟨rfl, trivial⟩, Nat.le_of_ble_eq_true rfl⟩
  have hki : i = (planF d).length := by have := of_decide_eq_false h5; omega
  subst hki
  refine Aw.exit2 ?_
  have q1 := tLot_get hg.1
  have q2 := tWk_get hg.2.1
  have hlg : (d.lots.map Lot.c)[t.lot.toNat]? = some (tLot d t).c := by rw [List.getElem?_map, q1.2.2]; rfl
  have hwg : (d.wks.map Wk.c)[t.worker.toNat]? = some (tWk d t).c := by rw [List.getElem?_map, q2.2.2]; rfl
  rw [List.take_length]
  have hB : (if 1 + ofL (planF d) t ≤ (tLot d t).crans ∧ 1 + byL (planF d) t ≤ (tWk d t).rate then some nm else none).isSome = cond (decide (1 + ofL (planF d) t ≤ (tLot d t).crans)) (decide (1 + byL (planF d) t ≤ (tWk d t).rate)) false := by
    by_cases h1 : 1 + ofL (planF d) t ≤ (tLot d t).crans <;> by_cases h2 : 1 + byL (planF d) t ≤ (tWk d t).rate <;> simp [h1, h2]
  rw [hB] at a2
  refine Aw.sm tab_ok mb0 [(2, [.tup [.int n2, .bool (cond (decide (1 + ofL (planF d) t ≤ (tLot d t).crans)) (decide (1 + byL (planF d) t ≤ (tWk d t).rate)) false), .int 0]])] rfl rfl ?zo ?zk
  case zo =>
    repeat' apply AllP.cons
    all_goals first | exact trivial | exact Nat.le_of_ble_eq_true rfl | exact a2
  case zk =>
  refine Aw.sm tab_ok mb0 [(9, (tLot d t).c), (19, (tWk d t).c), (27, [.bool true])] rfl rfl ?zo ?zk
  case zo =>
    repeat' apply AllP.cons
    all_goals first | exact trivial | exact id | exact fun _ => rfl | exact fun _ => Nat.le_of_ble_eq_true rfl | exact gq_c | exact fun _ _ => rfl | exact fun _ => hlg | exact fun _ => hwg | exact fun _ => q1.1 | exact fun _ => q2.1 | exact fun _ => works_t
  case zk =>
  refine Aw.ret ⟨_, .cons (.tmp _) .nil, ?_⟩
  show A.bool (cond (cond ((0 : Int) == 0) (cond (decide (1 + ofL (planF d) t ≤ (tLot d t).crans)) (decide (1 + byL (planF d) t ≤ (tWk d t).rate)) false == cond (decide (1 + ofL (planF d) t ≤ (tLot d t).crans)) (decide (1 + byL (planF d) t ≤ (tWk d t).rate)) false) false) true false) = .bool true
  simp
end Go.Proofs.Ytimikmfkdaoaaaa
namespace Go.Proofs.Ytimikmfkdaoaaaa
open Go Go.AL
def crMore (l : Lot) : Lot := ⟨l.crans + 1, l.landed, l.keep, l.fit⟩
def moreCr (d : Day) (j : Nat) : Day := { d with ln := false, lots := d.lots.set j (crMore (d.lots.getD j lotD)) }
section
variable {d : Day} {j : Nat}
theorem mc_get (hj : j < d.lots.length) (i : Nat) : (moreCr d j).lots[i]? = if j = i then some (crMore (d.lots.getD j lotD)) else d.lots[i]? := by
  show (d.lots.set j _)[i]? = _
  rw [List.getElem?_set]
  by_cases e : j = i
  · subst e; simp [hj]
  · simp [e]
theorem mc_slots (hj : j < d.lots.length) (f : Spn → Int) (i : Nat) : slotsOf (opened (moreCr d j) f) i = slotsOf (opened d f) i := by
  rw [slotsOf_is, slotsOf_is, mc_get hj]
  by_cases e : j = i
  · subst e
    have e1 : d.lots[j]? = some (d.lots.getD j lotD) := by simp [List.getD_eq_getElem?_getD, hj]
    rw [if_pos rfl, e1]; rfl
  · rw [if_neg e]
    cases d.lots[i]? <;> rfl
theorem mc_cr (hj : j < d.lots.length) (f : Spn → Int) (i : Nat) : crN (opened (moreCr d j) f) i = crN (opened d f) i + if i = j then 1 else 0 := by
  unfold crN
  have e0 : (opened (moreCr d j) f).g.lots[i]? = if j = i then some (crMore (d.lots.getD j lotD)) else d.lots[i]? := mc_get hj i
  have e00 : (opened d f).g.lots[i]? = d.lots[i]? := rfl
  rw [e0, e00]
  by_cases e : j = i
  · subst e
    have e1 : d.lots[j]? = some (d.lots.getD j lotD) := by simp [List.getD_eq_getElem?_getD, hj]
    rw [if_pos rfl, e1, if_pos rfl]; rfl
  · rw [if_neg e, if_neg (fun h => e h.symm), Int.add_zero]
theorem mc_len : (moreCr d j).lots.length = d.lots.length := by show (d.lots.set j _).length = _; simp
theorem mc_defi (hj : j < d.lots.length) (f : Spn → Int) (L : Nat → Bool) : defi (opened (moreCr d j) f) L = defi (opened d f) L + if L j then 1 else 0 := by
  unfold defi
  have h1 : crs (opened (moreCr d j) f) L = crs (opened d f) L + if L j then 1 else 0 := by
    unfold crs
    have e : (opened (moreCr d j) f).g.lots.length = d.lots.length := mc_len
    rw [e, ← sumN_one (n := d.lots.length) (k := j) (if L j then 1 else 0) hj]
    show _ = sumN d.lots.length _ + _
    rw [← sumN_add]
    refine sumN_congr fun i _ => ?_
    rw [mc_cr hj]
    by_cases e : i = j
    · subst e; cases L i <;> simp
    · rw [if_neg e, if_neg e]; simp
  have h2 : capa (opened (moreCr d j) f) L = capa (opened d f) L := by
    unfold capa
    refine sumN_congr (n := nP (opened d f)) fun p _ => ?_
    have : reach (opened (moreCr d j) f) L p = reach (opened d f) L p := by
      rw [Bool.eq_iff_iff, reach_iff, reach_iff]
      have e : (opened (moreCr d j) f).g.lots.length = (opened d f).g.lots.length := mc_len
      simp only [e, mc_slots hj]
    rw [this]; rfl
  rw [h1, h2]; omega
theorem mc_ok (hok : d.ok = true) (hj : j < d.lots.length) (h50 : (d.lots.getD j lotD).crans < 50) : (moreCr d j).ok = true := by
  have h1 := ac1 (ac1 (ac1 hok))
  have h2 := ac2 (ac1 (ac1 hok))
  have h3 := ac2 (ac1 hok)
  have h4 := ac2 hok
  have e1 : (moreCr d j).head = true := by
    have : (moreCr d j).head = d.head := by
      unfold Day.head
      have : ((moreCr d j).lots.map Lot.c).length = (d.lots.map Lot.c).length := by rw [List.length_map, List.length_map]; exact mc_len
      rw [this]; rfl
    rw [this]; exact h1
  have h3 : ∀ l ∈ d.lots, lotOk d.hours l = true := List.all_eq_true.1 h3
  have e3 : (moreCr d j).lots.all (lotOk d.hours) = true := List.all_eq_true.2 fun l hl => by
    rcases List.mem_or_eq_of_mem_set (show l ∈ d.lots.set j (crMore (d.lots.getD j lotD)) from hl) with h | h
    · exact h3 l h
    · subst h
      have hm : d.lots.getD j lotD ∈ d.lots := by simp [List.getD_eq_getElem?_getD, hj]
      have := lotOk_iff (h3 _ hm)
      unfold lotOk crMore
      rw [wi_iff.2 (show 1 ≤ (d.lots.getD j lotD).crans + 1 ∧ (d.lots.getD j lotD).crans + 1 ≤ 50 by omega), wi_iff.2 this.2.1, wi_iff.2 this.2.2.1, wi_iff.2 this.2.2.2]; rfl
  unfold Day.ok
  rw [e1]
  show cond (cond (cond true (d.heat.all heatOk) false) ((moreCr d j).lots.all (lotOk d.hours)) false) (d.wks.all fun w => isWorker w d.hours) false = true
  have h2 : d.heat.all heatOk = true := h2
  have h4 : (d.wks.all fun w => isWorker w d.hours) = true := h4
  rw [h2, e3, h4]; rfl
end
theorem told_lots {d : Day} (hd : DayOk d) : risingF d.lots.length (-1) (greF d Spn.hi d.wks).2 = true ∧ rdef d Spn.hi (greF d Spn.hi d.wks).2 d.wks = lostE d Spn.hi := by
  have g := gre_inv d Spn.hi d.wks (2 ^ d.lots.length - 1)
  rw [lost_gre hd]
  unfold greF
  rcases g.is with h | ⟨_, q, _, _, q3, q4, _⟩
  · rw [h.1, h.2]
    refine ⟨rfl, ?_⟩
    rw [← deficit_is hd Spn.hi (l := []) (fun i hi => by cases hi)]; rfl
  · rw [q3]
    exact ⟨memL_rising, q4⟩
theorem mc_lost {d : Day} {j : Nat} (hok : d.ok = true) (hj : j < d.lots.length) (h50 : (d.lots.getD j lotD).crans < 50) (hm : (j : Int) ∈ (greF d Spn.hi d.wks).2) : lostE (moreCr d j) Spn.hi = lostE d Spn.hi + 1 := by
  have hd := DayOk.of hok
  have hx := DayOk.of (mc_ok hok hj h50)
  obtain ⟨hr, hv⟩ := told_lots hd
  refine Int.le_antisymm ?_ ?_
  · refine lost_le hd hx fun L => ⟨L, ?_⟩
    rw [mc_defi hj]; split <;> omega
  · have h1 := (lost_all hx Spn.hi).2 fun i => (greF d Spn.hi d.wks).2.contains (i : Int)
    rw [mc_defi hj, defi_list] at h1
    have e : (opened d Spn.hi).g = d := rfl
    rw [e, rising_set hr, deficit_is hd Spn.hi (fun i hi => by have := rising_gt hr i hi; omega), hv] at h1
    have e2 : (greF d Spn.hi d.wks).2.contains ((j : Nat) : Int) = true := List.contains_iff_mem.2 hm
    simp only [e2, if_true] at h1
    exact h1
theorem others_le {d : Day} (hd : DayOk d) {q : Nat} (hq : q < 2 ^ d.lots.length) : rdef d Spn.hi (memL (q : Int) d.lots.length) d.wks ≤ lostE d Spn.hi ∧ (rdef d Spn.hi (memL (q : Int) d.lots.length) d.wks = lostE d Spn.hi → ¬ LtL (memL (q : Int) d.lots.length) (greF d Spn.hi d.wks).2) := by
  have g := gre_inv d Spn.hi d.wks (2 ^ d.lots.length - 1)
  rw [lost_gre hd]
  unfold greF
  have hnil : ∀ l : List Int, ¬ LtL l [] := fun l h => by
    rcases h with h | h
    · exact absurd h (Nat.not_lt_zero _)
    · have := List.eq_nil_of_length_eq_zero (show l.length = 0 from h.1)
      subst this; cases h.2
  by_cases h0 : q = 0
  · subst h0
    have e : memL ((0 : Nat) : Int) d.lots.length = [] := memL_nil _
    rw [e]
    have e2 : rdef d Spn.hi [] d.wks = 0 := by rw [← deficit_is hd Spn.hi (l := []) (fun i hi => by cases hi)]; rfl
    rw [e2]
    refine ⟨g.pos, fun h => ?_⟩
    rcases g.is with h1 | ⟨h1, _⟩
    · rw [h1.2]; exact hnil _
    · omega
  · refine ⟨g.le q (by omega) (by omega), fun h => ?_⟩
    rcases g.is with h1 | ⟨_, p, _, _, _, _, p5⟩
    · rw [h1.2]; exact hnil _
    · exact p5 q (by omega) (by omega) h
theorem proof_answer (d : Day) (hs : Small d) : ∃ l e, Ans Try.prog 27 [.agg d.c] (.tup [outW l, .int e]) ∧ ((d.ok = true ∧ e = 0 ∧ l = (greF d Spn.hi d.wks).2) ∨ (d.ok = false ∧ e = 50 ∧ l = [])) := by
  have h1 := Proof_t d hs
  unfold proofR at h1
  by_cases hok : d.ok = true
  · rw [if_pos hok] at h1
    have hd := DayOk.of hok
    have e : proofV d = (greF d Spn.hi d.wks).2 := congrArg Prod.snd (proof_is hd Spn.hi)
    rw [e] at h1
    exact ⟨_, _, Ans_out h1 (leTup2 (outW_le _) (.refl _)), .inl ⟨hok, rfl, rfl⟩⟩
  · rw [if_neg hok] at h1
    exact ⟨[], _, Ans_out h1 (leTup2 (outW_le _) (.refl _)), .inr ⟨by simpa using hok, rfl, rfl⟩⟩
theorem deficit_answer {d : Day} (hs : Small d) (hok : d.ok = true) {l : List Int} (hr : risingF d.lots.length (-1) l = true) : Ans Try.prog 25 [.agg d.c, outW l] (.tup [.int (rdef d Spn.hi l d.wks), .int 0]) := by
  have hri := rising_in hr (Int.le_refl _) (by omega)
  have hnl := (DayOk.of hok).nl
  have h1 := Deficit_t d l.isEmpty l hs (by omega)
  unfold deficitR at h1
  have e : nLots d = d.lots.length := by unfold nLots; simp
  rw [e, if_pos hok, if_pos hr, deficit_is (.of hok) Spn.hi (fun i hi => by have := rising_gt hr i hi; omega)] at h1
  exact h1
set_option maxHeartbeats 8000000 in
theorem law_proved (d : Day) (k0 : Int) (hs : Small d) : Ans Try.prog 9 [.agg d.c, .int k0] (.bool true) := by
  obtain ⟨l, e, h3, hc⟩ := proof_answer d hs
  obtain ⟨P, n, e2, h4, _, hc2⟩ := best_lost d hs
  refine told Try.func9 rfl rfl (Pure.of tab_ok Try.func9 rfl Try.ntmps9 rfl (allC (.agg _ d.free) (all1 (.s _))) (allC (fun _ => rfl) (all1 (fun _ => rfl))) (by first | exact .s _ | assumption | exact .tup _ (by intro x hx; simp only [List.mem_cons, List.not_mem_nil, or_false] at hx; rcases hx with rfl | rfl | rfl | rfl <;> first | exact .s _ | (simp_all; done))) fun E hE => ?_)
  have udc : Under 0 (A.pt d.c) := (Free.pt _ d.free).under
  refine Aw.sm tab_ok mb0 [] rfl rfl ?zo ?zk
  case zo =>
    repeat' apply AllP.cons
    all_goals first | exact trivial
  case zk =>
  refine Aw.sm tab_ok mb0 [(1, [.tup [outW l, .int e]])] rfl rfl ?zo ?zk
  case zo =>
    repeat' apply AllP.cons
    all_goals first | exact trivial | exact Nat.le_of_ble_eq_true rfl | exact h3
  case zk =>
  refine Aw.sm tab_ok mb0 [(1, [.tup [planA P, .int n, .int e2]])] rfl rfl ?zo ?zk
  case zo =>
    repeat' apply AllP.cons
    all_goals first | exact trivial | exact Nat.le_of_ble_eq_true rfl | exact h4
  case zk =>
  refine Aw.seq ?_
  refine Aw.sm tab_ok mb0 [(4, [.bool d.ok])] rfl rfl ?zo ?zk
  case zo =>
    repeat' apply AllP.cons
    all_goals first | exact trivial | exact id | exact fun _ => rfl | exact fun _ => Nat.le_of_ble_eq_true rfl | exact fun _ => sound_t d hs | exact gq_f
  case zk =>
  rcases hc with ⟨hok, rfl, rfl⟩ | ⟨hno, rfl, rfl⟩
  case inr =>
    rcases hc2 with ⟨h, _⟩ | ⟨_, rfl, rfl, rfl⟩
    · rw [hno] at h; cases h
    refine Aw.cond rfl (fun _ => ?_) (fun h => by cases h)
    refine Aw.sm tab_ok mb0 [(13, [.bool true])] rfl rfl ?zo ?zk
    case zo =>
      repeat' apply AllP.cons
      all_goals first | exact trivial | exact id | exact fun _ => rfl | exact fun _ => works_t
    case zk =>
    exact Aw.ret ⟨_, .cons (.tmp _) .nil, rfl⟩
  rcases hc2 with ⟨_, rfl, rfl, rfl⟩ | ⟨h, _⟩
  case inr => rw [hok] at h; cases h
  have hd := DayOk.of hok
  have nl := hd.nl
  have ll : ((d.lots.map Lot.c).length : Int) = d.lots.length := by simp
  refine Aw.cond rfl (fun h => by rw [hok] at h; cases h) (fun _ => Aw.skip ?_)
  obtain ⟨hr, hv⟩ := told_lots hd
  have hlen : (greF d Spn.hi d.wks).2.length ≤ 8 := by
    have := gre_len d Spn.hi d.wks (2 ^ d.lots.length - 1)
    unfold greF; omega
  have hmc : ∀ j : Nat, (j : Int) ∈ (greF d Spn.hi d.wks).2 → j < d.lots.length → (d.lots.getD j lotD).crans < 50 → lostE (moreCr d j) Spn.hi = lostE d Spn.hi + 1 := fun j h1 h2 h3 => mc_lost hok h2 h3 h1
  have dl := deficit_answer hs hok hr
  rw [hv] at dl
  have hp1 : 1 ≤ 2 ^ d.lots.length := Nat.one_le_two_pow
  have hp2 := pow_le8 nl
  have g1 := Int.emod_nonneg k0 (show ((2 ^ d.lots.length : Nat) : Int) ≠ 0 by omega)
  have g2 := Int.emod_lt_of_pos k0 (show 0 < ((2 ^ d.lots.length : Nat) : Int) by omega)
  have hsh : IntKind.i64.wrap (1 * 2 ^ (min (((d.lots.map Lot.c).length : Int).toNat) 64)) = ((2 ^ d.lots.length : Nat) : Int) := by rw [ll]; exact shl1 nl
  have hmod : Ans Try.prog 40 [.int k0, .int (IntKind.i64.wrap (1 * 2 ^ (min (((d.lots.map Lot.c).length : Int).toNat) 64)))] (.int (k0 % ((2 ^ d.lots.length : Nat) : Int))) := by rw [hsh]; exact mod_t k0 _ (by omega) (by omega)
  obtain ⟨q, hq⟩ : ∃ q : Nat, k0 % ((2 ^ d.lots.length : Nat) : Int) = q := ⟨(k0 % ((2 ^ d.lots.length : Nat) : Int)).toNat, (Int.toNat_of_nonneg g1).symm⟩
  rw [hq] at g1 g2 hmod
  have hqlt : q < 2 ^ d.lots.length := by omega
  obtain ⟨o1, o2⟩ := others_le hd hqlt
  have dm := deficit_answer hs hok (l := memL (q : Int) d.lots.length) memL_rising
  have hmem : Ans Try.prog 39 [.int (q : Int), .int ((d.lots.map Lot.c).length : Int)] (outW (memL (q : Int) d.lots.length)) := by rw [ll]; exact members_w _ _ (by omega)
  have hol := memL_len (q : Int) d.lots.length
  generalize memL (q : Int) d.lots.length = o at *
  generalize rdef d Spn.hi o d.wks = M at *
  have hris : Ans Try.prog 41 [outW (greF d Spn.hi d.wks).2, .int ((d.lots.map Lot.c).length : Int)] (.bool true) := by
    have := rising_t (greF d Spn.hi d.wks).2 (greF d Spn.hi d.wks).2.isEmpty ((d.lots.map Lot.c).length : Int) (by omega) (by omega)
    rw [ll, hr] at this
    rw [ll]; exact this
  have hrg : ∀ i ∈ (greF d Spn.hi d.wks).2, -1 < i ∧ i < d.lots.length := fun i hi => rising_gt hr i hi
  generalize (greF d Spn.hi d.wks).2 = l at *
  have hbf := before_t o l o.isEmpty l.isEmpty (by omega) (by omega)
  refine Aw.sm tab_ok mb0 [(2, [.tup [.int (lostE d Spn.hi), .int 0]])] rfl rfl ?zo ?zk
  case zo =>
    repeat' apply AllP.cons
    all_goals first | exact trivial | exact Nat.le_of_ble_eq_true rfl | exact dl
  case zk =>
  refine Aw.sd tab_ok mixed mb0 [(5, [.int ↑q]), (9, [outW o])] rfl (by kernel_rfl) rfl rfl ?zo ?zk
  case zo =>
    repeat' apply AllP.cons
    all_goals first | exact trivial | exact Nat.le_of_ble_eq_true rfl | exact Int.natCast_nonneg _ | exact hmod | exact hmem
  case zk =>
  refine Aw.sm tab_ok mb0 [(2, [.tup [.int M, .int 0]])] rfl rfl ?zo ?zk
  case zo =>
    repeat' apply AllP.cons
    all_goals first | exact trivial | exact Nat.le_of_ble_eq_true rfl | exact dm
  case zk =>
  refine Aw.seq ?_
  refine Aw.sm tab_ok mb0 [(15, [.bool true])] rfl rfl ?zo ?zk
  case zo =>
    repeat' apply AllP.cons
    all_goals first | exact trivial | exact id | exact fun _ => rfl | exact fun _ => Nat.le_of_ble_eq_true rfl | exact gq_f | exact fun _ => hris
  case zk =>
  refine Aw.cond rfl (fun h => ?_) (fun _ => Aw.skip ?_)
  · have h : cond (cond (cond (cond (cond (!((0 : Int) == 0)) true (!((0 : Int) == 0))) true (!((0 : Int) == 0))) true (!true)) true (!(lostE d Spn.hi == lostE d Spn.hi))) true (decide (M > lostE d Spn.hi)) = true := h
    rw [decide_eq_false (show ¬ M > lostE d Spn.hi by omega)] at h
    simp at h
  refine Aw.seq ?_
  refine Aw.sm tab_ok mb0 [(18, [.bool (befF o l)])] rfl rfl ?zo ?zk
  case zo =>
    repeat' apply AllP.cons
    all_goals first | exact trivial | exact id | exact fun _ => rfl | exact gq_c | exact fun _ _ => rfl | exact fun _ => hbf
  case zk =>
  refine Aw.cond rfl (fun h => ?_) (fun _ => Aw.skip ?_)
  · have h : cond (M == lostE d Spn.hi) (cond (decide (((ints o).length : Int) < ((ints l).length : Int))) true (cond (((ints o).length : Int) == ((ints l).length : Int)) (befF o l) false)) false = true := h
    exfalso
    rw [c_and, Bool.and_eq_true] at h
    refine o2 (by simpa using h.1) ?_
    have h2 := h.2
    simp only [ints, List.length_map] at h2
    by_cases q1 : o.length < l.length
    · exact .inl q1
    · rw [decide_eq_false (by omega)] at h2
      have h2 : cond ((o.length : Int) == (l.length : Int)) (befF o l) false = true := h2
      rw [c_and, Bool.and_eq_true] at h2
      have q2 : (o.length : Int) = l.length := by simpa using h2.1
      exact .inr ⟨by omega, h2.2⟩
  refine Aw.seq ?_
  refine Aw.sm tab_ok mb0 [] rfl rfl ?zo ?zk
  case zo =>
    repeat' apply AllP.cons
    all_goals first | exact trivial
  case zk =>
  have li : ((ints l).length : Int) = l.length := by simp [ints]
  refine Aw.block (Aw.rounds 0 hE [(2, .pt d.c), (5, outW l), (8, .int (lostE d Spn.hi))] (fun i : Nat => [(15, .int i)]) (fun _ => []) (fun i => i ≤ l.length) (fun i => l.length - i) 0
    (Nat.zero_le _) ⟨⟨.refl _, .refl _, .refl _, trivial⟩, ⟨.refl _, trivial⟩, trivial, Nat.zero_le _⟩ ⟨udc, (outW_free _).under, .s _, trivial⟩ (fun _ _ => ⟨.s _, trivial⟩) (fun _ _ => trivial) fun i hi => ?_)
  refine Aw.seq ?_
  refine Aw.sm tab_ok mb0 [] rfl rfl ?zo ?zk
  case zo =>
    repeat' apply AllP.cons
    all_goals first | exact trivial
  case zk =>
  refine Aw.cond rfl (fun h1 => Aw.skip ?_) (fun h1 => ?_)
  · have hlt : i < l.length := by have := of_decide_eq_true h1; omega
    have hrl := hrg l[i] (List.getElem_mem hlt)
    have hmi := List.getElem_mem hlt
    have hgi := ints_get hlt
    obtain ⟨j, hj⟩ : ∃ j : Nat, l[i] = j := ⟨l[i].toNat, by omega⟩
    rw [hj] at hrl hmi hgi
    have hjl : j < d.lots.length := by omega
    have hmc := hmc j hmi hjl
    have hne : d.lots.map Lot.c ≠ [] := fun h => by
      have := congrArg List.length h
      simp at this; rw [this] at hjl; simp at hjl
    have hcs : ∀ l : List Lot, ∀ z ∈ l.map Lot.c, z.length = 4 := fun l z hz => by obtain ⟨y, _, rfl⟩ := List.mem_map.1 hz; rfl
    have hfl : (((d.lots.map Lot.c).flatten).map A.down).length = d.lots.length * 4 := by rw [List.length_map, flat_len (hcs _), List.length_map]
    have tj : ((j : Int)).toNat = j := Int.toNat_natCast j
    have hrow : A.agg (((List.drop (0 + ((j : Int)).toNat * 4) (((d.lots.map Lot.c).flatten).map A.down)).take 4).map A.down) = .agg (d.lots.getD j lotD).c := by
      rw [flat_down (c := Lot.c) (fun _ => rfl), tj, Nat.zero_add]
      have e : d.lots = d.lots.take j ++ (d.lots[j] :: d.lots.drop (j + 1)) := by rw [← List.drop_eq_getElem_cons hjl, List.take_append_drop]
      have h1 : ((d.lots.take j).map Lot.c).flatten.length = j * 4 := by rw [flat_len (hcs _), List.length_map, List.length_take, Nat.min_eq_left (by omega)]
      have e3 : (d.lots.map Lot.c).flatten = ((d.lots.take j).map Lot.c).flatten ++ (d.lots[j].c ++ ((d.lots.drop (j + 1)).map Lot.c).flatten) := by
        conv => lhs; rw [e]
        rw [List.map_append, List.flatten_append, List.map_cons, List.flatten_cons]
      rw [e3, ← h1, List.drop_left]
      have e4 : d.lots.getD j lotD = d.lots[j] := by simp [List.getD_eq_getElem?_getD, hjl]
      rw [e4]; rfl
    have hbd : 0 + ((j : Int)).toNat * 4 + 4 ≤ (((d.lots.map Lot.c).flatten).map A.down).length := by rw [hfl, tj]; omega
    have hjn : (j : Int) < (((d.lots.map Lot.c).length : Nat) : Int) := by omega
    have hln : (d.lots.map Lot.c).length = d.lots.length := by simp
    refine Aw.seq (Aw.block ?_)
    refine Aw.sm tab_ok mb0 [] rfl rfl ?zo ?zk
    case zo =>
      repeat' apply AllP.cons
      all_goals first | exact trivial | exact rfl | exact Nat.le_of_ble_eq_true rfl
    case zk =>
    refine Aw.sm tab_ok mb0 [(3, [.ms 0 0 0])] rfl rfl ?zo ?zk
    case zo =>
      repeat' apply AllP.cons
      all_goals first | exact trivial | exact rfl | exact Nat.le_of_ble_eq_true rfl | exact hne | exact hcs _ | exact (show (d.lots.map Lot.c).length * 32 ≤ 140737488355328 by omega) | exact (show (d.lots.map Lot.c).length ≤ maxLen by unfold maxLen; omega)
    case zk =>
    refine Aw.sd tab_ok mixed mb0 [(4, [.int ↑j]), (7, [.agg (d.lots.getD j lotD).c])] rfl (by kernel_rfl) rfl rfl ?zo ?zk
    case zo =>
      repeat' apply AllP.cons
      all_goals first | exact trivial | exact rfl | exact Nat.le_of_ble_eq_true rfl | exact Int.natCast_nonneg _ | exact hgi | exact hrow | exact hbd | exact hjn
    case zk =>
    refine Aw.seq ?_
    refine Aw.sm tab_ok mb0 [] rfl rfl ?zo ?zk
    case zo =>
      repeat' apply AllP.cons
      all_goals first | exact trivial | exact Nat.le_of_ble_eq_true rfl
    case zk =>
    refine Aw.cond rfl (fun h2 => Aw.exit1 ?_) (fun h2 => Aw.skip ?_)
    · refine Aw.em tab_ok mb0 [] rfl rfl ?zo ?zk
      case zo =>
        repeat' apply AllP.cons
        all_goals first | exact trivial | exact inrk i (by omega)
      case zk =>
      exact ⟨i + 1, hlt, by omega, ⟨.refl _, .refl _, .refl _, trivial⟩, ⟨.refl _, trivial⟩, trivial, Nat.zero_le _⟩
    have h2 : ((d.lots.getD j lotD).crans == 50) = false := h2
    have hjm : d.lots.getD j lotD ∈ d.lots := by simp [List.getD_eq_getElem?_getD, hjl]
    have hlo := lotOk_iff (hd.lots _ hjm)
    have h50 : (d.lots.getD j lotD).crans < 50 := by
      have : (d.lots.getD j lotD).crans ≠ 50 := by simpa using h2
      omega
    have hmc := hmc h50
    have hokx := mc_ok hok hjl h50
    have hsx : Small (moreCr d j) := ⟨hs.h, by
      have e : (moreCr d j).lots.length = d.lots.length := mc_len
      rw [e]; exact hs.l, hs.w⟩
    have hb := best_ok' hsx hokx
    rw [hmc] at hb
    have hlc := lost_crans hd Spn.hi
    have hlp := lost_pos hd Spn.hi
    have hcr := crans_bd hd d.lots.length
    unfold cransL at hcr
    rw [List.take_length] at hcr
    have hcr : 0 ≤ cransOf d ∧ cransOf d ≤ 400 := hcr
    refine Aw.sm tab_ok mb0 [] rfl rfl ?zo ?zk
    case zo =>
      repeat' apply AllP.cons
      all_goals first | exact trivial | exact rfl | exact Nat.le_of_ble_eq_true rfl | exact (show inR ((d.lots.getD j lotD).crans + 1) by simp only [inR]; omega)
    case zk =>
    refine Aw.sd tab_ok mixed mb0 [(4, [.int ↑j]), (6, [.agg (crMore (d.lots.getD j lotD)).c])] rfl (by kernel_rfl) rfl rfl ?zo ?zk
    case zo =>
      repeat' apply AllP.cons
      all_goals first | exact trivial | exact rfl | exact Nat.le_of_ble_eq_true rfl | exact Int.natCast_nonneg _ | exact hgi | exact hbd | exact hjn
    case zk =>
    refine Aw.freezeC (id := 1) (id2 := 0) (j := 2) (sz := 4) (cs := setSeg (((d.lots.map Lot.c).flatten).map A.down) (0 + j * 4) (crMore (d.lots.getD j lotD)).c) (cs2 := [.int d.hours, d.heatA, .ms 1 0 (d.lots.map Lot.c).length, d.wksA]) ((moreCr d j).lots.map Lot.c) rfl rfl (by decide) (Nat.le_of_ble_eq_true rfl) rfl (by
      rw [rows_set (c := Lot.c) (sz := 4) (fun _ => rfl) (fun _ => rfl) hjl]
      exact rows_all (c := Lot.c) (fun _ => rfl) (fun _ => rfl) _) (by rw [List.length_map, List.length_map]; exact mc_len) ?_
    refine Aw.sm tab_ok mb0 [(0, [.agg (moreCr d j).c]), (1, [.tup [planA (planF (moreCr d j)), .int (lostE d Spn.hi + 1), .int 0]])] rfl rfl ?zo ?zk
    case zo =>
      repeat' apply AllP.cons
      all_goals first | exact trivial | exact rfl | exact Nat.le_of_ble_eq_true rfl | exact hb
    case zk =>
    refine Aw.sm tab_ok mb0 [] rfl rfl ?zo ?zk
    case zo =>
      repeat' apply AllP.cons
      all_goals first | exact trivial | exact id | exact fun _ => rfl | exact fun _ => (show inR (lostE d Spn.hi + 1) by simp only [inR]; omega)
    case zk =>
    refine Aw.cond rfl (fun h => ?_) (fun _ => Aw.skip ?_)
    · have h : cond (!((0 : Int) == 0)) true (!(lostE d Spn.hi + 1 == lostE d Spn.hi + 1)) = true := h
      simp at h
    refine Aw.em tab_ok mb0 [] rfl rfl ?zo ?zk
    case zo =>
      repeat' apply AllP.cons
      all_goals first | exact trivial | exact inrk i (by omega)
    case zk =>
    exact ⟨i + 1, hlt, by omega, ⟨.refl _, .refl _, .refl _, trivial⟩, ⟨.refl _, trivial⟩, trivial, Nat.zero_le _⟩
  · refine Aw.exit2 ?_
    refine Aw.sm tab_ok mb0 [(0, [.bool true])] rfl rfl ?zo ?zk
    case zo =>
      repeat' apply AllP.cons
      all_goals first | exact trivial | exact works_t
    case zk =>
    exact Aw.ret ⟨_, .cons (.tmp _) .nil, rfl⟩
end Go.Proofs.Ytimikmfkdaoaaaa
namespace Go.Proofs.Ytimikmfkdaoaaaa
open Go Go.AL
theorem add_wrap (x y : Operand) (a b : Int) : OpIs tab .add 3 x y (.int a) (.int b) (IntKind.i64.wrap (a + b)) := by
  refine ⟨.int .i64 a, .int .i64 b, rfl, rfl, (congrFun (congrFun (congrFun (congrFun (congrFun (congrFun (show tab.eqv = pureEq Try.prog from rfl) _) _) _) _) _) _).trans ?_⟩
  rfl
def coolHeat (d : Day) (h : Nat) (c : Int) : Day := withHeat d (d.heat.set h ⟨(d.heat.getD h ⟨0, 0⟩).lo, c⟩)
theorem coolHeat_get (d : Day) {h : Nat} (hh : h < d.heat.length) (c : Int) (k : Nat) : (coolHeat d h c).heat.getD k ⟨0, 0⟩ = if h = k then ⟨(d.heat.getD h ⟨0, 0⟩).lo, c⟩ else d.heat.getD k ⟨0, 0⟩ := by
  show (d.heat.set h _).getD k ⟨0, 0⟩ = _
  simp only [List.getD_eq_getElem?_getD, List.getElem?_set]
  by_cases e : h = k
  · subst e; simp [hh]
  · simp [e]
theorem coolHeat_ok {d : Day} (hok : d.ok = true) {h : Nat} (hh : h < d.heat.length) {c : Int} (h1 : (d.heat.getD h ⟨0, 0⟩).lo ≤ c) (h2 : c ≤ (d.heat.getD h ⟨0, 0⟩).hi) : (coolHeat d h c).ok = true := by
  refine ok_heat hok (by simp) fun s hs => ?_
  have hd := DayOk.of hok
  rcases List.mem_or_eq_of_mem_set hs with e | e
  · exact hd.heats s e
  · subst e
    have hm : d.heat.getD h ⟨0, 0⟩ ∈ d.heat := by simp [List.getD_eq_getElem?_getD, hh]
    have := hd.heats _ hm
    simp only [heatOk, c_and, Bool.and_eq_true, decide_eq_true_eq] at this ⊢
    omega
def keepMore (k : Int) (l : Lot) : Lot := ⟨l.crans, l.landed, k, l.fit⟩
def withLots (d : Day) (l : List Lot) : Day := { d with ln := l.isEmpty, lots := l }
def withWks (d : Day) (l : List Wk) : Day := { d with wn := l.isEmpty, wks := l }
theorem ok_lots {d : Day} (hok : d.ok = true) {l : List Lot} (hl : l.length = d.lots.length) (h : ∀ x ∈ l, lotOk d.hours x = true) : (withLots d l).ok = true := by
  have h1 := ac1 (ac1 (ac1 hok))
  have h2 := ac2 (ac1 (ac1 hok))
  have h4 := ac2 hok
  have e1 : (withLots d l).head = true := by
    have : (withLots d l).head = d.head := by
      unfold Day.head
      have : ((withLots d l).lots.map Lot.c).length = (d.lots.map Lot.c).length := by simp; exact hl
      rw [this]; rfl
    rw [this]; exact h1
  unfold Day.ok
  rw [e1]
  show cond (cond (cond true (d.heat.all heatOk) false) (l.all (lotOk d.hours)) false) (d.wks.all fun w => isWorker w d.hours) false = true
  have h2 : d.heat.all heatOk = true := h2
  have h4 : (d.wks.all fun w => isWorker w d.hours) = true := h4
  rw [h2, List.all_eq_true.2 h, h4]; rfl
theorem ok_wks {d : Day} (hok : d.ok = true) {l : List Wk} (hl : l.length = d.wks.length) (h : ∀ x ∈ l, isWorker x d.hours = true) : (withWks d l).ok = true := by
  have h1 := ac1 (ac1 (ac1 hok))
  have h2 := ac2 (ac1 (ac1 hok))
  have h3 := ac2 (ac1 hok)
  have e1 : (withWks d l).head = true := by
    have : (withWks d l).head = d.head := by
      unfold Day.head
      have : ((withWks d l).wks.map Wk.c).length = (d.wks.map Wk.c).length := by simp; exact hl
      rw [this]; rfl
    rw [this]; exact h1
  unfold Day.ok
  rw [e1]
  show cond (cond (cond true (d.heat.all heatOk) false) (d.lots.all (lotOk d.hours)) false) (l.all fun w => isWorker w d.hours) false = true
  have h2 : d.heat.all heatOk = true := h2
  have h3 : d.lots.all (lotOk d.hours) = true := h3
  rw [h2, h3, List.all_eq_true.2 h]; rfl
structure Cooler (d x : Day) : Prop where
  ok : x.ok = true
  n : x.lots.length = d.lots.length
  hours : x.hours = d.hours
  lot : ∀ (i : Nat) (l : Lot), d.lots[i]? = some l → ∃ l', x.lots[i]? = some l' ∧ l'.crans = l.crans ∧ l'.landed = l.landed ∧ l'.fit = l.fit ∧ untilF d Spn.hi l ≤ untilF x Spn.hi l' ∧ untilF d Spn.lo l ≤ untilF x Spn.lo l'
  wks : d.wks.length ≤ x.wks.length
  wk : ∀ (i : Nat) (w : Wk), d.wks[i]? = some w → ∃ w', x.wks[i]? = some w' ∧ w'.kind = w.kind ∧ w'.fr = w.fr ∧ w'.to = w.to ∧ w.rate ≤ w'.rate
theorem Cooler.lost {d x : Day} (hd : DayOk d) (h : Cooler d x) : lostE x Spn.hi ≤ lostE d Spn.hi := by
  have hx := DayOk.of h.ok
  have hh := hd.hours
  have hP : nP (opened d Spn.hi) ≤ nP (opened x Spn.hi) := by
    show d.wks.length * d.hours.toNat ≤ x.wks.length * x.hours.toNat
    rw [h.hours]; exact Nat.mul_le_mul_right _ h.wks
  have hget : ∀ p, p < nP (opened d Spn.hi) → ∃ w w', d.wks.getD (p / d.hours.toNat) wkD = w ∧ x.wks.getD (p / x.hours.toNat) wkD = w' ∧ w'.kind = w.kind ∧ w'.fr = w.fr ∧ w'.to = w.to ∧ w.rate ≤ w'.rate := fun p hp => by
    have hp : p < d.wks.length * d.hours.toNat := hp
    have hlt : p / d.hours.toNat < d.wks.length := Nat.div_lt_of_lt_mul (by rw [Nat.mul_comm]; exact hp)
    obtain ⟨w', h1, h2⟩ := h.wk _ _ (List.getElem?_eq_getElem hlt)
    exact ⟨_, w', by simp [List.getD_eq_getElem?_getD, hlt], by rw [h.hours, List.getD_eq_getElem?_getD, h1]; rfl, h2⟩
  refine lost_mono hd hx h.n (fun i hi => ?_) hP (fun p hp => ?_) fun i p hp => ?_
  · unfold crN
    have e1 : (opened x Spn.hi).g.lots[i]? = x.lots[i]? := rfl
    have e2 : (opened d Spn.hi).g.lots[i]? = d.lots[i]? := rfl
    obtain ⟨l', h1, h2, _⟩ := h.lot i _ (List.getElem?_eq_getElem hi)
    rw [e1, e2, h1, List.getElem?_eq_getElem hi]
    show l'.crans ≤ _
    rw [h2]; exact Int.le_refl _
  · obtain ⟨w, w', h1, h2, _, _, _, h3⟩ := hget p hp
    unfold rateAt
    rw [h1, h2]; exact h3
  · have hlt := (slotsOf_lt _ hp).1
    have hi : i < d.lots.length := (slotsOf_lt _ hp).2
    obtain ⟨l', k1, k2, k3, k4, k5, _⟩ := h.lot i _ (List.getElem?_eq_getElem hi)
    rw [slotsOf_is, List.getElem?_eq_getElem hi] at hp
    rw [slotsOf_is, k1]
    simp only at hp ⊢
    unfold slotL at hp ⊢
    obtain ⟨h1, h2⟩ := List.mem_filter.1 hp
    refine List.mem_filter.2 ⟨List.mem_range.2 (Nat.lt_of_lt_of_le hlt hP), ?_⟩
    obtain ⟨w, w', g1, g2, g3, g4, g5, _⟩ := hget p hlt
    unfold canP canF at h2 ⊢
    rw [g1] at h2
    rw [g2, k4, g3, g4, g5, h.hours, k3]
    rw [c_and, Bool.and_eq_true] at h2 ⊢
    refine ⟨h2.1, wi_iff.2 ?_⟩
    have := wi_iff.1 h2.2
    omega
theorem until_low {d : Day} (hd : DayOk d) (f : Spn → Int) {l : Lot} (hl : lotOk d.hours l = true) : l.landed - 1 ≤ untilF d f l := by
  have lo := lotOk_iff hl
  have hh := hd.hours
  unfold untilF
  rw [show d.hours.toNat = l.landed.toNat + (d.hours.toNat - l.landed.toNat) by omega, runU_skip _ _ 0 (by omega)]
  exact runU_ge _ _ _ _ (by omega)
theorem until_lo_hi {d : Day} (hd : DayOk d) {l : Lot} (hl : lotOk d.hours l = true) : untilF d Spn.hi l ≤ untilF d Spn.lo l := by
  refine until_mono rfl (fun k => ?_) rfl (lotOk_iff hl).2.1.1 (Int.le_refl _)
  rw [List.getD_eq_getElem?_getD]
  cases e : d.heat[k]? with
  | none => exact Int.le_refl _
  | some s =>
    have := hd.heats s (List.mem_of_getElem? e)
    simp only [heatOk, c_and, Bool.and_eq_true, decide_eq_true_eq] at this
    show s.lo ≤ s.hi
    omega
theorem cooler_heat {d : Day} (hok : d.ok = true) {h : Nat} (hh : h < d.heat.length) {c : Int} (h1 : (d.heat.getD h ⟨0, 0⟩).lo ≤ c) (h2 : c ≤ (d.heat.getD h ⟨0, 0⟩).hi) : Cooler d (coolHeat d h c) := by
  have hd := DayOk.of hok
  refine ⟨coolHeat_ok hok hh h1 h2, rfl, rfl, fun i l hl => ⟨l, hl, rfl, rfl, rfl, ?_, ?_⟩, Nat.le_refl _, fun i w hw => ⟨w, hw, rfl, rfl, rfl, Int.le_refl _⟩⟩
  · refine until_mono rfl (fun k => ?_) rfl (lotOk_iff (hd.lots l (List.mem_of_getElem? hl))).2.1.1 (Int.le_refl _)
    rw [coolHeat_get d hh]
    split
    · rename_i e; subst e; exact h2
    · exact Int.le_refl _
  · refine until_mono rfl (fun k => ?_) rfl (lotOk_iff (hd.lots l (List.mem_of_getElem? hl))).2.1.1 (Int.le_refl _)
    rw [coolHeat_get d hh]
    split
    · rename_i e; subst e; exact Int.le_refl _
    · exact Int.le_refl _
theorem cooler_lots {d : Day} (hok : d.ok = true) {l : List Lot} (hl : l.length = d.lots.length) (h : ∀ (i : Nat) (x : Lot), d.lots[i]? = some x → ∃ k, l[i]? = some (keepMore k x) ∧ x.keep ≤ k ∧ k ≤ 10000) : Cooler d (withLots d l) := by
  have hd := DayOk.of hok
  refine ⟨ok_lots hok hl fun y hy => ?_, hl, rfl, fun i x hx => ?_, Nat.le_refl _, fun i w hw => ⟨w, hw, rfl, rfl, rfl, Int.le_refl _⟩⟩
  · obtain ⟨i, hi, rfl⟩ := List.mem_iff_getElem.1 hy
    have hi2 : i < d.lots.length := by omega
    obtain ⟨k, h1, h2, h3⟩ := h i _ (List.getElem?_eq_getElem hi2)
    rw [List.getElem?_eq_getElem hi] at h1
    have h1 := Option.some.inj h1
    rw [h1]
    have := lotOk_iff (hd.lots _ (List.getElem_mem hi2))
    unfold lotOk keepMore
    rw [wi_iff.2 this.1, wi_iff.2 this.2.1, wi_iff.2 (show 0 ≤ k ∧ k ≤ 10000 by omega), wi_iff.2 this.2.2.2]; rfl
  · obtain ⟨k, h1, h2, h3⟩ := h i x hx
    have h0 := (lotOk_iff (hd.lots x (List.mem_of_getElem? hx))).2.1.1
    exact ⟨_, h1, rfl, rfl, rfl, until_mono (l' := keepMore k x) rfl (fun _ => Int.le_refl _) rfl h0 h2, until_mono (l' := keepMore k x) rfl (fun _ => Int.le_refl _) rfl h0 h2⟩
def rateMore (r : Int) (w : Wk) : Wk := ⟨w.kind, w.fr, w.to, r⟩
theorem cooler_wks {d : Day} (hok : d.ok = true) {l : List Wk} (hl : l.length = d.wks.length) (h : ∀ (i : Nat) (x : Wk), d.wks[i]? = some x → ∃ k, l[i]? = some (rateMore k x) ∧ x.rate ≤ k ∧ k ≤ 20) : Cooler d (withWks d l) := by
  have hd := DayOk.of hok
  refine ⟨ok_wks hok hl fun y hy => ?_, rfl, rfl, fun i x hx => ⟨x, hx, rfl, rfl, rfl, Int.le_refl _, Int.le_refl _⟩, Nat.le_of_eq hl.symm, fun i w hw => ?_⟩
  · obtain ⟨i, hi, rfl⟩ := List.mem_iff_getElem.1 hy
    have hi2 : i < d.wks.length := by omega
    obtain ⟨k, h1, h2, h3⟩ := h i _ (List.getElem?_eq_getElem hi2)
    rw [List.getElem?_eq_getElem hi] at h1
    have h1 := Option.some.inj h1
    rw [h1]
    have := wkOk_iff (hd.wks _ (List.getElem_mem hi2))
    unfold isWorker rateMore
    rw [wi_iff.2 this.1, wi_iff.2 this.2.1, wi_iff.2 this.2.2.1, wi_iff.2 (show 0 ≤ k ∧ k ≤ 20 by omega)]; rfl
  · obtain ⟨k, h1, h2, h3⟩ := h i w hw
    exact ⟨_, h1, rfl, rfl, rfl, h2⟩
theorem cooler_hire {d : Day} {w : Wk} (hx : (hire d w).ok = true) : Cooler d (hire d w) := by
  refine ⟨hx, rfl, rfl, fun i x hx => ⟨x, hx, rfl, rfl, rfl, Int.le_refl _, Int.le_refl _⟩, by show d.wks.length ≤ (d.wks ++ [w]).length; simp, fun i x hx => ⟨x, ?_, rfl, rfl, rfl, Int.le_refl _⟩⟩
  show (d.wks ++ [w])[i]? = some x
  rw [List.getElem?_append_left (List.getElem?_eq_some_iff.1 hx).1]; exact hx
end Go.Proofs.Ytimikmfkdaoaaaa
namespace Go.Proofs.Ytimikmfkdaoaaaa
open Go Go.AL
def grow (t : TypeId) : List (List A) → A
  | [] => .sl true .exact []
  | e :: l => .sl false (.own t) (e :: l)
theorem grow_under {n : Nat} {α : Type} {f : α → List A} (hf : ∀ a, ∀ x ∈ f a, Free x) (t : TypeId) : ∀ l : List α, Under n (grow t (l.map f))
  | [] => .sl _ _ _ (fun _ h => by cases h)
  | s :: l => .sl _ _ _ fun e he x hx => by
    obtain ⟨y, _, rfl⟩ := List.mem_map.1 (show e ∈ (s :: l).map f from he)
    exact (hf y x hx).under
theorem grow_down {α : Type} (f : α → List A) (t : TypeId) : ∀ l : List α, A.Le (.sl l.isEmpty .any (l.map f)) (grow t (l.map f)).down
  | [] => .any _ _ _
  | _ :: _ => .refl _
theorem le_agg4 {a b c e a' b' c' e' : A} (h1 : A.Le a' a) (h2 : A.Le b' b) (h3 : A.Le c' c) (h4 : A.Le e' e) : A.Le (.agg [a', b', c', e']) (.agg [a, b, c, e]) :=
  ⟨fun φ Z w v hv => by
    obtain ⟨vs, e0, e1, e2, e3⟩ := inv_agg hv
    subst e0
    refine .agg _ _ e1 e2 fun i hi => ?_
    match i, hi with
    | 0, _ => exact h1.1 _ _ _ _ (e3 0 (by show 0 < 4; omega))
    | 1, _ => exact h2.1 _ _ _ _ (e3 1 (by show 1 < 4; omega))
    | 2, _ => exact h3.1 _ _ _ _ (e3 2 (by show 2 < 4; omega))
    | 3, _ => exact h4.1 _ _ _ _ (e3 3 (by show 3 < 4; omega)), fun v p e => by simp [spareOf] at e⟩
def wAdd (b : Int) (i : Nat) : Int := IntKind.i64.wrap (b + i)
def keepAt (b : Int) (i : Nat) (l : Lot) : Int := if l.keep + wAdd b i % 50 < 10000 then l.keep + wAdd b i % 50 else 10000
def rateAt' (b : Int) (i : Nat) (w : Wk) : Int := if w.rate + wAdd b i % 4 < 20 then w.rate + wAdd b i % 4 else 20
def lotsK (b : Int) (l : List Lot) (k : Nat) : List Lot := (List.range k).map fun i => keepMore (keepAt b i (l.getD i lotD)) (l.getD i lotD)
def wksK (b : Int) (l : List Wk) (k : Nat) : List Wk := (List.range k).map fun i => rateMore (rateAt' b i (l.getD i wkD)) (l.getD i wkD)
theorem lotsK_succ (b : Int) (l : List Lot) {k : Nat} (h : k < l.length) : lotsK b l (k + 1) = lotsK b l k ++ [keepMore (keepAt b k l[k]) l[k]] := by
  unfold lotsK; rw [List.range_succ, List.map_append]; simp [List.getD_eq_getElem?_getD, h]
theorem wksK_succ (b : Int) (l : List Wk) {k : Nat} (h : k < l.length) : wksK b l (k + 1) = wksK b l k ++ [rateMore (rateAt' b k l[k]) l[k]] := by
  unfold wksK; rw [List.range_succ, List.map_append]; simp [List.getD_eq_getElem?_getD, h]
theorem lotsK_len (b : Int) (l : List Lot) (k : Nat) : (lotsK b l k).length = k := by simp [lotsK]
theorem wksK_len (b : Int) (l : List Wk) (k : Nat) : (wksK b l k).length = k := by simp [wksK]
theorem cooler_keep {d : Day} (hok : d.ok = true) (b : Int) : Cooler d (withLots d (lotsK b d.lots d.lots.length)) := by
  have hd := DayOk.of hok
  refine cooler_lots hok (lotsK_len _ _ _) fun i x hx => ?_
  obtain ⟨hi, rfl⟩ := List.getElem?_eq_some_iff.1 hx
  have lo := lotOk_iff (hd.lots _ (List.getElem_mem hi))
  have g1 := Int.emod_nonneg (wAdd b i) (show (50 : Int) ≠ 0 by omega)
  refine ⟨keepAt b i d.lots[i], by simp [lotsK, hi, List.getD_eq_getElem?_getD], ?_, ?_⟩ <;> unfold keepAt <;> split <;> omega
theorem cooler_rate {d : Day} (hok : d.ok = true) (b : Int) : Cooler d (withWks d (wksK b d.wks d.wks.length)) := by
  have hd := DayOk.of hok
  refine cooler_wks hok (wksK_len _ _ _) fun i x hx => ?_
  obtain ⟨hi, rfl⟩ := List.getElem?_eq_some_iff.1 hx
  have lo := wkOk_iff (hd.wks _ (List.getElem_mem hi))
  have g1 := Int.emod_nonneg (wAdd b i) (show (4 : Int) ≠ 0 by omega)
  refine ⟨rateAt' b i d.wks[i], by simp [wksK, hi, List.getD_eq_getElem?_getD], ?_, ?_⟩ <;> unfold rateAt' <;> split <;> omega
structure Other (d : Day) (a : Int) (i : Day × A × A × A) : Prop where
  s : Small i.1
  u1 : Under 1 i.2.1
  u2 : Under 1 i.2.2.1
  u3 : Under 1 i.2.2.2
  c : A.Le (.agg i.1.c) (.agg [.int d.hours, i.2.1.down, i.2.2.1.down, i.2.2.2.down])
  k : Cooler d i.1 ∨ (i.1.ok = false ∧ a % 4 = 3)
theorem join_fin {X : Ctx} {r : Option Nat} {s : St} {Q : Exit → St → Prop} {ι : Type} {x y : Code} (n : Nat) (h0 : ∀ id, n ≤ id → X.φ0 id = none) (cst : List (Nat × A)) (v : ι → List (Nat × A)) (Hl : ι → List (Nat × B)) (G : ι → Prop)
    (uc : UnderL n cst) (uv : ∀ i, G i → UnderL n (v i)) (uh : ∀ i, G i → UnderH n (Hl i))
    (h2 : ∀ i, G i → Aw X r y Q ⟨ofL2 cst (v i), ofH (Hl i), n⟩) (h1 : (∀ i, G i → ∀ s', Keep n cst (v i) (Hl i) s' → Aw X r y Q s') → Aw X r x (thenQ (Aw X r y Q) Q) s) : Aw X r (.seq x y) Q s :=
  Aw.seq (h1 fun i hg _ hk => Aw.keep h0 uc (uv i hg) (uh i hg) hk (h2 i hg))
set_option maxRecDepth 4000 in
set_option maxHeartbeats 8000000 in
theorem law_cooler (d : Day) (w : Wk) (a b c : Int) (hs : Small d) : Ans Try.prog 11 [.agg d.c, .agg w.c, .agg [.int a, .int b, .int c]] (.bool true) := by
  obtain ⟨P, n, e2, h3, _, hc⟩ := best_lost d hs
  refine told Try.func11 rfl rfl (Pure.of tab_ok Try.func11 rfl Try.ntmps11 rfl (allC (.agg _ d.free) (allC (.agg _ w.free) (all1 (.agg _ (allC (.s _) (allC (.s _) (all1 (.s _)))))))) (allC (fun _ => rfl) (allC (fun _ => rfl) (all1 (fun _ => rfl)))) (by first | exact .s _ | assumption | exact .tup _ (by intro x hx; simp only [List.mem_cons, List.not_mem_nil, or_false] at hx; rcases hx with rfl | rfl | rfl | rfl <;> first | exact .s _ | (simp_all; done))) fun E hE => ?_)
  have udc : Under 0 (A.pt d.c) := (Free.pt _ d.free).under
  refine Aw.sm tab_ok mb0 [] rfl rfl ?zo ?zk
  case zo =>
    repeat' apply AllP.cons
    all_goals first | exact trivial
  case zk =>
  refine Aw.sm tab_ok mb0 [(1, [.tup [planA P, .int n, .int e2]])] rfl rfl ?zo ?zk
  case zo =>
    repeat' apply AllP.cons
    all_goals first | exact trivial | exact Nat.le_of_ble_eq_true rfl | exact h3
  case zk =>
  refine Aw.seq ?_
  refine Aw.sm tab_ok mb0 [(4, [.bool d.ok])] rfl rfl ?zo ?zk
  case zo =>
    repeat' apply AllP.cons
    all_goals first | exact trivial | exact id | exact fun _ => rfl | exact fun _ => Nat.le_of_ble_eq_true rfl | exact fun _ => sound_t d hs | exact gq_f
  case zk =>
  rcases hc with ⟨hok, rfl, rfl, rfl⟩ | ⟨hno, rfl, rfl, rfl⟩
  case inr =>
    refine Aw.cond rfl (fun _ => ?_) (fun h => by cases h)
    refine Aw.sm tab_ok mb0 [(7, [.bool true])] rfl rfl ?zo ?zk
    case zo =>
      repeat' apply AllP.cons
      all_goals first | exact trivial | exact id | exact fun _ => rfl | exact fun _ => works_t
    case zk =>
    exact Aw.ret ⟨_, .cons (.tmp _) .nil, rfl⟩
  have hd := DayOk.of hok
  have hh := hd.hours
  have nl := hd.nl
  have nw := hd.nw
  refine Aw.cond rfl (fun h => by rw [hok] at h; cases h) (fun _ => Aw.skip ?_)
  have ga := Int.emod_nonneg a (show (4 : Int) ≠ 0 by omega)
  have ga2 := Int.emod_lt_of_pos a (show (0 : Int) < 4 by omega)
  have hma : Ans Try.prog 40 [.int a, .int 4] (.int (a % 4)) := mod_t a 4 (by omega) (by omega)
  refine Aw.sm tab_ok mb0 [] rfl rfl ?zo ?zk
  case zo =>
    repeat' apply AllP.cons
    all_goals first | exact trivial | exact rfl | exact Nat.le_of_ble_eq_true rfl
  case zk =>
  have h1E : ∀ id, 1 ≤ id → E.φ0 id = none := fun id h => hE id (by omega)
  have udc1 : Under 1 (A.pt d.c) := (Free.pt _ d.free).under
  have uwc1 : Under 1 (A.pt w.c) := (Free.pt _ w.free).under
  have unc1 : Under 1 (A.pt [.int a, .int b, .int c]) := (Free.pt _ (allC (.s _) (allC (.s _) (all1 (.s _))))).under
  have ucl : ∀ (h l k : A), Under 1 h → Under 1 l → Under 1 k → UnderB 1 (.cells [.int d.hours, h, l, k]) := fun h l k q1 q2 q3 => .cells _ (allC (.s _) (allC q1 (allC q2 (all1 q3))))
  have uh : Under 1 d.heatA := (free_map Spn.free _ _ _).under
  have ul : Under 1 d.lotsA := (free_map Lot.free _ _ _).under
  have uw : Under 1 d.wksA := (free_map Wk.free _ _ _).under
  have lh : ((d.heat.map Spn.c).length : Int) = d.heat.length := by simp
  have ll : ((d.lots.map Lot.c).length : Int) = d.lots.length := by simp
  have lw : ((d.wks.map Wk.c).length : Int) = d.wks.length := by simp
  have hht := hd.heat
  have hm : d.wks.map Wk.c ++ [w.c] = (hire d w).wks.map Wk.c := by show _ = (d.wks ++ [w]).map Wk.c; simp
  refine join_fin (ι := Day × A × A × A) 1 h1E [(3, .pt d.c), (5, .pt [.int a, .int b, .int c]), (8, .int (lostE d Spn.hi)), (10, .ref 0 0)] (fun _ => []) (fun i => [(0, .cells [.int d.hours, i.2.1, i.2.2.1, i.2.2.2])]) (Other d a)
    ⟨udc1, unc1, .s _, .ref _ _ (by decide), trivial⟩ (fun _ _ => trivial) (fun i hi => ⟨⟨by decide, ucl _ _ _ hi.u1 hi.u2 hi.u3⟩, trivial⟩) ?_ ?_
  · rintro ⟨x, hA, lA, wA⟩ ⟨hsx, v1, v2, v3, hle, hk⟩
    obtain ⟨P2, n2, e2, hb2, _, hc2⟩ := best_lost x hsx
    have hb2 : Ans Try.prog 23 [.agg [.int d.hours, hA.down, lA.down, wA.down]] (.tup [planA P2, .int n2, .int e2]) := hb2.le1 hle
    refine Aw.sm tab_ok mb0 [(1, [.tup [planA P2, .int n2, .int e2]])] rfl rfl ?zo ?zk
    case zo =>
      repeat' apply AllP.cons
      all_goals first | exact trivial | exact Nat.le_of_ble_eq_true rfl | exact hb2
    case zk =>
    refine Aw.seq ?_
    refine Aw.sm tab_ok mb0 [] rfl rfl ?zo ?zk
    case zo =>
      repeat' apply AllP.cons
      all_goals first | exact trivial
    case zk =>
    rcases hc2 with ⟨hokx, rfl, rfl, rfl⟩ | ⟨hnox, rfl, rfl, rfl⟩
    case inr =>
      refine Aw.cond rfl (fun _ => ?_) (fun h => by cases h)
      have h3 : a % 4 = 3 := by
        rcases hk with hk | hk
        · rw [hk.ok] at hnox; cases hnox
        · exact hk.2
      refine Aw.sm tab_ok mb0 [(5, [.int (a % 4)]), (9, [.bool true])] rfl rfl ?zo ?zk
      case zo =>
        repeat' apply AllP.cons
        all_goals first | exact trivial | exact id | exact fun _ => rfl | exact fun _ => Nat.le_of_ble_eq_true rfl | exact fun _ => Int.natCast_nonneg _ | exact fun _ => works_t | exact fun _ => hma
      case zk =>
      refine Aw.ret ⟨_, .cons (.tmp _) .nil, ?_⟩
      rw [h3]; rfl
    refine Aw.cond rfl (fun h => by cases h) (fun _ => Aw.skip ?_)
    have hx : Cooler d x := by
      rcases hk with h | h
      · exact h
      · rw [hokx] at h; cases h.1
    have hlost := hx.lost hd
    refine Aw.seq ?_
    refine Aw.sm tab_ok mb0 [] rfl rfl ?zo ?zk
    case zo =>
      repeat' apply AllP.cons
      all_goals first | exact trivial
    case zk =>
    refine Aw.block (Aw.rounds 1 h1E [(3, .pt d.c), (8, .int (lostE d Spn.hi)), (10, .ref 0 0), (17, .int (lostE x Spn.hi))] (fun i : Nat => [(19, .int i)]) (fun _ => [(0, .cells [.int d.hours, hA, lA, wA])]) (fun i => i ≤ d.lots.length) (fun i => d.lots.length - i) 0
      (Nat.zero_le _) ⟨⟨.refl _, .refl _, .refl _, .refl _, trivial⟩, ⟨.refl _, trivial⟩, ⟨rfl, trivial⟩, Nat.le_of_ble_eq_true rfl⟩ ⟨udc1, .s _, .ref _ _ (by decide), .s _, trivial⟩ (fun _ _ => ⟨.s _, trivial⟩) (fun _ _ => ⟨⟨by decide, ucl _ _ _ v1 v2 v3⟩, trivial⟩) fun i hi => ?_)
    refine Aw.seq ?_
    refine Aw.sm tab_ok mb0 [] rfl rfl ?zo ?zk
    case zo =>
      repeat' apply AllP.cons
      all_goals first | exact trivial | exact Nat.le_of_ble_eq_true rfl
    case zk =>
    refine Aw.cond rfl (fun h2 => Aw.skip ?_) (fun h2 => ?_)
    · have hlt : i < d.lots.length := by have := of_decide_eq_true h2; omega
      have hlg := get_map (f := Lot.c) hlt
      obtain ⟨l', k1, k2, k3, k4, k5, k6⟩ := hx.lot i _ (List.getElem?_eq_getElem hlt)
      have hlo := hd.lots _ (List.getElem_mem hlt)
      have u1 : Ans Try.prog 16 [.agg d.c, .int i] (.tup [.int (untilF d Spn.hi d.lots[i]), .int (untilF d Spn.lo d.lots[i]), .int 0]) := by
        have := until_t d i hs
        unfold untilR lotAt at this
        rw [if_pos hok, if_pos (Int.natCast_nonneg _), Int.toNat_natCast, List.getElem?_eq_getElem hlt] at this
        exact this
      have u2 : Ans Try.prog 16 [.agg [.int d.hours, hA.down, lA.down, wA.down], .int i] (.tup [.int (untilF x Spn.hi l'), .int (untilF x Spn.lo l'), .int 0]) := by
        have := until_t x i hsx
        unfold untilR lotAt at this
        rw [if_pos hokx, if_pos (Int.natCast_nonneg _), Int.toNat_natCast, k1] at this
        exact this.le rfl fun j hj => match j, hj with
          | 0, _ => hle
          | 1, _ => .refl _
      have q1 := until_low hd Spn.hi hlo
      have q2 := until_lo_hi hd hlo
      have lo := lotOk_iff hlo
      generalize untilF d Spn.hi d.lots[i] = z1 at *
      generalize untilF d Spn.lo d.lots[i] = z2 at *
      generalize untilF x Spn.hi l' = z3 at *
      generalize untilF x Spn.lo l' = z4 at *
      refine Aw.seq (Aw.block ?_)
      refine Aw.sm tab_ok mb0 [(2, [.tup [.int z1, .int z2, .int 0]])] rfl rfl ?zo ?zk
      case zo =>
        repeat' apply AllP.cons
        all_goals first | exact trivial | exact Nat.le_of_ble_eq_true rfl | exact u1
      case zk =>
      refine Aw.sm tab_ok mb0 [(2, [.tup [.int z3, .int z4, .int 0]])] rfl rfl ?zo ?zk
      case zo =>
        repeat' apply AllP.cons
        all_goals first | exact trivial | exact Nat.le_of_ble_eq_true rfl | exact u2
      case zk =>
      refine Aw.sm tab_ok mb0 [(26, d.lots[i].c)] rfl rfl ?zo ?zk
      case zo =>
        repeat' apply AllP.cons
        all_goals first | exact trivial | exact id | exact fun _ => rfl | exact fun _ => Nat.le_of_ble_eq_true rfl | exact fun _ => Int.natCast_nonneg _ | exact gq_f | exact fun _ => hlg | exact fun _ => (show inR (d.lots[i].landed - 1) by simp only [inR]; omega)
      case zk =>
      refine Aw.cond rfl (fun h => ?_) (fun _ => Aw.skip ?_)
      · have h : cond (cond (cond (cond (cond (!((0 : Int) == 0)) true (!((0 : Int) == 0))) true (decide (z3 < z1))) true (decide (z4 < z2))) true (decide (z1 > z2))) true (decide (z1 < d.lots[i].landed - 1)) = true := h
        rw [decide_eq_false (by omega), decide_eq_false (by omega), decide_eq_false (by omega), decide_eq_false (by omega)] at h
        simp at h
      refine Aw.em tab_ok mb0 [] rfl rfl ?zo ?zk
      case zo =>
        repeat' apply AllP.cons
        all_goals first | exact trivial | exact inrk i (by omega)
      case zk =>
      exact ⟨i + 1, hlt, by omega, ⟨.refl _, .refl _, .refl _, .refl _, trivial⟩, ⟨.refl _, trivial⟩, ⟨rfl, trivial⟩, Nat.le_of_ble_eq_true rfl⟩
    · refine Aw.exit2 ?_
      refine Aw.sm tab_ok mb0 [(4, [.bool true])] rfl rfl ?zo ?zk
      case zo =>
        repeat' apply AllP.cons
        all_goals first | exact trivial | exact id | exact fun _ => rfl | exact fun _ => works_t
      case zk =>
      refine Aw.ret ⟨_, .cons (.tmp _) .nil, ?_⟩
      show A.bool (cond (decide (lostE x Spn.hi ≤ lostE d Spn.hi)) true false) = .bool true
      rw [decide_eq_true hlost]; rfl
  · intro fin
    refine Aw.sm tab_ok mb0 [(2, [.int (a % 4)])] rfl rfl ?zo ?zk
    case zo =>
      repeat' apply AllP.cons
      all_goals first | exact trivial | exact Nat.le_of_ble_eq_true rfl | exact Int.natCast_nonneg _ | exact hma
    case zk =>
    refine Aw.block ?_
    refine Aw.sm tab_ok mb0 [] rfl rfl ?zo ?zk
    case zo =>
      repeat' apply AllP.cons
      all_goals first | exact trivial
    case zk =>
    refine Aw.cond rfl (fun h0 => ?_) (fun h0 => ?_)
    · have hcs : ∀ l : List Spn, ∀ z ∈ l.map Spn.c, z.length = 2 := fun l z hz => by obtain ⟨y, _, rfl⟩ := List.mem_map.1 hz; rfl
      have hne : d.heat.map Spn.c ≠ [] := fun h => by have := congrArg List.length h; rw [List.length_map, List.length_nil] at this; omega
      have g1 := Int.emod_nonneg b (show d.hours ≠ 0 by omega)
      have g2 := Int.emod_lt_of_pos b (show 0 < d.hours by omega)
      have hmb : Ans Try.prog 40 [.int b, .int d.hours] (.int (b % d.hours)) := mod_t b _ (by omega) (by omega)
      obtain ⟨j, hj⟩ : ∃ j : Nat, b % d.hours = j := ⟨(b % d.hours).toNat, (Int.toNat_of_nonneg g1).symm⟩
      rw [hj] at g1 g2 hmb
      have hlt : j < d.heat.length := by omega
      have hget := get_map (f := Spn.c) hlt
      have hk0 := hd.heats _ (List.getElem_mem hlt)
      simp only [heatOk, c_and, Bool.and_eq_true, decide_eq_true_eq] at hk0
      have hch := chosen_t d.heat[j].lo d.heat[j].hi c (by omega) (by omega)
      have hin := chosen_in (lo := d.heat[j].lo) (hi := d.heat[j].hi) (n := c) (by omega)
      have hgd : d.heat.getD j ⟨0, 0⟩ = d.heat[j] := by simp [List.getD_eq_getElem?_getD, hlt]
      have hto : Ans Try.prog 44 [.int d.heat[j].lo, .int (chosenF d.heat[j].lo d.heat[j].hi c)] (.agg (Spn.c ⟨d.heat[j].lo, chosenF d.heat[j].lo d.heat[j].hi c⟩)) := to_t _ _
      have hfl : ((((d.heat.map Spn.c).flatten).map A.down)).length = d.heat.length * 2 := by rw [List.length_map, flat_len (hcs _), List.length_map]
      have tj : ((j : Int)).toNat = j := Int.toNat_natCast j
      refine Aw.sm tab_ok mb0 [(3, [.ms 0 0 0])] rfl rfl ?zo ?zk
      case zo =>
        repeat' apply AllP.cons
        all_goals first | exact trivial | exact rfl | exact Nat.le_of_ble_eq_true rfl | exact hne | exact hcs _ | exact (show (d.heat.map Spn.c).length * 16 ≤ 140737488355328 by omega) | exact (show (d.heat.map Spn.c).length ≤ maxLen by unfold maxLen; omega)
      case zk =>
      refine Aw.sm tab_ok mb0 [(4, [.int j])] rfl rfl ?zo ?zk
      case zo =>
        repeat' apply AllP.cons
        all_goals first | exact trivial | exact Nat.le_of_ble_eq_true rfl | exact Int.natCast_nonneg _ | exact hmb
      case zk =>
      refine Aw.ed tab_ok mixed mb0 [(6, d.heat[j].c), (12, d.heat[j].c), (18, d.heat[j].c), (23, [.int (chosenF d.heat[j].lo d.heat[j].hi c)]), (24, [.agg (Spn.c ⟨d.heat[j].lo, chosenF d.heat[j].lo d.heat[j].hi c⟩)])] rfl (by kernel_rfl) rfl rfl ?zo ?zk
      case zo =>
        repeat' apply AllP.cons
        all_goals first | exact trivial | exact rfl | exact Nat.le_of_ble_eq_true rfl | exact Int.natCast_nonneg _ | exact hget | exact hch | exact hto | exact (show (j : Int) < (((d.heat.map Spn.c).length : Nat) : Int) by omega) | exact (show 0 + ((j : Int)).toNat * 2 + 2 ≤ ((((d.heat.map Spn.c).flatten).map A.down)).length by rw [hfl, tj]; omega)
      case zk =>
      refine Aw.freezeC (id := 1) (id2 := 0) (j := 1) (sz := 2) (cs := setSeg (((d.heat.map Spn.c).flatten).map A.down) (0 + j * 2) (Spn.c ⟨d.heat[j].lo, chosenF d.heat[j].lo d.heat[j].hi c⟩)) (cs2 := [.int d.hours, .ms 1 0 (d.heat.map Spn.c).length, d.lotsA, d.wksA]) ((d.heat.set j ⟨d.heat[j].lo, chosenF d.heat[j].lo d.heat[j].hi c⟩).map Spn.c) rfl rfl (by decide) (Nat.le_of_ble_eq_true rfl) rfl (by
        rw [rows_set (c := Spn.c) (sz := 2) (fun _ => rfl) (fun _ => rfl) hlt]
        exact rows_all (c := Spn.c) (fun _ => rfl) (fun _ => rfl) _) (by simp) ?_
      refine fin (coolHeat d j (chosenF d.heat[j].lo d.heat[j].hi c), .sl false .any ((d.heat.set j ⟨d.heat[j].lo, chosenF d.heat[j].lo d.heat[j].hi c⟩).map Spn.c), d.lotsA, d.wksA) ⟨⟨by show ((d.heat.set j _).length : Int) ≤ _; rw [List.length_set]; exact hs.h, hs.l, hs.w⟩, (free_map Spn.free _ _ _).under, ul, uw, ?_, .inl (cooler_heat hok hlt (by rw [hgd]; exact hin.1) (by rw [hgd]; exact hin.2))⟩ _ ⟨⟨.refl _, .refl _, .refl _, .refl _, trivial⟩, trivial, ⟨rfl, trivial⟩, Nat.le_of_ble_eq_true rfl⟩
      unfold coolHeat
      rw [hgd]
      exact .refl _
    refine Aw.sm tab_ok mb0 [] rfl rfl ?zo ?zk
    case zo =>
      repeat' apply AllP.cons
      all_goals first | exact trivial
    case zk =>
    refine Aw.cond rfl (fun h1 => ?_) (fun h1 => ?_)
    · have hcs : ∀ l : List Lot, ∀ z ∈ l.map Lot.c, z.length = 4 := fun l z hz => by obtain ⟨y, _, rfl⟩ := List.mem_map.1 hz; rfl
      have hcs1 : ∀ l : Lot, ∀ z ∈ [l.c], z.length = 4 := fun l z hz => by simp at hz; subst hz; rfl
      refine Aw.sm tab_ok mb0 [] rfl rfl ?zo ?zk
      case zo =>
        repeat' apply AllP.cons
        all_goals first | exact trivial | exact rfl | exact Nat.le_of_ble_eq_true rfl
      case zk =>
      refine Aw.sm tab_ok mb0 [] rfl rfl ?zo ?zk
      case zo =>
        repeat' apply AllP.cons
        all_goals first | exact trivial
      case zk =>
      refine Aw.block (Aw.rounds 1 h1E [(3, .pt d.c), (5, .pt [.int a, .int b, .int c]), (8, .int (lostE d Spn.hi)), (10, .ref 0 0)] (fun i : Nat => [(12, .int i)]) (fun i => [(0, .cells [.int d.hours, d.heatA, grow 59 ((lotsK b d.lots i).map Lot.c), d.wksA])]) (fun i => i ≤ d.lots.length) (fun i => d.lots.length - i) 0
        (Nat.zero_le _) ⟨⟨.refl _, .refl _, .refl _, .refl _, trivial⟩, ⟨.refl _, trivial⟩, ⟨rfl, trivial⟩, Nat.le_of_ble_eq_true rfl⟩ ⟨udc1, unc1, .s _, .ref _ _ (by decide), trivial⟩ (fun _ _ => ⟨.s _, trivial⟩) (fun _ _ => ⟨⟨by decide, ucl _ _ _ uh (grow_under Lot.free _ _) uw⟩, trivial⟩) fun i hi => ?_)
      refine Aw.seq ?_
      refine Aw.sm tab_ok mb0 [] rfl rfl ?zo ?zk
      case zo =>
        repeat' apply AllP.cons
        all_goals first | exact trivial | exact Nat.le_of_ble_eq_true rfl
      case zk =>
      refine Aw.cond rfl (fun h2 => Aw.skip ?_) (fun h2 => ?_)
      · have hlt : i < d.lots.length := by have := of_decide_eq_true h2; omega
        have hget := get_map (f := Lot.c) hlt
        have lo := lotOk_iff (hd.lots _ (List.getElem_mem hlt))
        have e1 := lotsK_succ b d.lots hlt
        have l1 := lotsK_len b d.lots i
        have hm50 : Ans Try.prog 40 [.int (wAdd b i), .int 50] (.int (wAdd b i % 50)) := mod_t _ 50 (by omega) (by omega)
        have g1 := Int.emod_nonneg (wAdd b i) (show (50 : Int) ≠ 0 by omega)
        have g2 := Int.emod_lt_of_pos (wAdd b i) (show (0 : Int) < 50 by omega)
        refine Aw.seq (Aw.block ?_)
        refine Aw.sm tab_ok mb0 [(3, d.lots[i].c)] rfl rfl ?zo ?zk
        case zo =>
          repeat' apply AllP.cons
          all_goals first | exact trivial | exact rfl | exact Nat.le_of_ble_eq_true rfl | exact Int.natCast_nonneg _ | exact hget
        case zk =>
        refine Aw.sd tab_ok mixed mb0 [(5, [.int (wAdd b i)]), (6, [.int (wAdd b i % 50)])] rfl (by kernel_rfl) rfl rfl ?zo ?zk
        case zo =>
          repeat' apply AllP.cons
          all_goals first | exact trivial | exact rfl | exact Nat.le_of_ble_eq_true rfl | exact Int.natCast_nonneg _ | exact add_wrap _ _ _ _ | exact hm50 | exact (show inR (d.lots[i].keep + wAdd b i % 50) by simp only [inR]; omega)
        case zk =>
        cases hm : lotsK b d.lots i with
        | nil =>
          rw [hm] at e1
          refine Aw.em tab_ok mb0 [(1, []), (2, [.agg (keepMore (keepAt b i d.lots[i]) d.lots[i]).c])] rfl rfl ?zo ?zk
          case zo =>
            repeat' apply AllP.cons
            all_goals first | exact trivial | exact rfl | exact Nat.le_of_ble_eq_true rfl | exact hcs1 _
          case zk =>
          refine Aw.em tab_ok mb0 [] rfl rfl ?zo ?zk
          case zo =>
            repeat' apply AllP.cons
            all_goals first | exact trivial | exact inrk i (by omega)
          case zk =>
          exact ⟨i + 1, hlt, by omega, ⟨.refl _, .refl _, .refl _, .refl _, trivial⟩, ⟨.refl _, trivial⟩, ⟨by rw [e1]; rfl, trivial⟩, Nat.le_of_ble_eq_true rfl⟩
        | cons y l =>
          rw [hm] at e1 l1
          have n1 : ((y :: l).map Lot.c).length = i := by rw [List.length_map]; exact l1
          refine Aw.em tab_ok mb0 [(1, []), (2, [.agg (keepMore (keepAt b i d.lots[i]) d.lots[i]).c])] rfl rfl ?zo ?zk
          case zo =>
            repeat' apply AllP.cons
            all_goals first | exact trivial | exact rfl | exact Nat.le_of_ble_eq_true rfl | exact hcs1 _ | exact hcs (y :: l) | exact (show (((y :: l).map Lot.c).length + 1) * 32 ≤ 140737488355328 by omega) | exact (show ((y :: l).map Lot.c).length + 1 ≤ maxLen by unfold maxLen; omega)
          case zk =>
          refine Aw.em tab_ok mb0 [] rfl rfl ?zo ?zk
          case zo =>
            repeat' apply AllP.cons
            all_goals first | exact trivial | exact inrk i (by omega)
          case zk =>
          exact ⟨i + 1, hlt, by omega, ⟨.refl _, .refl _, .refl _, .refl _, trivial⟩, ⟨.refl _, trivial⟩, ⟨by rw [e1, List.map_append]; rfl, trivial⟩, Nat.le_of_ble_eq_true rfl⟩
      · have hend : i = d.lots.length := by have := of_decide_eq_false h2; omega
        subst hend
        refine Aw.exit2 ?_
        exact fin (withLots d (lotsK b d.lots d.lots.length), d.heatA, grow 59 ((lotsK b d.lots d.lots.length).map Lot.c), d.wksA) ⟨⟨hs.h, by show ((lotsK b d.lots d.lots.length).length : Int) ≤ _; rw [lotsK_len]; exact hs.l, hs.w⟩, uh, grow_under Lot.free _ _, uw, le_agg4 (.refl _) (.refl _) (grow_down _ _ _) (.refl _), .inl (cooler_keep hok b)⟩ _ ⟨⟨.refl _, .refl _, .refl _, .refl _, trivial⟩, trivial, ⟨rfl, trivial⟩, Nat.le_of_ble_eq_true rfl⟩
    refine Aw.sm tab_ok mb0 [] rfl rfl ?zo ?zk
    case zo =>
      repeat' apply AllP.cons
      all_goals first | exact trivial
    case zk =>
    refine Aw.cond rfl (fun h2 => ?_) (fun h2 => ?_)
    · have hcs : ∀ l : List Wk, ∀ z ∈ l.map Wk.c, z.length = 4 := fun l z hz => by obtain ⟨y, _, rfl⟩ := List.mem_map.1 hz; rfl
      have hcs1 : ∀ l : Wk, ∀ z ∈ [l.c], z.length = 4 := fun l z hz => by simp at hz; subst hz; rfl
      refine Aw.sm tab_ok mb0 [] rfl rfl ?zo ?zk
      case zo =>
        repeat' apply AllP.cons
        all_goals first | exact trivial | exact rfl | exact Nat.le_of_ble_eq_true rfl
      case zk =>
      refine Aw.sm tab_ok mb0 [] rfl rfl ?zo ?zk
      case zo =>
        repeat' apply AllP.cons
        all_goals first | exact trivial
      case zk =>
      refine Aw.block (Aw.rounds 1 h1E [(3, .pt d.c), (5, .pt [.int a, .int b, .int c]), (8, .int (lostE d Spn.hi)), (10, .ref 0 0)] (fun i : Nat => [(14, .int i)]) (fun i => [(0, .cells [.int d.hours, d.heatA, d.lotsA, grow 61 ((wksK c d.wks i).map Wk.c)])]) (fun i => i ≤ d.wks.length) (fun i => d.wks.length - i) 0
        (Nat.zero_le _) ⟨⟨.refl _, .refl _, .refl _, .refl _, trivial⟩, ⟨.refl _, trivial⟩, ⟨rfl, trivial⟩, Nat.le_of_ble_eq_true rfl⟩ ⟨udc1, unc1, .s _, .ref _ _ (by decide), trivial⟩ (fun _ _ => ⟨.s _, trivial⟩) (fun _ _ => ⟨⟨by decide, ucl _ _ _ uh ul (grow_under Wk.free _ _)⟩, trivial⟩) fun i hi => ?_)
      refine Aw.seq ?_
      refine Aw.sm tab_ok mb0 [] rfl rfl ?zo ?zk
      case zo =>
        repeat' apply AllP.cons
        all_goals first | exact trivial | exact Nat.le_of_ble_eq_true rfl
      case zk =>
      refine Aw.cond rfl (fun h2 => Aw.skip ?_) (fun h2 => ?_)
      · have hlt : i < d.wks.length := by have := of_decide_eq_true h2; omega
        have hget := get_map (f := Wk.c) hlt
        have lo := wkOk_iff (hd.wks _ (List.getElem_mem hlt))
        have e1 := wksK_succ c d.wks hlt
        have l1 := wksK_len c d.wks i
        have hm4 : Ans Try.prog 40 [.int (wAdd c i), .int 4] (.int (wAdd c i % 4)) := mod_t _ 4 (by omega) (by omega)
        have g1 := Int.emod_nonneg (wAdd c i) (show (4 : Int) ≠ 0 by omega)
        have g2 := Int.emod_lt_of_pos (wAdd c i) (show (0 : Int) < 4 by omega)
        refine Aw.seq (Aw.block ?_)
        refine Aw.sm tab_ok mb0 [(3, d.wks[i].c)] rfl rfl ?zo ?zk
        case zo =>
          repeat' apply AllP.cons
          all_goals first | exact trivial | exact rfl | exact Nat.le_of_ble_eq_true rfl | exact Int.natCast_nonneg _ | exact hget
        case zk =>
        refine Aw.sd tab_ok mixed mb0 [(5, [.int (wAdd c i)]), (6, [.int (wAdd c i % 4)])] rfl (by kernel_rfl) rfl rfl ?zo ?zk
        case zo =>
          repeat' apply AllP.cons
          all_goals first | exact trivial | exact rfl | exact Nat.le_of_ble_eq_true rfl | exact Int.natCast_nonneg _ | exact add_wrap _ _ _ _ | exact hm4 | exact (show inR (d.wks[i].rate + wAdd c i % 4) by simp only [inR]; omega)
        case zk =>
        cases hm : wksK c d.wks i with
        | nil =>
          rw [hm] at e1
          refine Aw.em tab_ok mb0 [(1, []), (2, [.agg (rateMore (rateAt' c i d.wks[i]) d.wks[i]).c])] rfl rfl ?zo ?zk
          case zo =>
            repeat' apply AllP.cons
            all_goals first | exact trivial | exact rfl | exact Nat.le_of_ble_eq_true rfl | exact hcs1 _
          case zk =>
          refine Aw.em tab_ok mb0 [] rfl rfl ?zo ?zk
          case zo =>
            repeat' apply AllP.cons
            all_goals first | exact trivial | exact inrk i (by omega)
          case zk =>
          exact ⟨i + 1, hlt, by omega, ⟨.refl _, .refl _, .refl _, .refl _, trivial⟩, ⟨.refl _, trivial⟩, ⟨by rw [e1]; rfl, trivial⟩, Nat.le_of_ble_eq_true rfl⟩
        | cons y l =>
          rw [hm] at e1 l1
          have n1 : ((y :: l).map Wk.c).length = i := by rw [List.length_map]; exact l1
          refine Aw.em tab_ok mb0 [(1, []), (2, [.agg (rateMore (rateAt' c i d.wks[i]) d.wks[i]).c])] rfl rfl ?zo ?zk
          case zo =>
            repeat' apply AllP.cons
            all_goals first | exact trivial | exact rfl | exact Nat.le_of_ble_eq_true rfl | exact hcs1 _ | exact hcs (y :: l) | exact (show (((y :: l).map Wk.c).length + 1) * 32 ≤ 140737488355328 by omega) | exact (show ((y :: l).map Wk.c).length + 1 ≤ maxLen by unfold maxLen; omega)
          case zk =>
          refine Aw.em tab_ok mb0 [] rfl rfl ?zo ?zk
          case zo =>
            repeat' apply AllP.cons
            all_goals first | exact trivial | exact inrk i (by omega)
          case zk =>
          exact ⟨i + 1, hlt, by omega, ⟨.refl _, .refl _, .refl _, .refl _, trivial⟩, ⟨.refl _, trivial⟩, ⟨by rw [e1, List.map_append]; rfl, trivial⟩, Nat.le_of_ble_eq_true rfl⟩
      · have hend : i = d.wks.length := by have := of_decide_eq_false h2; omega
        subst hend
        refine Aw.exit2 ?_
        exact fin (withWks d (wksK c d.wks d.wks.length), d.heatA, d.lotsA, grow 61 ((wksK c d.wks d.wks.length).map Wk.c)) ⟨⟨hs.h, hs.l, by show ((wksK c d.wks d.wks.length).length : Int) ≤ _; rw [wksK_len]; exact hs.w⟩, uh, ul, grow_under Wk.free _ _, le_agg4 (.refl _) (.refl _) (.refl _) (grow_down _ _ _), .inl (cooler_rate hok c)⟩ _ ⟨⟨.refl _, .refl _, .refl _, .refl _, trivial⟩, trivial, ⟨rfl, trivial⟩, Nat.le_of_ble_eq_true rfl⟩
    have h3 : a % 4 = 3 := by
      have h0 : (a % 4 == 0) = false := h0
      have h1 : (a % 4 == 1) = false := h1
      have h2 : (a % 4 == 2) = false := h2
      rw [beq_eq_false_iff_ne] at h0 h1 h2
      omega
    have hcs1 : ∀ z ∈ d.wks.map Wk.c, z.length = 4 := fun z hz => by obtain ⟨y, _, rfl⟩ := List.mem_map.1 hz; rfl
    have hcs2 : ∀ z ∈ [w.c], z.length = 4 := fun z hz => by simp at hz; subst hz; rfl
    refine Aw.ed tab_ok mixed mb0 [(4, [.agg w.c])] rfl (by kernel_rfl) rfl rfl ?zo ?zk
    case zo =>
      repeat' apply AllP.cons
      all_goals first | exact trivial | exact rfl | exact Nat.le_of_ble_eq_true rfl | exact hcs1 | exact hcs2 | exact (show 0 + (d.wks.map Wk.c).length ≤ maxLen by unfold maxLen; omega) | exact (show (d.wks.map Wk.c).length + 1 ≤ maxLen by unfold maxLen; omega) | exact (show (0 + (d.wks.map Wk.c).length) * 32 ≤ 140737488355328 by omega) | exact (show ((d.wks.map Wk.c).length + 1) * 32 ≤ 140737488355328 by omega)
    case zk =>
    refine fin (hire d w, d.heatA, d.lotsA, .sl false (.own 61) (d.wks.map Wk.c ++ [w.c])) ⟨⟨hs.h, hs.l, ?_⟩, uh, ul, ?_, ?_, ?_⟩ _ ⟨⟨.refl _, .refl _, .refl _, .refl _, trivial⟩, trivial, ⟨rfl, trivial⟩, Nat.le_of_ble_eq_true rfl⟩
    · show ((d.wks ++ [w]).length : Int) ≤ _
      rw [List.length_append]; simp; omega
    · rw [hm]; exact (free_map Wk.free _ _ _).under
    · rw [hm]; exact .refl _
    · by_cases hx : (hire d w).ok = true
      · exact .inl (cooler_hire hx)
      · exact .inr ⟨by simpa using hx, h3⟩
theorem law_cooler3 (d : Day) (w : Wk) (n : Int × Int × Int) (hs : Small d) : Ans Try.prog 11 [.agg d.c, .agg w.c, .agg [.int n.1, .int n.2.1, .int n.2.2]] (.bool true) := law_cooler d w n.1 n.2.1 n.2.2 hs
end Go.Proofs.Ytimikmfkdaoaaaa
namespace Go.Proofs.Ytimikmfkdaoaaaa
open Go Go.AL Go.ChangeShapes Go.WideShapes Go.ChangeAt Go.RowKit
section
variable {H : Type} {enc : TypeId × Value → H} {w : World} {base : Nat} {spare : Nat → Bool} {held : Bool} {φ : Names}
theorem u68 : Try.prog.underlying 68 = some (.array 3 3) := by kernel_rfl
theorem c68 : Try.prog.cellsOf 68 = 3 := by kernel_rfl
set_option maxRecDepth 100000 in
theorem arg_3 {v : Value} {d : DataW H} {p : List MemPlace} {r : Reach} {b0 : Nat} (hok : Value.okWide Try.prog w r b0 68 v) (h : DataW.Trod enc Try.prog w base spare held 68 v d p) : ∃ y : Int × Int × Int, VR φ (allZ w) w (.agg [.int y.1, .int y.2.1, .int y.2.2]) v := by
  obtain ⟨fuel, h⟩ := h
  unfold Value.okWide at hok
  rw [u68] at hok
  obtain ⟨⟨l⟩, rfl, hs, _⟩ := hok
  rw [c68] at hs
  have hs : l.length = 3 := hs
  match l, hs with
  | [c0, c1, c2], _ =>
  have h : DataW.trod enc Try.prog w base spare held fuel 68 [c0, c1, c2] = some (d, p) := h
  obtain ⟨y0, y1, y2, n, _, h0, h1, h2⟩ := trod_array3 u68 (show Try.prog.cellsOf 3 = 1 by kernel_rfl) h
  obtain ⟨a, e0, _⟩ := DataW.trod_int u3 h0
  obtain ⟨b, e1, _⟩ := DataW.trod_int u3 h1
  obtain ⟨c, e2, _⟩ := DataW.trod_int u3 h2
  cases e0; cases e1; cases e2
  exact ⟨(a, b, c), row_vr (zs := [a, b, c])⟩
end
end Go.Proofs.Ytimikmfkdaoaaaa
namespace Go.Proofs.Ytimikmfkdaoaaaa
open Go Go.AL Go.ChangeShapes Go.WideShapes Go.ChangeAt Go.RowKit
set_option maxRecDepth 100000 in
theorem gutCooler_lifted (os : Os) (started : os.Started) (H : Type) (enc : TypeId × Value → H) :
    ReturnsInHanded {} Try.checked os 11 .any (Rows.gutCoolerSpec.pre6 enc Try.prog Try.f11 [] false) (Rows.gutCoolerSpec.post enc Try.prog Try.f11 false true false false) := by
  refine lifted (tb := 4) (C := Try.checked) own started (by kernel_rfl) Try.func11
    (ChangeSpec.witness6 (enc := enc) (C := Try.checked) false ⟨#[], #[.agg #[.int .i64 0, .slice none 0 0, .slice none 0 0, .slice none 0 0], .agg #[.int .i64 0, .int .i64 0, .int .i64 0, .int .i64 0], .agg #[.int .i64 0, .int .i64 0, .int .i64 0]], []⟩ 8 (by kernel_rfl) (by kernel_rfl) (by kernel_rfl) (by kernel_rfl))
    laidOut ?_ rfl (by kernel_rfl) uBool ?_ ?_
  · rw [Try.params11]; exact all3t (p := fun t => Try.prog.readableRec t = true ∧ t < Try.prog.types.size) t26 t61 t68
  · intro ds hd
    rw [Try.params11] at hd
    match ds, hd with
    | [d0, d1, d2], _ => rfl
  · intro W base args ds p hval hA
    rw [Try.params11] at hA hval
    obtain ⟨v0, v1, v2, d0, d1, d2, p0, p1, p2, rfl, rfl, rfl, h0, h1, h2⟩ := trodAll_three hA
    obtain ⟨y0, q0, s0⟩ := arg_day (φ := fun _ => none) (hval 0 26 v0 rfl rfl) h0
    obtain ⟨y1, q1⟩ := arg_wk (φ := fun _ => none) (hval 1 61 v1 rfl rfl) h1
    obtain ⟨y2, q2⟩ := arg_3 (φ := fun _ => none) (hval 2 68 v2 rfl rfl) h2
    exact ⟨_, _, vrs3 q0 q1 q2, law_cooler3 y0 y1 y2 s0⟩
theorem gutCooler_holds : Rows.GutCoolerSaid :=
  OpenClaim.holds_of_wide 11 Try.f11 rfl rfl rfl rfl rfl rfl rfl ⟨rfl, rfl, rfl, rfl, rfl⟩ rfl rfl rfl rfl rfl (by kernel_rfl) Try.func11 (by kernel_rfl)
    (of_decide_eq_true (by kernel_rfl)) (by unfold Func.isWrapper; first | (rw [if_pos (by decide +kernel)]; kernel_rfl) | (rw [if_neg (by decide +kernel)]; exact ⟨rfl, rfl⟩))
    (fun os started H enc _ => gutCooler_lifted os started H enc)
end Go.Proofs.Ytimikmfkdaoaaaa
