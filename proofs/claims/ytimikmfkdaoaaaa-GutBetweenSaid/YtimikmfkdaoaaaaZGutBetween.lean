/- GutBetween holds: whatever the day and the numbers, it returns true, and both read as they did. No condition. -/
import Derived.Test.YtimikmfkdaoaaaaK9
set_option linter.all false
namespace Go.Proofs.Ytimikmfkdaoaaaa
open Go Go.AL
structure HInv (d : Day) (ws : List Wk) (k : Nat) (s : Int × Int) : Prop where
  none : k = 0 → s = (0, 0)
  wh : 0 < k → 0 ≤ s.1 ∧ s.1 < k ∧ ∃ w, ws[s.1.toNat]? = some w ∧ lostE (hire d w) Spn.hi = s.2
  least : ∀ (i : Nat) w, i < k → ws[i]? = some w → s.2 ≤ lostE (hire d w) Spn.hi
  first : ∀ (i : Nat) w, (i : Int) < s.1 → ws[i]? = some w → lostE (hire d w) Spn.hi ≠ s.2
theorem help_inv (d : Day) (ws : List Wk) : ∀ (l : List Wk) (k : Nat) (s : Int × Int), ws.drop k = l → HInv d ws k s → HInv d ws ws.length (helpF d l k s)
  | [], k, s, hk, h => by
    have hk := List.drop_eq_nil_iff.1 hk
    rw [helpF]
    by_cases e : k = ws.length
    · rw [← e]; exact h
    · refine ⟨fun h0 => h.none (Nat.eq_zero_of_not_pos fun hp => ?_), fun h0 => ?_, fun i w hi hw => h.least i w (by omega) hw, h.first⟩
      · obtain ⟨a, b, w, hw, _⟩ := h.wh hp
        have := (List.getElem?_eq_some_iff.1 hw).1; omega
      · obtain ⟨a, b, w, hw, hl⟩ := h.wh (by omega)
        have := (List.getElem?_eq_some_iff.1 hw).1
        exact ⟨a, by omega, w, hw, hl⟩
  | w :: l, k, s, hk, h => by
    have hlt : k < ws.length := by
      refine Nat.lt_of_not_le fun hle => ?_
      rw [List.drop_eq_nil_of_le hle] at hk; cases hk
    have hw : ws[k]? = some w := by
      have := congrArg (fun x => x[0]?) hk
      simpa using this
    rw [helpF]
    refine help_inv d ws l (k + 1) _ (by rw [← List.drop_drop, hk]; rfl) ?_
    by_cases hc : k = 0 ∨ lostE (hire d w) Spn.hi < s.2
    · rw [if_pos hc]
      refine ⟨fun h0 => by omega, fun _ => ⟨by simp, by simp; omega, w, by simpa using hw, rfl⟩, fun i x hi hx => ?_, fun i x hi hx => ?_⟩
      · by_cases e : i = k
        · subst e; rw [hw] at hx; cases hx; exact Int.le_refl _
        · rcases hc with h0 | h0
          · omega
          · have := h.least i x (by omega) hx
            show lostE (hire d w) Spn.hi ≤ _; omega
      · have hi : (i : Int) < (k : Int) := hi
        rcases hc with h0 | h0
        · omega
        · have := h.least i x (by omega) hx
          show _ ≠ lostE (hire d w) Spn.hi; omega
    · rw [if_neg hc]
      have hk0 : 0 < k := by omega
      refine ⟨fun h0 => by omega, fun _ => ?_, fun i x hi hx => ?_, h.first⟩
      · obtain ⟨a, b, w, hw, hl⟩ := h.wh hk0
        exact ⟨a, by omega, w, hw, hl⟩
      · by_cases e : i = k
        · subst e; rw [hw] at hx; cases hx; omega
        · exact h.least i x (by omega) hx
theorem ok_hire {d : Day} (hok : d.ok = true) (h6 : d.wks.length < 6) {w : Wk} (hw : isWorker w d.hours = true) : (hire d w).ok = true := by
  have h1 := ac1 (ac1 (ac1 hok))
  have h2 := ac2 (ac1 (ac1 hok))
  have h3 := ac2 (ac1 hok)
  have h4 := ac2 hok
  have e1 : (hire d w).head = true := by
    have g1 := ac1 h1
    unfold Day.head
    show cond (cond (cond (wi d.hours 1 24) (((d.heat.map Spn.c).length : Int) == d.hours) false) (decide (((d.lots.map Lot.c).length : Int) ≤ 8)) false) (decide ((((d.wks ++ [w]).map Wk.c).length : Int) ≤ 6)) false = true
    rw [g1, decide_eq_true (by simp; omega)]; rfl
  unfold Day.ok
  rw [e1]
  show cond (cond (cond true (d.heat.all heatOk) false) (d.lots.all (lotOk d.hours)) false) ((d.wks ++ [w]).all fun w => isWorker w d.hours) false = true
  have h2 : d.heat.all heatOk = true := h2
  have h3 : d.lots.all (lotOk d.hours) = true := h3
  have h4 : (d.wks.all fun w => isWorker w d.hours) = true := h4
  rw [h2, h3, List.all_append, h4]
  simp [hw]
theorem help_answer (d : Day) (b : Bool) (ws : List Wk) (hs : Small d) (hw : (ws.length : Int) ≤ 9223372036854775807) : ∃ x y e, Ans Try.prog 32 [.agg d.c, .sl b .any (ws.map Wk.c)] (.tup [.int x, .int y, .int e]) ∧
    ((d.ok = true ∧ e = 0 ∧ helpOk d ws = true ∧ HInv d ws ws.length (x, y)) ∨ ((e = 50 ∨ e = 52) ∧ x = 0 ∧ y = 0)) := by
  have h1 := help_t d b ws hs hw
  unfold helpR at h1
  by_cases hok : d.ok = true
  · by_cases hr : helpOk d ws = true
    · rw [if_pos hok, if_pos hr] at h1
      refine ⟨_, _, _, h1, .inl ⟨hok, rfl, hr, ?_⟩⟩
      exact help_inv d ws ws 0 (0, 0) (by simp) ⟨fun _ => rfl, fun h => absurd h (Nat.lt_irrefl _), fun i w hi => by omega, fun i w hi => by have hi : (i : Int) < 0 := hi; omega⟩
    · rw [if_pos hok, if_neg hr] at h1
      exact ⟨_, _, _, h1, .inr ⟨.inr rfl, rfl, rfl⟩⟩
  · rw [if_neg hok] at h1
    exact ⟨_, _, _, h1, .inr ⟨.inl rfl, rfl, rfl⟩⟩
set_option maxHeartbeats 4000000 in
theorem law_hired (d : Day) (b : Bool) (ws : List Wk) (hs : Small d) (hw : (ws.length : Int) ≤ 9223372036854775807) : Ans Try.prog 14 [.agg d.c, .sl b .any (ws.map Wk.c)] (.bool true) := by
  obtain ⟨x, y, e, h1, hc⟩ := help_answer d b ws hs hw
  have hwf : Free (.sl b .any (ws.map Wk.c)) := free_map Wk.free _ _ _
  have lws : ((ws.map Wk.c).length : Int) = ws.length := by simp
  refine told Try.func14 rfl rfl (Pure.of tab_ok Try.func14 rfl Try.ntmps14 rfl (allC (.agg _ d.free) (all1 (hwf))) (allC (fun _ => rfl) (all1 (fun _ => rfl))) (by first | exact .s _ | assumption | exact .tup _ (by intro x hx; simp only [List.mem_cons, List.not_mem_nil, or_false] at hx; rcases hx with rfl | rfl | rfl | rfl <;> first | exact .s _ | (simp_all; done))) fun E hE => ?_)
  have udc : Under 0 (A.pt d.c) := (Free.pt _ d.free).under
  refine Aw.sm tab_ok mb0 [] rfl rfl ?zo ?zk
  case zo =>
    repeat' apply AllP.cons
    all_goals first | exact trivial
  case zk =>
  refine Aw.sm tab_ok mb0 [(2, [.tup [.int x, .int y, .int e]])] rfl rfl ?zo ?zk
  case zo =>
    repeat' apply AllP.cons
    all_goals first | exact trivial | exact Nat.le_of_ble_eq_true rfl | exact h1
  case zk =>
  refine Aw.seq ?_
  refine Aw.sm tab_ok mb0 [(4, [.bool d.ok])] rfl rfl ?zo ?zk
  case zo =>
    repeat' apply AllP.cons
    all_goals first | exact trivial | exact id | exact fun _ => rfl | exact fun _ => Nat.le_of_ble_eq_true rfl | exact fun _ => sound_t d hs | exact gq_f
  case zk =>
  rcases hc with ⟨hok, rfl, hho, hinv⟩ | ⟨he, rfl, rfl⟩
  case inr =>
    rcases he with rfl | rfl
    all_goals
      refine Aw.cond rfl (fun _ => ?_) (fun h => by cases h)
      refine Aw.sm tab_ok mb0 [(11, [.bool true])] rfl rfl ?zo ?zk
      case zo =>
        repeat' apply AllP.cons
        all_goals first | exact trivial | exact id | exact fun _ => rfl | exact fun _ => works_t
      case zk =>
      exact Aw.ret ⟨_, .cons (.tmp _) .nil, rfl⟩
  have hd := DayOk.of hok
  have hn := wi_iff.1 (ac1 hho)
  have hall : ∀ w ∈ ws, isWorker w d.hours = true := List.all_eq_true.1 (ac2 hho)
  have lwk : ((d.wks.map Wk.c).length : Int) = d.wks.length := by simp
  obtain ⟨i0, i1, w0, hw0, hl0⟩ := hinv.wh (by omega)
  have hleast := hinv.least
  have hfirst := hinv.first
  simp only at i0 i1 hw0 hl0 hleast hfirst
  refine Aw.cond rfl (fun h => ?_) (fun _ => Aw.skip ?_)
  · have h : cond (cond (!((0 : Int) == 0)) true (!d.ok)) true (decide (((ws.map Wk.c).length : Int) > 6)) = true := h
    rw [hok, decide_eq_false (by omega)] at h
    cases h
  refine Aw.seq ?_
  refine Aw.sm tab_ok mb0 [(4, [.bool (wi x 0 (((ws.map Wk.c).length) - 1))])] rfl rfl ?zo ?zk
  case zo =>
    repeat' apply AllP.cons
    all_goals first | exact trivial | exact in_t _ _ _ | exact (by simp only [Ob.of, inR]; omega)
  case zk =>
  refine Aw.cond rfl (fun h => ?_) (fun _ => Aw.skip ?_)
  · have h : (!wi x 0 (((ws.map Wk.c).length : Int) - 1)) = true := h
    rw [wi_iff.2 (by omega)] at h
    cases h
  refine Aw.seq ?_
  refine Aw.sm tab_ok mb0 [] rfl rfl ?zo ?zk
  case zo =>
    repeat' apply AllP.cons
    all_goals first | exact trivial
  case zk =>
  refine Aw.block (Aw.rounds 0 hE [(1, .sl b .any (ws.map Wk.c)), (2, .pt d.c), (5, .int x), (6, .int y)] (fun i : Nat => [(8, .int i)]) (fun _ => []) (fun i => i ≤ ws.length) (fun i => ws.length - i) 0
    (Nat.zero_le _) ⟨⟨.refl _, .refl _, .refl _, .refl _, trivial⟩, ⟨.refl _, trivial⟩, trivial, Nat.zero_le _⟩ ⟨hwf.under, udc, .s _, .s _, trivial⟩ (fun _ _ => ⟨.s _, trivial⟩) (fun _ _ => trivial) fun i hi => ?_)
  refine Aw.seq ?_
  refine Aw.sm tab_ok mb0 [] rfl rfl ?zo ?zk
  case zo =>
    repeat' apply AllP.cons
    all_goals first | exact trivial | exact id | exact fun _ => rfl | exact fun _ => Nat.le_of_ble_eq_true rfl
  case zk =>
  refine Aw.cond rfl (fun h2 => Aw.skip ?_) (fun h2 => ?_)
  · have h2 : cond (decide ((i : Int) < ((ws.map Wk.c).length : Int))) (decide (((d.wks.map Wk.c).length : Int) < 6)) false = true := h2
    have hlt : i < ws.length := by have := of_decide_eq_true (ac1 h2); omega
    have h6 : d.wks.length < 6 := by have := of_decide_eq_true (ac2 h2); omega
    have hwk := hall _ (List.getElem_mem hlt)
    have hget := get_map (f := Wk.c) hlt
    have hl1 := hleast i ws[i] (by omega) (List.getElem?_eq_getElem hlt)
    have hl2 := fun h => hfirst i ws[i] h (List.getElem?_eq_getElem hlt)
    have hl3 : (i : Int) = x → lostE (hire d ws[i]) Spn.hi = y := fun h => by
      subst h
      rw [Int.toNat_natCast, List.getElem?_eq_getElem hlt] at hw0
      cases hw0; exact hl0
    generalize ws[i] = w at *
    have hokx := ok_hire hok h6 hwk
    have hsx : Small (hire d w) := ⟨hs.h, hs.l, by show ((d.wks ++ [w]).length : Int) ≤ _; rw [List.length_append, List.length_singleton]; push_cast; omega⟩
    obtain ⟨P, n, e2, hb, hc2⟩ := best_lost (hire d w) hsx
    have hb := hb
    obtain ⟨hb, _, hc2⟩ := (⟨hb, hc2⟩ : _ ∧ _)
    rcases hc2 with ⟨_, rfl, rfl, rfl⟩ | ⟨h, _⟩
    case inr => rw [hokx] at h; cases h
    have hcs1 : ∀ z ∈ d.wks.map Wk.c, z.length = 4 := fun z hz => by obtain ⟨y, _, rfl⟩ := List.mem_map.1 hz; rfl
    have hcs2 : ∀ z ∈ [w.c], z.length = 4 := fun z hz => by simp at hz; subst hz; rfl
    have hln : (d.wks.map Wk.c).length = d.wks.length := by simp
    have hm : d.wks.map Wk.c ++ [w.c] = (hire d w).wks.map Wk.c := by show _ = (d.wks ++ [w]).map Wk.c; simp
    refine Aw.seq (Aw.block ?_)
    refine Aw.sm tab_ok mb0 [] rfl rfl ?zo ?zk
    case zo =>
      repeat' apply AllP.cons
      all_goals first | exact trivial | exact rfl | exact Nat.le_of_ble_eq_true rfl
    case zk =>
    refine Aw.sd tab_ok mixed mb0 [(6, w.c), (7, [.agg w.c])] rfl (by kernel_rfl) rfl rfl ?zo ?zk
    case zo =>
      repeat' apply AllP.cons
      all_goals first | exact trivial | exact rfl | exact Nat.le_of_ble_eq_true rfl | exact Int.natCast_nonneg _ | exact hget | exact hcs1 | exact hcs2 | exact (show 0 + (d.wks.map Wk.c).length ≤ maxLen by unfold maxLen; omega) | exact (show (d.wks.map Wk.c).length + 1 ≤ maxLen by unfold maxLen; omega) | exact (show (0 + (d.wks.map Wk.c).length) * 32 ≤ 140737488355328 by omega) | exact (show ((d.wks.map Wk.c).length + 1) * 32 ≤ 140737488355328 by omega)
    case zk =>
    have hld : A.agg (((List.drop 0 (setSeg [.int d.hours, d.heatA, d.lotsA, d.wksA] (0 + 3) [.sl false (.own 61) (d.wks.map Wk.c ++ [w.c])])).take 4).map A.down) = .agg (hire d w).c := by rw [hm]; rfl
    refine Aw.sm tab_ok mb0 [(0, [.agg (hire d w).c]), (1, [.tup [planA (planF (hire d w)), .int (lostE (hire d w) Spn.hi), .int 0]])] rfl rfl ?zo ?zk
    case zo =>
      repeat' apply AllP.cons
      all_goals first | exact trivial | exact Nat.le_of_ble_eq_true rfl | exact hb | exact hld
    case zk =>
    generalize lostE (hire d w) Spn.hi = n at *
    refine Aw.sm tab_ok mb0 [] rfl rfl ?zo ?zk
    case zo =>
      repeat' apply AllP.cons
      all_goals first | exact trivial | exact id | exact fun _ => rfl | exact gq_f | exact gq_c | exact fun _ _ => rfl
    case zk =>
    refine Aw.cond rfl (fun h3 => ?_) (fun _ => Aw.skip ?_)
    · have h3 : cond (cond (cond (!((0 : Int) == 0)) true (decide (n < y))) true (cond (decide ((i : Int) < x)) (n == y) false)) true (cond ((i : Int) == x) (!(n == y)) false) = true := h3
      rw [decide_eq_false (show ¬ n < y by omega)] at h3
      by_cases q1 : (i : Int) < x
      · have q2 := hl2 q1
        have q3 : (n == y) = false := by simpa using q2
        have q4 : ((i : Int) == x) = false := by simp; omega
        rw [decide_eq_true q1, q3, q4] at h3
        cases h3
      · rw [decide_eq_false q1] at h3
        by_cases q2 : (i : Int) = x
        · have q3 : (n == y) = true := by simpa using hl3 q2
          have q4 : ((i : Int) == x) = true := by simpa using q2
          rw [q3, q4] at h3; cases h3
        · have q4 : ((i : Int) == x) = false := by simpa using q2
          rw [q4] at h3; cases h3
    refine Aw.em tab_ok mb0 [] rfl rfl ?zo ?zk
    case zo =>
      repeat' apply AllP.cons
      all_goals first | exact trivial | exact (by simp only [Ob.of, inR]; omega)
    case zk =>
    exact ⟨i + 1, hlt, by omega, ⟨.refl _, .refl _, .refl _, .refl _, trivial⟩, ⟨.refl _, trivial⟩, trivial, Nat.zero_le _⟩
  · obtain ⟨P, n, e2, hb, _, hc2⟩ := best_lost d hs
    rcases hc2 with ⟨_, rfl, rfl, rfl⟩ | ⟨h, _⟩
    case inr => rw [hok] at h; cases h
    have hwk0 := hall w0 (List.mem_of_getElem? hw0)
    have f1 := hire_le hd (DayOk.hire hok hwk0) Spn.hi
    have f2 := lost_pos (DayOk.hire hok hwk0) Spn.hi
    rw [hl0] at f1 f2
    refine Aw.exit2 ?_
    refine Aw.sm tab_ok mb0 [(1, [.tup [planA (planF d), .int (lostE d Spn.hi), .int 0]])] rfl rfl ?zo ?zk
    case zo =>
      repeat' apply AllP.cons
      all_goals first | exact trivial | exact Nat.le_of_ble_eq_true rfl | exact hb
    case zk =>
    refine Aw.sm tab_ok mb0 [(12, [.bool true])] rfl rfl ?zo ?zk
    case zo =>
      repeat' apply AllP.cons
      all_goals first | exact trivial | exact id | exact fun _ => rfl | exact fun _ => works_t
    case zk =>
    refine Aw.ret ⟨_, .cons (.tmp _) .nil, ?_⟩
    show A.bool (cond (cond (cond ((0 : Int) == 0) (decide (y ≤ lostE d Spn.hi)) false) (decide (y ≥ 0)) false) true false) = .bool true
    rw [decide_eq_true f1, decide_eq_true (show y ≥ 0 from f2)]; rfl
end Go.Proofs.Ytimikmfkdaoaaaa
namespace Go.Proofs.Ytimikmfkdaoaaaa
open Go Go.AL
def grS : List Spn → A
  | [] => .sl true .exact []
  | s :: l => .sl false (.own 47) ((s :: l).map Spn.c)
theorem grS_under {n : Nat} : ∀ l : List Spn, Under n (grS l)
  | [] => .sl _ _ _ (fun _ h => by cases h)
  | s :: l => .sl _ _ _ fun e he x hx => by
    obtain ⟨y, _, rfl⟩ := List.mem_map.1 he
    exact (Spn.free y x hx).under
theorem grS_down {l : List Spn} (h : l ≠ []) : (grS l).down = .sl false .any (l.map Spn.c) := by
  cases l with
  | nil => exact absurd rfl h
  | cons s l => rfl
def spanL (g : Nat → Int) (k : Nat) : List Spn := (List.range k).map fun h => ⟨g h, g h⟩
theorem spanL_succ (g : Nat → Int) (k : Nat) : spanL g (k + 1) = spanL g k ++ [⟨g k, g k⟩] := by
  unfold spanL; rw [List.range_succ, List.map_append]; rfl
theorem spanL_len (g : Nat → Int) (k : Nat) : (spanL g k).length = k := by simp [spanL]
theorem spanL_get (g : Nat → Int) (k h : Nat) : (spanL g k).getD h ⟨0, 0⟩ = if h < k then ⟨g h, g h⟩ else ⟨0, 0⟩ := by
  unfold spanL
  rw [List.getD_eq_getElem?_getD, List.getElem?_map]
  by_cases e : h < k
  · rw [if_pos e]; simp [e]
  · rw [if_neg e, List.getElem?_eq_none (by simp; omega)]; rfl
def withHeat (d : Day) (l : List Spn) : Day := { d with hn := false, heat := l }
theorem ok_heat {d : Day} (hok : d.ok = true) {l : List Spn} (hl : l.length = d.heat.length) (h : ∀ s ∈ l, heatOk s = true) : (withHeat d l).ok = true := by
  have h1 := ac1 (ac1 (ac1 hok))
  have h3 := ac2 (ac1 hok)
  have h4 := ac2 hok
  have e1 : (withHeat d l).head = true := by
    have : (withHeat d l).head = d.head := by
      unfold Day.head
      have : ((withHeat d l).heat.map Spn.c).length = (d.heat.map Spn.c).length := by simp; exact hl
      rw [this]; rfl
    rw [this]; exact h1
  unfold Day.ok
  rw [e1]
  show cond (cond (cond true (l.all heatOk) false) (d.lots.all (lotOk d.hours)) false) (d.wks.all fun w => isWorker w d.hours) false = true
  have h3 : d.lots.all (lotOk d.hours) = true := h3
  have h4 : (d.wks.all fun w => isWorker w d.hours) = true := h4
  rw [List.all_eq_true.2 h, h3, h4]; rfl
theorem told_answer (d : Day) (hs : Small d) : ∃ x y e, Ans Try.prog 30 [.agg d.c] (.tup [.agg [.int x, .int y], .int e]) ∧
    ((d.ok = true ∧ e = 0 ∧ x = lostE d Spn.lo ∧ y = lostE d Spn.hi) ∨ (e = 50 ∧ x = 0 ∧ y = 0)) := by
  have h1 := told_t d hs
  unfold toldR at h1
  by_cases hok : d.ok = true
  · rw [if_pos hok] at h1
    exact ⟨_, _, _, h1, .inl ⟨hok, rfl, rfl, rfl⟩⟩
  · rw [if_neg hok] at h1
    exact ⟨_, _, _, h1, .inr ⟨rfl, rfl, rfl⟩⟩
theorem best_ok' {d : Day} (hs : Small d) (hok : d.ok = true) : Ans Try.prog 23 [.agg d.c] (.tup [planA (planF d), .int (lostE d Spn.hi), .int 0]) := by
  obtain ⟨P, n, e2, hb, _, hc2⟩ := best_lost d hs
  rcases hc2 with ⟨_, rfl, rfl, rfl⟩ | ⟨h, _⟩
  · exact hb
  · rw [hok] at h; cases h
set_option maxHeartbeats 8000000 in
theorem law_between (d : Day) (b : Bool) (bits : List Int) (hs : Small d) (hw : (bits.length : Int) ≤ 9223372036854775807) : Ans Try.prog 13 [.agg d.c, .sl b .any (ints bits)] (.bool true) := by
  obtain ⟨x, y, e, h1, hc⟩ := told_answer d hs
  refine told Try.func13 rfl rfl (Pure.of tab_ok Try.func13 rfl Try.ntmps13 rfl (allC (.agg _ d.free) (all1 (free_ints _ _ _))) (allC (fun _ => rfl) (all1 (fun _ => rfl))) (by first | exact .s _ | assumption | exact .tup _ (by intro x hx; simp only [List.mem_cons, List.not_mem_nil, or_false] at hx; rcases hx with rfl | rfl | rfl | rfl <;> first | exact .s _ | (simp_all; done))) fun E hE => ?_)
  have udc : Under 0 (A.pt d.c) := (Free.pt _ d.free).under
  refine Aw.sm tab_ok mb0 [] rfl rfl ?zo ?zk
  case zo =>
    repeat' apply AllP.cons
    all_goals first | exact trivial
  case zk =>
  refine Aw.sm tab_ok mb0 [(1, [.tup [.agg [.int x, .int y], .int e]])] rfl rfl ?zo ?zk
  case zo =>
    repeat' apply AllP.cons
    all_goals first | exact trivial | exact rfl | exact Nat.le_of_ble_eq_true rfl | exact h1
  case zk =>
  refine Aw.seq ?_
  refine Aw.sm tab_ok mb0 [(4, [.bool d.ok])] rfl rfl ?zo ?zk
  case zo =>
    repeat' apply AllP.cons
    all_goals first | exact trivial | exact id | exact fun _ => rfl | exact fun _ => Nat.le_of_ble_eq_true rfl | exact fun _ => sound_t d hs | exact gq_f
  case zk =>
  rcases hc with ⟨hok, rfl, rfl, rfl⟩ | ⟨rfl, rfl, rfl⟩
  case inr =>
    refine Aw.cond rfl (fun _ => ?_) (fun h => by cases h)
    refine Aw.sm tab_ok mb0 [(3, [.agg [.int 0, .int 0]]), (5, [.bool true]), (8, [.bool true])] rfl rfl ?zo ?zk
    case zo =>
      repeat' apply AllP.cons
      all_goals first | exact trivial | exact id | exact fun _ => rfl | exact fun _ => Nat.le_of_ble_eq_true rfl | exact fun _ => works_t | exact fun _ => eqSpn _ _ 0 0 0 0
    case zk =>
    exact Aw.ret ⟨_, .cons (.tmp _) .nil, rfl⟩
  have hd := DayOk.of hok
  have hh := hd.hours
  have hht := hd.heat
  refine Aw.cond rfl (fun h => by rw [hok] at h; cases h) (fun _ => Aw.skip ?_)
  have lh : ((d.heat.map Spn.c).length : Int) = d.heat.length := by simp
  have llo : ∀ h, h < d.heat.length → d.heat.getD h ⟨0, 0⟩ ∈ d.heat := fun h hlt => by simp [List.getD_eq_getElem?_getD, hlt]
  let gl : Nat → Int := fun h => (d.heat.getD h ⟨0, 0⟩).lo
  have hx1 : (withHeat d (spanL (warm d bits) d.heat.length)).ok = true := ok_heat hok (spanL_len _ _) fun s hs => by
    obtain ⟨h, _, rfl⟩ := List.mem_map.1 hs
    have := warm_in hd bits h
    unfold heatOk
    rw [decide_eq_true (show (0 : Int) ≤ warm d bits h by omega), decide_eq_true (Int.le_refl _), decide_eq_true (show warm d bits h ≤ 100 by omega)]; rfl
  have hx2 : (withHeat d (spanL gl d.heat.length)).ok = true := ok_heat hok (spanL_len _ _) fun s hs => by
    obtain ⟨h, _, rfl⟩ := List.mem_map.1 hs
    have := heat_ge hd true h
    simp only [if_true] at this
    have e : gl h = (d.heat.getD h ⟨0, 0⟩).lo := rfl
    unfold heatOk
    rw [decide_eq_true (show (0 : Int) ≤ gl h by omega), decide_eq_true (Int.le_refl _), decide_eq_true (show gl h ≤ 100 by omega)]; rfl
  have hsm : ∀ g : Nat → Int, Small (withHeat d (spanL g d.heat.length)) := fun g => ⟨by show ((spanL g d.heat.length).length : Int) ≤ _; rw [spanL_len]; exact hs.h, hs.l, hs.w⟩
  have hb1 := best_ok' (hsm _) hx1
  have hb2 := best_ok' (hsm _) hx2
  have hb := best_ok' hs hok
  have m1 : lostE (withHeat d (spanL (warm d bits) d.heat.length)) Spn.hi ≤ lostE d Spn.hi := cool_le hd (.of hx1) rfl rfl rfl fun k => by
    show ((spanL (warm d bits) d.heat.length).getD k ⟨0, 0⟩).hi ≤ _
    rw [spanL_get]
    have := warm_in hd bits k
    have h0 := heat_ge hd false k
    simp only [Bool.false_eq_true, if_false] at h0
    split
    · exact this.2.1
    · exact h0.1
  have m2 : lostE d Spn.lo ≤ lostE (withHeat d (spanL (warm d bits) d.heat.length)) Spn.hi := cool_le (.of hx1) hd rfl rfl rfl fun k => by
    show _ ≤ ((spanL (warm d bits) d.heat.length).getD k ⟨0, 0⟩).hi
    rw [spanL_get]
    have := warm_in hd bits k
    split
    · exact this.2.2.1
    · rename_i h; rw [List.getD_eq_getElem?_getD, List.getElem?_eq_none (by omega)]; exact Int.le_refl _
  have m3 : lostE (withHeat d (spanL gl d.heat.length)) Spn.hi = lostE d Spn.lo := Int.le_antisymm
    (cool_le hd (.of hx2) rfl rfl rfl fun k => by
      show ((spanL gl d.heat.length).getD k ⟨0, 0⟩).hi ≤ _
      rw [spanL_get]
      split
      · exact Int.le_refl _
      · rename_i h; rw [List.getD_eq_getElem?_getD, List.getElem?_eq_none (by omega)]; exact Int.le_refl _)
    (cool_le (.of hx2) hd rfl rfl rfl fun k => by
      show _ ≤ ((spanL gl d.heat.length).getD k ⟨0, 0⟩).hi
      rw [spanL_get]
      split
      · exact Int.le_refl _
      · rename_i h; rw [List.getD_eq_getElem?_getD, List.getElem?_eq_none (by omega)]; exact Int.le_refl _)
  have m4 := lost_pos hd Spn.lo
  have m5 := lost_crans hd Spn.hi
  have hcr := crans_bd hd d.lots.length
  refine Aw.sm tab_ok mb0 [(2, [outW (warmL d bits d.heat.length)])] rfl rfl ?zo ?zk
  case zo =>
    repeat' apply AllP.cons
    all_goals first | exact trivial | exact Nat.le_of_ble_eq_true rfl | exact warmed_w d b bits hd hw
  case zk =>
  refine Aw.sd tab_ok mixed mb0 [] rfl (by kernel_rfl) rfl rfl ?zo ?zk
  case zo =>
    repeat' apply AllP.cons
    all_goals first | exact trivial | exact rfl | exact Nat.le_of_ble_eq_true rfl
  case zk =>
  refine Aw.sm tab_ok mb0 [] rfl rfl ?zo ?zk
  case zo =>
    repeat' apply AllP.cons
    all_goals first | exact trivial | exact rfl | exact Nat.le_of_ble_eq_true rfl
  case zk =>
  refine Aw.seq ?_
  refine Aw.sm tab_ok mb0 [] rfl rfl ?zo ?zk
  case zo =>
    repeat' apply AllP.cons
    all_goals first | exact trivial
  case zk =>
  have h7E : ∀ id, 7 ≤ id → E.φ0 id = none := fun id h => hE id (by omega)
  have ucl : ∀ (X : A), Under 7 X → UnderB 7 (.cells [.int d.hours, X, d.lotsA, d.wksA]) := fun X hX => .cells _ (allC (.s _) (allC hX (allC (free_map Lot.free _ _ _).under (all1 (free_map Wk.free _ _ _).under))))
  have HU : ∀ i, UnderH 7 [(0, .cells [.int (lostE d Spn.lo), .int (lostE d Spn.hi)]), (3, .cells [.int d.hours, grS (spanL (warm d bits) i), d.lotsA, d.wksA]), (4, .cells [.int d.hours, grS (spanL gl i), d.lotsA, d.wksA])] := fun i =>
    ⟨⟨by decide, .cells _ (allC (.s _) (all1 (.s _)))⟩, ⟨by decide, ucl _ (grS_under _)⟩, ⟨by decide, ucl _ (grS_under _)⟩, trivial⟩
  refine Aw.block (Aw.rounds 7 h7E [(2, .pt d.c), (5, .ref 0 0), (7, outW (warmL d bits d.heat.length)), (8, .ref 3 0), (9, .ref 4 0)] (fun i : Nat => [(10, .int i)])
    (fun i => [(0, .cells [.int (lostE d Spn.lo), .int (lostE d Spn.hi)]), (3, .cells [.int d.hours, grS (spanL (warm d bits) i), d.lotsA, d.wksA]), (4, .cells [.int d.hours, grS (spanL gl i), d.lotsA, d.wksA])]) (fun i => i ≤ d.heat.length) (fun i => d.heat.length - i) 0
    (Nat.zero_le _) ⟨⟨.refl _, .refl _, .refl _, .refl _, .refl _, trivial⟩, ⟨.refl _, trivial⟩, ⟨rfl, rfl, rfl, trivial⟩, Nat.le_of_ble_eq_true rfl⟩ ⟨(Free.pt _ d.free).under, .ref _ _ (by decide), (outW_free _).under, .ref _ _ (by decide), .ref _ _ (by decide), trivial⟩ (fun _ _ => ⟨.s _, trivial⟩) (fun i _ => HU i) fun i hi => ?_)
  have lw : ((ints (warmL d bits d.heat.length)).length : Int) = d.heat.length := by simp [ints, warmL_len]
  refine Aw.seq ?_
  refine Aw.sm tab_ok mb0 [] rfl rfl ?zo ?zk
  case zo =>
    repeat' apply AllP.cons
    all_goals first | exact trivial
  case zk =>
  refine Aw.cond rfl (fun h2 => Aw.skip ?_) (fun h2 => ?_)
  · have hlt : i < d.heat.length := by have := of_decide_eq_true h2; omega
    have hwg : (ints (warmL d bits d.heat.length))[((i : Int)).toNat]? = some [.int (warm d bits i)] := by
      rw [Int.toNat_natCast, ints_get (by rw [warmL_len]; exact hlt)]
      simp [warmL]
    have hgl : d.heat[i].lo = gl i := by show _ = (d.heat.getD i ⟨0, 0⟩).lo; simp [List.getD_eq_getElem?_getD, hlt]
    have hget := get_map (f := Spn.c) hlt
    have e1 := spanL_succ (warm d bits) i
    have e2 := spanL_succ gl i
    have l1 := spanL_len (warm d bits) i
    have l2 := spanL_len gl i
    have to1 : Ans Try.prog 44 [.int (warm d bits i), .int (warm d bits i)] (.agg (Spn.c ⟨warm d bits i, warm d bits i⟩)) := to_t _ _
    have to2 : Ans Try.prog 44 [.int d.heat[i].lo, .int d.heat[i].lo] (.agg (Spn.c ⟨gl i, gl i⟩)) := hgl ▸ to_t _ _
    refine Aw.seq (Aw.block ?_)
    cases hm : spanL (warm d bits) i with
    | nil =>
      have hi0 : i = 0 := by rw [hm] at l1; exact l1.symm
      have hm2 : spanL gl i = [] := by rw [hi0]; rfl
      rw [hm] at e1
      rw [hm2] at e2 ⊢
      refine Aw.ed tab_ok mixed mb0 [(1, []), (4, [.int (warm d bits i)]), (8, [.int (warm d bits i)]), (10, [.agg (Spn.c ⟨warm d bits i, warm d bits i⟩)]), (14, []), (18, d.heat[i].c), (24, d.heat[i].c), (27, [.agg (Spn.c ⟨gl i, gl i⟩)])] rfl (by kernel_rfl) rfl rfl ?zo ?zk
      case zo =>
        repeat' apply AllP.cons
        all_goals first | exact trivial | exact rfl | exact Nat.le_of_ble_eq_true rfl | exact Int.natCast_nonneg _ | exact hwg | exact hget | exact to1 | exact to2 | exact (show ∀ z ∈ [] ++ [Spn.c _], z.length = 2 from fun z hz => by simp at hz; subst hz; rfl)
      case zk =>
      refine Aw.em tab_ok mb0 [] rfl rfl ?zo ?zk
      case zo =>
        repeat' apply AllP.cons
        all_goals first | exact trivial | exact inrk i (by omega)
      case zk =>
      exact ⟨i + 1, hlt, by omega, ⟨.refl _, .refl _, .refl _, .refl _, .refl _, trivial⟩, ⟨.refl _, trivial⟩, ⟨rfl, congrArg (fun x => some (B.cells [.int d.hours, x, d.lotsA, d.wksA])) (show A.sl false (.own 47) [Spn.c ⟨warm d bits i, warm d bits i⟩] = grS (spanL (warm d bits) (i + 1)) by rw [e1]; rfl), congrArg (fun x => some (B.cells [.int d.hours, x, d.lotsA, d.wksA])) (show A.sl false (.own 47) [Spn.c ⟨gl i, gl i⟩] = grS (spanL gl (i + 1)) by rw [e2]; rfl), trivial⟩, Nat.le_of_ble_eq_true rfl⟩
    | cons s l =>
      have hz2 : ∀ (l : List Spn), ∀ z ∈ l.map Spn.c, z.length = 2 := fun l z hz => by obtain ⟨y, _, rfl⟩ := List.mem_map.1 hz; rfl
      have hz1 : ∀ s : Spn, ∀ z ∈ [s.c], z.length = 2 := fun s z hz => by simp at hz; subst hz; rfl
      cases hm2 : spanL gl i with
      | nil => rw [hm2] at l2; rw [hm] at l1; simp at l1 l2; omega
      | cons s2 k =>
        rw [hm] at e1 l1
        rw [hm2] at e2 l2
        have n1 : ((s :: l).map Spn.c).length = i := by rw [List.length_map]; exact l1
        have n2 : ((s2 :: k).map Spn.c).length = i := by rw [List.length_map]; exact l2
        refine Aw.ed tab_ok mixed mb0 [(1, []), (4, [.int (warm d bits i)]), (8, [.int (warm d bits i)]), (10, [.agg (Spn.c ⟨warm d bits i, warm d bits i⟩)]), (14, []), (18, d.heat[i].c), (24, d.heat[i].c), (27, [.agg (Spn.c ⟨gl i, gl i⟩)])] rfl (by kernel_rfl) rfl rfl ?zo ?zk
        case zo =>
          repeat' apply AllP.cons
          all_goals first | exact trivial | exact rfl | exact Nat.le_of_ble_eq_true rfl | exact Int.natCast_nonneg _ | exact hwg | exact hget | exact to1 | exact to2 | exact hz1 _ | exact hz2 (s :: l) | exact hz2 (s2 :: k) | exact (show (((s :: l).map Spn.c).length + 1) * 16 ≤ 140737488355328 by omega) | exact (show (((s2 :: k).map Spn.c).length + 1) * 16 ≤ 140737488355328 by omega) | exact (show ((s :: l).map Spn.c).length + 1 ≤ maxLen by unfold maxLen; omega) | exact (show ((s2 :: k).map Spn.c).length + 1 ≤ maxLen by unfold maxLen; omega)
        case zk =>
        refine Aw.em tab_ok mb0 [] rfl rfl ?zo ?zk
        case zo =>
          repeat' apply AllP.cons
          all_goals first | exact trivial | exact inrk i (by omega)
        case zk =>
        exact ⟨i + 1, hlt, by omega, ⟨.refl _, .refl _, .refl _, .refl _, .refl _, trivial⟩, ⟨.refl _, trivial⟩, ⟨rfl, congrArg (fun x => some (B.cells [.int d.hours, x, d.lotsA, d.wksA])) (show A.sl false (.own 47) ((s :: l).map Spn.c ++ [Spn.c ⟨warm d bits i, warm d bits i⟩]) = grS (spanL (warm d bits) (i + 1)) by rw [e1]; show _ = A.sl false (.own 47) (((s :: l) ++ [_]).map Spn.c); rw [List.map_append]; rfl), congrArg (fun x => some (B.cells [.int d.hours, x, d.lotsA, d.wksA])) (show A.sl false (.own 47) ((s2 :: k).map Spn.c ++ [Spn.c ⟨gl i, gl i⟩]) = grS (spanL gl (i + 1)) by rw [e2]; show _ = A.sl false (.own 47) (((s2 :: k) ++ [_]).map Spn.c); rw [List.map_append]; rfl), trivial⟩, Nat.le_of_ble_eq_true rfl⟩
  · have hend : i = d.heat.length := by have := of_decide_eq_false h2; omega
    subst hend
    refine Aw.exit2 ?_
    have hne : ∀ g : Nat → Int, spanL g d.heat.length ≠ [] := fun g h => by have := spanL_len g d.heat.length; rw [h] at this; simp at this; omega
    have hld : ∀ g : Nat → Int, A.agg (((List.drop 0 [.int d.hours, grS (spanL g d.heat.length), d.lotsA, d.wksA]).take 4).map A.down) = .agg (withHeat d (spanL g d.heat.length)).c := fun g => by
      show A.agg [.int d.hours, (grS (spanL g d.heat.length)).down, d.lotsA, d.wksA] = _
      rw [grS_down (hne g)]; rfl
    refine Aw.sm tab_ok mb0 [(0, [.agg (withHeat d (spanL (warm d bits) d.heat.length)).c]), (1, [.tup [planA (planF (withHeat d (spanL (warm d bits) d.heat.length))), .int (lostE (withHeat d (spanL (warm d bits) d.heat.length)) Spn.hi), .int 0]])] rfl rfl ?zo ?zk
    case zo =>
      repeat' apply AllP.cons
      all_goals first | exact trivial | exact Nat.le_of_ble_eq_true rfl | exact hld _ | exact hb1
    case zk =>
    refine Aw.sm tab_ok mb0 [(1, [.tup [planA (planF d), .int (lostE d Spn.hi), .int 0]])] rfl rfl ?zo ?zk
    case zo =>
      repeat' apply AllP.cons
      all_goals first | exact trivial | exact Nat.le_of_ble_eq_true rfl | exact hb
    case zk =>
    refine Aw.sm tab_ok mb0 [(0, [.agg (withHeat d (spanL gl d.heat.length)).c]), (1, [.tup [planA (planF (withHeat d (spanL gl d.heat.length))), .int (lostE (withHeat d (spanL gl d.heat.length)) Spn.hi), .int 0]])] rfl rfl ?zo ?zk
    case zo =>
      repeat' apply AllP.cons
      all_goals first | exact trivial | exact Nat.le_of_ble_eq_true rfl | exact hld _ | exact hb2
    case zk =>
    generalize hX : lostE (withHeat d (spanL (warm d bits) d.heat.length)) Spn.hi = X at *
    generalize hY : lostE (withHeat d (spanL gl d.heat.length)) Spn.hi = Y at *
    generalize hL : lostE d Spn.lo = lo at *
    generalize hHi : lostE d Spn.hi = hi at *
    have hsp : Ans Try.prog 47 [.agg [.int lo, .int hi], .int 0, .int (cransOf d)] (.bool (cond (wi lo 0 (cransOf d)) (wi hi lo (cransOf d)) false)) := spanned_t ⟨lo, hi⟩ 0 (cransOf d)
    refine Aw.sd tab_ok mixed mb0 [(11, [.agg [.int lo, .int hi]]), (13, [.bool (wi X lo hi)]), (28, [.agg [.int lo, .int hi]]), (30, [.int (cransOf d)]), (31, [.bool (cond (wi lo 0 (cransOf d)) (wi hi lo (cransOf d)) false)]), (34, [.bool true])] rfl (by kernel_rfl) rfl rfl ?zo ?zk
    case zo =>
      repeat' apply AllP.cons
      all_goals first | exact trivial | exact id | exact fun _ => rfl | exact fun _ => Nat.le_of_ble_eq_true rfl | exact fun _ => works_t | exact fun _ => lcrans_t d hd | exact fun _ => holds_t ⟨lo, hi⟩ X | exact fun _ => hsp
    case zk =>
    refine Aw.ret ⟨_, .cons (.tmp _) .nil, ?_⟩
    show A.bool (cond (cond (cond (cond (cond (cond (cond ((0 : Int) == 0) ((0 : Int) == 0) false) ((0 : Int) == 0) false) (wi X lo hi) false) (hi == hi) false) (lo == Y) false) (cond (wi lo 0 (cransOf d)) (wi hi lo (cransOf d)) false) false) true false) = .bool true
    rw [wi_iff.2 ⟨m2, m1⟩, wi_iff.2 (show 0 ≤ lo ∧ lo ≤ cransOf d by omega), wi_iff.2 (show lo ≤ hi ∧ hi ≤ cransOf d by omega), m3]
    simp
end Go.Proofs.Ytimikmfkdaoaaaa
namespace Go.Proofs.Ytimikmfkdaoaaaa
open Go Go.AL Go.ChangeShapes Go.WideShapes Go.ChangeAt Go.RowKit
set_option maxRecDepth 100000 in
theorem gutBetween_lifted (os : Os) (started : os.Started) (H : Type) (enc : TypeId × Value → H) :
    ReturnsInHanded {} Try.checked os 13 .any (Rows.gutBetweenSpec.pre6 enc Try.prog Try.f13 [] false) (Rows.gutBetweenSpec.post enc Try.prog Try.f13 false true false false) := by
  refine lifted (tb := 4) (C := Try.checked) own started (by kernel_rfl) Try.func13
    (ChangeSpec.witness6 (enc := enc) (C := Try.checked) false ⟨#[], #[.agg #[.int .i64 0, .slice none 0 0, .slice none 0 0, .slice none 0 0], .slice none 0 0], []⟩ 8 (by kernel_rfl) (by kernel_rfl) (by kernel_rfl) (by kernel_rfl))
    laidOut ?_ rfl (by kernel_rfl) uBool ?_ ?_
  · rw [Try.params13]; exact all2t (p := fun t => Try.prog.readableRec t = true ∧ t < Try.prog.types.size) t26 t41
  · intro ds hd
    rw [Try.params13] at hd
    match ds, hd with
    | [d0, d1], _ => rfl
  · intro W base args ds p hval hA
    rw [Try.params13] at hA hval
    obtain ⟨v0, v1, d0, d1, p0, p1, rfl, rfl, rfl, h0, h1⟩ := trodAll_two hA
    obtain ⟨y0, q0, s0⟩ := arg_day (φ := fun _ => none) (hval 0 26 v0 rfl rfl) h0
    obtain ⟨b1, y1, q1, s1⟩ := arg_ints (φ := fun _ => none) (hval 1 41 v1 rfl rfl) h1
    exact ⟨_, _, vrs2 q0 q1, law_between y0 b1 y1 s0 s1⟩
theorem gutBetween_holds : Rows.GutBetweenSaid :=
  OpenClaim.holds_of_wide 13 Try.f13 rfl rfl rfl rfl rfl rfl rfl ⟨rfl, rfl, rfl, rfl, rfl⟩ rfl rfl rfl rfl rfl (by kernel_rfl) Try.func13 (by kernel_rfl)
    (of_decide_eq_true (by kernel_rfl)) (by unfold Func.isWrapper; first | (rw [if_pos (by decide +kernel)]; kernel_rfl) | (rw [if_neg (by decide +kernel)]; exact ⟨rfl, rfl⟩))
    (fun os started H enc _ => gutBetween_lifted os started H enc)
end Go.Proofs.Ytimikmfkdaoaaaa
