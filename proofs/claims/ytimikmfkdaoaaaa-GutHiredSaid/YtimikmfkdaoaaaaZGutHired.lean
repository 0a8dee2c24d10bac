/- GutHired holds: whatever the day and the workers, it returns true, and both read as they did. No condition. -/
import Derived.Test.YtimikmfkdaoaaaaK9
set_option linter.all false
namespace Go.Proofs.Ytimikmfkdaoaaaa
open Go Go.AL
structure HInv (d : Day) (ws : List Wk) (k : Nat) (s : Int × Int) : Prop where
  none : k = 0 → s = (0, 0)
  wh : 0 < k → 0 ≤ s.1 ∧ s.1 < k ∧ ∃ w, ws[s.1.toNat]? = some w ∧ lostE (hire d w) Spn.hi = s.2
  least : ∀ (i : Nat) w, i < k → ws[i]? = some w → s.2 ≤ lostE (hire d w) Spn.hi
  first : ∀ (i : Nat) w, (i : Int) < s.1 → ws[i]? = some w → lostE (hire d w) Spn.hi ≠ s.2
theorem help_inv (d : Day) (ws : List Wk) : ∀ (l : List Wk) (k : Nat) (s : Int × Int), ws.drop k = l → HInv d ws k s → HInv d ws ws.length (helpF d l k s)
  | [], k, s, hk, h => by
    have hk := List.drop_eq_nil_iff.1 hk
    rw [helpF]
    by_cases e : k = ws.length
    · rw [← e]; exact h
    · refine ⟨fun h0 => h.none (Nat.eq_zero_of_not_pos fun hp => ?_), fun h0 => ?_, fun i w hi hw => h.least i w (by omega) hw, h.first⟩
      · obtain ⟨a, b, w, hw, _⟩ := h.wh hp
        have := (List.getElem?_eq_some_iff.1 hw).1; omega
      · obtain ⟨a, b, w, hw, hl⟩ := h.wh (by omega)
        have := (List.getElem?_eq_some_iff.1 hw).1
        exact ⟨a, by omega, w, hw, hl⟩
  | w :: l, k, s, hk, h => by
    have hlt : k < ws.length := by
      refine Nat.lt_of_not_le fun hle => ?_
      rw [List.drop_eq_nil_of_le hle] at hk; cases hk
    have hw : ws[k]? = some w := by
      have := congrArg (fun x => x[0]?) hk
      simpa using this
    rw [helpF]
    refine help_inv d ws l (k + 1) _ (by rw [← List.drop_drop, hk]; rfl) ?_
    by_cases hc : k = 0 ∨ lostE (hire d w) Spn.hi < s.2
    · rw [if_pos hc]
      refine ⟨fun h0 => by omega, fun _ => ⟨by simp, by simp; omega, w, by simpa using hw, rfl⟩, fun i x hi hx => ?_, fun i x hi hx => ?_⟩
      · by_cases e : i = k
        · subst e; rw [hw] at hx; cases hx; exact Int.le_refl _
        · rcases hc with h0 | h0
          · omega
          · have := h.least i x (by omega) hx
            show lostE (hire d w) Spn.hi ≤ _; omega
      · have hi : (i : Int) < (k : Int) := hi
        rcases hc with h0 | h0
        · omega
        · have := h.least i x (by omega) hx
          show _ ≠ lostE (hire d w) Spn.hi; omega
    · rw [if_neg hc]
      have hk0 : 0 < k := by omega
      refine ⟨fun h0 => by omega, fun _ => ?_, fun i x hi hx => ?_, h.first⟩
      · obtain ⟨a, b, w, hw, hl⟩ := h.wh hk0
        exact ⟨a, by omega, w, hw, hl⟩
      · by_cases e : i = k
        · subst e; rw [hw] at hx; cases hx; omega
        · exact h.least i x (by omega) hx
theorem ok_hire {d : Day} (hok : d.ok = true) (h6 : d.wks.length < 6) {w : Wk} (hw : isWorker w d.hours = true) : (hire d w).ok = true := by
  have h1 := ac1 (ac1 (ac1 hok))
  have h2 := ac2 (ac1 (ac1 hok))
  have h3 := ac2 (ac1 hok)
  have h4 := ac2 hok
  have e1 : (hire d w).head = true := by
    have g1 := ac1 h1
    unfold Day.head
    show cond (cond (cond (wi d.hours 1 24) (((d.heat.map Spn.c).length : Int) == d.hours) false) (decide (((d.lots.map Lot.c).length : Int) ≤ 8)) false) (decide ((((d.wks ++ [w]).map Wk.c).length : Int) ≤ 6)) false = true
    rw [g1, decide_eq_true (by simp; omega)]; rfl
  unfold Day.ok
  rw [e1]
  show cond (cond (cond true (d.heat.all heatOk) false) (d.lots.all (lotOk d.hours)) false) ((d.wks ++ [w]).all fun w => isWorker w d.hours) false = true
  have h2 : d.heat.all heatOk = true := h2
  have h3 : d.lots.all (lotOk d.hours) = true := h3
  have h4 : (d.wks.all fun w => isWorker w d.hours) = true := h4
  rw [h2, h3, List.all_append, h4]
  simp [hw]
theorem help_answer (d : Day) (b : Bool) (ws : List Wk) (hs : Small d) (hw : (ws.length : Int) ≤ 9223372036854775807) : ∃ x y e, Ans Try.prog 32 [.agg d.c, .sl b .any (ws.map Wk.c)] (.tup [.int x, .int y, .int e]) ∧
    ((d.ok = true ∧ e = 0 ∧ helpOk d ws = true ∧ HInv d ws ws.length (x, y)) ∨ ((e = 50 ∨ e = 52) ∧ x = 0 ∧ y = 0)) := by
  have h1 := help_t d b ws hs hw
  unfold helpR at h1
  by_cases hok : d.ok = true
  · by_cases hr : helpOk d ws = true
    · rw [if_pos hok, if_pos hr] at h1
      refine ⟨_, _, _, h1, .inl ⟨hok, rfl, hr, ?_⟩⟩
      exact help_inv d ws ws 0 (0, 0) (by simp) ⟨fun _ => rfl, fun h => absurd h (Nat.lt_irrefl _), fun i w hi => by omega, fun i w hi => by have hi : (i : Int) < 0 := hi; omega⟩
    · rw [if_pos hok, if_neg hr] at h1
      exact ⟨_, _, _, h1, .inr ⟨.inr rfl, rfl, rfl⟩⟩
  · rw [if_neg hok] at h1
    exact ⟨_, _, _, h1, .inr ⟨.inl rfl, rfl, rfl⟩⟩
set_option maxHeartbeats 4000000 in
theorem law_hired (d : Day) (b : Bool) (ws : List Wk) (hs : Small d) (hw : (ws.length : Int) ≤ 9223372036854775807) : Ans Try.prog 14 [.agg d.c, .sl b .any (ws.map Wk.c)] (.bool true) := by
  obtain ⟨x, y, e, h1, hc⟩ := help_answer d b ws hs hw
  have hwf : Free (.sl b .any (ws.map Wk.c)) := free_map Wk.free _ _ _
  have lws : ((ws.map Wk.c).length : Int) = ws.length := by simp
  refine told Try.func14 rfl rfl (Pure.of tab_ok Try.func14 rfl Try.ntmps14 rfl (allC (.agg _ d.free) (all1 (hwf))) (allC (fun _ => rfl) (all1 (fun _ => rfl))) (by first | exact .s _ | assumption | exact .tup _ (by intro x hx; simp only [List.mem_cons, List.not_mem_nil, or_false] at hx; rcases hx with rfl | rfl | rfl | rfl <;> first | exact .s _ | (simp_all; done))) fun E hE => ?_)
  have udc : Under 0 (A.pt d.c) := (Free.pt _ d.free).under
  refine Aw.sm tab_ok mb0 [] rfl rfl ?zo ?zk
  case zo =>
    repeat' apply AllP.cons
    all_goals first | exact trivial
  case zk =>
  refine Aw.sm tab_ok mb0 [(2, [.tup [.int x, .int y, .int e]])] rfl rfl ?zo ?zk
  case zo =>
    repeat' apply AllP.cons
    all_goals first | exact trivial | exact Nat.le_of_ble_eq_true rfl | exact h1
  case zk =>
  refine Aw.seq ?_
  refine Aw.sm tab_ok mb0 [(4, [.bool d.ok])] rfl rfl ?zo ?zk
  case zo =>
    repeat' apply AllP.cons
    all_goals first | exact trivial | exact id | exact fun _ => rfl | exact fun _ => Nat.le_of_ble_eq_true rfl | exact fun _ => sound_t d hs | exact gq_f
  case zk =>
  rcases hc with ⟨hok, rfl, hho, hinv⟩ | ⟨he, rfl, rfl⟩
  case inr =>
    rcases he with rfl | rfl
    all_goals
      refine Aw.cond rfl (fun _ => ?_) (fun h => by cases h)
      refine Aw.sm tab_ok mb0 [(11, [.bool true])] rfl rfl ?zo ?zk
      case zo =>
        repeat' apply AllP.cons
        all_goals first | exact trivial | exact id | exact fun _ => rfl | exact fun _ => works_t
      case zk =>
      exact Aw.ret ⟨_, .cons (.tmp _) .nil, rfl⟩
  have hd := DayOk.of hok
  have hn := wi_iff.1 (ac1 hho)
  have hall : ∀ w ∈ ws, isWorker w d.hours = true := List.all_eq_true.1 (ac2 hho)
  have lwk : ((d.wks.map Wk.c).length : Int) = d.wks.length := by simp
  obtain ⟨i0, i1, w0, hw0, hl0⟩ := hinv.wh (by omega)
  have hleast := hinv.least
  have hfirst := hinv.first
  simp only at i0 i1 hw0 hl0 hleast hfirst
  refine Aw.cond rfl (fun h => ?_) (fun _ => Aw.skip ?_)
  · have h : cond (cond (!((0 : Int) == 0)) true (!d.ok)) true (decide (((ws.map Wk.c).length : Int) > 6)) = true := h
    rw [hok, decide_eq_false (by omega)] at h
    cases h
  refine Aw.seq ?_
  refine Aw.sm tab_ok mb0 [(4, [.bool (wi x 0 (((ws.map Wk.c).length) - 1))])] rfl rfl ?zo ?zk
  case zo =>
    repeat' apply AllP.cons
    all_goals first | exact trivial | exact in_t _ _ _ | exact (by simp only [Ob.of, inR]; omega)
  case zk =>
  refine Aw.cond rfl (fun h => ?_) (fun _ => Aw.skip ?_)
  · have h : (!wi x 0 (((ws.map Wk.c).length : Int) - 1)) = true := h
    rw [wi_iff.2 (by omega)] at h
    cases h
  refine Aw.seq ?_
  refine Aw.sm tab_ok mb0 [] rfl rfl ?zo ?zk
  case zo =>
    repeat' apply AllP.cons
    all_goals first | exact trivial
  case zk =>
  refine Aw.block (Aw.rounds 0 hE [(1, .sl b .any (ws.map Wk.c)), (2, .pt d.c), (5, .int x), (6, .int y)] (fun i : Nat => [(8, .int i)]) (fun _ => []) (fun i => i ≤ ws.length) (fun i => ws.length - i) 0
    (Nat.zero_le _) ⟨⟨.refl _, .refl _, .refl _, .refl _, trivial⟩, ⟨.refl _, trivial⟩, trivial, Nat.zero_le _⟩ ⟨hwf.under, udc, .s _, .s _, trivial⟩ (fun _ _ => ⟨.s _, trivial⟩) (fun _ _ => trivial) fun i hi => ?_)
  refine Aw.seq ?_
  refine Aw.sm tab_ok mb0 [] rfl rfl ?zo ?zk
  case zo =>
    repeat' apply AllP.cons
    all_goals first | exact trivial | exact id | exact fun _ => rfl | exact fun _ => Nat.le_of_ble_eq_true rfl
  case zk =>
  refine Aw.cond rfl (fun h2 => Aw.skip ?_) (fun h2 => ?_)
  · have h2 : cond (decide ((i : Int) < ((ws.map Wk.c).length : Int))) (decide (((d.wks.map Wk.c).length : Int) < 6)) false = true := h2
    have hlt : i < ws.length := by have := of_decide_eq_true (ac1 h2); omega
    have h6 : d.wks.length < 6 := by have := of_decide_eq_true (ac2 h2); omega
    have hwk := hall _ (List.getElem_mem hlt)
    have hget := get_map (f := Wk.c) hlt
    have hl1 := hleast i ws[i] (by omega) (List.getElem?_eq_getElem hlt)
    have hl2 := fun h => hfirst i ws[i] h (List.getElem?_eq_getElem hlt)
    have hl3 : (i : Int) = x → lostE (hire d ws[i]) Spn.hi = y := fun h => by
      subst h
      rw [Int.toNat_natCast, List.getElem?_eq_getElem hlt] at hw0
      cases hw0; exact hl0
    generalize ws[i] = w at *
    have hokx := ok_hire hok h6 hwk
    have hsx : Small (hire d w) := ⟨hs.h, hs.l, by show ((d.wks ++ [w]).length : Int) ≤ _; rw [List.length_append, List.length_singleton]; push_cast; omega⟩
    obtain ⟨P, n, e2, hb, hc2⟩ := best_lost (hire d w) hsx
    have hb := hb
    obtain ⟨hb, _, hc2⟩ := (⟨hb, hc2⟩ : _ ∧ _)
    rcases hc2 with ⟨_, rfl, rfl, rfl⟩ | ⟨h, _⟩
    case inr => rw [hokx] at h; cases h
    have hcs1 : ∀ z ∈ d.wks.map Wk.c, z.length = 4 := fun z hz => by obtain ⟨y, _, rfl⟩ := List.mem_map.1 hz; rfl
    have hcs2 : ∀ z ∈ [w.c], z.length = 4 := fun z hz => by simp at hz; subst hz; rfl
    have hln : (d.wks.map Wk.c).length = d.wks.length := by simp
    have hm : d.wks.map Wk.c ++ [w.c] = (hire d w).wks.map Wk.c := by show _ = (d.wks ++ [w]).map Wk.c; simp
    refine Aw.seq (Aw.block ?_)
    refine Aw.sm tab_ok mb0 [] rfl rfl ?zo ?zk
    case zo =>
      repeat' apply AllP.cons
      all_goals first | exact trivial | exact rfl | exact Nat.le_of_ble_eq_true rfl
    case zk =>
    refine Aw.sd tab_ok mixed mb0 [(6, w.c), (7, [.agg w.c])] rfl (by kernel_rfl) rfl rfl ?zo ?zk
    case zo =>
      repeat' apply AllP.cons
      all_goals first | exact trivial | exact rfl | exact Nat.le_of_ble_eq_true rfl | exact Int.natCast_nonneg _ | exact hget | exact hcs1 | exact hcs2 | exact (show 0 + (d.wks.map Wk.c).length ≤ maxLen by unfold maxLen; omega) | exact (show (d.wks.map Wk.c).length + 1 ≤ maxLen by unfold maxLen; omega) | exact (show (0 + (d.wks.map Wk.c).length) * 32 ≤ 140737488355328 by omega) | exact (show ((d.wks.map Wk.c).length + 1) * 32 ≤ 140737488355328 by omega)
    case zk =>
    have hld : A.agg (((List.drop 0 (setSeg [.int d.hours, d.heatA, d.lotsA, d.wksA] (0 + 3) [.sl false (.own 61) (d.wks.map Wk.c ++ [w.c])])).take 4).map A.down) = .agg (hire d w).c := by rw [hm]; rfl
    refine Aw.sm tab_ok mb0 [(0, [.agg (hire d w).c]), (1, [.tup [planA (planF (hire d w)), .int (lostE (hire d w) Spn.hi), .int 0]])] rfl rfl ?zo ?zk
    case zo =>
      repeat' apply AllP.cons
      all_goals first | exact trivial | exact Nat.le_of_ble_eq_true rfl | exact hb | exact hld
    case zk =>
    generalize lostE (hire d w) Spn.hi = n at *
    refine Aw.sm tab_ok mb0 [] rfl rfl ?zo ?zk
    case zo =>
      repeat' apply AllP.cons
      all_goals first | exact trivial | exact id | exact fun _ => rfl | exact gq_f | exact gq_c | exact fun _ _ => rfl
    case zk =>
    refine Aw.cond rfl (fun h3 => ?_) (fun _ => Aw.skip ?_)
    · have h3 : cond (cond (cond (!((0 : Int) == 0)) true (decide (n < y))) true (cond (decide ((i : Int) < x)) (n == y) false)) true (cond ((i : Int) == x) (!(n == y)) false) = true := h3
      rw [decide_eq_false (show ¬ n < y by omega)] at h3
      by_cases q1 : (i : Int) < x
      · have q2 := hl2 q1
        have q3 : (n == y) = false := by simpa using q2
        have q4 : ((i : Int) == x) = false := by simp; omega
        rw [decide_eq_true q1, q3, q4] at h3
        cases h3
      · rw [decide_eq_false q1] at h3
        by_cases q2 : (i : Int) = x
        · have q3 : (n == y) = true := by simpa using hl3 q2
          have q4 : ((i : Int) == x) = true := by simpa using q2
          rw [q3, q4] at h3; cases h3
        · have q4 : ((i : Int) == x) = false := by simpa using q2
          rw [q4] at h3; cases h3
    refine Aw.em tab_ok mb0 [] rfl rfl ?zo ?zk
    case zo =>
      repeat' apply AllP.cons
      all_goals first | exact trivial | exact (by simp only [Ob.of, inR]; omega)
    case zk =>
    exact ⟨i + 1, hlt, by omega, ⟨.refl _, .refl _, .refl _, .refl _, trivial⟩, ⟨.refl _, trivial⟩, trivial, Nat.zero_le _⟩
  · obtain ⟨P, n, e2, hb, _, hc2⟩ := best_lost d hs
    rcases hc2 with ⟨_, rfl, rfl, rfl⟩ | ⟨h, _⟩
    case inr => rw [hok] at h; cases h
    have hwk0 := hall w0 (List.mem_of_getElem? hw0)
    have f1 := hire_le hd (DayOk.hire hok hwk0) Spn.hi
    have f2 := lost_pos (DayOk.hire hok hwk0) Spn.hi
    rw [hl0] at f1 f2
    refine Aw.exit2 ?_
    refine Aw.sm tab_ok mb0 [(1, [.tup [planA (planF d), .int (lostE d Spn.hi), .int 0]])] rfl rfl ?zo ?zk
    case zo =>
      repeat' apply AllP.cons
      all_goals first | exact trivial | exact Nat.le_of_ble_eq_true rfl | exact hb
    case zk =>
    refine Aw.sm tab_ok mb0 [(12, [.bool true])] rfl rfl ?zo ?zk
    case zo =>
      repeat' apply AllP.cons
      all_goals first | exact trivial | exact id | exact fun _ => rfl | exact fun _ => works_t
    case zk =>
    refine Aw.ret ⟨_, .cons (.tmp _) .nil, ?_⟩
    show A.bool (cond (cond (cond ((0 : Int) == 0) (decide (y ≤ lostE d Spn.hi)) false) (decide (y ≥ 0)) false) true false) = .bool true
    rw [decide_eq_true f1, decide_eq_true (show y ≥ 0 from f2)]; rfl
end Go.Proofs.Ytimikmfkdaoaaaa
namespace Go.Proofs.Ytimikmfkdaoaaaa
open Go Go.AL Go.ChangeShapes Go.WideShapes Go.ChangeAt Go.RowKit
set_option maxRecDepth 100000 in
theorem gutHired_lifted (os : Os) (started : os.Started) (H : Type) (enc : TypeId × Value → H) :
    ReturnsInHanded {} Try.checked os 14 .any (Rows.gutHiredSpec.pre6 enc Try.prog Try.f14 [] false) (Rows.gutHiredSpec.post enc Try.prog Try.f14 false true false false) := by
  refine lifted (tb := 4) (C := Try.checked) own started (by kernel_rfl) Try.func14
    (ChangeSpec.witness6 (enc := enc) (C := Try.checked) false ⟨#[], #[.agg #[.int .i64 0, .slice none 0 0, .slice none 0 0, .slice none 0 0], .slice none 0 0], []⟩ 8 (by kernel_rfl) (by kernel_rfl) (by kernel_rfl) (by kernel_rfl))
    laidOut ?_ rfl (by kernel_rfl) uBool ?_ ?_
  · rw [Try.params14]; exact all2t (p := fun t => Try.prog.readableRec t = true ∧ t < Try.prog.types.size) t26 t24
  · intro ds hd
    rw [Try.params14] at hd
    match ds, hd with
    | [d0, d1], _ => rfl
  · intro W base args ds p hval hA
    rw [Try.params14] at hA hval
    obtain ⟨v0, v1, d0, d1, p0, p1, rfl, rfl, rfl, h0, h1⟩ := trodAll_two hA
    obtain ⟨y0, q0, s0⟩ := arg_day (φ := fun _ => none) (hval 0 26 v0 rfl rfl) h0
    obtain ⟨b1, y1, q1, s1⟩ := arg_wks (φ := fun _ => none) (hval 1 24 v1 rfl rfl) h1
    exact ⟨_, _, vrs2 q0 q1, law_hired y0 b1 y1 s0 s1⟩
theorem gutHired_holds : Rows.GutHiredSaid :=
  OpenClaim.holds_of_wide 14 Try.f14 rfl rfl rfl rfl rfl rfl rfl ⟨rfl, rfl, rfl, rfl, rfl⟩ rfl rfl rfl rfl rfl (by kernel_rfl) Try.func14 (by kernel_rfl)
    (of_decide_eq_true (by kernel_rfl)) (by unfold Func.isWrapper; first | (rw [if_pos (by decide +kernel)]; kernel_rfl) | (rw [if_neg (by decide +kernel)]; exact ⟨rfl, rfl⟩))
    (fun os started H enc _ => gutHired_lifted os started H enc)
end Go.Proofs.Ytimikmfkdaoaaaa
