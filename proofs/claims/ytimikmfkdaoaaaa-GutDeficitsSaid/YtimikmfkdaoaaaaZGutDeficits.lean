/- GutDeficits holds: whatever the day and the lots, it returns true, and both read as they did. No condition. -/
import Derived.Test.YtimikmfkdaoaaaaK6
set_option linter.all false
namespace Go.Proofs.Ytimikmfkdaoaaaa
open Go Go.AL
set_option maxRecDepth 100000 in
theorem eq47v (a b c d : Int) : pureRun Try.prog (Op.equal 47 (.agg #[.int .i64 a, .int .i64 b]) (.agg #[.int .i64 c, .int .i64 d])) = some (a == c && b == d) := by
  have h1 : pureRun Try.prog (underlying 47) = Try.prog.underlying 47 := rfl
  have h2 : pureRun Try.prog program = some Try.prog := rfl
  have h3 : Try.prog.stoodInHeld 47 = false := by kernel_rfl
  have p1 : ∀ x y : Value, pureRun Try.prog (part 3 #[x, y] 0) = some x := fun x y => rfl
  have p2 : ∀ x y : Value, pureRun Try.prog (part 3 #[x, y] 1) = some y := fun x y => rfl
  have pp : ∀ {α : Type} (x : α), pureRun Try.prog (pure x) = some x := fun x => rfl
  have u : Try.prog.underlying 47 = some (.struct #[⟨"Low", 3, 0, false, "", "", 0⟩, ⟨"High", 3, 1, false, "", "", 8⟩]) := by kernel_rfl
  rw [Op.equal, Op.maxDepth, show (10000 : Nat) = 9999 + 1 from rfl, Op.equalIn, pureRun_bind, h1, u]
  simp only [Option.bind_some, pureRun_bind, h2, h3]
  by_cases h : a = c
  · subst h
    by_cases h' : b = d
    · subst h'
      simp [pureRun_bind, p1, p2, eq3, pp]
    · have e : (b == d) = false := by simpa using h'
      simp [pureRun_bind, p1, p2, eq3, pp, e]
  · have e : (a == c) = false := by simpa using h
    simp [pureRun_bind, p1, eq3, pp, e]
theorem eg47 : Try.prog.eqGuardType Try.prog.depth 47 = false := by kernel_rfl
set_option maxRecDepth 100000 in
theorem eqSpn (x y : Operand) (a b c d : Int) : EqIs tab .eql 47 x y (.agg [.int a, .int b]) (.agg [.int c, .int d]) (a == c && b == d) := by
  refine ⟨.agg #[.int .i64 a, .int .i64 b], .agg #[.int .i64 c, .int .i64 d], rfl, rfl, (congrFun (congrFun (congrFun (congrFun (congrFun (congrFun (show tab.eqv = pureEq Try.prog from rfl) _) _) _) _) _) _).trans ?_⟩
  have hp : pureRun Try.prog program = some Try.prog := rfl
  have pp : ∀ {α : Type} (x : α), pureRun Try.prog (pure x) = some x := fun x => rfl
  have e1 : pureRun Try.prog (eqGuard .eql 47 x y (.agg #[.int .i64 a, .int .i64 b]) (.agg #[.int .i64 c, .int .i64 d])) = some () := by
    simp [eqGuard, pureRun_bind, hp, eg47, pp]
  have e2 : pureRun Try.prog (binOp .eql 47 (.agg #[.int .i64 a, .int .i64 b]) (.agg #[.int .i64 c, .int .i64 d])) = some (.bool (a == c && b == d)) := by
    have : binOp .eql 47 (.agg #[.int .i64 a, .int .i64 b]) (.agg #[.int .i64 c, .int .i64 d]) = (Op.equal 47 (.agg #[.int .i64 a, .int .i64 b]) (.agg #[.int .i64 c, .int .i64 d]) >>= fun b => pure (.bool b)) := rfl
    rw [this, pureRun_bind, eq47v]; rfl
  unfold pureEq
  rw [pureRun_bind, e1]
  exact e2
theorem leTup2 {a b c d : A} (h : A.Le a c) (k : A.Le b d) : A.Le (.tup [a, b]) (.tup [c, d]) := ⟨fun φ Z w v hv => by
  obtain ⟨vs, rfl, h1, h2⟩ := inv_tup hv
  exact .tup _ _ h1 fun i hi => by
    match i, hi with
    | 0, _ => exact h.1 _ _ _ _ (h2 0 (Nat.zero_lt_succ _))
    | 1, _ => exact k.1 _ _ _ _ (h2 1 (Nat.succ_lt_succ (Nat.zero_lt_succ _))), fun v p h => by simp [spareOf] at h⟩
theorem deficits_same (d : Day) (l : List Int) (hs : Small d) (b : Bool) (hw : (l.length : Int) ≤ 9223372036854775807) : ∃ x e, Ans Try.prog 25 [.agg d.c, .sl b .any (ints l)] (.tup [.int x, .int e]) ∧ Ans Try.prog 26 [.agg d.c, .sl b .any (ints l)] (.tup [.int x, .int e]) := by
  have h1 := Deficit_t d b l hs hw
  have h2 := rDeficit_t d b l hs hw
  unfold deficitR at h1
  unfold rDefR at h2
  by_cases hok : d.ok = true
  · by_cases hr : risingF (nLots d) (-1) l = true
    · rw [if_pos hok, if_pos hr] at h1 h2
      have hri := rising_in hr (Int.le_refl _) (by unfold nLots; omega)
      rw [deficit_is (.of hok) Spn.hi (fun i hi => by have := hri.1 i hi; omega)] at h1
      exact ⟨_, _, h1, h2⟩
    · rw [if_pos hok, if_neg hr] at h1 h2
      exact ⟨_, _, h1, h2⟩
  · rw [if_neg hok] at h1 h2
    exact ⟨_, _, h1, h2⟩
theorem proofs_same (d : Day) (hs : Small d) : ∃ l e, (l.length : Int) ≤ 8 ∧ Ans Try.prog 27 [.agg d.c] (.tup [outW l, .int e]) ∧ Ans Try.prog 28 [.agg d.c] (.tup [outW l, .int e]) := by
  have h1 := Proof_t d hs
  have h2 := rProof_t d hs
  unfold proofR at h1
  unfold rProofR at h2
  by_cases hok : d.ok = true
  · rw [if_pos hok] at h1 h2
    have hd := DayOk.of hok
    have e : proofV d = (greF d Spn.hi d.wks).2 := congrArg Prod.snd (proof_is hd Spn.hi)
    rw [e] at h1
    refine ⟨_, _, ?_, Ans_out h1 (leTup2 (outW_le _) (.refl _)), h2⟩
    have := gre_len d Spn.hi d.wks (2 ^ d.lots.length - 1)
    have := hd.nl
    unfold greF; omega
  · rw [if_neg hok] at h1 h2
    exact ⟨[], _, by simp, Ans_out h1 (leTup2 (outW_le _) (.refl _)), Ans_out h2 (leTup2 (outW_le _) (.refl _))⟩
theorem tolds_same (d : Day) (hs : Small d) : ∃ x y e, Ans Try.prog 30 [.agg d.c] (.tup [.agg [.int x, .int y], .int e]) ∧ Ans Try.prog 31 [.agg d.c] (.tup [.agg [.int x, .int y], .int e]) := by
  have h1 := told_t d hs
  have h2 := rTold_t d hs
  unfold toldR at h1
  unfold rToldR at h2
  by_cases hok : d.ok = true
  · rw [if_pos hok] at h1 h2
    rw [lost_gre (.of hok), lost_gre (.of hok)] at h1
    exact ⟨_, _, _, h1, h2⟩
  · rw [if_neg hok] at h1 h2
    exact ⟨_, _, _, h1, h2⟩
theorem beq_no' {x : Int} (h : (!(x == x)) = true) : False := by simp at h
set_option maxHeartbeats 1000000 in
theorem law_deficits (d : Day) (b : Bool) (l : List Int) (hs : Small d) (hw : (l.length : Int) ≤ 9223372036854775807) : Ans Try.prog 5 [.agg d.c, .sl b .any (ints l)] (.bool true) := by
  obtain ⟨x, e, h1, h2⟩ := deficits_same d l hs b hw
  obtain ⟨l2, e2, hl2, h3, h4⟩ := proofs_same d hs
  obtain ⟨u, v, e3, h5, h6⟩ := tolds_same d hs
  refine told Try.func5 rfl rfl (Pure.of tab_ok Try.func5 rfl Try.ntmps5 rfl (allC (.agg _ d.free) (all1 (free_ints _ _ _))) (allC (fun _ => rfl) (all1 (fun _ => rfl))) (by first | exact .s _ | assumption | exact .tup _ (by intro x hx; simp only [List.mem_cons, List.not_mem_nil, or_false] at hx; rcases hx with rfl | rfl | rfl | rfl <;> first | exact .s _ | (simp_all; done))) fun E hE => ?_)
  refine Aw.sm tab_ok mb0 [] rfl rfl ?ob ?k
  case ob =>
    repeat' apply AllP.cons
    all_goals first | exact trivial | exact id | exact rfl | exact fun _ => rfl | exact Nat.le_of_ble_eq_true rfl | exact fun _ => Nat.le_of_ble_eq_true rfl | exact Int.natCast_nonneg _ | exact fun _ => Int.natCast_nonneg _
  case k =>
  refine Aw.sm tab_ok mb0 [(2, [.tup [.int x, .int e]])] rfl rfl ?ob ?k
  case ob =>
    repeat' apply AllP.cons
    all_goals first | exact trivial | exact id | exact rfl | exact fun _ => rfl | exact Nat.le_of_ble_eq_true rfl | exact fun _ => Nat.le_of_ble_eq_true rfl | exact Int.natCast_nonneg _ | exact fun _ => Int.natCast_nonneg _ | exact h1
  case k =>
  refine Aw.sm tab_ok mb0 [(2, [.tup [.int x, .int e]])] rfl rfl ?ob ?k
  case ob =>
    repeat' apply AllP.cons
    all_goals first | exact trivial | exact id | exact rfl | exact fun _ => rfl | exact Nat.le_of_ble_eq_true rfl | exact fun _ => Nat.le_of_ble_eq_true rfl | exact Int.natCast_nonneg _ | exact fun _ => Int.natCast_nonneg _ | exact h2
  case k =>
  refine Aw.seq ?_
  refine Aw.sm tab_ok mb0 [] rfl rfl ?ob ?k
  case ob =>
    repeat' apply AllP.cons
    all_goals first | exact trivial | exact id | exact rfl | exact fun _ => rfl | exact Nat.le_of_ble_eq_true rfl | exact fun _ => Nat.le_of_ble_eq_true rfl | exact Int.natCast_nonneg _ | exact fun _ => Int.natCast_nonneg _ | exact gq_f | exact gq_t
  case k =>
  refine Aw.cond rfl (fun h => absurd (show cond (!(x == x)) true (!(e == e)) = true from h) (by simp)) (fun _ => Aw.skip ?_)
  refine Aw.sm tab_ok mb0 [(1, [.tup [outW l2, .int e2]])] rfl rfl ?ob ?k
  case ob =>
    repeat' apply AllP.cons
    all_goals first | exact trivial | exact id | exact rfl | exact fun _ => rfl | exact Nat.le_of_ble_eq_true rfl | exact fun _ => Nat.le_of_ble_eq_true rfl | exact Int.natCast_nonneg _ | exact fun _ => Int.natCast_nonneg _ | exact h3
  case k =>
  refine Aw.sm tab_ok mb0 [(1, [.tup [outW l2, .int e2]])] rfl rfl ?ob ?k
  case ob =>
    repeat' apply AllP.cons
    all_goals first | exact trivial | exact id | exact rfl | exact fun _ => rfl | exact Nat.le_of_ble_eq_true rfl | exact fun _ => Nat.le_of_ble_eq_true rfl | exact Int.natCast_nonneg _ | exact fun _ => Int.natCast_nonneg _ | exact h4
  case k =>
  refine Aw.seq ?_
  refine Aw.sm tab_ok mb0 [(2, [.bool (l2 == l2)])] rfl rfl ?ob ?k
  case ob =>
    repeat' apply AllP.cons
    all_goals first | exact trivial | exact id | exact rfl | exact fun _ => rfl | exact Nat.le_of_ble_eq_true rfl | exact fun _ => Nat.le_of_ble_eq_true rfl | exact Int.natCast_nonneg _ | exact fun _ => Int.natCast_nonneg _ | exact same_t _ _ l2 l2 (by omega) | exact gq_f | exact gq_t
  case k =>
  refine Aw.cond rfl (fun h => absurd (show cond (!(l2 == l2)) true (!(e2 == e2)) = true from h) (by simp)) (fun _ => Aw.skip ?_)
  refine Aw.sm tab_ok mb0 [(1, [.tup [.agg [.int u, .int v], .int e3]])] rfl rfl ?ob ?k
  case ob =>
    repeat' apply AllP.cons
    all_goals first | exact trivial | exact id | exact rfl | exact fun _ => rfl | exact Nat.le_of_ble_eq_true rfl | exact fun _ => Nat.le_of_ble_eq_true rfl | exact Int.natCast_nonneg _ | exact fun _ => Int.natCast_nonneg _ | exact h5
  case k =>
  refine Aw.sm tab_ok mb0 [(1, [.tup [.agg [.int u, .int v], .int e3]])] rfl rfl ?ob ?k
  case ob =>
    repeat' apply AllP.cons
    all_goals first | exact trivial | exact id | exact rfl | exact fun _ => rfl | exact Nat.le_of_ble_eq_true rfl | exact fun _ => Nat.le_of_ble_eq_true rfl | exact Int.natCast_nonneg _ | exact fun _ => Int.natCast_nonneg _ | exact h6
  case k =>
  refine Aw.sm tab_ok mb0 [(0, [.agg [.int u, .int v]]), (1, [.agg [.int u, .int v]]), (2, [.bool (u == u && v == v)]), (9, [.bool true])] rfl rfl ?ob ?k
  case ob =>
    repeat' apply AllP.cons
    all_goals first | exact trivial | exact id | exact rfl | exact fun _ => rfl | exact Nat.le_of_ble_eq_true rfl | exact fun _ => Nat.le_of_ble_eq_true rfl | exact Int.natCast_nonneg _ | exact fun _ => Int.natCast_nonneg _ | exact eqSpn _ _ _ _ _ _ | exact gq_f | exact gq_t | exact fun _ => works_t
  case k =>
  refine Aw.ret ⟨_, .cons (.tmp _) .nil, ?_⟩
  show A.bool (cond (cond (u == u && v == v) (e3 == e3) false) true false) = .bool true
  simp
theorem gre_hire (d : Day) (w : Wk) (f : Spn → Int) (ws : List Wk) : ∀ j, gre (hire d w) f ws j = gre d f ws j
  | 0 => rfl
  | j + 1 => by rw [gre, gre, gre_hire d w f ws j]; rfl
theorem greF_hire (d : Day) (w : Wk) (f : Spn → Int) (ws : List Wk) : greF (hire d w) f ws = greF d f ws := gre_hire d w f ws _
theorem rHelp_is {d : Day} (hok : d.ok = true) : ∀ (ws : List Wk), (∀ w ∈ ws, isWorker w d.hours = true) → ∀ (i : Nat) (s : Int × Int), rHelp d ws i s = helpF d ws i s
  | [], _, _, _ => rfl
  | w :: ws, h, i, s => by
    have e : lostE (hire d w) Spn.hi = (greF d Spn.hi (d.wks ++ [w])).1 := (lost_gre (DayOk.hire hok (h w (List.mem_cons_self ..))) Spn.hi).trans (congrArg Prod.fst (greF_hire d w Spn.hi _))
    rw [rHelp, helpF, e]
    exact rHelp_is hok ws (fun y hy => h y (List.mem_cons_of_mem _ hy)) _ _
theorem helps_same (d : Day) (b : Bool) (ws : List Wk) (hs : Small d) (hw : (ws.length : Int) ≤ 9223372036854775807) : ∃ x y e, Ans Try.prog 32 [.agg d.c, .sl b .any (ws.map Wk.c)] (.tup [.int x, .int y, .int e]) ∧ Ans Try.prog 33 [.agg d.c, .sl b .any (ws.map Wk.c)] (.tup [.int x, .int y, .int e]) := by
  have h1 := help_t d b ws hs hw
  have h2 := rHelp_t d b ws hs hw
  unfold helpR at h1
  unfold rHelpR at h2
  by_cases hok : d.ok = true
  · by_cases hr : helpOk d ws = true
    · rw [if_pos hok, if_pos hr] at h1 h2
      rw [rHelp_is hok ws (List.all_eq_true.1 (ac2 hr))] at h2
      exact ⟨_, _, _, h1, h2⟩
    · rw [if_pos hok, if_neg hr] at h1 h2
      exact ⟨_, _, _, h1, h2⟩
  · rw [if_neg hok] at h1 h2
    exact ⟨_, _, _, h1, h2⟩
theorem law_helped (d : Day) (b : Bool) (ws : List Wk) (hs : Small d) (hw : (ws.length : Int) ≤ 9223372036854775807) : Ans Try.prog 6 [.agg d.c, .sl b .any (ws.map Wk.c)] (.bool true) := by
  obtain ⟨x, y, e, h1, h2⟩ := helps_same d b ws hs hw
  refine told Try.func6 rfl rfl (Pure.of tab_ok Try.func6 rfl Try.ntmps6 rfl (allC (.agg _ d.free) (all1 (free_map Wk.free _ _ _))) (allC (fun _ => rfl) (all1 (fun _ => rfl))) (by first | exact .s _ | assumption | exact .tup _ (by intro x hx; simp only [List.mem_cons, List.not_mem_nil, or_false] at hx; rcases hx with rfl | rfl | rfl | rfl <;> first | exact .s _ | (simp_all; done))) fun E hE => ?_)
  refine Aw.sm tab_ok mb0 [] rfl rfl ?ob ?k
  case ob =>
    repeat' apply AllP.cons
    all_goals first | exact trivial | exact id | exact rfl | exact fun _ => rfl | exact Nat.le_of_ble_eq_true rfl | exact fun _ => Nat.le_of_ble_eq_true rfl | exact Int.natCast_nonneg _ | exact fun _ => Int.natCast_nonneg _
  case k =>
  refine Aw.sm tab_ok mb0 [(2, [.tup [.int x, .int y, .int e]])] rfl rfl ?ob ?k
  case ob =>
    repeat' apply AllP.cons
    all_goals first | exact trivial | exact id | exact rfl | exact fun _ => rfl | exact Nat.le_of_ble_eq_true rfl | exact fun _ => Nat.le_of_ble_eq_true rfl | exact Int.natCast_nonneg _ | exact fun _ => Int.natCast_nonneg _ | exact h1
  case k =>
  refine Aw.sm tab_ok mb0 [(2, [.tup [.int x, .int y, .int e]])] rfl rfl ?ob ?k
  case ob =>
    repeat' apply AllP.cons
    all_goals first | exact trivial | exact id | exact rfl | exact fun _ => rfl | exact Nat.le_of_ble_eq_true rfl | exact fun _ => Nat.le_of_ble_eq_true rfl | exact Int.natCast_nonneg _ | exact fun _ => Int.natCast_nonneg _ | exact h2
  case k =>
  refine Aw.sm tab_ok mb0 [(14, [.bool true])] rfl rfl ?ob ?k
  case ob =>
    repeat' apply AllP.cons
    all_goals first | exact trivial | exact id | exact rfl | exact fun _ => rfl | exact Nat.le_of_ble_eq_true rfl | exact fun _ => Nat.le_of_ble_eq_true rfl | exact Int.natCast_nonneg _ | exact fun _ => Int.natCast_nonneg _ | exact gq_f | exact gq_t | exact fun _ => works_t
  case k =>
  refine Aw.ret ⟨_, .cons (.tmp _) .nil, ?_⟩
  show A.bool (cond (cond (cond (x == x) (y == y) false) (e == e) false) true false) = .bool true
  simp
end Go.Proofs.Ytimikmfkdaoaaaa
namespace Go.Proofs.Ytimikmfkdaoaaaa
open Go Go.AL Go.ChangeShapes Go.WideShapes Go.ChangeAt Go.RowKit
set_option maxRecDepth 100000 in
theorem gutDeficits_lifted (os : Os) (started : os.Started) (H : Type) (enc : TypeId × Value → H) :
    ReturnsInHanded {} Try.checked os 5 .any (Rows.gutDeficitsSpec.pre6 enc Try.prog Try.f5 [] false) (Rows.gutDeficitsSpec.post enc Try.prog Try.f5 false true false false) := by
  refine lifted (tb := 4) (C := Try.checked) own started (by kernel_rfl) Try.func5
    (ChangeSpec.witness6 (enc := enc) (C := Try.checked) false ⟨#[], #[.agg #[.int .i64 0, .slice none 0 0, .slice none 0 0, .slice none 0 0], .slice none 0 0], []⟩ 8 (by kernel_rfl) (by kernel_rfl) (by kernel_rfl) (by kernel_rfl))
    laidOut ?_ rfl (by kernel_rfl) uBool ?_ ?_
  · rw [Try.params5]; exact all2t (p := fun t => Try.prog.readableRec t = true ∧ t < Try.prog.types.size) t26 t41
  · intro ds hd
    rw [Try.params5] at hd
    match ds, hd with
    | [d0, d1], _ => rfl
  · intro W base args ds p hval hA
    rw [Try.params5] at hA hval
    obtain ⟨v0, v1, d0, d1, p0, p1, rfl, rfl, rfl, h0, h1⟩ := trodAll_two hA
    obtain ⟨y0, q0, s0⟩ := arg_day (φ := fun _ => none) (hval 0 26 v0 rfl rfl) h0
    obtain ⟨b1, y1, q1, s1⟩ := arg_ints (φ := fun _ => none) (hval 1 41 v1 rfl rfl) h1
    exact ⟨_, _, vrs2 q0 q1, law_deficits y0 b1 y1 s0 s1⟩
theorem gutDeficits_holds : Rows.GutDeficitsSaid :=
  OpenClaim.holds_of_wide 5 Try.f5 rfl rfl rfl rfl rfl rfl rfl ⟨rfl, rfl, rfl, rfl, rfl⟩ rfl rfl rfl rfl rfl (by kernel_rfl) Try.func5 (by kernel_rfl)
    (of_decide_eq_true (by kernel_rfl)) (by unfold Func.isWrapper; first | (rw [if_pos (by decide +kernel)]; kernel_rfl) | (rw [if_neg (by decide +kernel)]; exact ⟨rfl, rfl⟩))
    (fun os started H enc _ => gutDeficits_lifted os started H enc)
end Go.Proofs.Ytimikmfkdaoaaaa
