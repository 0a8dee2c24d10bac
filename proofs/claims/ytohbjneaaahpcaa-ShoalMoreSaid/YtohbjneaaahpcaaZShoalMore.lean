/- ShoalMore holds: with a report more, fewer false ones or a lesser Speed the shoal can be in no further cell. No condition. -/
import Derived.Test.YtohbjneaaahpcaaK7
set_option linter.all false
namespace Go.Proofs.Ytohbjneaaahpcaa
open Go Go.AL Go.AL.Q Go.AL.Sh
theorem Trk.hours {s : Sea} (ho : s.Ok) {T : List Nat} (h : Trk s T) : (T.length : Int) = s.hours := by have := hrs_pos ho; have := h.len; omega
end Go.Proofs.Ytohbjneaaahpcaa

namespace Go.Proofs.Ytohbjneaaahpcaa
open Go Go.AL Go.AL.Q Go.AL.Sh
structure NextIs (w : Int) (G : List Int) (casts : List Sp) (k : Nat) (p : Int × Int) : Prop where
  i : ∃ i : Nat, p.1 = i ∧ i < k ∧ p.2 = worstF w G (casts.getD i ⟨0, 0⟩)
  ge : ∀ j : Nat, j < k → p.2 ≤ worstF w G (casts.getD j ⟨0, 0⟩) ∧ ((j : Int) < p.1 → p.2 < worstF w G (casts.getD j ⟨0, 0⟩))
def lastI (l : List Int) : Int := l.getLast?.getD (-1)
structure Rd (n f : Nat) (last : Int) (m : List Int) : Prop where
  len : m.length = f
  ri : risingF n last m = true
structure ChT (fd : List Int → Bool) (n f : Nat) (l : List Int) (r : Cst) : Prop where
  t : r.1 = true → ∃ m, Rd n f (lastI l) m ∧ r.2 = l ++ m ∧ fd (l ++ m) = true ∧ ∀ m', Rd n f (lastI l) m' → fd (l ++ m') = true → Q.befF m' m = false
  f : r.1 = false → ∀ m', Rd n f (lastI l) m' → fd (l ++ m') = false
structure GoT (fd : List Int → Bool) (n f : Nat) (l : List Int) (is : List Nat) (r : Cst) : Prop where
  t : r.1 = true → ∃ i ∈ is, ∃ m, Rd n f i m ∧ r.2 = l ++ (i : Int) :: m ∧ fd (l ++ (i : Int) :: m) = true ∧ ∀ i' ∈ is, ∀ m', Rd n f i' m' → fd (l ++ (i' : Int) :: m') = true → Q.befF ((i' : Int) :: m') ((i : Int) :: m) = false
  f : r.1 = false → ∀ i' ∈ is, ∀ m', Rd n f i' m' → fd (l ++ (i' : Int) :: m') = false
structure SureIs (fd : List Int → Bool) (n : Nat) (o : List Int) : Prop where
  ri : risingF n (-1) o = true
  ok : fd o = true
  pos : 1 ≤ o.length
  first : ∀ o', o' ≠ [] → risingF n (-1) o' = true → fd o' = true → o.length < o'.length ∨ o'.length = o.length ∧ Q.befF o' o = false
end Go.Proofs.Ytohbjneaaahpcaa

namespace Go.Proofs.Ytohbjneaaahpcaa
open Go Go.AL Go.AL.Q Go.AL.Sh
end Go.Proofs.Ytohbjneaaahpcaa

namespace Go.Proofs.Ytohbjneaaahpcaa
open Go Go.AL Go.AL.Q Go.AL.Sh
theorem reps_iff {s : Sea} {l : List Rep} : s.repsOk l = true ↔ l.length ≤ 24 ∧ ∀ r ∈ l, s.repOk r = true := by
  unfold Sea.repsOk
  constructor
  · intro h; exact ⟨by have := of_decide_eq_true (ac1 h); omega, List.all_eq_true.1 (ac2 h)⟩
  · rintro ⟨h1, h2⟩
    rw [decide_eq_true (show (l.length : Int) ≤ 24 by omega)]
    exact List.all_eq_true.2 h2
theorem canF_sub {s s' : Sea} {l l' : List Rep} (ho : s.Ok) (ho' : s'.Ok) (hl : l.length ≤ 24) (hl' : l'.length ≤ 24) {w w' hour : Int} (hw : w ≤ 24) (hw' : w' ≤ 24) (h0 : 0 ≤ hour) (h1 : hour < s.hours) (h1' : hour < s'.hours)
    (H : ∀ T, Trk s' T → (costW s' l' 0 T : Int) ≤ w' → Trk s T ∧ (costW s l 0 T : Int) ≤ w) : ∀ c ∈ canF s' l' w' hour, c ∈ canF s l w hour := fun c hc => by
  obtain ⟨k, rfl⟩ := canF_nat hc
  obtain ⟨T, h2, h3, h4⟩ := (canF_mem ho' hl' hw' h0 h1' k).1 hc
  obtain ⟨h5, h6⟩ := H T h2 h4
  exact (canF_mem ho hl hw h0 h1 k).2 ⟨T, h5, h3, h6⟩
def slowS (s : Sea) : Sea := ⟨s.wide, s.high, s.ln, s.land, s.hours, s.dn, s.drift, if 0 < s.speed - 1 then s.speed - 1 else 0⟩
theorem slow_ok {s : Sea} (hok : s.ok = true) : (slowS s).ok = true := by
  have ho := Sea.ok_of hok
  unfold Sea.ok Sea.b1 Sea.b0 at hok ⊢
  have h1 := ac1 (ac1 hok)
  have hsp : wi (slowS s).speed 0 2 = true := wi_iff.2 (by
    have := ho.sp
    show 0 ≤ (if 0 < s.speed - 1 then s.speed - 1 else 0) ∧ (if 0 < s.speed - 1 then s.speed - 1 else 0) ≤ 2
    split <;> omega)
  rw [hsp]
  show cond (cond (cond (cond (cond (cond (wi s.wide 1 10) (wi s.high 1 8) false) true false) (wi s.hours 1 12) false) ((s.drift.length : Int) == s.hours - 1) false) (risingF (s.wide * s.high) (-1) s.land) false) (s.drift.all Sea.stepOk) false = true
  rw [ac1 (ac1 (ac1 h1)), ac2 (ac1 h1), ac2 h1, ac2 (ac1 hok), ac2 hok]; rfl
theorem slow_stp {s : Sea} (ho : s.Ok) {h a b : Nat} (k : stp (slowS s) h a b = true) : stp s h a b = true := by
  unfold stp Sea.steps at k ⊢
  show cond ((⟨(placeP s.wide a).lo + (s.step h).lo, (placeP s.wide a).hi + (s.step h).hi⟩ : Sp) == placeP s.wide b) true (decide (farF ⟨(placeP s.wide a).lo + (s.step h).lo, (placeP s.wide a).hi + (s.step h).hi⟩ (placeP s.wide b) ≤ s.speed)) = true
  have k : cond ((⟨(placeP s.wide a).lo + (s.step h).lo, (placeP s.wide a).hi + (s.step h).hi⟩ : Sp) == placeP s.wide b) true (decide (farF ⟨(placeP s.wide a).lo + (s.step h).lo, (placeP s.wide a).hi + (s.step h).hi⟩ (placeP s.wide b) ≤ (if 0 < s.speed - 1 then s.speed - 1 else 0))) = true := k
  cases he : ((⟨(placeP s.wide a).lo + (s.step h).lo, (placeP s.wide a).hi + (s.step h).hi⟩ : Sp) == placeP s.wide b) with
  | true => rfl
  | false =>
    rw [he] at k
    have k := of_decide_eq_true k
    have := ho.sp
    refine decide_eq_true ?_
    split at k <;> omega
theorem slow_okW {s : Sea} (ho : s.Ok) : ∀ {T : List Nat} {h : Nat}, okW (slowS s) h T → okW s h T
  | [], _, _ => trivial
  | c :: T, h, k => ⟨k.1, fun d e => slow_stp ho (k.2.1 d e), slow_okW ho k.2.2⟩
theorem slow_cost (s : Sea) (l : List Rep) : ∀ (T : List Nat) (h : Nat), costW (slowS s) l h T = costW s l h T
  | [], _ => rfl
  | c :: T, h => by rw [costW, costW, slow_cost s l T]; rfl
theorem slow_trk {s : Sea} (ho : s.Ok) {T : List Nat} (h : Trk (slowS s) T) : Trk s T := ⟨h.len, slow_okW ho h.ok⟩
theorem cost_mono (s : Sea) (l m : List Rep) : ∀ (T : List Nat) (h : Nat), costW s l h T ≤ costW s (l ++ m) h T
  | [], _ => Nat.le_refl _
  | c :: T, h => by
    rw [costW, costW]
    have := cost_mono s l m T (h + 1)
    have : unN s l h c ≤ unN s (l ++ m) h c := by unfold unN; rw [List.countP_append]; omega
    omega
end Go.Proofs.Ytohbjneaaahpcaa

namespace Go.Proofs.Ytohbjneaaahpcaa
open Go Go.AL Go.AL.Q Go.AL.Sh
theorem canE_or (G : List Int) : canE G = 0 ∨ canE G = 12 := by cases G; exact .inr rfl; exact .inl rfl
end Go.Proofs.Ytohbjneaaahpcaa

namespace Go.Proofs.Ytohbjneaaahpcaa
open Go Go.AL Go.AL.Q Go.AL.Sh
theorem rep4 : ∀ l : List Rep, ∀ z ∈ l.map Rep.c, z.length = 4 := fun l z hz => by obtain ⟨y, _, rfl⟩ := List.mem_map.1 hz; rfl
end Go.Proofs.Ytohbjneaaahpcaa

namespace Go.Proofs.Ytohbjneaaahpcaa
open Go Go.AL Go.AL.Q Go.AL.Sh
theorem subset_w (a b : List Int) (ha : (a.length : Int) ≤ 9223372036854775806) (hb : (b.length : Int) ≤ 9223372036854775806) (hs : ∀ c ∈ a, c ∈ b) : Ans Try.prog 39 [outW a, outW b] (.bool true) := subset_t _ _ a b ha hb hs
theorem canR_cases {s : Sea} {l : List Rep} {wrong hour : Int} (hok : s.ok = true) (ha : askedB s wrong hour = true) : (CanR s l wrong hour = ([], 11) ∧ s.repsOk l = false) ∨ (s.repsOk l = true ∧ CanR s l wrong hour = (canF s l wrong hour, canE (canF s l wrong hour))) := by
  cases h : s.repsOk l with
  | true => exact .inr ⟨rfl, CanR_ok hok h ha⟩
  | false => left; unfold CanR; rw [hok, h]; exact ⟨rfl, rfl⟩
def oneLess (w : Int) : Int := if 0 < w - 1 then w - 1 else 0
theorem canF_l80 {s : Sea} (ho : s.Ok) (l : List Rep) (wrong hour : Int) : (canF s l wrong hour).length ≤ 80 := Nat.le_trans (goL_len _ _ _) (cellsL_len _ ho)
structure MoreIs (G A B C : List Int) (e f g h : Int) : Prop where
  e : e = canE G
  a : ∀ c ∈ A, c ∈ G
  b : ∀ c ∈ B, c ∈ G
  c : ∀ c ∈ C, c ∈ G
  f : (f = 11 ∧ A = []) ∨ f = canE A
  g : g = canE B
  h : h = canE C
  la : A.length ≤ 80
  lb : B.length ≤ 80
  lc : C.length ≤ 80
  lG : G.length ≤ 80
theorem more_is {s : Sea} {l : List Rep} (hok : s.ok = true) (hr : s.repsOk l = true) (r : Rep) {w hour : Int} (h0 : 0 ≤ w) (h1 : w ≤ 24) (g0 : 0 ≤ hour) (g1 : hour < s.hours) :
    MoreIs (canF s l w hour) (CanR s (l ++ [r]) w hour).1 (CanR s l (oneLess w) hour).1 (CanR (slowS s) l w hour).1 (canE (canF s l w hour)) (CanR s (l ++ [r]) w hour).2 (CanR s l (oneLess w) hour).2 (CanR (slowS s) l w hour).2 := by
  have ho := Sea.ok_of hok
  have hl24 : l.length ≤ 24 := (reps_iff.1 hr).1
  have hsl := slow_ok hok
  have hos := Sea.ok_of hsl
  have hra : (slowS s).repsOk l = true := hr
  have how : 0 ≤ oneLess w ∧ oneLess w ≤ w := by unfold oneLess; split <;> omega
  have e1 : CanR s l (oneLess w) hour = _ := CanR_ok hok hr (asked_iff.2 ⟨⟨how.1, by omega⟩, g0, g1⟩)
  have e2 : CanR (slowS s) l w hour = _ := CanR_ok hsl hra (asked_iff.2 ⟨⟨h0, h1⟩, g0, g1⟩)
  rw [e1, e2]
  have hb := canF_sub ho ho hl24 hl24 (w := w) (w' := oneLess w) h1 (by omega) g0 g1 g1 fun T hT hc => ⟨hT, by omega⟩
  have hc := canF_sub ho hos hl24 hl24 (w := w) (w' := w) h1 h1 g0 g1 g1 fun T hT hc => ⟨slow_trk ho hT, by rw [slow_cost] at hc; exact hc⟩
  rcases canR_cases (l := l ++ [r]) hok (asked_iff.2 ⟨⟨h0, h1⟩, g0, g1⟩) with ⟨h2, _⟩ | ⟨h2, h3⟩
  · rw [h2]
    exact ⟨rfl, (fun c h => by cases h), hb, hc, .inl ⟨rfl, rfl⟩, rfl, rfl, by simp, canF_l80 ho _ _ _, canF_l80 hos _ _ _, canF_l80 ho _ _ _⟩
  · rw [h3]
    exact ⟨rfl, canF_sub ho ho hl24 (reps_iff.1 h2).1 (w := w) (w' := w) h1 h1 g0 g1 g1 fun T hT hc => ⟨hT, by have := cost_mono s l [r] T 0; omega⟩, hb, hc, .inr rfl, rfl, rfl, canF_l80 ho _ _ _, canF_l80 ho _ _ _, canF_l80 hos _ _ _, canF_l80 ho _ _ _⟩
set_option maxRecDepth 20000 in
set_option maxHeartbeats 2000000 in
theorem law_more (x : Srch) (hx : SrFit x) (hx2 : x.l.length * 32 ≤ 140737488351232) (r : Rep) (a b : Int) : Ans Try.prog 10 [.agg x.c, .agg r.c, .agg [.int a, .int b]] (.bool true) := by
  have hso := sound_t x hx
  have ux : ∀ {m : Nat}, Under m (A.pt x.c) := (Free.pt _ x.free).under
  have ur : ∀ {m : Nat}, Under m (A.pt r.c) := (Free.pt _ r.free).under
  refine told Try.func10 rfl rfl (Pure.of tab_ok Try.func10 rfl Try.ntmps10 rfl (allC (.agg _ x.free) (allC (.agg _ r.free) (all1 (.agg _ (allC (.s _) (all1 (.s _))))))) (allC (fun _ => rfl) (allC (fun _ => rfl) (all1 (fun _ => rfl)))) (by first | exact .s _ | assumption | exact .tup _ (by intro x hx; simp only [List.mem_cons, List.not_mem_nil, or_false] at hx; rcases hx with rfl | rfl | rfl | rfl <;> first | exact .s _ | (simp_all; done))) fun E hE => ?_)
  have h1E : ∀ id, 1 ≤ id → E.φ0 id = none := fun id h => hE id (by omega)
  refine Aw.sm tab_ok mb0 [] rfl rfl ?zo ?zk
  case zo =>
    repeat' apply AllP.cons
    all_goals first | exact trivial
  case zk =>
  refine Aw.seq ?_
  cases hsb : soundB x with
  | false =>
    rw [hsb] at hso
    refine Aw.sm tab_ok mb0 [(1, [.bool false])] rfl rfl ?zo ?zk
    case zo =>
      repeat' apply AllP.cons
      all_goals first | exact trivial | exact Nat.le_of_ble_eq_true rfl | exact hso
    case zk =>
    refine Aw.cond rfl (fun _ => ?_) (fun h => absurd h (by decide))
    refine Aw.sm tab_ok mb0 [(0, [.bool true])] rfl rfl ?zo ?zk
    case zo =>
      repeat' apply AllP.cons
      all_goals first | exact trivial | exact works_t
    case zk =>
    exact Aw.ret ⟨_, .cons (.tmp _) .nil, rfl⟩
  | true =>
  rw [hsb] at hso
  obtain ⟨hok, hr⟩ := sound_iff.1 hsb
  have ho := Sea.ok_of hok
  have hrf := reps_fit hr
  have hhr := ho.hr
  have hsp := ho.sp
  have ll : (x.l.map Rep.c).length = x.l.length := by simp
  have hl24 : x.l.length ≤ 24 := by have := hrf.len; omega
  have hma := mod_t a 25 (by decide) (by decide)
  have hmb := mod_t b x.s.hours (by omega) (by omega)
  have ga1 := Int.emod_nonneg a (show (25 : Int) ≠ 0 by decide)
  have ga2 := Int.emod_lt_of_pos a (show (0 : Int) < 25 by decide)
  have gb1 := Int.emod_nonneg b (show x.s.hours ≠ 0 by omega)
  have gb2 := Int.emod_lt_of_pos b (show 0 < x.s.hours by omega)
  generalize a % 25 = w at *
  generalize b % x.s.hours = hour at *
  have hM := more_is hok hr r ga1 (show w ≤ 24 by omega) gb1 gb2
  have c1 := Can_w x hx w hour
  rw [CanR_ok hok hr (asked_iff.2 ⟨⟨ga1, by omega⟩, gb1, gb2⟩)] at c1
  have c2 : Ans Try.prog 24 [.agg x.s.c, .sl false .any ((x.l ++ [r]).map Rep.c), .int w, .int hour] (.tup [outW (CanR x.s (x.l ++ [r]) w hour).1, .int (CanR x.s (x.l ++ [r]) w hour).2]) := Can_w ⟨x.s, false, x.l ++ [r]⟩ ⟨hx.s, by show ((x.l ++ [r]).length : Int) ≤ _; simp; omega⟩ w hour
  rw [List.map_append] at c2
  have c3 : Ans Try.prog 24 [.agg x.s.c, x.rA, .int (if 0 < w - 1 then w - 1 else 0), .int hour] (.tup [outW (CanR x.s x.l (oneLess w) hour).1, .int (CanR x.s x.l (oneLess w) hour).2]) := Can_w x hx (oneLess w) hour
  have c4 : Ans Try.prog 24 [.agg (slowS x.s).c, x.rA, .int w, .int hour] (.tup [outW (CanR (slowS x.s) x.l w hour).1, .int (CanR (slowS x.s) x.l w hour).2]) := Can_w ⟨slowS x.s, x.rn, x.l⟩ ⟨⟨hx.s.l, hx.s.d⟩, hx.l⟩ w hour
  generalize canE (canF x.s x.l w hour) = e at *
  generalize canF x.s x.l w hour = G at *
  generalize CanR x.s (x.l ++ [r]) w hour = R1 at *
  generalize CanR x.s x.l (oneLess w) hour = R2 at *
  generalize CanR (slowS x.s) x.l w hour = R3 at *
  obtain ⟨A1, f⟩ := R1
  obtain ⟨A2, g⟩ := R2
  obtain ⟨A3, h⟩ := R3
  simp only at hM c2 c3 c4
  obtain ⟨me, ma, mb, mc, mf, mg, mh, la, lb, lc, lG⟩ := hM
  refine Aw.sm tab_ok mb0 [(1, [.bool true])] rfl rfl ?zo ?zk
  case zo =>
    repeat' apply AllP.cons
    all_goals first | exact trivial | exact Nat.le_of_ble_eq_true rfl | exact hso
  case zk =>
  refine Aw.cond rfl (fun h => absurd h (by decide)) (fun _ => Aw.skip ?_)
  refine Aw.sd tab_ok mixed mb0 [(2, [.int w]), (8, [.int hour])] rfl (by kernel_rfl) rfl rfl ?zo ?zk
  case zo =>
    repeat' apply AllP.cons
    all_goals first | exact trivial | exact Nat.le_of_ble_eq_true rfl | exact Int.natCast_nonneg _ | exact hma | exact hmb
  case zk =>
  refine Aw.keep (n := 0) (cst := [(3, .pt x.c), (4, .pt r.c), (7, .int w), (8, .int hour)]) (v := []) (Hl := []) hE ?zu ?zw ?zx ⟨?zc, ?zv, ?zh, Nat.le_of_ble_eq_true rfl⟩ ?zr
  case zu =>
    (repeat' (first | exact trivial | exact Under.s _ | exact Under.un | assumption | exact (free_ints _ _ _).under | exact Under.ref _ _ (by decide) | exact Under.ms _ _ _ (by decide) | exact Under.mp _ (by decide) | exact (Free.agg _ (by assumption)).under | exact (Free.pt _ (by assumption)).under | exact grL_under _ | exact outA_under _ | exact Nat.le_of_ble_eq_true rfl | exact (fun _ _ => rfl) | exact ux | exact ur | (refine And.intro ?_ ?_)))
  case zw =>
    (repeat' (first | exact trivial | exact Under.s _ | exact Under.un | assumption | exact (free_ints _ _ _).under | exact Under.ref _ _ (by decide) | exact Under.ms _ _ _ (by decide) | exact Under.mp _ (by decide) | exact (Free.agg _ (by assumption)).under | exact (Free.pt _ (by assumption)).under | exact grL_under _ | exact outA_under _ | exact Nat.le_of_ble_eq_true rfl | exact (fun _ _ => rfl) | exact ux | exact ur | (refine And.intro ?_ ?_)))
  case zx =>
    (repeat' (first | exact trivial | exact Under.s _ | exact Under.un | assumption | exact (free_ints _ _ _).under | exact Under.ref _ _ (by decide) | exact Under.ms _ _ _ (by decide) | exact Under.mp _ (by decide) | exact (Free.agg _ (by assumption)).under | exact (Free.pt _ (by assumption)).under | exact grL_under _ | exact outA_under _ | exact Nat.le_of_ble_eq_true rfl | exact (fun _ _ => rfl) | exact ux | exact ur | (refine And.intro ?_ ?_)))
  case zc =>
    (repeat' (first | (refine And.intro ?_ ?_) | exact trivial | exact A.Le.refl _ | exact rfl | exact ux | exact ur))
  case zv =>
    (repeat' (first | (refine And.intro ?_ ?_) | exact trivial | exact A.Le.refl _ | exact rfl | exact ux | exact ur))
  case zh =>
    (repeat' (first | (refine And.intro ?_ ?_) | exact trivial | exact A.Le.refl _ | exact rfl | exact ux | exact ur))
  case zr =>
  have uG : ∀ {m : Nat}, Under m (outW G) := (outW_free G).under
  refine Aw.sm tab_ok mb0 [(6, [.tup [outW G, .int e]])] rfl rfl ?zo ?zk
  case zo =>
    repeat' apply AllP.cons
    all_goals first | exact trivial | exact Nat.le_of_ble_eq_true rfl | exact c1
  case zk =>
  refine Aw.sm tab_ok mb0 [] rfl rfl ?zo ?zk
  case zo =>
    repeat' apply AllP.cons
    all_goals first | exact trivial | exact rfl | exact Nat.le_of_ble_eq_true rfl
  case zk =>
  refine Aw.sm tab_ok mb0 [] rfl rfl ?zo ?zk
  case zo =>
    repeat' apply AllP.cons
    all_goals first | exact trivial | exact rfl | exact Nat.le_of_ble_eq_true rfl | exact (by simp only [Ob.of, inR]; omega)
  case zk =>
  refine Aw.keep (n := 1) (cst := [(3, .pt x.c), (4, .pt r.c), (7, .int w), (8, .int hour), (9, outW G), (10, .int e), (11, .ref 0 0)]) (v := []) (Hl := [(0, .cells [.int x.s.wide, .int x.s.high, .sl x.s.ln .any (ints x.s.land), .int x.s.hours, .sl x.s.dn .any (x.s.drift.map Sp.c), .int (if 0 < x.s.speed - 1 then x.s.speed - 1 else 0)])]) h1E ?zu ?zw ?zx ⟨?zc, ?zv, ?zh, Nat.le_of_ble_eq_true rfl⟩ ?zr
  case zu =>
    (repeat' (first | exact trivial | exact Under.s _ | exact Under.un | assumption | exact (free_ints _ _ _).under | exact Under.ref _ _ (by decide) | exact Under.ms _ _ _ (by decide) | exact Under.mp _ (by decide) | exact (Free.agg _ (by assumption)).under | exact (Free.pt _ (by assumption)).under | exact grL_under _ | exact outA_under _ | exact Nat.le_of_ble_eq_true rfl | exact (fun _ _ => rfl) | exact ux | exact ur | exact uG | exact UnderB.cells _ (allC (.s _) (allC (.s _) (allC (free_ints _ _ _).under (allC (.s _) (allC (free_map Sp.free _ _ _).under (all1 (.s _))))))) | (refine And.intro ?_ ?_)))
  case zw =>
    (repeat' (first | exact trivial | exact Under.s _ | exact Under.un | assumption | exact (free_ints _ _ _).under | exact Under.ref _ _ (by decide) | exact Under.ms _ _ _ (by decide) | exact Under.mp _ (by decide) | exact (Free.agg _ (by assumption)).under | exact (Free.pt _ (by assumption)).under | exact grL_under _ | exact outA_under _ | exact Nat.le_of_ble_eq_true rfl | exact (fun _ _ => rfl) | exact ux | exact ur | exact uG | exact UnderB.cells _ (allC (.s _) (allC (.s _) (allC (free_ints _ _ _).under (allC (.s _) (allC (free_map Sp.free _ _ _).under (all1 (.s _))))))) | (refine And.intro ?_ ?_)))
  case zx =>
    (repeat' (first | exact trivial | exact Under.s _ | exact Under.un | assumption | exact (free_ints _ _ _).under | exact Under.ref _ _ (by decide) | exact Under.ms _ _ _ (by decide) | exact Under.mp _ (by decide) | exact (Free.agg _ (by assumption)).under | exact (Free.pt _ (by assumption)).under | exact grL_under _ | exact outA_under _ | exact Nat.le_of_ble_eq_true rfl | exact (fun _ _ => rfl) | exact ux | exact ur | exact uG | exact UnderB.cells _ (allC (.s _) (allC (.s _) (allC (free_ints _ _ _).under (allC (.s _) (allC (free_map Sp.free _ _ _).under (all1 (.s _))))))) | (refine And.intro ?_ ?_)))
  case zc =>
    (repeat' (first | (refine And.intro ?_ ?_) | exact trivial | exact A.Le.refl _ | exact rfl | exact ux | exact ur | exact uG | exact UnderB.cells _ (allC (.s _) (allC (.s _) (allC (free_ints _ _ _).under (allC (.s _) (allC (free_map Sp.free _ _ _).under (all1 (.s _)))))))))
  case zv =>
    (repeat' (first | (refine And.intro ?_ ?_) | exact trivial | exact A.Le.refl _ | exact rfl | exact ux | exact ur | exact uG | exact UnderB.cells _ (allC (.s _) (allC (.s _) (allC (free_ints _ _ _).under (allC (.s _) (allC (free_map Sp.free _ _ _).under (all1 (.s _)))))))))
  case zh =>
    (repeat' (first | (refine And.intro ?_ ?_) | exact trivial | exact A.Le.refl _ | exact rfl | exact ux | exact ur | exact uG | exact UnderB.cells _ (allC (.s _) (allC (.s _) (allC (free_ints _ _ _).under (allC (.s _) (allC (free_map Sp.free _ _ _).under (all1 (.s _)))))))))
  case zr =>
  refine Aw.sd tab_ok mixed mb0 [(11, [.tup [outW A1, .int f]])] rfl (by kernel_rfl) rfl rfl ?zo ?zk
  case zo =>
    have h8 : ([] ++ x.l.map Rep.c).length ≤ 24 := by simp; omega
    repeat' apply AllP.cons
    · exact c2
    · exact (show ∀ z ∈ [r.c], z.length = 4 from fun z hz => by simp at hz; subst hz; rfl)
    · exact (show ∀ z ∈ [] ++ x.l.map Rep.c, z.length = 4 from fun z hz => rep4 x.l z (by simpa using hz))
    · refine Nat.le_trans (Nat.mul_le_mul_right _ (Nat.add_le_add (b := 24) (d := 1) ?_ ?_)) ?_
      · exact h8
      · exact Nat.le_of_ble_eq_true rfl
      · exact Nat.le_of_ble_eq_true rfl
    · refine Nat.le_trans (Nat.add_le_add (b := 24) (d := 1) ?_ ?_) ?_
      · exact h8
      · exact Nat.le_of_ble_eq_true rfl
      · unfold maxLen; decide
    · exact Nat.le_of_ble_eq_true rfl
    · exact Nat.le_of_ble_eq_true rfl
    · exact (show ∀ z ∈ [] ++ x.l.map Rep.c, z.length = 4 from fun z hz => rep4 x.l z (by simpa using hz))
    · exact (show (0 + (x.l.map Rep.c).length) * 32 ≤ 140737488355328 by omega)
    · exact (show 0 + (x.l.map Rep.c).length ≤ maxLen by unfold maxLen; omega)
    all_goals first | exact trivial | exact Nat.le_of_ble_eq_true rfl
  case zk =>
  refine Aw.sm tab_ok mb0 [(8, [.tup [outW A2, .int g]])] rfl rfl ?zo ?zk
  case zo =>
    repeat' apply AllP.cons
    all_goals first | exact trivial | exact Nat.le_of_ble_eq_true rfl | exact c3 | exact (by simp only [Ob.of, inR]; omega)
  case zk =>
  refine Aw.sm tab_ok mb0 [(5, [.tup [outW A3, .int h]])] rfl rfl ?zo ?zk
  case zo =>
    repeat' apply AllP.cons
    all_goals first | exact trivial | exact Nat.le_of_ble_eq_true rfl | exact c4
  case zk =>
  refine Aw.seq ?_
  refine Aw.sm tab_ok mb0 [] rfl rfl ?zo ?zk
  case zo =>
    repeat' apply AllP.cons
    all_goals first | exact trivial
  case zk =>
  by_cases hG : G = []
  · have hA1 : A1 = [] := List.eq_nil_iff_forall_not_mem.2 fun c hc => by have := ma c hc; rw [hG] at this; cases this
    have hA2 : A2 = [] := List.eq_nil_iff_forall_not_mem.2 fun c hc => by have := mb c hc; rw [hG] at this; cases this
    have hA3 : A3 = [] := List.eq_nil_iff_forall_not_mem.2 fun c hc => by have := mc c hc; rw [hG] at this; cases this
    subst hG; subst hA1; subst hA2; subst hA3
    have me : e = 12 := me
    have mg : g = 12 := mg
    have mh : h = 12 := mh
    have mf : f = 11 ∨ f = 12 := mf.elim (fun h => .inl h.1) .inr
    subst me; subst mg; subst mh
    refine Aw.cond rfl (fun _ => ?_) (fun h => absurd h (by decide))
    rcases mf with rfl | rfl
    · refine Aw.sm tab_ok mb0 [(36, [.bool true])] rfl rfl ?zo ?zk
      case zo =>
        repeat' apply AllP.cons
        all_goals first | exact trivial | exact id | exact fun _ => rfl | exact gq_c | exact fun _ _ => rfl | exact fun _ => works_t | exact fun _ => (by show inR _; decide)
      case zk =>
      exact Aw.ret ⟨_, .cons (.tmp _) .nil, rfl⟩
    · refine Aw.sm tab_ok mb0 [(36, [.bool true])] rfl rfl ?zo ?zk
      case zo =>
        repeat' apply AllP.cons
        all_goals first | exact trivial | exact id | exact fun _ => rfl | exact gq_c | exact fun _ => works_t | exact fun _ => (by show inR _; decide)
      case zk =>
      exact Aw.ret ⟨_, .cons (.tmp _) .nil, rfl⟩
  · have me : e = 0 := by rw [me]; exact canE_ne hG
    subst me
    refine Aw.cond rfl (fun h => absurd h (by decide)) (fun _ => Aw.skip ?_)
    have mf : f = 0 ∨ f = 12 ∨ f = 11 := mf.elim (fun h => .inr (.inr h.1)) fun h => by rcases canE_or A1 with k | k <;> omega
    have mg : g = 0 ∨ g = 12 := by rcases canE_or A2 with k | k <;> omega
    have mh : h = 0 ∨ h = 12 := by rcases canE_or A3 with k | k <;> omega
    have hfin : cond (cond (cond (cond (cond (cond (cond (cond (f == 0) true (f == 12)) true (f == 11)) (cond (g == 0) true (g == 12)) false) (cond (h == 0) true (h == 12)) false) true false) true false) true false) true false = true := by
      rcases mf with rfl | rfl | rfl <;> rcases mg with rfl | rfl <;> rcases mh with rfl | rfl <;> rfl
    have s1 := subset_w A1 G (by omega) (by omega) ma
    have s2 := subset_w A2 G (by omega) (by omega) mb
    have s3 := subset_w A3 G (by omega) (by omega) mc
    refine Aw.sm tab_ok mb0 [(29, [.bool true]), (34, [.bool true]), (39, [.bool true]), (42, [.bool true])] rfl rfl ?zo ?zk
    case zo =>
      repeat' apply AllP.cons
      all_goals first | exact trivial | exact id | exact fun _ => rfl | exact gq_f | exact gq_c | exact fun _ _ => rfl | exact fun _ => works_t | exact fun _ => s1 | exact fun _ => s2 | exact fun _ => s3
    case zk =>
    exact Aw.ret ⟨_, .cons (.tmp _) .nil, congrArg A.bool hfin⟩
theorem more_l (x : Srch) (r : Rep) (a b : Int) (hx : SrFit2 x) : Ans Try.prog 10 [.agg x.c, .agg r.c, .agg [.int a, .int b]] (.bool true) := law_more x hx.fit hx.l r a b
end Go.Proofs.Ytohbjneaaahpcaa

namespace Go.Proofs.Ytohbjneaaahpcaa
open Go Go.AL Go.ChangeShapes Go.WideShapes Go.ChangeAt Go.RowKit
set_option maxRecDepth 100000 in
theorem shoalMore_lifted (os : Os) (started : os.Started) (H : Type) (enc : TypeId × Value → H) :
    ReturnsInHanded {} Try.checked os 10 .any (Rows.shoalMoreSpec.pre6 enc Try.prog Try.f10 [] false) (Rows.shoalMoreSpec.post enc Try.prog Try.f10 false true false false) := by
  refine lifted2 (tb := 4) (C := Try.checked) own started (by kernel_rfl) Try.func10
    (ChangeSpec.witness6 (enc := enc) (C := Try.checked) false ⟨#[], #[.agg #[.int .i64 0, .int .i64 0, .slice none 0 0, .int .i64 0, .slice none 0 0, .int .i64 0, .slice none 0 0], .agg #[.int .i64 0, .int .i64 0, .int .i64 0, .bool false], .agg #[.int .i64 0, .int .i64 0]], []⟩ 8 (by kernel_rfl) (by kernel_rfl) (by kernel_rfl) (by kernel_rfl))
    laidOut ?_ rfl rfl (by kernel_rfl) uBool ?_ ?_
  · rw [Try.params10]; exact all3t (p := fun t => Try.prog.readableRec t = true ∧ t < Try.prog.types.size) t28 t52 t38
  · intro ds hd
    rw [Try.params10] at hd
    match ds, hd with
    | [d0, d1, d2], _ => rfl
  · intro W base args ds p hval hA hwt
    rw [Try.params10] at hA hval
    obtain ⟨v0, v1, v2, d0, d1, d2, p0, p1, p2, rfl, rfl, rfl, h0, h1, h2⟩ := trodAll_three hA
    obtain ⟨y0, q0, s0⟩ := arg_srch (φ := fun _ => none) (hval 0 28 v0 rfl rfl) h0 fun k hk => hwt k (List.mem_append.2 (.inl hk))
    obtain ⟨y1, q1⟩ := arg_rep (φ := fun _ => none) (hval 1 52 v1 rfl rfl) h1 fun k hk => hwt k (List.mem_append.2 (.inr (List.mem_append.2 (.inl hk))))
    obtain ⟨y2, q2⟩ := arg_2 (φ := fun _ => none) (hval 2 38 v2 rfl rfl) h2 fun k hk => hwt k (List.mem_append.2 (.inr (List.mem_append.2 (.inr (List.mem_append.2 (.inl hk))))))
    exact ⟨_, _, vrs3 q0 q1 q2, more_l y0 y1 y2.1 y2.2 s0⟩
theorem shoalMore_holds : Rows.ShoalMoreSaid :=
  OpenClaim.holds_of_wide 10 Try.f10 rfl rfl rfl rfl rfl rfl rfl ⟨rfl, rfl, rfl, rfl, rfl⟩ rfl rfl rfl rfl rfl (by kernel_rfl) Try.func10 (by kernel_rfl)
    (of_decide_eq_true (by kernel_rfl)) (by unfold Func.isWrapper; first | (rw [if_pos (by decide +kernel)]; kernel_rfl) | (rw [if_neg (by decide +kernel)]; exact ⟨rfl, rfl⟩))
    (fun os started H enc _ => shoalMore_lifted os started H enc)
end Go.Proofs.Ytohbjneaaahpcaa

