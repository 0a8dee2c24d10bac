/- ShoalReached holds: the shoal can be in a cell in an hour just if so many more reports that it was there leave as few false ones. No condition. -/
import Derived.Test.YtohbjneaaahpcaaK7
set_option linter.all false
namespace Go.Proofs.Ytohbjneaaahpcaa
open Go Go.AL Go.AL.Q Go.AL.Sh
theorem few_at {s : Sea} (ho : s.Ok) {l : List Rep} (hl : l.length ≤ 24) (hn : fewF s l < 1048576) : ∃ T, Trk s T ∧ (costW s l 0 T : Int) = fewF s l := by
  rcases (fewF_min ho hl).or with ⟨h, _⟩ | ⟨n, h1, ⟨T, h2, h3⟩, _⟩
  · exact absurd hn (by have := h; omega)
  · exact ⟨T, h2, by rw [h1, h3]⟩
theorem cost_more {s : Sea} {l m : List Rep} {T : List Nat} (hT : (T.length : Int) = s.hours) (h1 : ∀ r ∈ l, 0 ≤ r.hour ∧ r.hour ≤ s.hours - 1) (h2 : ∀ r ∈ m, 0 ≤ r.hour ∧ r.hour ≤ s.hours - 1) : costW s (l ++ m) 0 T = costW s l 0 T + m.countP (lieB s.wide T) := by
  rw [cost_count s hT h1, cost_count s hT (l := l ++ m) (fun r hr => (List.mem_append.1 hr).elim (h1 r) (h2 r)), List.countP_append]
theorem cost_rep {s : Sea} {l : List Rep} {r : Rep} {n : Nat} {T : List Nat} (hT : (T.length : Int) = s.hours) (h1 : ∀ r ∈ l, 0 ≤ r.hour ∧ r.hour ≤ s.hours - 1) (h2 : 0 ≤ r.hour ∧ r.hour ≤ s.hours - 1) : costW s (l ++ List.replicate n r) 0 T = costW s l 0 T + if lieB s.wide T r then n else 0 := by
  rw [cost_more hT h1 fun x hx => by rw [List.eq_of_mem_replicate hx]; exact h2, List.countP_replicate]
theorem Trk.hours {s : Sea} (ho : s.Ok) {T : List Nat} (h : Trk s T) : (T.length : Int) = s.hours := by have := hrs_pos ho; have := h.len; omega
theorem few_rep {s : Sea} (ho : s.Ok) {l : List Rep} {r : Rep} {n : Nat} (hl : (l ++ List.replicate n r).length ≤ 24) (h1 : ∀ r ∈ l, 0 ≤ r.hour ∧ r.hour ≤ s.hours - 1) (h2 : 0 ≤ r.hour ∧ r.hour ≤ s.hours - 1) {w : Int} (hw : w < n) :
    fewF s (l ++ List.replicate n r) ≤ w ↔ ∃ T, Trk s T ∧ (costW s l 0 T : Int) ≤ w ∧ lieB s.wide T r = false := by
  have hn : (n : Int) ≤ 24 := by simp at hl; omega
  rw [(fewF_min ho hl).le_iff (by omega)]
  constructor
  · rintro ⟨m, h3, T, h4, h5⟩
    rw [cost_rep (h4.hours ho) h1 h2] at h5
    refine ⟨T, h4, ?_, ?_⟩
    · split at h5 <;> omega
    · cases h6 : lieB s.wide T r with
      | false => rfl
      | true => rw [h6, if_pos rfl] at h5; omega
  · rintro ⟨T, h4, h5, h6⟩
    exact ⟨costW s l 0 T, h5, T, h4, by rw [cost_rep (h4.hours ho) h1 h2, h6]; simp⟩
end Go.Proofs.Ytohbjneaaahpcaa

namespace Go.Proofs.Ytohbjneaaahpcaa
open Go Go.AL Go.AL.Q Go.AL.Sh
theorem far_zero {p o : Sp} : farF p o ≤ 0 ↔ p = o := by
  rw [farF_eq]
  constructor
  · intro h
    cases p; cases o
    simp only [Sp.mk.injEq] at h ⊢
    omega
  · rintro rfl; omega
theorem lie_at {w : Int} (hw : 1 ≤ w) {T : List Nat} {h : Nat} (hh : h < T.length) (cell : Int) : lieB w T ⟨h, cell, 0, true⟩ = false ↔ (T[h] : Int) = cell := by
  unfold lieB isTrueF
  rw [show (⟨(h : Int), cell, 0, true⟩ : Rep).hour.toNat = h from rfl, tI_at hh]
  show (!(true == decide (farF (placeP w cell) (placeP w (T[h] : Int)) ≤ 0))) = false ↔ _
  rw [Bool.not_eq_false', beq_iff_eq, eq_comm, decide_eq_true_eq, far_zero]
  exact ⟨fun h => (place_inj hw h).symm, fun h => by rw [h]⟩
structure NextIs (w : Int) (G : List Int) (casts : List Sp) (k : Nat) (p : Int × Int) : Prop where
  i : ∃ i : Nat, p.1 = i ∧ i < k ∧ p.2 = worstF w G (casts.getD i ⟨0, 0⟩)
  ge : ∀ j : Nat, j < k → p.2 ≤ worstF w G (casts.getD j ⟨0, 0⟩) ∧ ((j : Int) < p.1 → p.2 < worstF w G (casts.getD j ⟨0, 0⟩))
def lastI (l : List Int) : Int := l.getLast?.getD (-1)
structure Rd (n f : Nat) (last : Int) (m : List Int) : Prop where
  len : m.length = f
  ri : risingF n last m = true
structure ChT (fd : List Int → Bool) (n f : Nat) (l : List Int) (r : Cst) : Prop where
  t : r.1 = true → ∃ m, Rd n f (lastI l) m ∧ r.2 = l ++ m ∧ fd (l ++ m) = true ∧ ∀ m', Rd n f (lastI l) m' → fd (l ++ m') = true → Q.befF m' m = false
  f : r.1 = false → ∀ m', Rd n f (lastI l) m' → fd (l ++ m') = false
structure GoT (fd : List Int → Bool) (n f : Nat) (l : List Int) (is : List Nat) (r : Cst) : Prop where
  t : r.1 = true → ∃ i ∈ is, ∃ m, Rd n f i m ∧ r.2 = l ++ (i : Int) :: m ∧ fd (l ++ (i : Int) :: m) = true ∧ ∀ i' ∈ is, ∀ m', Rd n f i' m' → fd (l ++ (i' : Int) :: m') = true → Q.befF ((i' : Int) :: m') ((i : Int) :: m) = false
  f : r.1 = false → ∀ i' ∈ is, ∀ m', Rd n f i' m' → fd (l ++ (i' : Int) :: m') = false
structure SureIs (fd : List Int → Bool) (n : Nat) (o : List Int) : Prop where
  ri : risingF n (-1) o = true
  ok : fd o = true
  pos : 1 ≤ o.length
  first : ∀ o', o' ≠ [] → risingF n (-1) o' = true → fd o' = true → o.length < o'.length ∨ o'.length = o.length ∧ Q.befF o' o = false
end Go.Proofs.Ytohbjneaaahpcaa

namespace Go.Proofs.Ytohbjneaaahpcaa
open Go Go.AL Go.AL.Q Go.AL.Sh
end Go.Proofs.Ytohbjneaaahpcaa

namespace Go.Proofs.Ytohbjneaaahpcaa
open Go Go.AL Go.AL.Q Go.AL.Sh
theorem LeastR_no {s : Sea} {l : List Rep} (hok : s.ok = true) (hr : s.repsOk l = true) (h : ¬ fewF s l < 1048576) : LeastR s l = (0, [], 4) := by
  unfold LeastR; rw [hok, hr]; simp only [if_true]; rw [if_neg h]
theorem least_le {s : Sea} {l : List Rep} (hok : s.ok = true) (hr : s.repsOk l = true) {w : Int} (hw : w < 1048576) :
    cond ((LeastR s l).2.2 == 0) (decide ((LeastR s l).1 ≤ w)) false = decide (fewF s l ≤ w) := by
  by_cases h : fewF s l < 1048576
  · rw [LeastR_ok hok hr h]; rfl
  · rw [LeastR_no hok hr h]
    show false = _
    symm; exact decide_eq_false (by omega)
theorem reps_iff {s : Sea} {l : List Rep} : s.repsOk l = true ↔ l.length ≤ 24 ∧ ∀ r ∈ l, s.repOk r = true := by
  unfold Sea.repsOk
  constructor
  · intro h; exact ⟨by have := of_decide_eq_true (ac1 h); omega, List.all_eq_true.1 (ac2 h)⟩
  · rintro ⟨h1, h2⟩
    rw [decide_eq_true (show (l.length : Int) ≤ 24 by omega)]
    exact List.all_eq_true.2 h2
theorem reps_app {s : Sea} {l m : List Rep} (h : s.repsOk l = true) (hl : (l ++ m).length ≤ 24) (hm : ∀ r ∈ m, s.repOk r = true) : s.repsOk (l ++ m) = true :=
  reps_iff.2 ⟨hl, fun r hr => (List.mem_append.1 hr).elim ((reps_iff.1 h).2 r) (hm r)⟩
theorem repOk_mk {s : Sea} {r : Rep} (h1 : 0 ≤ r.hour ∧ r.hour ≤ s.hours - 1) (h2 : 0 ≤ r.cell ∧ r.cell ≤ s.many - 1) (h3 : 0 ≤ r.far ∧ r.far ≤ 9) : s.repOk r = true := by
  unfold Sea.repOk; rw [wi_iff.2 h1, wi_iff.2 h2, wi_iff.2 h3]; rfl
theorem can_some {s : Sea} (ho : s.Ok) {l : List Rep} (hl : l.length ≤ 24) {wrong hour : Int} (hw : wrong ≤ 24) (h0 : 0 ≤ hour) (h1 : hour < s.hours) : canF s l wrong hour ≠ [] ↔ fewF s l ≤ wrong := by
  have hp := hrs_pos ho
  constructor
  · intro h
    obtain ⟨c, hc⟩ := List.exists_mem_of_ne_nil _ h
    obtain ⟨k, rfl⟩ := canF_nat hc
    obtain ⟨T, h2, h3, h4⟩ := (canF_mem ho hl hw h0 h1 k).1 hc
    have := (few_le ho hl h2).1
    omega
  · intro h
    obtain ⟨T, h2, h3⟩ := few_at ho hl (by omega)
    have hlt : hour.toNat < T.length := by rw [h2.len]; omega
    exact List.ne_nil_of_mem ((canF_mem ho hl hw h0 h1 _).2 ⟨T, h2, List.getElem?_eq_getElem hlt, by omega⟩)
end Go.Proofs.Ytohbjneaaahpcaa

namespace Go.Proofs.Ytohbjneaaahpcaa
open Go Go.AL Go.AL.Q Go.AL.Sh
end Go.Proofs.Ytohbjneaaahpcaa

namespace Go.Proofs.Ytohbjneaaahpcaa
open Go Go.AL Go.AL.Q Go.AL.Sh
theorem rep4 : ∀ l : List Rep, ∀ z ∈ l.map Rep.c, z.length = 4 := fun l z hz => by obtain ⟨y, _, rfl⟩ := List.mem_map.1 hz; rfl
theorem rep_more (l : List Rep) (i : Nat) (r : Rep) : (l ++ List.replicate (i + 1) r).map Rep.c = (l ++ List.replicate i r).map Rep.c ++ [r.c] := by
  rw [List.replicate_succ', ← List.append_assoc, List.map_append]; rfl
set_option maxRecDepth 20000 in
set_option maxHeartbeats 2000000 in
theorem law_reached (x : Srch) (hx : SrFit x) (a b n3 : Int) : Ans Try.prog 9 [.agg x.c, .agg [.int a, .int b, .int n3]] (.bool true) := by
  have hso := sound_t x hx
  have ux : ∀ {m : Nat}, Under m (A.pt x.c) := (Free.pt _ x.free).under
  refine told Try.func9 rfl rfl (Pure.of tab_ok Try.func9 rfl Try.ntmps9 rfl (allC (.agg _ x.free) (all1 (.agg _ (allC (.s _) (allC (.s _) (all1 (.s _))))))) (allC (fun _ => rfl) (all1 (fun _ => rfl))) (by first | exact .s _ | assumption | exact .tup _ (by intro x hx; simp only [List.mem_cons, List.not_mem_nil, or_false] at hx; rcases hx with rfl | rfl | rfl | rfl <;> first | exact .s _ | (simp_all; done))) fun E hE => ?_)
  refine Aw.sm tab_ok mb0 [] rfl rfl ?zo ?zk
  case zo =>
    repeat' apply AllP.cons
    all_goals first | exact trivial | exact id | exact rfl | exact fun _ => rfl | exact Nat.le_of_ble_eq_true rfl | exact fun _ => Nat.le_of_ble_eq_true rfl | exact Int.natCast_nonneg _ | exact fun _ => Int.natCast_nonneg _ | exact within_t _ _ _ | exact (within_t _ _ _).un | exact in_t _ _ _ | exact (in_t _ _ _).un | exact gq_f | exact gq_t | exact gq_c | exact fun _ _ => rfl | exact works_t | exact fun _ => works_t
  case zk =>
  refine Aw.seq ?_
  cases hsb : soundB x with
  | false =>
    rw [hsb] at hso
    refine Aw.sm tab_ok mb0 [(1, [.bool false])] rfl rfl ?zo ?zk
    case zo =>
      repeat' apply AllP.cons
      all_goals first | exact trivial | exact id | exact rfl | exact fun _ => rfl | exact Nat.le_of_ble_eq_true rfl | exact fun _ => Nat.le_of_ble_eq_true rfl | exact Int.natCast_nonneg _ | exact fun _ => Int.natCast_nonneg _ | exact within_t _ _ _ | exact (within_t _ _ _).un | exact in_t _ _ _ | exact (in_t _ _ _).un | exact gq_f | exact gq_t | exact gq_c | exact fun _ _ => rfl | exact works_t | exact fun _ => works_t | exact hso
    case zk =>
    refine Aw.cond rfl (fun _ => ?_) (fun h => absurd h (by decide))
    refine Aw.sm tab_ok mb0 [(0, [.bool true])] rfl rfl ?zo ?zk
    case zo =>
      repeat' apply AllP.cons
      all_goals first | exact trivial | exact id | exact rfl | exact fun _ => rfl | exact Nat.le_of_ble_eq_true rfl | exact fun _ => Nat.le_of_ble_eq_true rfl | exact Int.natCast_nonneg _ | exact fun _ => Int.natCast_nonneg _ | exact within_t _ _ _ | exact (within_t _ _ _).un | exact in_t _ _ _ | exact (in_t _ _ _).un | exact gq_f | exact gq_t | exact gq_c | exact fun _ _ => rfl | exact works_t | exact fun _ => works_t
    case zk =>
    exact Aw.ret ⟨_, .cons (.tmp _) .nil, rfl⟩
  | true =>
  rw [hsb] at hso
  obtain ⟨hok, hr⟩ := sound_iff.1 hsb
  have ho := Sea.ok_of hok
  have hrf := reps_fit hr
  have hm := ho.many
  have hmm : x.s.wide * x.s.high = x.s.many := rfl
  have hhr := ho.hr
  have hw1 := ho.w
  have ll : ((x.l.map Rep.c).length : Int) = x.l.length := by simp
  have hl24 : x.l.length ≤ 24 := by have := hrf.len; omega
  have hma := mod_t a 6 (by decide) (by decide)
  have hmb := mod_t b x.s.hours (by omega) (by omega)
  have hmc := mod_t n3 (x.s.wide * x.s.high) (by omega) (by omega)
  have ga1 := Int.emod_nonneg a (show (6 : Int) ≠ 0 by decide)
  have ga2 := Int.emod_lt_of_pos a (show (0 : Int) < 6 by decide)
  have gb1 := Int.emod_nonneg b (show x.s.hours ≠ 0 by omega)
  have gb2 := Int.emod_lt_of_pos b (show 0 < x.s.hours by omega)
  have gc1 := Int.emod_nonneg n3 (show x.s.wide * x.s.high ≠ 0 by omega)
  have gc2 := Int.emod_lt_of_pos n3 (show 0 < x.s.wide * x.s.high by omega)
  generalize b % x.s.hours = hour at *
  generalize n3 % (x.s.wide * x.s.high) = cell at *
  obtain ⟨w, hw⟩ : ∃ w : Nat, (w : Int) = a % 6 := ⟨(a % 6).toNat, by omega⟩
  rw [← hw] at hma ga1 ga2
  obtain ⟨hn, hhn⟩ : ∃ h : Nat, hour = (h : Int) := ⟨hour.toNat, by omega⟩
  subst hhn
  refine Aw.sm tab_ok mb0 [(1, [.bool true])] rfl rfl ?zo ?zk
  case zo =>
    repeat' apply AllP.cons
    all_goals first | exact trivial | exact id | exact rfl | exact fun _ => rfl | exact Nat.le_of_ble_eq_true rfl | exact fun _ => Nat.le_of_ble_eq_true rfl | exact Int.natCast_nonneg _ | exact fun _ => Int.natCast_nonneg _ | exact within_t _ _ _ | exact (within_t _ _ _).un | exact in_t _ _ _ | exact (in_t _ _ _).un | exact gq_f | exact gq_t | exact gq_c | exact fun _ _ => rfl | exact works_t | exact fun _ => works_t | exact hso
  case zk =>
  refine Aw.cond rfl (fun h => absurd h (by decide)) (fun _ => Aw.skip ?_)
  refine Aw.sd tab_ok mixed mb0 [(2, [.int w]), (8, [.int (hn : Int)]), (18, [.int cell])] rfl (by kernel_rfl) rfl rfl ?zo ?zk
  case zo =>
    repeat' apply AllP.cons
    all_goals first | exact trivial | exact id | exact rfl | exact fun _ => rfl | exact Nat.le_of_ble_eq_true rfl | exact fun _ => Nat.le_of_ble_eq_true rfl | exact Int.natCast_nonneg _ | exact fun _ => Int.natCast_nonneg _ | exact within_t _ _ _ | exact (within_t _ _ _).un | exact in_t _ _ _ | exact (in_t _ _ _).un | exact gq_f | exact gq_t | exact gq_c | exact fun _ _ => rfl | exact works_t | exact fun _ => works_t | exact hma | exact hmb | exact hmc | exact (by simp only [Ob.of, inR]; omega)
  case zk =>
  refine Aw.seq ?_
  refine Aw.sm tab_ok mb0 [] rfl rfl ?zo ?zk
  case zo =>
    repeat' apply AllP.cons
    all_goals first | exact trivial | exact id | exact rfl | exact fun _ => rfl | exact Nat.le_of_ble_eq_true rfl | exact fun _ => Nat.le_of_ble_eq_true rfl | exact Int.natCast_nonneg _ | exact fun _ => Int.natCast_nonneg _ | exact within_t _ _ _ | exact (within_t _ _ _).un | exact in_t _ _ _ | exact (in_t _ _ _).un | exact gq_f | exact gq_t | exact gq_c | exact fun _ _ => rfl | exact works_t | exact fun _ => works_t | exact (by simp only [Ob.of, inR]; omega)
  case zk =>
  refine Aw.cond rfl (fun h1 => ?_) (fun h1 => Aw.skip ?_)
  · refine Aw.sm tab_ok mb0 [(0, [.bool true])] rfl rfl ?zo ?zk
    case zo =>
      repeat' apply AllP.cons
      all_goals first | exact trivial | exact id | exact rfl | exact fun _ => rfl | exact Nat.le_of_ble_eq_true rfl | exact fun _ => Nat.le_of_ble_eq_true rfl | exact Int.natCast_nonneg _ | exact fun _ => Int.natCast_nonneg _ | exact within_t _ _ _ | exact (within_t _ _ _).un | exact in_t _ _ _ | exact (in_t _ _ _).un | exact gq_f | exact gq_t | exact gq_c | exact fun _ _ => rfl | exact works_t | exact fun _ => works_t
    case zk =>
    exact Aw.ret ⟨_, .cons (.tmp _) .nil, rfl⟩
  have h1 := of_decide_eq_false (show decide (((x.l.map Rep.c).length : Int) + w + 1 > 24) = false from h1)
  have hcn := Can_w x hx w (hn : Int)
  rw [CanR_ok hok hr (asked_iff.2 ⟨⟨by omega, by omega⟩, gb1, gb2⟩)] at hcn
  have hle := Least_w x hx
  have hlw := least_le hok hr (show (w : Int) < 1048576 by omega)
  have hsome := can_some ho hl24 (wrong := w) (hour := (hn : Int)) (by omega) gb1 gb2
  have hcm := fun c => canF_mem ho hl24 (wrong := w) (hour := (hn : Int)) (by omega) gb1 gb2 c
  have hgl : (canF x.s x.l w (hn : Int)).length ≤ 80 := Nat.le_trans (goL_len _ _ _) (cellsL_len _ ho)
  have hrk : x.s.repOk (⟨(hn : Int), cell, 0, true⟩ : Rep) = true := repOk_mk ⟨gb1, by show (hn : Int) ≤ x.s.hours - 1; omega⟩ ⟨gc1, by show cell ≤ x.s.many - 1; omega⟩ ⟨by show (0 : Int) ≤ 0; decide, by show (0 : Int) ≤ 9; decide⟩
  have hl2 : (x.l ++ List.replicate (w + 1) (⟨(hn : Int), cell, 0, true⟩ : Rep)).length ≤ 24 := by simp; omega
  have hr2 : x.s.repsOk (x.l ++ List.replicate (w + 1) (⟨(hn : Int), cell, 0, true⟩ : Rep)) = true := reps_app hr hl2 fun r hr => by rw [List.eq_of_mem_replicate hr]; exact hrk
  have hle2 := Least_w ⟨x.s, false, x.l ++ List.replicate (w + 1) (⟨(hn : Int), cell, 0, true⟩ : Rep)⟩ ⟨hx.s, by show ((x.l ++ List.replicate (w + 1) (⟨(hn : Int), cell, 0, true⟩ : Rep)).length : Int) ≤ _; omega⟩
  have hlw2 := least_le hok hr2 (show (w : Int) < 1048576 by omega)
  have hfr := few_rep ho hl2 (fun r hr => (hrf.at' r hr).1) ⟨gb1, by show (hn : Int) ≤ x.s.hours - 1; omega⟩ (w := w) (by omega)
  have hpl := place_t (canF x.s x.l w (hn : Int)) (canF x.s x.l w (hn : Int)).isEmpty cell (by omega)
  have hkey : decide (placeF cell 0 (canF x.s x.l w (hn : Int)) ≥ 0) = decide (fewF x.s (x.l ++ List.replicate (w + 1) (⟨(hn : Int), cell, 0, true⟩ : Rep)) ≤ w) := by
    rw [decide_eq_decide, hfr, ge_iff_le, placeF_nn]
    obtain ⟨cn, rfl⟩ : ∃ c : Nat, cell = c := ⟨cell.toNat, by omega⟩
    rw [hcm cn]
    have hp := hrs_pos ho
    constructor
    · rintro ⟨T, h2, h3, h4⟩
      have h3 : T[hn]? = some cn := h3
      obtain ⟨h5, h6⟩ := List.getElem?_eq_some_iff.1 h3
      refine ⟨T, h2, h4, ?_⟩
      rw [lie_at hw1.1 h5]
      exact congrArg Nat.cast h6
    · rintro ⟨T, h2, h3, h4⟩
      have hlt : hn < T.length := by rw [h2.len]; omega
      rw [lie_at hw1.1 hlt] at h4
      refine ⟨T, h2, ?_, h3⟩
      show T[hn]? = some cn
      rw [List.getElem?_eq_getElem hlt]
      exact congrArg some (by omega)
  have hce : (canE (canF x.s x.l w (hn : Int)) == 0) = decide (fewF x.s x.l ≤ w) := by
    by_cases h : canF x.s x.l w (hn : Int) = []
    · rw [h, decide_eq_false (fun k => hsome.2 k h)]; rfl
    · rw [canE_ne h, decide_eq_true (hsome.1 h)]; rfl
  have hfalse : cond (cond (cond (canE (canF x.s x.l w (hn : Int)) != 0) (canE (canF x.s x.l w (hn : Int)) != 12) false) true ((canE (canF x.s x.l w (hn : Int)) == 0) != cond ((LeastR x.s x.l).2.2 == 0) (decide ((LeastR x.s x.l).1 ≤ (w : Int))) false)) true (cond (canE (canF x.s x.l w (hn : Int)) != 0) (decide (((ints (canF x.s x.l w (hn : Int))).length : Int) > 0)) false) = false := by
    rw [hlw, ← hce]
    cases canF x.s x.l w (hn : Int) with
    | nil => rfl
    | cons y G => rfl
  have hfin : cond (decide (placeF cell 0 (canF x.s x.l w (hn : Int)) ≥ 0) == cond ((LeastR x.s (x.l ++ List.replicate (w + 1) (⟨(hn : Int), cell, 0, true⟩ : Rep))).2.2 == 0) (decide ((LeastR x.s (x.l ++ List.replicate (w + 1) (⟨(hn : Int), cell, 0, true⟩ : Rep))).1 ≤ (w : Int))) false) true false = true := by
    rw [hlw2, hkey]; simp
  generalize placeF cell 0 (canF x.s x.l w (hn : Int)) = pv at *
  generalize canE (canF x.s x.l w (hn : Int)) = e at *
  generalize canF x.s x.l w (hn : Int) = G at *
  generalize LeastR x.s x.l = L1 at *
  have hle2 : Ans Try.prog 20 [.agg x.s.c, .sl false .any ((x.l ++ List.replicate (w + 1) (⟨(hn : Int), cell, 0, true⟩ : Rep)).map Rep.c)] (.tup [.int (LeastR x.s (x.l ++ List.replicate (w + 1) (⟨(hn : Int), cell, 0, true⟩ : Rep))).1, outW (LeastR x.s (x.l ++ List.replicate (w + 1) (⟨(hn : Int), cell, 0, true⟩ : Rep))).2.1, .int (LeastR x.s (x.l ++ List.replicate (w + 1) (⟨(hn : Int), cell, 0, true⟩ : Rep))).2.2]) := hle2
  generalize LeastR x.s (x.l ++ List.replicate (w + 1) (⟨(hn : Int), cell, 0, true⟩ : Rep)) = L2 at *
  obtain ⟨m1, t1, f1⟩ := L1
  obtain ⟨m2, t2, f2⟩ := L2
  simp only at hle hle2 hfalse hfin
  have uG : ∀ {m : Nat}, Under m (outW G) := (outW_free G).under
  refine Aw.sm tab_ok mb0 [(6, [.tup [outW G, .int e]])] rfl rfl ?zo ?zk
  case zo =>
    repeat' apply AllP.cons
    all_goals first | exact trivial | exact id | exact rfl | exact fun _ => rfl | exact Nat.le_of_ble_eq_true rfl | exact fun _ => Nat.le_of_ble_eq_true rfl | exact Int.natCast_nonneg _ | exact fun _ => Int.natCast_nonneg _ | exact within_t _ _ _ | exact (within_t _ _ _).un | exact in_t _ _ _ | exact (in_t _ _ _).un | exact gq_f | exact gq_t | exact gq_c | exact fun _ _ => rfl | exact works_t | exact fun _ => works_t | exact hcn
  case zk =>
  refine Aw.sm tab_ok mb0 [(4, [.tup [.int m1, outW t1, .int f1]])] rfl rfl ?zo ?zk
  case zo =>
    repeat' apply AllP.cons
    all_goals first | exact trivial | exact id | exact rfl | exact fun _ => rfl | exact Nat.le_of_ble_eq_true rfl | exact fun _ => Nat.le_of_ble_eq_true rfl | exact Int.natCast_nonneg _ | exact fun _ => Int.natCast_nonneg _ | exact within_t _ _ _ | exact (within_t _ _ _).un | exact in_t _ _ _ | exact (in_t _ _ _).un | exact gq_f | exact gq_t | exact gq_c | exact fun _ _ => rfl | exact works_t | exact fun _ => works_t | exact hle
  case zk =>
  refine Aw.seq ?_
  refine Aw.sm tab_ok mb0 [] rfl rfl ?zo ?zk
  case zo =>
    repeat' apply AllP.cons
    all_goals first | exact trivial | exact id | exact rfl | exact fun _ => rfl | exact Nat.le_of_ble_eq_true rfl | exact fun _ => Nat.le_of_ble_eq_true rfl | exact Int.natCast_nonneg _ | exact fun _ => Int.natCast_nonneg _ | exact within_t _ _ _ | exact (within_t _ _ _).un | exact in_t _ _ _ | exact (in_t _ _ _).un | exact gq_f | exact gq_t | exact gq_c | exact fun _ _ => rfl | exact works_t | exact fun _ => works_t
  case zk =>
  refine Aw.cond rfl (fun h => ?_) (fun _ => Aw.skip ?_)
  · have h : _ = true := hfalse.symm.trans h; cases h
  refine Aw.sm tab_ok mb0 [] rfl rfl ?zo ?zk
  case zo =>
    repeat' apply AllP.cons
    all_goals first | exact trivial | exact id | exact rfl | exact fun _ => rfl | exact Nat.le_of_ble_eq_true rfl | exact fun _ => Nat.le_of_ble_eq_true rfl | exact Int.natCast_nonneg _ | exact fun _ => Int.natCast_nonneg _ | exact within_t _ _ _ | exact (within_t _ _ _).un | exact in_t _ _ _ | exact (in_t _ _ _).un | exact gq_f | exact gq_t | exact gq_c | exact fun _ _ => rfl | exact works_t | exact fun _ => works_t | exact (show ∀ z ∈ [] ++ x.l.map Rep.c, z.length = 4 from fun z hz => rep4 x.l z (by simpa using hz)) | exact (show (0 + (x.l.map Rep.c).length) * 32 ≤ 140737488355328 by omega) | exact (show 0 + (x.l.map Rep.c).length ≤ maxLen by unfold maxLen; omega)
  case zk =>
  refine Aw.seq ?_
  refine Aw.sm tab_ok mb0 [] rfl rfl ?zo ?zk
  case zo =>
    repeat' apply AllP.cons
    all_goals first | exact trivial | exact id | exact rfl | exact fun _ => rfl | exact Nat.le_of_ble_eq_true rfl | exact fun _ => Nat.le_of_ble_eq_true rfl | exact Int.natCast_nonneg _ | exact fun _ => Int.natCast_nonneg _ | exact within_t _ _ _ | exact (within_t _ _ _).un | exact in_t _ _ _ | exact (in_t _ _ _).un | exact gq_f | exact gq_t | exact gq_c | exact fun _ _ => rfl | exact works_t | exact fun _ => works_t
  case zk =>
  refine Aw.block (Aw.rounds 0 hE [(2, .pt x.c), (5, .int w), (6, .int (hn : Int)), (7, .int cell), (8, outW G)] (fun i : Nat => [(13, .sl false (.own 52) ((x.l ++ List.replicate i (⟨(hn : Int), cell, 0, true⟩ : Rep)).map Rep.c)), (14, .int i)]) (fun i => []) (fun i => i ≤ w + 1) (fun i => w + 1 - i) 0 ?zg ⟨?zc, ?zv, ?zh, Nat.le_of_ble_eq_true rfl⟩ ?zu (fun i zhk => ?zw) (fun i zhk => ?zx) fun i hk => ?zr)
  case zg =>
    (repeat' (first | exact Nat.zero_le _ | exact Nat.le_refl _ | exact trivial | exact ux | exact uG | exact .of_eq (by rw [List.replicate_zero, List.append_nil]; rfl) | exact .sl _ _ _ fun e he y hy => by obtain ⟨r, _, rfl⟩ := List.mem_map.1 he; exact (r.free y hy).under | (refine And.intro ?_ ?_)))
  case zc =>
    (repeat' (first | (refine And.intro ?_ ?_) | exact trivial | exact A.Le.refl _ | exact rfl | exact ux | exact uG | exact .of_eq (by rw [List.replicate_zero, List.append_nil]; rfl) | exact .sl _ _ _ fun e he y hy => by obtain ⟨r, _, rfl⟩ := List.mem_map.1 he; exact (r.free y hy).under))
  case zv =>
    (repeat' (first | (refine And.intro ?_ ?_) | exact trivial | exact A.Le.refl _ | exact rfl | exact ux | exact uG | exact .of_eq (by rw [List.replicate_zero, List.append_nil]; rfl) | exact .sl _ _ _ fun e he y hy => by obtain ⟨r, _, rfl⟩ := List.mem_map.1 he; exact (r.free y hy).under))
  case zh =>
    (repeat' (first | (refine And.intro ?_ ?_) | exact trivial | exact A.Le.refl _ | exact rfl | exact ux | exact uG | exact .of_eq (by rw [List.replicate_zero, List.append_nil]; rfl) | exact .sl _ _ _ fun e he y hy => by obtain ⟨r, _, rfl⟩ := List.mem_map.1 he; exact (r.free y hy).under))
  case zu =>
    (repeat' (first | exact trivial | exact Under.s _ | exact Under.un | assumption | exact (free_ints _ _ _).under | exact Under.ref _ _ (by decide) | exact Under.ms _ _ _ (by decide) | exact Under.mp _ (by decide) | exact (Free.agg _ (by assumption)).under | exact (Free.pt _ (by assumption)).under | exact grL_under _ | exact outA_under _ | exact Nat.le_of_ble_eq_true rfl | exact (fun _ _ => rfl) | exact ux | exact uG | exact .of_eq (by rw [List.replicate_zero, List.append_nil]; rfl) | exact .sl _ _ _ fun e he y hy => by obtain ⟨r, _, rfl⟩ := List.mem_map.1 he; exact (r.free y hy).under | (refine And.intro ?_ ?_)))
  case zw =>
    (repeat' (first | exact trivial | exact Under.s _ | exact Under.un | assumption | exact (free_ints _ _ _).under | exact Under.ref _ _ (by decide) | exact Under.ms _ _ _ (by decide) | exact Under.mp _ (by decide) | exact (Free.agg _ (by assumption)).under | exact (Free.pt _ (by assumption)).under | exact grL_under _ | exact outA_under _ | exact Nat.le_of_ble_eq_true rfl | exact (fun _ _ => rfl) | exact ux | exact uG | exact .of_eq (by rw [List.replicate_zero, List.append_nil]; rfl) | exact .sl _ _ _ fun e he y hy => by obtain ⟨r, _, rfl⟩ := List.mem_map.1 he; exact (r.free y hy).under | (refine And.intro ?_ ?_)))
  case zx =>
    (repeat' (first | exact trivial | exact Under.s _ | exact Under.un | assumption | exact (free_ints _ _ _).under | exact Under.ref _ _ (by decide) | exact Under.ms _ _ _ (by decide) | exact Under.mp _ (by decide) | exact (Free.agg _ (by assumption)).under | exact (Free.pt _ (by assumption)).under | exact grL_under _ | exact outA_under _ | exact Nat.le_of_ble_eq_true rfl | exact (fun _ _ => rfl) | exact ux | exact uG | exact .of_eq (by rw [List.replicate_zero, List.append_nil]; rfl) | exact .sl _ _ _ fun e he y hy => by obtain ⟨r, _, rfl⟩ := List.mem_map.1 he; exact (r.free y hy).under | (refine And.intro ?_ ?_)))
  case zr =>
  refine Aw.seq ?_
  refine Aw.sm tab_ok mb0 [] rfl rfl ?zo ?zk
  case zo =>
    repeat' apply AllP.cons
    all_goals first | exact trivial | exact id | exact rfl | exact fun _ => rfl | exact Nat.le_of_ble_eq_true rfl | exact fun _ => Nat.le_of_ble_eq_true rfl | exact Int.natCast_nonneg _ | exact fun _ => Int.natCast_nonneg _ | exact within_t _ _ _ | exact (within_t _ _ _).un | exact in_t _ _ _ | exact (in_t _ _ _).un | exact gq_f | exact gq_t | exact gq_c | exact fun _ _ => rfl | exact works_t | exact fun _ => works_t
  case zk =>
  refine Aw.cond rfl (fun h2 => Aw.skip ?_) (fun h2 => ?_)
  · have hlt : i ≤ w := by have := of_decide_eq_true (show decide ((i : Int) ≤ (w : Int)) = true from h2); omega
    have hml : ((x.l ++ List.replicate i (⟨(hn : Int), cell, 0, true⟩ : Rep)).map Rep.c).length ≤ 24 := by simp; omega
    have hmo := rep_more x.l i (⟨(hn : Int), cell, 0, true⟩ : Rep)
    have hr4 := rep4 (x.l ++ List.replicate i (⟨(hn : Int), cell, 0, true⟩ : Rep))
    generalize (x.l ++ List.replicate i (⟨(hn : Int), cell, 0, true⟩ : Rep)).map Rep.c = M at *
    refine Aw.seq (Aw.block ?_)
    refine Aw.em tab_ok mb0 [] rfl rfl ?zo ?zk
    case zo =>
      repeat' apply AllP.cons
      all_goals first | exact trivial | exact id | exact rfl | exact fun _ => rfl | exact Nat.le_of_ble_eq_true rfl | exact fun _ => Nat.le_of_ble_eq_true rfl | exact Int.natCast_nonneg _ | exact fun _ => Int.natCast_nonneg _ | exact within_t _ _ _ | exact (within_t _ _ _).un | exact in_t _ _ _ | exact (in_t _ _ _).un | exact gq_f | exact gq_t | exact gq_c | exact fun _ _ => rfl | exact works_t | exact fun _ => works_t | exact (show ∀ z ∈ [[A.int _, _, _, _]], z.length = 4 from fun z hz => by simp at hz; subst hz; rfl) | exact hr4 | exact (show (M.length + 1) * 32 ≤ 140737488355328 by omega) | exact (show M.length + 1 ≤ maxLen by unfold maxLen; omega)
    case zk =>
    refine Aw.em tab_ok mb0 [] rfl rfl ?zo ?zk
    case zo =>
      repeat' apply AllP.cons
      all_goals first | exact trivial | exact id | exact rfl | exact fun _ => rfl | exact Nat.le_of_ble_eq_true rfl | exact fun _ => Nat.le_of_ble_eq_true rfl | exact Int.natCast_nonneg _ | exact fun _ => Int.natCast_nonneg _ | exact within_t _ _ _ | exact (within_t _ _ _).un | exact in_t _ _ _ | exact (in_t _ _ _).un | exact gq_f | exact gq_t | exact gq_c | exact fun _ _ => rfl | exact works_t | exact fun _ => works_t | exact (by simp only [Ob.of, inR]; omega)
    case zk =>
    refine ⟨i + 1, ?zg, ?zm, ⟨?zc, ?zv, ?zh, Nat.le_of_ble_eq_true rfl⟩⟩
    case zg =>
      (repeat' (first | assumption | omega | exact .of_eq (by rw [hmo]; rfl) | (refine And.intro ?_ ?_)))
    case zm =>
      (repeat' (first | omega | exact .of_eq (by rw [hmo]; rfl) | (refine And.intro ?_ ?_)))
    case zc =>
      (repeat' (first | (refine And.intro ?_ ?_) | exact trivial | exact A.Le.refl _ | exact rfl | exact .of_eq (by rw [hmo]; rfl)))
    case zv =>
      (repeat' (first | (refine And.intro ?_ ?_) | exact trivial | exact A.Le.refl _ | exact rfl | exact .of_eq (by rw [hmo]; rfl)))
    case zh =>
      (repeat' (first | (refine And.intro ?_ ?_) | exact trivial | exact A.Le.refl _ | exact rfl | exact .of_eq (by rw [hmo]; rfl)))
  have hle3 : i = w + 1 := by have := of_decide_eq_false (show decide ((i : Int) ≤ (w : Int)) = false from h2); omega
  subst hle3
  refine Aw.exit2 ?_
  refine Aw.sm tab_ok mb0 [(3, [.tup [.int m2, outW t2, .int f2]])] rfl rfl ?zo ?zk
  case zo =>
    repeat' apply AllP.cons
    all_goals first | exact trivial | exact id | exact rfl | exact fun _ => rfl | exact Nat.le_of_ble_eq_true rfl | exact fun _ => Nat.le_of_ble_eq_true rfl | exact Int.natCast_nonneg _ | exact fun _ => Int.natCast_nonneg _ | exact within_t _ _ _ | exact (within_t _ _ _).un | exact in_t _ _ _ | exact (in_t _ _ _).un | exact gq_f | exact gq_t | exact gq_c | exact fun _ _ => rfl | exact works_t | exact fun _ => works_t | exact AnsL hle2 (.cons (.refl _) (.cons (.any _ _ _) .nil)) | exact hle2
  case zk =>
  refine Aw.sm tab_ok mb0 [(2, [.int pv]), (13, [.bool true])] rfl rfl ?zo ?zk
  case zo =>
    repeat' apply AllP.cons
    all_goals first | exact trivial | exact id | exact rfl | exact fun _ => rfl | exact Nat.le_of_ble_eq_true rfl | exact fun _ => Nat.le_of_ble_eq_true rfl | exact Int.natCast_nonneg _ | exact fun _ => Int.natCast_nonneg _ | exact within_t _ _ _ | exact (within_t _ _ _).un | exact in_t _ _ _ | exact (in_t _ _ _).un | exact gq_f | exact gq_t | exact gq_c | exact fun _ _ => rfl | exact works_t | exact fun _ => works_t | exact hpl
  case zk =>
  exact Aw.ret ⟨_, .cons (.tmp _) .nil, congrArg A.bool hfin⟩
theorem reached_l (x : Srch) (a b c : Int) (hx : SrFit2 x) : Ans Try.prog 9 [.agg x.c, .agg [.int a, .int b, .int c]] (.bool true) := law_reached x hx.fit a b c
end Go.Proofs.Ytohbjneaaahpcaa

namespace Go.Proofs.Ytohbjneaaahpcaa
open Go Go.AL Go.ChangeShapes Go.WideShapes Go.ChangeAt Go.RowKit
set_option maxRecDepth 100000 in
theorem shoalReached_lifted (os : Os) (started : os.Started) (H : Type) (enc : TypeId × Value → H) :
    ReturnsInHanded {} Try.checked os 9 .any (Rows.shoalReachedSpec.pre6 enc Try.prog Try.f9 [] false) (Rows.shoalReachedSpec.post enc Try.prog Try.f9 false true false false) := by
  refine lifted2 (tb := 4) (C := Try.checked) own started (by kernel_rfl) Try.func9
    (ChangeSpec.witness6 (enc := enc) (C := Try.checked) false ⟨#[], #[.agg #[.int .i64 0, .int .i64 0, .slice none 0 0, .int .i64 0, .slice none 0 0, .int .i64 0, .slice none 0 0], .agg #[.int .i64 0, .int .i64 0, .int .i64 0]], []⟩ 8 (by kernel_rfl) (by kernel_rfl) (by kernel_rfl) (by kernel_rfl))
    laidOut ?_ rfl rfl (by kernel_rfl) uBool ?_ ?_
  · rw [Try.params9]; exact all2t (p := fun t => Try.prog.readableRec t = true ∧ t < Try.prog.types.size) t28 t55
  · intro ds hd
    rw [Try.params9] at hd
    match ds, hd with
    | [d0, d1], _ => rfl
  · intro W base args ds p hval hA hwt
    rw [Try.params9] at hA hval
    obtain ⟨v0, v1, d0, d1, p0, p1, rfl, rfl, rfl, h0, h1⟩ := trodAll_two hA
    obtain ⟨y0, q0, s0⟩ := arg_srch (φ := fun _ => none) (hval 0 28 v0 rfl rfl) h0 fun k hk => hwt k (List.mem_append.2 (.inl hk))
    obtain ⟨y1, q1⟩ := arg_3 (φ := fun _ => none) (hval 1 55 v1 rfl rfl) h1 fun k hk => hwt k (List.mem_append.2 (.inr (List.mem_append.2 (.inl hk))))
    exact ⟨_, _, vrs2 q0 q1, reached_l y0 y1.1 y1.2.1 y1.2.2 s0⟩
theorem shoalReached_holds : Rows.ShoalReachedSaid :=
  OpenClaim.holds_of_wide 9 Try.f9 rfl rfl rfl rfl rfl rfl rfl ⟨rfl, rfl, rfl, rfl, rfl⟩ rfl rfl rfl rfl rfl (by kernel_rfl) Try.func9 (by kernel_rfl)
    (of_decide_eq_true (by kernel_rfl)) (by unfold Func.isWrapper; first | (rw [if_pos (by decide +kernel)]; kernel_rfl) | (rw [if_neg (by decide +kernel)]; exact ⟨rfl, rfl⟩))
    (fun os started H enc _ => shoalReached_lifted os started H enc)
end Go.Proofs.Ytohbjneaaahpcaa

