/- ShoalMirror holds: in a mirrored sea the shoal can be in the mirrored cells, and as many reports are false. No condition. -/
import Derived.Test.YtohbjneaaahpcaaK7
set_option linter.all false
namespace Go.Proofs.Ytohbjneaaahpcaa
open Go Go.AL Go.AL.Q Go.AL.Sh
theorem Trk.hours {s : Sea} (ho : s.Ok) {T : List Nat} (h : Trk s T) : (T.length : Int) = s.hours := by have := hrs_pos ho; have := h.len; omega
end Go.Proofs.Ytohbjneaaahpcaa

namespace Go.Proofs.Ytohbjneaaahpcaa
open Go Go.AL Go.AL.Q Go.AL.Sh
structure NextIs (w : Int) (G : List Int) (casts : List Sp) (k : Nat) (p : Int × Int) : Prop where
  i : ∃ i : Nat, p.1 = i ∧ i < k ∧ p.2 = worstF w G (casts.getD i ⟨0, 0⟩)
  ge : ∀ j : Nat, j < k → p.2 ≤ worstF w G (casts.getD j ⟨0, 0⟩) ∧ ((j : Int) < p.1 → p.2 < worstF w G (casts.getD j ⟨0, 0⟩))
def lastI (l : List Int) : Int := l.getLast?.getD (-1)
structure Rd (n f : Nat) (last : Int) (m : List Int) : Prop where
  len : m.length = f
  ri : risingF n last m = true
structure ChT (fd : List Int → Bool) (n f : Nat) (l : List Int) (r : Cst) : Prop where
  t : r.1 = true → ∃ m, Rd n f (lastI l) m ∧ r.2 = l ++ m ∧ fd (l ++ m) = true ∧ ∀ m', Rd n f (lastI l) m' → fd (l ++ m') = true → Q.befF m' m = false
  f : r.1 = false → ∀ m', Rd n f (lastI l) m' → fd (l ++ m') = false
structure GoT (fd : List Int → Bool) (n f : Nat) (l : List Int) (is : List Nat) (r : Cst) : Prop where
  t : r.1 = true → ∃ i ∈ is, ∃ m, Rd n f i m ∧ r.2 = l ++ (i : Int) :: m ∧ fd (l ++ (i : Int) :: m) = true ∧ ∀ i' ∈ is, ∀ m', Rd n f i' m' → fd (l ++ (i' : Int) :: m') = true → Q.befF ((i' : Int) :: m') ((i : Int) :: m) = false
  f : r.1 = false → ∀ i' ∈ is, ∀ m', Rd n f i' m' → fd (l ++ (i' : Int) :: m') = false
structure SureIs (fd : List Int → Bool) (n : Nat) (o : List Int) : Prop where
  ri : risingF n (-1) o = true
  ok : fd o = true
  pos : 1 ≤ o.length
  first : ∀ o', o' ≠ [] → risingF n (-1) o' = true → fd o' = true → o.length < o'.length ∨ o'.length = o.length ∧ Q.befF o' o = false
end Go.Proofs.Ytohbjneaaahpcaa

namespace Go.Proofs.Ytohbjneaaahpcaa
open Go Go.AL Go.AL.Q Go.AL.Sh
end Go.Proofs.Ytohbjneaaahpcaa

namespace Go.Proofs.Ytohbjneaaahpcaa
open Go Go.AL Go.AL.Q Go.AL.Sh
theorem LeastR_no {s : Sea} {l : List Rep} (hok : s.ok = true) (hr : s.repsOk l = true) (h : ¬ fewF s l < 1048576) : LeastR s l = (0, [], 4) := by
  unfold LeastR; rw [hok, hr]; simp only [if_true]; rw [if_neg h]
theorem reps_iff {s : Sea} {l : List Rep} : s.repsOk l = true ↔ l.length ≤ 24 ∧ ∀ r ∈ l, s.repOk r = true := by
  unfold Sea.repsOk
  constructor
  · intro h; exact ⟨by have := of_decide_eq_true (ac1 h); omega, List.all_eq_true.1 (ac2 h)⟩
  · rintro ⟨h1, h2⟩
    rw [decide_eq_true (show (l.length : Int) ≤ 24 by omega)]
    exact List.all_eq_true.2 h2
theorem repOk_mk {s : Sea} {r : Rep} (h1 : 0 ≤ r.hour ∧ r.hour ≤ s.hours - 1) (h2 : 0 ≤ r.cell ∧ r.cell ≤ s.many - 1) (h3 : 0 ≤ r.far ∧ r.far ≤ 9) : s.repOk r = true := by
  unfold Sea.repOk; rw [wi_iff.2 h1, wi_iff.2 h2, wi_iff.2 h3]; rfl
end Go.Proofs.Ytohbjneaaahpcaa

namespace Go.Proofs.Ytohbjneaaahpcaa
open Go Go.AL Go.AL.Q Go.AL.Sh
theorem turn_place {w c : Int} (hw : 1 ≤ w) (hc : 0 ≤ c) : placeP w (turnF w c) = ⟨w - 1 - (placeP w c).lo, (placeP w c).hi⟩ ∧ 0 ≤ turnF w c := by
  have e1 := Int.mul_tdiv_add_tmod c w
  have e2 : c.tmod w = c % w := Int.tmod_eq_emod_of_nonneg hc
  have e3 : c.tdiv w = c / w := Int.tdiv_eq_ediv_of_nonneg hc
  have h1 := Int.emod_nonneg c (show w ≠ 0 by omega)
  have h2 := Int.emod_lt_of_pos c (show 0 < w by omega)
  have h3 : 0 ≤ c / w := Int.ediv_nonneg hc (by omega)
  unfold placeP turnF
  rw [e2, e3] at e1 ⊢
  generalize c / w = q at *
  generalize c % w = r at *
  have hq : 0 ≤ w * q := Int.mul_nonneg (by omega) h3
  have et : c - r + w - 1 - r = (w - 1 - r) + w * q := by omega
  rw [et]
  have hn : 0 ≤ (w - 1 - r) + w * q := by omega
  refine ⟨?_, hn⟩
  rw [Int.tmod_eq_emod_of_nonneg hn, Int.tdiv_eq_ediv_of_nonneg hn, Int.add_mul_emod_self_left, Int.emod_eq_of_lt (by omega) (by omega), Int.add_mul_ediv_left _ _ (by omega), Int.ediv_eq_zero_of_lt (by omega) (by omega), Int.zero_add]
theorem turn_turn {w c : Int} (hw : 1 ≤ w) (hc : 0 ≤ c) : turnF w (turnF w c) = c := by
  have h1 := turn_place hw hc
  have h2 := turn_place hw h1.2
  rw [h1.1] at h2
  have h3 : placeP w (turnF w (turnF w c)) = placeP w c := by
    rw [h2.1]
    show (⟨w - 1 - (w - 1 - (placeP w c).lo), (placeP w c).hi⟩ : Sp) = ⟨(placeP w c).lo, (placeP w c).hi⟩
    congr 1; omega
  exact place_inj hw h3
theorem turn_lt {s : Sea} (ho : s.Ok) {c : Int} (hc : 0 ≤ c ∧ c < s.many) : 0 ≤ turnF s.wide c ∧ turnF s.wide c < s.many := by
  have hw := ho.w
  have h1 := (turn_place hw.1 hc.1).2
  refine ⟨h1, ?_⟩
  have e1 := Int.mul_tdiv_add_tmod c s.wide
  have e2 : c.tmod s.wide = c % s.wide := Int.tmod_eq_emod_of_nonneg hc.1
  have e3 : c.tdiv s.wide = c / s.wide := Int.tdiv_eq_ediv_of_nonneg hc.1
  have h2 := Int.emod_nonneg c (show s.wide ≠ 0 by omega)
  have hm : s.many = s.wide * s.high := rfl
  have h4 : c / s.wide < s.high := Int.ediv_lt_of_lt_mul (by omega) (by rw [Int.mul_comm]; omega)
  have h5 : s.wide * (c / s.wide) ≤ s.wide * (s.high - 1) := Int.mul_le_mul_of_nonneg_left (by omega) (by omega)
  rw [Int.mul_sub, Int.mul_one] at h5
  unfold turnF
  rw [e2]
  rw [e2, e3] at e1
  omega
def turnN (w : Int) (c : Nat) : Nat := (turnF w c).toNat
theorem turnN_eq {w : Int} (hw : 1 ≤ w) (c : Nat) : (turnN w c : Int) = turnF w c := by
  have := (turn_place hw (Int.natCast_nonneg c)).2
  unfold turnN; omega
theorem turnN_turn {w : Int} (hw : 1 ≤ w) (c : Nat) : turnN w (turnN w c) = c := by
  have h1 := turnN_eq hw (turnN w c)
  rw [turnN_eq hw c, turn_turn hw (Int.natCast_nonneg c)] at h1
  omega
theorem turnN_lt {s : Sea} (ho : s.Ok) {c : Nat} (hc : (c : Int) < s.many) : (turnN s.wide c : Int) < s.many := by
  rw [turnN_eq ho.w.1]; exact (turn_lt ho ⟨Int.natCast_nonneg c, hc⟩).2
def landP (s : Sea) (c : Nat) : Bool := decide (placeF (turnF s.wide c) 0 s.land ≥ 0)
def landM (s : Sea) (n : Nat) : List Int := ((List.range n).filter (landP s)).map Int.ofNat
theorem landM_succ (s : Sea) (n : Nat) : landM s (n + 1) = if landP s n then landM s n ++ [(n : Int)] else landM s n := by
  unfold landM
  rw [List.range_succ, List.filter_append, List.map_append, List.filter_cons]
  cases landP s n <;> simp
def mirD (d : Sp) : Sp := ⟨-d.lo, d.hi⟩
def mirR (w : Int) (r : Rep) : Rep := ⟨r.hour, turnF w r.cell, r.far, r.there⟩
def mirS (s : Sea) : Sea := ⟨s.wide, s.high, (landM s s.many.toNat).isEmpty, landM s s.many.toNat, s.hours, (s.drift.map mirD).isEmpty, s.drift.map mirD, s.speed⟩
theorem mir_many (s : Sea) : (mirS s).many = s.many := rfl
theorem mir_ok {s : Sea} (hok : s.ok = true) : (mirS s).ok = true := by
  have ho := Sea.ok_of hok
  have hm := ho.many
  unfold Sea.ok Sea.b1 Sea.b0 at hok ⊢
  have h1 := ac1 (ac1 hok)
  have hl : ((mirS s).drift.length : Int) = s.drift.length := by show ((s.drift.map mirD).length : Int) = _; rw [List.length_map]
  have hri : risingF ((mirS s).wide * (mirS s).high) (-1) (mirS s).land = true :=
    rising_of (List.Pairwise.filter _ List.pairwise_lt_range) (fun x _ => by omega) fun x hx => by
      have := List.mem_range.1 (List.mem_filter.1 hx).1
      show (x : Int) < s.many
      omega
  have hst : (mirS s).drift.all Sea.stepOk = true := List.all_eq_true.2 fun d hd => by
    obtain ⟨e, he, rfl⟩ := List.mem_map.1 hd
    have := ho.st e he
    unfold Sea.stepOk
    rw [wi_iff.2 (show -2 ≤ (mirD e).lo ∧ (mirD e).lo ≤ 2 by show -2 ≤ -e.lo ∧ -e.lo ≤ 2; omega), wi_iff.2 (show -2 ≤ (mirD e).hi ∧ (mirD e).hi ≤ 2 from this.2)]; rfl
  rw [hri, hst, hl]
  show cond (cond (cond (cond (cond (cond (wi s.wide 1 10) (wi s.high 1 8) false) (wi s.speed 0 2) false) (wi s.hours 1 12) false) ((s.drift.length : Int) == s.hours - 1) false) true false) true false = true
  rw [h1]; rfl
theorem landM_mem {s : Sea} {c : Nat} (hc : (c : Int) < s.many) : (c : Int) ∈ landM s s.many.toNat ↔ turnF s.wide c ∈ s.land := by
  unfold landM
  have key : landP s c = true ↔ turnF s.wide c ∈ s.land := by
    unfold landP; rw [decide_eq_true_eq, ge_iff_le, placeF_nn]
  constructor
  · intro h
    obtain ⟨k, hk, e⟩ := List.mem_map.1 h
    have e : k = c := Int.ofNat_inj.1 e
    subst e
    exact key.1 (List.mem_filter.1 hk).2
  · intro h; exact List.mem_map.2 ⟨c, List.mem_filter.2 ⟨List.mem_range.2 (by omega), key.2 h⟩, rfl⟩
theorem bool_iff {a b : Bool} (h : a = true ↔ b = true) : a = b := by cases a <;> cases b <;> simp_all
theorem cells_mir {s : Sea} (ho : s.Ok) {c : Nat} (hc : (c : Int) < s.many) : c ∈ cellsL (mirS s) ↔ turnN s.wide c ∈ cellsL s := by
  have hw := ho.w.1
  have hm := ho.many
  have hlt := turnN_lt ho hc
  unfold cellsL
  rw [List.mem_filter, List.mem_filter, List.mem_range, List.mem_range]
  have e : (!isLand (mirS s).wide (mirS s).land (placeP (mirS s).wide (c : Int))) = (!isLand s.wide s.land (placeP s.wide (turnN s.wide c : Int))) := by
    congr 1
    refine bool_iff ?_
    show isLand s.wide (landM s s.many.toNat) (placeP s.wide (c : Int)) = true ↔ _
    rw [isLand_iff hw, isLand_iff hw, landM_mem hc, turnN_eq hw]
  constructor
  · rintro ⟨_, h2⟩
    exact ⟨by omega, e.symm.trans h2⟩
  · rintro ⟨_, h2⟩
    exact ⟨by show c < s.many.toNat; omega, e.trans h2⟩
theorem cells_lt {s : Sea} {c : Nat} (h : c ∈ cellsL s) : c < s.many.toNat := List.mem_range.1 (List.mem_filter.1 h).1
theorem far_mir (w : Int) (p o : Sp) : farF ⟨w - 1 - p.lo, p.hi⟩ ⟨w - 1 - o.lo, o.hi⟩ = farF p o := by
  rw [farF_eq, farF_eq]; simp only; omega
theorem stp_mir {s : Sea} (ho : s.Ok) (h a b : Nat) : stp (mirS s) h (turnN s.wide a) (turnN s.wide b) = stp s h a b := by
  have hw := ho.w.1
  have pa := (turn_place hw (Int.natCast_nonneg a)).1
  have pb := (turn_place hw (Int.natCast_nonneg b)).1
  have es : (mirS s).step h = mirD (s.step h) := by
    unfold Sea.step
    show (s.drift.map mirD).getD _ _ = _
    rw [List.getD_eq_getElem?_getD, List.getD_eq_getElem?_getD, List.getElem?_map]
    cases s.drift[(h : Int).toNat]? <;> rfl
  unfold stp Sea.steps
  rw [es]
  show cond ((⟨(placeP s.wide (turnN s.wide a : Int)).lo + -(s.step h).lo, (placeP s.wide (turnN s.wide a : Int)).hi + (s.step h).hi⟩ : Sp) == placeP s.wide (turnN s.wide b : Int)) true (decide (farF ⟨(placeP s.wide (turnN s.wide a : Int)).lo + -(s.step h).lo, (placeP s.wide (turnN s.wide a : Int)).hi + (s.step h).hi⟩ (placeP s.wide (turnN s.wide b : Int)) ≤ s.speed)) = _
  rw [turnN_eq hw, turnN_eq hw, pa, pb]
  generalize placeP s.wide (a : Int) = p
  generalize placeP s.wide (b : Int) = q
  generalize s.step h = d
  have e1 : (⟨s.wide - 1 - p.lo + -d.lo, p.hi + d.hi⟩ : Sp) = ⟨s.wide - 1 - (⟨p.lo + d.lo, p.hi + d.hi⟩ : Sp).lo, (⟨p.lo + d.lo, p.hi + d.hi⟩ : Sp).hi⟩ := by congr 1; show s.wide - 1 - p.lo + -d.lo = s.wide - 1 - (p.lo + d.lo); omega
  show cond ((⟨s.wide - 1 - p.lo + -d.lo, p.hi + d.hi⟩ : Sp) == ⟨s.wide - 1 - q.lo, q.hi⟩) true (decide (farF ⟨s.wide - 1 - p.lo + -d.lo, p.hi + d.hi⟩ ⟨s.wide - 1 - q.lo, q.hi⟩ ≤ s.speed)) = _
  rw [e1, far_mir]
  congr 1
  refine bool_iff ?_
  rw [beq_iff_eq, beq_iff_eq]
  cases q
  simp only [Sp.mk.injEq]
  omega
theorem true_mir {w : Int} (hw : 1 ≤ w) (r : Rep) (hr : 0 ≤ r.cell) (c : Nat) : isTrueF w (mirR w r) (placeP w (turnN w c : Int)) = isTrueF w r (placeP w (c : Int)) := by
  unfold isTrueF
  rw [turnN_eq hw, (turn_place hw (Int.natCast_nonneg c)).1]
  show (r.there == decide (farF (placeP w (turnF w r.cell)) _ ≤ r.far)) = _
  rw [(turn_place hw hr).1, far_mir]
theorem un_mir {s : Sea} (ho : s.Ok) {l : List Rep} (hl : ∀ r ∈ l, 0 ≤ r.cell) (h c : Nat) : unN (mirS s) (l.map (mirR s.wide)) h (turnN s.wide c) = unN s l h c := by
  unfold unN
  rw [List.countP_map]
  refine List.countP_congr fun r hr => ?_
  show falseAt s.wide h (placeP s.wide (turnN s.wide c : Int)) (mirR s.wide r) = true ↔ falseAt s.wide h (placeP s.wide (c : Int)) r = true
  unfold falseAt
  rw [true_mir ho.w.1 r (hl r hr) c]; exact Iff.rfl
theorem cost_mir {s : Sea} (ho : s.Ok) {l : List Rep} (hl : ∀ r ∈ l, 0 ≤ r.cell) : ∀ (T : List Nat) (h : Nat), costW (mirS s) (l.map (mirR s.wide)) h (T.map (turnN s.wide)) = costW s l h T
  | [], _ => rfl
  | c :: T, h => by rw [List.map_cons, costW, costW, cost_mir ho hl T, un_mir ho hl]
theorem okW_mir {s : Sea} (ho : s.Ok) : ∀ {T : List Nat} {h : Nat}, okW s h T → okW (mirS s) h (T.map (turnN s.wide))
  | [], _, _ => trivial
  | c :: T, h, ⟨k1, k2, k3⟩ => by
    have hw := ho.w.1
    have hm := ho.many
    have hc := cells_lt k1
    refine ⟨(cells_mir ho (turnN_lt ho (by omega))).2 (by rw [turnN_turn hw]; exact k1), fun d hd => ?_, okW_mir ho k3⟩
    cases T with
    | nil => cases hd
    | cons e T => cases hd; rw [stp_mir ho]; exact k2 e rfl
theorem okW_back {s : Sea} (ho : s.Ok) : ∀ {T : List Nat} {h : Nat}, okW (mirS s) h T → okW s h (T.map (turnN s.wide))
  | [], _, _ => trivial
  | c :: T, h, ⟨k1, k2, k3⟩ => by
    have hw := ho.w.1
    have hm := ho.many
    have hc : c < s.many.toNat := cells_lt (s := mirS s) k1
    refine ⟨(cells_mir ho (by omega)).1 k1, fun d hd => ?_, okW_back ho k3⟩
    cases T with
    | nil => cases hd
    | cons e T =>
      cases hd
      have := k2 e rfl
      rw [← turnN_turn hw c, ← turnN_turn hw e, stp_mir ho] at this
      exact this
theorem map_back {s : Sea} (ho : s.Ok) (T : List Nat) : (T.map (turnN s.wide)).map (turnN s.wide) = T := by
  rw [List.map_map]
  conv => rhs; rw [← List.map_id T]
  exact List.map_congr_left fun c _ => turnN_turn ho.w.1 c
theorem trk_mir {s : Sea} (ho : s.Ok) {T : List Nat} (h : Trk s T) : Trk (mirS s) (T.map (turnN s.wide)) := ⟨by rw [List.length_map]; exact h.len, okW_mir ho h.ok⟩
theorem trk_back {s : Sea} (ho : s.Ok) {T : List Nat} (h : Trk (mirS s) T) : Trk s (T.map (turnN s.wide)) := ⟨by rw [List.length_map]; exact h.len, okW_back ho h.ok⟩
theorem mir_reps {s : Sea} (hok : s.ok = true) {l : List Rep} (hr : s.repsOk l = true) : (mirS s).repsOk (l.map (mirR s.wide)) = true := by
  have ho := Sea.ok_of hok
  have hrf := reps_fit hr
  refine reps_iff.2 ⟨by rw [List.length_map]; exact (reps_iff.1 hr).1, fun r hr => ?_⟩
  obtain ⟨q, hq, rfl⟩ := List.mem_map.1 hr
  have h1 := hrf.at' q hq
  have h2 := turn_lt ho (c := q.cell) (by omega)
  exact repOk_mk h1.1 (show 0 ≤ turnF s.wide q.cell ∧ turnF s.wide q.cell ≤ s.many - 1 by omega) h1.2.2
theorem few_mir {s : Sea} (hok : s.ok = true) {l : List Rep} (hr : s.repsOk l = true) : fewF (mirS s) (l.map (mirR s.wide)) = fewF s l := by
  have ho := Sea.ok_of hok
  have hom := Sea.ok_of (mir_ok hok)
  have hl := (reps_iff.1 hr).1
  have hc : ∀ r ∈ l, 0 ≤ r.cell := fun r h => ((reps_fit hr).at' r h).2.1.1
  refine ((fewF_min hom (by rw [List.length_map]; exact hl)).congr fun n => ?_).uniq (fewF_min ho hl)
  constructor
  · rintro ⟨T, h1, h2⟩
    refine ⟨_, trk_back ho h1, ?_⟩
    rw [← h2, ← cost_mir ho hc, map_back ho]
  · rintro ⟨T, h1, h2⟩
    exact ⟨_, trk_mir ho h1, by rw [cost_mir ho hc]; exact h2⟩
theorem least_mir {s : Sea} (hok : s.ok = true) {l : List Rep} (hr : s.repsOk l = true) : (LeastR (mirS s) (l.map (mirR s.wide))).1 = (LeastR s l).1 ∧ (LeastR (mirS s) (l.map (mirR s.wide))).2.2 = (LeastR s l).2.2 := by
  have e := few_mir hok hr
  by_cases h : fewF s l < 1048576
  · rw [LeastR_ok hok hr h, LeastR_ok (mir_ok hok) (mir_reps hok hr) (by omega), e]; exact ⟨rfl, rfl⟩
  · rw [LeastR_no hok hr h, LeastR_no (mir_ok hok) (mir_reps hok hr) (by omega)]; exact ⟨rfl, rfl⟩
theorem can_mir {s : Sea} (hok : s.ok = true) {l : List Rep} (hr : s.repsOk l = true) {w hour : Int} (hw : w ≤ 24) (h0 : 0 ≤ hour) (h1 : hour < s.hours) :
    (∀ c ∈ canF s l w hour, turnF s.wide c ∈ canF (mirS s) (l.map (mirR s.wide)) w hour) ∧ ∀ c ∈ canF (mirS s) (l.map (mirR s.wide)) w hour, turnF s.wide c ∈ canF s l w hour := by
  have ho := Sea.ok_of hok
  have hom := Sea.ok_of (mir_ok hok)
  have hl := (reps_iff.1 hr).1
  have hc : ∀ r ∈ l, 0 ≤ r.cell := fun r h => ((reps_fit hr).at' r h).2.1.1
  have hlm : (l.map (mirR s.wide)).length ≤ 24 := by rw [List.length_map]; exact hl
  constructor
  · intro c hm
    obtain ⟨k, rfl⟩ := canF_nat hm
    obtain ⟨T, k1, k2, k3⟩ := (canF_mem ho hl hw h0 h1 k).1 hm
    rw [← turnN_eq ho.w.1]
    refine (canF_mem hom hlm hw h0 h1 _).2 ⟨_, trk_mir ho k1, ?_, by rw [cost_mir ho hc]; exact k3⟩
    rw [List.getElem?_map, k2]; rfl
  · intro c hm
    obtain ⟨k, rfl⟩ := canF_nat hm
    obtain ⟨T, k1, k2, k3⟩ := (canF_mem hom hlm hw h0 h1 k).1 hm
    rw [← turnN_eq ho.w.1]
    refine (canF_mem ho hl hw h0 h1 _).2 ⟨_, trk_back ho k1, ?_, by rw [← cost_mir ho hc, map_back ho]; exact k3⟩
    rw [List.getElem?_map, k2]; rfl
theorem nodup_le : ∀ {l m : List Int}, l.Nodup → (∀ x ∈ l, x ∈ m) → l.length ≤ m.length
  | [], _, _, _ => Nat.zero_le _
  | x :: l, m, hn, hs => by
    have h1 := List.nodup_cons.1 hn
    have hx := hs x (by simp)
    have ih := nodup_le (m := m.erase x) h1.2 fun y hy => (List.mem_erase_of_ne (by rintro rfl; exact h1.1 hy)).2 (hs y (by simp [hy]))
    rw [List.length_erase_of_mem hx] at ih
    have : 0 < m.length := List.length_pos_of_mem hx
    simp only [List.length_cons]; omega
theorem rising_nodup {n : Int} : ∀ {l : List Int} {p : Int}, risingF n p l = true → -1 ≤ p → p < n → l.Nodup
  | [], _, _, _, _ => List.nodup_nil
  | x :: l, p, h, h1, h2 => by
    have h3 := wi_iff.1 (ac1 (show cond (wi x (p + 1) (n - 1)) (risingF n x l) false = true from h))
    have h4 := ac2 (show cond (wi x (p + 1) (n - 1)) (risingF n x l) false = true from h)
    have h5 := (rising_in h4 (by omega) (by omega)).1
    refine List.nodup_cons.2 ⟨fun hm => ?_, rising_nodup h4 (by omega) (by omega)⟩
    have := h5 x hm; omega
theorem nodup_turn {w : Int} (hw : 1 ≤ w) : ∀ {l : List Int}, l.Nodup → (∀ c ∈ l, 0 ≤ c) → (l.map (turnF w)).Nodup
  | [], _, _ => List.nodup_nil
  | x :: l, hn, hp => by
    have h1 := List.nodup_cons.1 hn
    rw [List.map_cons]
    refine List.nodup_cons.2 ⟨fun hm => ?_, nodup_turn hw h1.2 fun c hc => hp c (by simp [hc])⟩
    obtain ⟨y, hy, e⟩ := List.mem_map.1 hm
    have e2 := congrArg (turnF w) e
    rw [turn_turn hw (hp y (by simp [hy])), turn_turn hw (hp x (by simp))] at e2
    subst e2; exact h1.1 hy
theorem can_len {s : Sea} (hok : s.ok = true) {l : List Rep} (hr : s.repsOk l = true) {w hour : Int} (hw : w ≤ 24) (h0 : 0 ≤ hour) (h1 : hour < s.hours) :
    (canF s l w hour).length = (canF (mirS s) (l.map (mirR s.wide)) w hour).length := by
  have ho := Sea.ok_of hok
  have hom := Sea.ok_of (mir_ok hok)
  have hm := ho.many
  obtain ⟨k1, k2⟩ := can_mir hok hr hw h0 h1
  have n1 := rising_nodup (canF_rising ho l w hour) (by omega) (by omega)
  have n2 := rising_nodup (canF_rising hom (l.map (mirR s.wide)) w hour) (by omega) (by rw [mir_many]; omega)
  have p1 : ∀ c ∈ canF s l w hour, 0 ≤ c := fun c hc => (canF_in ho hc).1
  have p2 : ∀ c ∈ canF (mirS s) (l.map (mirR s.wide)) w hour, 0 ≤ c := fun c hc => (canF_in hom hc).1
  have a1 := nodup_le (nodup_turn ho.w.1 n1 p1) (m := canF (mirS s) (l.map (mirR s.wide)) w hour) fun y hy => by
    obtain ⟨c, hc, rfl⟩ := List.mem_map.1 hy; exact k1 c hc
  have a2 := nodup_le (nodup_turn ho.w.1 n2 p2) (m := canF s l w hour) fun y hy => by
    obtain ⟨c, hc, rfl⟩ := List.mem_map.1 hy; exact k2 c hc
  rw [List.length_map] at a1 a2
  omega
end Go.Proofs.Ytohbjneaaahpcaa

namespace Go.Proofs.Ytohbjneaaahpcaa
open Go Go.AL Go.AL.Q Go.AL.Sh
end Go.Proofs.Ytohbjneaaahpcaa

namespace Go.Proofs.Ytohbjneaaahpcaa
open Go Go.AL Go.AL.Q Go.AL.Sh
theorem rep4 : ∀ l : List Rep, ∀ z ∈ l.map Rep.c, z.length = 4 := fun l z hz => by obtain ⟨y, _, rfl⟩ := List.mem_map.1 hz; rfl
end Go.Proofs.Ytohbjneaaahpcaa

namespace Go.Proofs.Ytohbjneaaahpcaa
open Go Go.AL Go.AL.Q Go.AL.Sh
theorem canF_l80 {s : Sea} (ho : s.Ok) (l : List Rep) (wrong hour : Int) : (canF s l wrong hour).length ≤ 80 := Nat.le_trans (goL_len _ _ _) (cellsL_len _ ho)
structure MoreIs (G A B C : List Int) (e f g h : Int) : Prop where
  e : e = canE G
  a : ∀ c ∈ A, c ∈ G
  b : ∀ c ∈ B, c ∈ G
  c : ∀ c ∈ C, c ∈ G
  f : (f = 11 ∧ A = []) ∨ f = canE A
  g : g = canE B
  h : h = canE C
  la : A.length ≤ 80
  lb : B.length ≤ 80
  lc : C.length ≤ 80
  lG : G.length ≤ 80
end Go.Proofs.Ytohbjneaaahpcaa

namespace Go.Proofs.Ytohbjneaaahpcaa
open Go Go.AL Go.AL.Q Go.AL.Sh
structure TrkIs (s : Sea) (l : List Rep) (NM : List Int) (fw : Int) (T : List Nat) (n : Int) (is : Bool) : Prop where
  r : TrackR s l (tI T) = (n, is, 0)
  c : ∀ c ∈ tI T, 0 ≤ c ∧ c ≤ 1000
  len : T.length ≤ 12
  h : is = true → n = fw → (T.length : Int) = s.hours ∧ ∀ i ∈ NM, ∃ k : Nat, i = k ∧ ∃ hk : k < l.length, lieB s.wide T l[k] = true
end Go.Proofs.Ytohbjneaaahpcaa

namespace Go.Proofs.Ytohbjneaaahpcaa
open Go Go.AL Go.AL.Q Go.AL.Sh
theorem grR_le {α : Type} {e : Nat} {f : α → List A} (l : List α) : A.Le (.sl l.isEmpty .any (l.map f)) (grR e f l).down := by
  cases l
  · exact .any _ _ _
  · exact .refl _
theorem grR_any {α : Type} {e : Nat} {f : α → List A} (l : List α) : A.Le (.sl l.isEmpty .any (l.map f)) (grR e f l) := by
  cases l
  · exact .any _ _ _
  · exact .any _ _ _
theorem grL_le {e : Nat} (l : List Int) : A.Le (outW l) (grL e l).down := by
  cases l
  · exact .any _ _ _
  · exact .refl _
def mirH (s : Sea) (a d : A) : B := .cells [.int s.wide, .int s.high, a, .int s.hours, d, .int s.speed]
theorem mirH_under {s : Sea} {a d : A} {n : Nat} (ha : Under n a) (hd : Under n d) : UnderB n (mirH s a d) := .cells _ (allC (.s _) (allC (.s _) (allC ha (allC (.s _) (allC hd (all1 (.s _)))))))
theorem take_map {α β : Type} (f : α → β) {l : List α} {k : Nat} (h : k < l.length) : (l.take (k + 1)).map f = (l.take k).map f ++ [f l[k]] := by
  rw [List.take_succ_eq_append_getElem h, List.map_append]; rfl
theorem sp2 : ∀ l : List Sp, ∀ z ∈ l.map Sp.c, z.length = 2 := fun l z hz => by obtain ⟨y, _, rfl⟩ := List.mem_map.1 hz; rfl
theorem grR_snoc {α : Type} (e : Nat) (f : α → List A) (x y : α) (l : List α) : grR e f ((x :: l) ++ [y]) = .sl false (.own e) ((x :: l).map f ++ [f y]) := by
  show A.sl false (.own e) (((x :: l) ++ [y]).map f) = _
  rw [List.map_append]; rfl
theorem grL_snoc (e : Nat) (x y : Int) (l : List Int) : grL e ((x :: l) ++ [y]) = .sl false (.own e) (ints (x :: l) ++ [[.int y]]) := by
  show A.sl false (.own e) (ints ((x :: l) ++ [y])) = _
  simp [ints]
set_option maxRecDepth 20000 in
set_option maxHeartbeats 4000000 in
theorem law_mirror (x : Srch) (hx : SrFit x) (a b : Int) : Ans Try.prog 14 [.agg x.c, .agg [.int a, .int b]] (.bool true) := by
  have hso := sound_t x hx
  have ux : ∀ {m : Nat}, Under m (A.pt x.c) := (Free.pt _ x.free).under
  have un : ∀ {m : Nat}, Under m (A.pt [.int a, .int b]) := (Free.pt _ (allC (.s _) (all1 (.s _)))).under
  refine told Try.func14 rfl rfl (Pure.of tab_ok Try.func14 rfl Try.ntmps14 rfl (allC (.agg _ x.free) (all1 (.agg _ (allC (.s _) (all1 (.s _)))))) (allC (fun _ => rfl) (all1 (fun _ => rfl))) (by first | exact .s _ | assumption | exact .tup _ (by intro x hx; simp only [List.mem_cons, List.not_mem_nil, or_false] at hx; rcases hx with rfl | rfl | rfl | rfl <;> first | exact .s _ | (simp_all; done))) fun E hE => ?_)
  have h1E : ∀ id, 1 ≤ id → E.φ0 id = none := fun id h => hE id (by omega)
  refine Aw.sm tab_ok mb0 [] rfl rfl ?zo ?zk
  case zo =>
    repeat' apply AllP.cons
    all_goals first | exact trivial
  case zk =>
  refine Aw.seq ?_
  cases hsb : soundB x with
  | false =>
    rw [hsb] at hso
    refine Aw.sm tab_ok mb0 [(1, [.bool false])] rfl rfl ?zo ?zk
    case zo =>
      repeat' apply AllP.cons
      all_goals first | exact trivial | exact Nat.le_of_ble_eq_true rfl | exact hso
    case zk =>
    refine Aw.cond rfl (fun _ => ?_) (fun h => absurd h (by decide))
    refine Aw.sm tab_ok mb0 [(0, [.bool true])] rfl rfl ?zo ?zk
    case zo =>
      repeat' apply AllP.cons
      all_goals first | exact trivial | exact works_t
    case zk =>
    exact Aw.ret ⟨_, .cons (.tmp _) .nil, rfl⟩
  | true =>
  rw [hsb] at hso
  obtain ⟨hok, hr⟩ := sound_iff.1 hsb
  have ho := Sea.ok_of hok
  have hrf := reps_fit hr
  have hhr := ho.hr
  have hm := ho.many
  have hmm : x.s.wide * x.s.high = x.s.many := rfl
  have hw := ho.w
  have hdl := ho.dl
  have ll : (x.l.map Rep.c).length = x.l.length := by simp
  have hl24 : x.l.length ≤ 24 := by have := hrf.len; omega
  refine Aw.sm tab_ok mb0 [(1, [.bool true])] rfl rfl ?zo ?zk
  case zo =>
    repeat' apply AllP.cons
    all_goals first | exact trivial | exact Nat.le_of_ble_eq_true rfl | exact hso
  case zk =>
  refine Aw.cond rfl (fun h => absurd h (by decide)) (fun _ => Aw.skip ?_)
  refine Aw.sm tab_ok mb0 [] rfl rfl ?zo ?zk
  case zo =>
    repeat' apply AllP.cons
    all_goals first | exact trivial | exact rfl | exact Nat.le_of_ble_eq_true rfl
  case zk =>
  refine Aw.sm tab_ok mb0 [] rfl rfl ?zo ?zk
  case zo =>
    repeat' apply AllP.cons
    all_goals first | exact trivial | exact rfl | exact Nat.le_of_ble_eq_true rfl
  case zk =>
  refine Aw.seq ?_
  refine Aw.sm tab_ok mb0 [] rfl rfl ?zo ?zk
  case zo =>
    repeat' apply AllP.cons
    all_goals first | exact trivial
  case zk =>
  have um0 : ∀ c : Nat, UnderB 1 (mirH x.s (grL 3 (landM x.s c)) (.sl true .exact [])) := fun c => mirH_under (grL_under _) (.sl _ _ _ fun _ h => nomatch h)
  refine Aw.block (Aw.rounds 1 h1E [(2, .pt x.c), (3, .pt [.int a, .int b]), (5, .ref 0 0)] (fun c : Nat => [(6, .int c)]) (fun c => [(0, mirH x.s (grL 3 (landM x.s c)) (.sl true .exact []))]) (fun c => c ≤ x.s.many.toNat) (fun c => x.s.many.toNat - c) 0 ?zg ⟨?zc, ?zv, ?zh, Nat.le_of_ble_eq_true rfl⟩ ?zu (fun c zhk => ?zw) (fun c zhk => ?zx) fun c hk => ?zr)
  case zg =>
    (repeat' (first | exact Nat.zero_le _ | exact Nat.le_refl _ | exact trivial | exact ux | exact un | exact um0 _ | exact Nat.le_of_ble_eq_true rfl | (refine And.intro ?_ ?_)))
  case zc =>
    (repeat' (first | (refine And.intro ?_ ?_) | exact trivial | exact A.Le.refl _ | exact rfl | exact ux | exact un | exact um0 _ | exact Nat.le_of_ble_eq_true rfl))
  case zv =>
    (repeat' (first | (refine And.intro ?_ ?_) | exact trivial | exact A.Le.refl _ | exact rfl | exact ux | exact un | exact um0 _ | exact Nat.le_of_ble_eq_true rfl))
  case zh =>
    (repeat' (first | (refine And.intro ?_ ?_) | exact trivial | exact A.Le.refl _ | exact rfl | exact ux | exact un | exact um0 _ | exact Nat.le_of_ble_eq_true rfl))
  case zu =>
    (repeat' (first | exact trivial | exact Under.s _ | exact Under.un | assumption | exact (free_ints _ _ _).under | exact Under.ref _ _ (by decide) | exact Under.ms _ _ _ (by decide) | exact Under.mp _ (by decide) | exact (Free.agg _ (by assumption)).under | exact (Free.pt _ (by assumption)).under | exact grL_under _ | exact outA_under _ | exact Nat.le_of_ble_eq_true rfl | exact (fun _ _ => rfl) | exact ux | exact un | exact um0 _ | (refine And.intro ?_ ?_)))
  case zw =>
    (repeat' (first | exact trivial | exact Under.s _ | exact Under.un | assumption | exact (free_ints _ _ _).under | exact Under.ref _ _ (by decide) | exact Under.ms _ _ _ (by decide) | exact Under.mp _ (by decide) | exact (Free.agg _ (by assumption)).under | exact (Free.pt _ (by assumption)).under | exact grL_under _ | exact outA_under _ | exact Nat.le_of_ble_eq_true rfl | exact (fun _ _ => rfl) | exact ux | exact un | exact um0 _ | (refine And.intro ?_ ?_)))
  case zx =>
    (repeat' (first | exact trivial | exact Under.s _ | exact Under.un | assumption | exact (free_ints _ _ _).under | exact Under.ref _ _ (by decide) | exact Under.ms _ _ _ (by decide) | exact Under.mp _ (by decide) | exact (Free.agg _ (by assumption)).under | exact (Free.pt _ (by assumption)).under | exact grL_under _ | exact outA_under _ | exact Nat.le_of_ble_eq_true rfl | exact (fun _ _ => rfl) | exact ux | exact un | exact um0 _ | (refine And.intro ?_ ?_)))
  case zr =>
  refine Aw.seq ?_
  refine Aw.sm tab_ok mb0 [] rfl rfl ?zo ?zk
  case zo =>
    repeat' apply AllP.cons
    all_goals first | exact trivial | exact Nat.le_of_ble_eq_true rfl | exact (by simp only [Ob.of, inR]; omega)
  case zk =>
  refine Aw.cond rfl (fun h2 => Aw.skip ?_) (fun h2 => ?_)
  · have hlt : (c : Int) < x.s.many := of_decide_eq_true h2
    have htu := turned_t x.s ho c (by omega)
    have hpl := place_t x.s.land x.s.ln (turnF x.s.wide c) hx.s.l
    have hsu := landM_succ x.s c
    have hlp : landP x.s c = decide (placeF (turnF x.s.wide c) 0 x.s.land ≥ 0) := rfl
    have hll : (landM x.s c).length ≤ c := by unfold landM; rw [List.length_map]; exact Nat.le_trans (List.length_filter_le _ _) (by simp)
    generalize placeF (turnF x.s.wide c) 0 x.s.land = pv at *
    generalize turnF x.s.wide (c : Int) = tc at *
    refine Aw.seq (Aw.block ?_)
    refine Aw.sd tab_ok mixed mb0 [(6, [.int tc]), (7, [.int pv])] rfl (by kernel_rfl) rfl rfl ?zo ?zk
    case zo =>
      repeat' apply AllP.cons
      all_goals first | exact trivial | exact Nat.le_of_ble_eq_true rfl | exact htu | exact hpl
    case zk =>
    refine Aw.cond rfl (fun h3 => ?_) (fun h3 => Aw.skip ?_)
    · have h3 : decide (pv ≥ 0) = true := h3
      rw [hlp, h3, if_pos rfl] at hsu
      generalize landM x.s c = M at *
      cases M with
      | nil =>
        refine Aw.em tab_ok mb0 [(1, [])] rfl rfl ?zo ?zk
        case zo =>
          repeat' apply AllP.cons
          all_goals first | exact trivial | exact rfl | exact Nat.le_of_ble_eq_true rfl | exact (show ∀ z ∈ [] ++ [[A.int _]], z.length = 1 from fun z hz => by simp at hz; subst hz; rfl)
        case zk =>
        refine Aw.em tab_ok mb0 [] rfl rfl ?zo ?zk
        case zo =>
          repeat' apply AllP.cons
          all_goals first | exact trivial | exact (by simp only [Ob.of, inR]; omega)
        case zk =>
        refine ⟨c + 1, ?zg, ?zm, ⟨?zc, ?zv, ?zh, Nat.le_of_ble_eq_true rfl⟩⟩
        case zg =>
          (repeat' (first | assumption | omega | exact (by rw [hsu]; rfl) | (refine And.intro ?_ ?_)))
        case zm =>
          (repeat' (first | omega | exact (by rw [hsu]; rfl) | (refine And.intro ?_ ?_)))
        case zc =>
          (repeat' (first | (refine And.intro ?_ ?_) | exact trivial | exact A.Le.refl _ | exact rfl | exact (by rw [hsu]; rfl)))
        case zv =>
          (repeat' (first | (refine And.intro ?_ ?_) | exact trivial | exact A.Le.refl _ | exact rfl | exact (by rw [hsu]; rfl)))
        case zh =>
          (repeat' (first | (refine And.intro ?_ ?_) | exact trivial | exact A.Le.refl _ | exact rfl | exact (by rw [hsu]; rfl)))
      | cons y M =>
        have hz : ∀ z ∈ ints (y :: M), z.length = 1 := fun z hz => by obtain ⟨i, _, rfl⟩ := List.mem_map.1 hz; rfl
        have hl2 : (ints (y :: M)).length ≤ c := by simp only [ints, List.length_map]; exact hll
        refine Aw.em tab_ok mb0 [(1, [])] rfl rfl ?zo ?zk
        case zo =>
          repeat' apply AllP.cons
          all_goals first | exact trivial | exact rfl | exact Nat.le_of_ble_eq_true rfl | exact (show ∀ z ∈ [[A.int _]], z.length = 1 from fun z hz => by simp at hz; subst hz; rfl) | exact hz | exact (show ((ints (y :: M)).length + 1) * 8 ≤ 140737488355328 by omega) | exact (show (ints (y :: M)).length + 1 ≤ maxLen by unfold maxLen; omega)
        case zk =>
        refine Aw.em tab_ok mb0 [] rfl rfl ?zo ?zk
        case zo =>
          repeat' apply AllP.cons
          all_goals first | exact trivial | exact (by simp only [Ob.of, inR]; omega)
        case zk =>
        refine ⟨c + 1, ?zg, ?zm, ⟨?zc, ?zv, ?zh, Nat.le_of_ble_eq_true rfl⟩⟩
        case zg =>
          (repeat' (first | assumption | omega | exact (by rw [hsu, grL_snoc]; rfl) | (refine And.intro ?_ ?_)))
        case zm =>
          (repeat' (first | omega | exact (by rw [hsu, grL_snoc]; rfl) | (refine And.intro ?_ ?_)))
        case zc =>
          (repeat' (first | (refine And.intro ?_ ?_) | exact trivial | exact A.Le.refl _ | exact rfl | exact (by rw [hsu, grL_snoc]; rfl)))
        case zv =>
          (repeat' (first | (refine And.intro ?_ ?_) | exact trivial | exact A.Le.refl _ | exact rfl | exact (by rw [hsu, grL_snoc]; rfl)))
        case zh =>
          (repeat' (first | (refine And.intro ?_ ?_) | exact trivial | exact A.Le.refl _ | exact rfl | exact (by rw [hsu, grL_snoc]; rfl)))
    · have h3 : decide (pv ≥ 0) = false := h3
      rw [hlp, h3, if_neg (by decide)] at hsu
      refine Aw.em tab_ok mb0 [] rfl rfl ?zo ?zk
      case zo =>
        repeat' apply AllP.cons
        all_goals first | exact trivial | exact (by simp only [Ob.of, inR]; omega)
      case zk =>
      refine ⟨c + 1, ?zg, ?zm, ⟨?zc, ?zv, ?zh, Nat.le_of_ble_eq_true rfl⟩⟩
      case zg =>
        (repeat' (first | assumption | omega | exact (by rw [hsu]; rfl) | (refine And.intro ?_ ?_)))
      case zm =>
        (repeat' (first | omega | exact (by rw [hsu]; rfl) | (refine And.intro ?_ ?_)))
      case zc =>
        (repeat' (first | (refine And.intro ?_ ?_) | exact trivial | exact A.Le.refl _ | exact rfl | exact (by rw [hsu]; rfl)))
      case zv =>
        (repeat' (first | (refine And.intro ?_ ?_) | exact trivial | exact A.Le.refl _ | exact rfl | exact (by rw [hsu]; rfl)))
      case zh =>
        (repeat' (first | (refine And.intro ?_ ?_) | exact trivial | exact A.Le.refl _ | exact rfl | exact (by rw [hsu]; rfl)))
  have hce : c = x.s.many.toNat := by have := of_decide_eq_false (show decide ((c : Int) < x.s.many) = false from h2); omega
  subst hce
  refine Aw.exit2 ?_
  have uL : ∀ {m : Nat}, Under m (grL 3 (landM x.s x.s.many.toNat)) := grL_under _
  have hgl := grL_le (e := 3) (landM x.s x.s.many.toNat)
  have hmL : (mirS x.s).land = landM x.s x.s.many.toNat := rfl
  refine Aw.seq ?_
  refine Aw.sm tab_ok mb0 [] rfl rfl ?zo ?zk
  case zo =>
    repeat' apply AllP.cons
    all_goals first | exact trivial
  case zk =>
  refine Aw.block (Aw.rounds 1 h1E [(2, .pt x.c), (3, .pt [.int a, .int b]), (5, .ref 0 0)] (fun k : Nat => [(7, .int k)]) (fun k => [(0, mirH x.s (grL 3 (landM x.s x.s.many.toNat)) (grR 70 Sp.c ((x.s.drift.take k).map mirD)))]) (fun k => k ≤ x.s.drift.length) (fun k => x.s.drift.length - k) 0 ?zg ⟨?zc, ?zv, ?zh, Nat.le_of_ble_eq_true rfl⟩ ?zu (fun k zhk => ?zw) (fun k zhk => ?zx) fun k hk => ?zr)
  case zg =>
    (repeat' (first | exact Nat.zero_le _ | exact Nat.le_refl _ | exact trivial | exact ux | exact un | exact (mirH_under uL (grR_under Sp.free _)) | exact Nat.le_of_ble_eq_true rfl | (refine And.intro ?_ ?_)))
  case zc =>
    (repeat' (first | (refine And.intro ?_ ?_) | exact trivial | exact A.Le.refl _ | exact rfl | exact ux | exact un | exact (mirH_under uL (grR_under Sp.free _)) | exact Nat.le_of_ble_eq_true rfl))
  case zv =>
    (repeat' (first | (refine And.intro ?_ ?_) | exact trivial | exact A.Le.refl _ | exact rfl | exact ux | exact un | exact (mirH_under uL (grR_under Sp.free _)) | exact Nat.le_of_ble_eq_true rfl))
  case zh =>
    (repeat' (first | (refine And.intro ?_ ?_) | exact trivial | exact A.Le.refl _ | exact rfl | exact ux | exact un | exact (mirH_under uL (grR_under Sp.free _)) | exact Nat.le_of_ble_eq_true rfl))
  case zu =>
    (repeat' (first | exact trivial | exact Under.s _ | exact Under.un | assumption | exact (free_ints _ _ _).under | exact Under.ref _ _ (by decide) | exact Under.ms _ _ _ (by decide) | exact Under.mp _ (by decide) | exact (Free.agg _ (by assumption)).under | exact (Free.pt _ (by assumption)).under | exact grL_under _ | exact outA_under _ | exact Nat.le_of_ble_eq_true rfl | exact (fun _ _ => rfl) | exact ux | exact un | exact (mirH_under uL (grR_under Sp.free _)) | (refine And.intro ?_ ?_)))
  case zw =>
    (repeat' (first | exact trivial | exact Under.s _ | exact Under.un | assumption | exact (free_ints _ _ _).under | exact Under.ref _ _ (by decide) | exact Under.ms _ _ _ (by decide) | exact Under.mp _ (by decide) | exact (Free.agg _ (by assumption)).under | exact (Free.pt _ (by assumption)).under | exact grL_under _ | exact outA_under _ | exact Nat.le_of_ble_eq_true rfl | exact (fun _ _ => rfl) | exact ux | exact un | exact (mirH_under uL (grR_under Sp.free _)) | (refine And.intro ?_ ?_)))
  case zx =>
    (repeat' (first | exact trivial | exact Under.s _ | exact Under.un | assumption | exact (free_ints _ _ _).under | exact Under.ref _ _ (by decide) | exact Under.ms _ _ _ (by decide) | exact Under.mp _ (by decide) | exact (Free.agg _ (by assumption)).under | exact (Free.pt _ (by assumption)).under | exact grL_under _ | exact outA_under _ | exact Nat.le_of_ble_eq_true rfl | exact (fun _ _ => rfl) | exact ux | exact un | exact (mirH_under uL (grR_under Sp.free _)) | (refine And.intro ?_ ?_)))
  case zr =>
  refine Aw.seq ?_
  refine Aw.sm tab_ok mb0 [] rfl rfl ?zo ?zk
  case zo =>
    repeat' apply AllP.cons
    all_goals first | exact trivial | exact Nat.le_of_ble_eq_true rfl
  case zk =>
  refine Aw.cond rfl (fun h3 => Aw.skip ?_) (fun h3 => ?_)
  · have hlt : k < x.s.drift.length := by have := of_decide_eq_true (show decide ((k : Int) < ((x.s.drift.map Sp.c).length : Int)) = true from h3); simp at this; omega
    have hget := get_map (f := Sp.c) hlt
    have hst := ho.st _ (List.getElem_mem hlt)
    have htk := take_map mirD hlt
    have hlm : ((x.s.drift.take k).map mirD).length ≤ 12 := by simp; omega
    generalize x.s.drift[k] = d at *
    generalize (x.s.drift.take k).map mirD = M at *
    refine Aw.seq (Aw.block ?_)
    cases M with
    | nil =>
      refine Aw.ed tab_ok mixed mb0 [(1, []), (6, d.c), (14, d.c)] rfl (by kernel_rfl) rfl rfl ?zo ?zk
      case zo =>
        repeat' apply AllP.cons
        all_goals first | exact trivial | exact rfl | exact Nat.le_of_ble_eq_true rfl | exact Int.natCast_nonneg _ | exact hget | exact (show ∀ z ∈ [] ++ [[A.int _, _]], z.length = 2 from fun z hz => by simp at hz; subst hz; rfl) | exact (by simp only [Ob.of, inR]; omega)
      case zk =>
      refine Aw.em tab_ok mb0 [] rfl rfl ?zo ?zk
      case zo =>
        repeat' apply AllP.cons
        all_goals first | exact trivial | exact (by simp only [Ob.of, inR]; omega)
      case zk =>
      refine ⟨k + 1, ?zg, ?zm, ⟨?zc, ?zv, ?zh, Nat.le_of_ble_eq_true rfl⟩⟩
      case zg =>
        (repeat' (first | assumption | omega | exact (by rw [htk]; rfl) | (refine And.intro ?_ ?_)))
      case zm =>
        (repeat' (first | omega | exact (by rw [htk]; rfl) | (refine And.intro ?_ ?_)))
      case zc =>
        (repeat' (first | (refine And.intro ?_ ?_) | exact trivial | exact A.Le.refl _ | exact rfl | exact (by rw [htk]; rfl)))
      case zv =>
        (repeat' (first | (refine And.intro ?_ ?_) | exact trivial | exact A.Le.refl _ | exact rfl | exact (by rw [htk]; rfl)))
      case zh =>
        (repeat' (first | (refine And.intro ?_ ?_) | exact trivial | exact A.Le.refl _ | exact rfl | exact (by rw [htk]; rfl)))
    | cons y M =>
      have hl2 : ((y :: M).map Sp.c).length ≤ 12 := by rw [List.length_map]; exact hlm
      refine Aw.ed tab_ok mixed mb0 [(1, []), (6, d.c), (14, d.c)] rfl (by kernel_rfl) rfl rfl ?zo ?zk
      case zo =>
        repeat' apply AllP.cons
        all_goals first | exact trivial | exact rfl | exact Nat.le_of_ble_eq_true rfl | exact Int.natCast_nonneg _ | exact hget | exact (show ∀ z ∈ [[A.int _, _]], z.length = 2 from fun z hz => by simp at hz; subst hz; rfl) | exact sp2 (y :: M) | exact (show (((y :: M).map Sp.c).length + 1) * 16 ≤ 140737488355328 by omega) | exact (show ((y :: M).map Sp.c).length + 1 ≤ maxLen by unfold maxLen; omega) | exact (by simp only [Ob.of, inR]; omega)
      case zk =>
      refine Aw.em tab_ok mb0 [] rfl rfl ?zo ?zk
      case zo =>
        repeat' apply AllP.cons
        all_goals first | exact trivial | exact (by simp only [Ob.of, inR]; omega)
      case zk =>
      refine ⟨k + 1, ?zg, ?zm, ⟨?zc, ?zv, ?zh, Nat.le_of_ble_eq_true rfl⟩⟩
      case zg =>
        (repeat' (first | assumption | omega | exact (by rw [htk, grR_snoc]; rfl) | (refine And.intro ?_ ?_)))
      case zm =>
        (repeat' (first | omega | exact (by rw [htk, grR_snoc]; rfl) | (refine And.intro ?_ ?_)))
      case zc =>
        (repeat' (first | (refine And.intro ?_ ?_) | exact trivial | exact A.Le.refl _ | exact rfl | exact (by rw [htk, grR_snoc]; rfl)))
      case zv =>
        (repeat' (first | (refine And.intro ?_ ?_) | exact trivial | exact A.Le.refl _ | exact rfl | exact (by rw [htk, grR_snoc]; rfl)))
      case zh =>
        (repeat' (first | (refine And.intro ?_ ?_) | exact trivial | exact A.Le.refl _ | exact rfl | exact (by rw [htk, grR_snoc]; rfl)))
  have hke : k = x.s.drift.length := by have := of_decide_eq_false (show decide ((k : Int) < ((x.s.drift.map Sp.c).length : Int)) = false from h3); simp at this; omega
  subst hke
  refine Aw.exit2 ?_
  rw [List.take_length]
  have uD : ∀ {m : Nat}, Under m (grR 70 Sp.c (x.s.drift.map mirD)) := grR_under Sp.free _
  have hgd := grR_le (e := 70) (f := Sp.c) (x.s.drift.map mirD)
  refine Aw.sm tab_ok mb0 [] rfl rfl ?zo ?zk
  case zo =>
    repeat' apply AllP.cons
    all_goals first | exact trivial
  case zk =>
  refine Aw.seq ?_
  refine Aw.sm tab_ok mb0 [] rfl rfl ?zo ?zk
  case zo =>
    repeat' apply AllP.cons
    all_goals first | exact trivial
  case zk =>
  refine Aw.block (Aw.rounds 1 h1E [(2, .pt x.c), (3, .pt [.int a, .int b]), (5, .ref 0 0)] (fun k : Nat => [(8, grR 52 Rep.c ((x.l.take k).map (mirR x.s.wide))), (9, .int k)]) (fun k => [(0, mirH x.s (grL 3 (landM x.s x.s.many.toNat)) (grR 70 Sp.c (x.s.drift.map mirD)))]) (fun k => k ≤ x.l.length) (fun k => x.l.length - k) 0 ?zg ⟨?zc, ?zv, ?zh, Nat.le_of_ble_eq_true rfl⟩ ?zu (fun k zhk => ?zw) (fun k zhk => ?zx) fun k hk => ?zr)
  case zg =>
    (repeat' (first | exact Nat.zero_le _ | exact Nat.le_refl _ | exact trivial | exact ux | exact un | exact (mirH_under uL uD) | exact grR_under Rep.free _ | exact Nat.le_of_ble_eq_true rfl | (refine And.intro ?_ ?_)))
  case zc =>
    (repeat' (first | (refine And.intro ?_ ?_) | exact trivial | exact A.Le.refl _ | exact rfl | exact ux | exact un | exact (mirH_under uL uD) | exact grR_under Rep.free _ | exact Nat.le_of_ble_eq_true rfl))
  case zv =>
    (repeat' (first | (refine And.intro ?_ ?_) | exact trivial | exact A.Le.refl _ | exact rfl | exact ux | exact un | exact (mirH_under uL uD) | exact grR_under Rep.free _ | exact Nat.le_of_ble_eq_true rfl))
  case zh =>
    (repeat' (first | (refine And.intro ?_ ?_) | exact trivial | exact A.Le.refl _ | exact rfl | exact ux | exact un | exact (mirH_under uL uD) | exact grR_under Rep.free _ | exact Nat.le_of_ble_eq_true rfl))
  case zu =>
    (repeat' (first | exact trivial | exact Under.s _ | exact Under.un | assumption | exact (free_ints _ _ _).under | exact Under.ref _ _ (by decide) | exact Under.ms _ _ _ (by decide) | exact Under.mp _ (by decide) | exact (Free.agg _ (by assumption)).under | exact (Free.pt _ (by assumption)).under | exact grL_under _ | exact outA_under _ | exact Nat.le_of_ble_eq_true rfl | exact (fun _ _ => rfl) | exact ux | exact un | exact (mirH_under uL uD) | exact grR_under Rep.free _ | (refine And.intro ?_ ?_)))
  case zw =>
    (repeat' (first | exact trivial | exact Under.s _ | exact Under.un | assumption | exact (free_ints _ _ _).under | exact Under.ref _ _ (by decide) | exact Under.ms _ _ _ (by decide) | exact Under.mp _ (by decide) | exact (Free.agg _ (by assumption)).under | exact (Free.pt _ (by assumption)).under | exact grL_under _ | exact outA_under _ | exact Nat.le_of_ble_eq_true rfl | exact (fun _ _ => rfl) | exact ux | exact un | exact (mirH_under uL uD) | exact grR_under Rep.free _ | (refine And.intro ?_ ?_)))
  case zx =>
    (repeat' (first | exact trivial | exact Under.s _ | exact Under.un | assumption | exact (free_ints _ _ _).under | exact Under.ref _ _ (by decide) | exact Under.ms _ _ _ (by decide) | exact Under.mp _ (by decide) | exact (Free.agg _ (by assumption)).under | exact (Free.pt _ (by assumption)).under | exact grL_under _ | exact outA_under _ | exact Nat.le_of_ble_eq_true rfl | exact (fun _ _ => rfl) | exact ux | exact un | exact (mirH_under uL uD) | exact grR_under Rep.free _ | (refine And.intro ?_ ?_)))
  case zr =>
  refine Aw.seq ?_
  refine Aw.sm tab_ok mb0 [] rfl rfl ?zo ?zk
  case zo =>
    repeat' apply AllP.cons
    all_goals first | exact trivial | exact Nat.le_of_ble_eq_true rfl
  case zk =>
  refine Aw.cond rfl (fun h4 => Aw.skip ?_) (fun h4 => ?_)
  · have hlt : k < x.l.length := by have := of_decide_eq_true (show decide ((k : Int) < ((x.l.map Rep.c).length : Int)) = true from h4); omega
    have hget := get_map (f := Rep.c) hlt
    have hin := hrf.at' _ (List.getElem_mem hlt)
    have htk := take_map (mirR x.s.wide) hlt
    have hlm : ((x.l.take k).map (mirR x.s.wide)).length ≤ 24 := by simp; omega
    have htu := turned_t x.s ho x.l[k].cell (by omega)
    have hmr : mirR x.s.wide x.l[k] = ⟨x.l[k].hour, turnF x.s.wide x.l[k].cell, x.l[k].far, x.l[k].there⟩ := rfl
    generalize x.l[k] = r at *
    generalize turnF x.s.wide r.cell = tc at *
    generalize (x.l.take k).map (mirR x.s.wide) = M at *
    refine Aw.seq (Aw.block ?_)
    refine Aw.sm tab_ok mb0 [(3, r.c)] rfl rfl ?zo ?zk
    case zo =>
      repeat' apply AllP.cons
      all_goals first | exact trivial | exact rfl | exact Nat.le_of_ble_eq_true rfl | exact Int.natCast_nonneg _ | exact hget
    case zk =>
    refine Aw.sm tab_ok mb0 [(4, [.int tc])] rfl rfl ?zo ?zk
    case zo =>
      repeat' apply AllP.cons
      all_goals first | exact trivial | exact rfl | exact Nat.le_of_ble_eq_true rfl | exact htu
    case zk =>
    cases M with
    | nil =>
      refine Aw.em tab_ok mb0 [] rfl rfl ?zo ?zk
      case zo =>
        repeat' apply AllP.cons
        all_goals first | exact trivial | exact Nat.le_of_ble_eq_true rfl | exact (show ∀ z ∈ [] ++ [[A.int _, _, _, _]], z.length = 4 from fun z hz => by simp at hz; subst hz; rfl)
      case zk =>
      refine Aw.em tab_ok mb0 [] rfl rfl ?zo ?zk
      case zo =>
        repeat' apply AllP.cons
        all_goals first | exact trivial | exact (by simp only [Ob.of, inR]; omega)
      case zk =>
      refine ⟨k + 1, ?zg, ?zm, ⟨?zc, ?zv, ?zh, Nat.le_of_ble_eq_true rfl⟩⟩
      case zg =>
        (repeat' (first | assumption | omega | exact .of_eq (by rw [htk, hmr]; rfl) | (refine And.intro ?_ ?_)))
      case zm =>
        (repeat' (first | omega | exact .of_eq (by rw [htk, hmr]; rfl) | (refine And.intro ?_ ?_)))
      case zc =>
        (repeat' (first | (refine And.intro ?_ ?_) | exact trivial | exact A.Le.refl _ | exact rfl | exact .of_eq (by rw [htk, hmr]; rfl)))
      case zv =>
        (repeat' (first | (refine And.intro ?_ ?_) | exact trivial | exact A.Le.refl _ | exact rfl | exact .of_eq (by rw [htk, hmr]; rfl)))
      case zh =>
        (repeat' (first | (refine And.intro ?_ ?_) | exact trivial | exact A.Le.refl _ | exact rfl | exact .of_eq (by rw [htk, hmr]; rfl)))
    | cons y M =>
      have hl2 : ((y :: M).map Rep.c).length ≤ 24 := by rw [List.length_map]; exact hlm
      refine Aw.em tab_ok mb0 [] rfl rfl ?zo ?zk
      case zo =>
        repeat' apply AllP.cons
        all_goals first | exact trivial | exact Nat.le_of_ble_eq_true rfl | exact (show ∀ z ∈ [[A.int _, _, _, _]], z.length = 4 from fun z hz => by simp at hz; subst hz; rfl) | exact rep4 (y :: M) | exact (show (((y :: M).map Rep.c).length + 1) * 32 ≤ 140737488355328 by omega) | exact (show ((y :: M).map Rep.c).length + 1 ≤ maxLen by unfold maxLen; omega)
      case zk =>
      refine Aw.em tab_ok mb0 [] rfl rfl ?zo ?zk
      case zo =>
        repeat' apply AllP.cons
        all_goals first | exact trivial | exact (by simp only [Ob.of, inR]; omega)
      case zk =>
      refine ⟨k + 1, ?zg, ?zm, ⟨?zc, ?zv, ?zh, Nat.le_of_ble_eq_true rfl⟩⟩
      case zg =>
        (repeat' (first | assumption | omega | exact .of_eq (by rw [htk, grR_snoc, hmr]; rfl) | (refine And.intro ?_ ?_)))
      case zm =>
        (repeat' (first | omega | exact .of_eq (by rw [htk, grR_snoc, hmr]; rfl) | (refine And.intro ?_ ?_)))
      case zc =>
        (repeat' (first | (refine And.intro ?_ ?_) | exact trivial | exact A.Le.refl _ | exact rfl | exact .of_eq (by rw [htk, grR_snoc, hmr]; rfl)))
      case zv =>
        (repeat' (first | (refine And.intro ?_ ?_) | exact trivial | exact A.Le.refl _ | exact rfl | exact .of_eq (by rw [htk, grR_snoc, hmr]; rfl)))
      case zh =>
        (repeat' (first | (refine And.intro ?_ ?_) | exact trivial | exact A.Le.refl _ | exact rfl | exact .of_eq (by rw [htk, grR_snoc, hmr]; rfl)))
  have hke : k = x.l.length := by have := of_decide_eq_false (show decide ((k : Int) < ((x.l.map Rep.c).length : Int)) = false from h4); omega
  subst hke
  refine Aw.exit2 ?_
  rw [List.take_length]
  have uR : ∀ {m : Nat}, Under m (grR 52 Rep.c (x.l.map (mirR x.s.wide))) := grR_under Rep.free _
  have hgr := grR_any (e := 52) (f := Rep.c) (x.l.map (mirR x.s.wide))
  have hma := mod_t a 25 (by decide) (by decide)
  have hmb := mod_t b x.s.hours (by omega) (by omega)
  have ga1 := Int.emod_nonneg a (show (25 : Int) ≠ 0 by decide)
  have ga2 := Int.emod_lt_of_pos a (show (0 : Int) < 25 by decide)
  have gb1 := Int.emod_nonneg b (show x.s.hours ≠ 0 by omega)
  have gb2 := Int.emod_lt_of_pos b (show 0 < x.s.hours by omega)
  generalize a % 25 = w at *
  generalize b % x.s.hours = hour at *
  have hfm : SrFit ⟨mirS x.s, (x.l.map (mirR x.s.wide)).isEmpty, x.l.map (mirR x.s.wide)⟩ := ⟨⟨by
    have : (landM x.s x.s.many.toNat).length ≤ x.s.many.toNat := by unfold landM; rw [List.length_map]; exact Nat.le_trans (List.length_filter_le _ _) (by simp)
    show ((landM x.s x.s.many.toNat).length : Int) ≤ _; omega, by show ((x.s.drift.map mirD).length : Int) ≤ _; rw [List.length_map]; exact hx.s.d⟩, by show ((x.l.map (mirR x.s.wide)).length : Int) ≤ _; rw [List.length_map]; omega⟩
  have c1 := Can_w x hx w hour
  have c2 := Can_w _ hfm w hour
  have c3 := Least_w x hx
  have c4 := Least_w _ hfm
  rw [CanR_ok hok hr (asked_iff.2 ⟨⟨ga1, by omega⟩, gb1, gb2⟩)] at c1
  have e2 : CanR (mirS x.s) (x.l.map (mirR x.s.wide)) w hour = _ := CanR_ok (mir_ok hok) (mir_reps hok hr) (asked_iff.2 ⟨⟨ga1, by omega⟩, gb1, gb2⟩)
  have c2 : Ans Try.prog 24 [.agg (mirS x.s).c, .sl (x.l.map (mirR x.s.wide)).isEmpty .any ((x.l.map (mirR x.s.wide)).map Rep.c), .int w, .int hour] (.tup [outW (CanR (mirS x.s) (x.l.map (mirR x.s.wide)) w hour).1, .int (CanR (mirS x.s) (x.l.map (mirR x.s.wide)) w hour).2]) := c2
  rw [e2] at c2
  have c4 : Ans Try.prog 20 [.agg (mirS x.s).c, .sl (x.l.map (mirR x.s.wide)).isEmpty .any ((x.l.map (mirR x.s.wide)).map Rep.c)] (.tup [.int (LeastR (mirS x.s) (x.l.map (mirR x.s.wide))).1, outW (LeastR (mirS x.s) (x.l.map (mirR x.s.wide))).2.1, .int (LeastR (mirS x.s) (x.l.map (mirR x.s.wide))).2.2]) := c4
  obtain ⟨q1, q2⟩ := least_mir hok hr
  rw [q1, q2] at c4
  obtain ⟨t1, _⟩ := can_mir hok hr (w := w) (by omega) gb1 gb2
  have hlen := can_len hok hr (w := w) (by omega) gb1 gb2
  have hin := fun c hc => wi_iff.2 (show 0 ≤ c ∧ c ≤ x.s.wide * x.s.high - 1 by
    have := (rising_in (canF_rising ho x.l w hour) (by omega) (by omega)).1 c hc; omega)
  have hl80 := canF_l80 ho x.l w hour
  have hce : canE (canF (mirS x.s) (x.l.map (mirR x.s.wide)) w hour) = canE (canF x.s x.l w hour) := by
    cases h1 : canF x.s x.l w hour with
    | nil => rw [h1] at hlen; rw [List.eq_nil_of_length_eq_zero hlen.symm]
    | cons y G =>
      rw [h1] at hlen
      cases h2 : canF (mirS x.s) (x.l.map (mirR x.s.wide)) w hour with
      | nil => rw [h2] at hlen; cases hlen
      | cons z G2 => rfl
  rw [hce] at c2
  generalize canE (canF x.s x.l w hour) = e at *
  generalize canF x.s x.l w hour = G at *
  generalize canF (mirS x.s) (x.l.map (mirR x.s.wide)) w hour = G2 at *
  generalize (LeastR (mirS x.s) (x.l.map (mirR x.s.wide))).2.1 = T2 at *
  generalize LeastR x.s x.l = L1 at *
  obtain ⟨m1, T1, f1⟩ := L1
  simp only at c3 c4
  have lG := ints_lenI G
  have lG2 := ints_lenI G2
  have hsea : A.Le (.agg (mirS x.s).c) (.agg [.int x.s.wide, .int x.s.high, (grL 3 (landM x.s x.s.many.toNat)).down, .int x.s.hours, (grR 70 Sp.c (x.s.drift.map mirD)).down, .int x.s.speed]) :=
    .agg (.cons (.refl _) (.cons (.refl _) (.cons hgl (.cons (.refl _) (.cons hgd (.cons (.refl _) .nil))))))
  have c2 := AnsL c2 (bs := [.agg [.int x.s.wide, .int x.s.high, (grL 3 (landM x.s x.s.many.toNat)).down, .int x.s.hours, (grR 70 Sp.c (x.s.drift.map mirD)).down, .int x.s.speed], A.sl (x.l.map (mirR x.s.wide)).isEmpty .any ((x.l.map (mirR x.s.wide)).map Rep.c), .int w, .int hour]) (.cons hsea (.cons (.refl _) (.cons (.refl _) (.cons (.refl _) .nil))))
  have c4 := AnsL c4 (.cons hsea (.cons (.refl _) .nil))
  have uG : ∀ {m : Nat}, Under m (outW G) := (outW_free G).under
  have uG2 : ∀ {m : Nat}, Under m (outW G2) := (outW_free G2).under
  generalize landM x.s x.s.many.toNat = ML at *
  generalize x.s.drift.map mirD = MD at *
  generalize x.l.map (mirR x.s.wide) = MR at *
  refine Aw.keep (n := 1) (cst := [(2, .pt x.c), (3, .pt [.int a, .int b]), (5, .ref 0 0), (8, .sl MR.isEmpty .any (MR.map Rep.c))]) (v := []) (Hl := [(0, mirH x.s (grL 3 ML) (grR 70 Sp.c MD))]) h1E ?zu ?zw ?zx ⟨?zc, ?zv, ?zh, Nat.le_of_ble_eq_true rfl⟩ ?zr
  case zu =>
    (repeat' (first | exact trivial | exact Under.s _ | exact Under.un | assumption | exact (free_ints _ _ _).under | exact Under.ref _ _ (by decide) | exact Under.ms _ _ _ (by decide) | exact Under.mp _ (by decide) | exact (Free.agg _ (by assumption)).under | exact (Free.pt _ (by assumption)).under | exact grL_under _ | exact outA_under _ | exact Nat.le_of_ble_eq_true rfl | exact (fun _ _ => rfl) | exact ux | exact un | exact (mirH_under uL uD) | exact hgr | exact (free_map Rep.free _ _ _).under | (refine And.intro ?_ ?_)))
  case zw =>
    (repeat' (first | exact trivial | exact Under.s _ | exact Under.un | assumption | exact (free_ints _ _ _).under | exact Under.ref _ _ (by decide) | exact Under.ms _ _ _ (by decide) | exact Under.mp _ (by decide) | exact (Free.agg _ (by assumption)).under | exact (Free.pt _ (by assumption)).under | exact grL_under _ | exact outA_under _ | exact Nat.le_of_ble_eq_true rfl | exact (fun _ _ => rfl) | exact ux | exact un | exact (mirH_under uL uD) | exact hgr | exact (free_map Rep.free _ _ _).under | (refine And.intro ?_ ?_)))
  case zx =>
    (repeat' (first | exact trivial | exact Under.s _ | exact Under.un | assumption | exact (free_ints _ _ _).under | exact Under.ref _ _ (by decide) | exact Under.ms _ _ _ (by decide) | exact Under.mp _ (by decide) | exact (Free.agg _ (by assumption)).under | exact (Free.pt _ (by assumption)).under | exact grL_under _ | exact outA_under _ | exact Nat.le_of_ble_eq_true rfl | exact (fun _ _ => rfl) | exact ux | exact un | exact (mirH_under uL uD) | exact hgr | exact (free_map Rep.free _ _ _).under | (refine And.intro ?_ ?_)))
  case zc =>
    (repeat' (first | (refine And.intro ?_ ?_) | exact trivial | exact A.Le.refl _ | exact rfl | exact ux | exact un | exact (mirH_under uL uD) | exact hgr | exact (free_map Rep.free _ _ _).under))
  case zv =>
    (repeat' (first | (refine And.intro ?_ ?_) | exact trivial | exact A.Le.refl _ | exact rfl | exact ux | exact un | exact (mirH_under uL uD) | exact hgr | exact (free_map Rep.free _ _ _).under))
  case zh =>
    (repeat' (first | (refine And.intro ?_ ?_) | exact trivial | exact A.Le.refl _ | exact rfl | exact ux | exact un | exact (mirH_under uL uD) | exact hgr | exact (free_map Rep.free _ _ _).under))
  case zr =>
  refine Aw.sd tab_ok mixed mb0 [(2, [.int w]), (8, [.int hour])] rfl (by kernel_rfl) rfl rfl ?zo ?zk
  case zo =>
    repeat' apply AllP.cons
    all_goals first | exact trivial | exact Nat.le_of_ble_eq_true rfl | exact Int.natCast_nonneg _ | exact hma | exact hmb
  case zk =>
  refine Aw.sm tab_ok mb0 [(6, [.tup [outW G, .int e]])] rfl rfl ?zo ?zk
  case zo =>
    repeat' apply AllP.cons
    all_goals first | exact trivial | exact Nat.le_of_ble_eq_true rfl | exact c1
  case zk =>
  refine Aw.sm tab_ok mb0 [(4, [.tup [outW G2, .int e]])] rfl rfl ?zo ?zk
  case zo =>
    repeat' apply AllP.cons
    all_goals first | exact trivial | exact Nat.le_of_ble_eq_true rfl | exact c2
  case zk =>
  refine Aw.sm tab_ok mb0 [(4, [.tup [.int m1, outW T1, .int f1]])] rfl rfl ?zo ?zk
  case zo =>
    repeat' apply AllP.cons
    all_goals first | exact trivial | exact Nat.le_of_ble_eq_true rfl | exact c3
  case zk =>
  refine Aw.sm tab_ok mb0 [(2, [.tup [.int m1, outW T2, .int f1]])] rfl rfl ?zo ?zk
  case zo =>
    repeat' apply AllP.cons
    all_goals first | exact trivial | exact Nat.le_of_ble_eq_true rfl | exact c4
  case zk =>
  refine Aw.seq ?_
  refine Aw.sm tab_ok mb0 [] rfl rfl ?zo ?zk
  case zo =>
    repeat' apply AllP.cons
    all_goals first | exact trivial | exact id | exact fun _ => rfl | exact gq_f
  case zk =>
  refine Aw.cond rfl (fun h => ?_) (fun _ => Aw.skip ?_)
  · have h : cond (cond (cond (e != e) true (f1 != f1)) true (m1 != m1)) true (((ints G).length : Int) != ((ints G2).length : Int)) = true := h
    rw [show ((ints G).length : Int) = ((ints G2).length : Int) by omega] at h
    simp at h
  refine Aw.seq ?_
  refine Aw.sm tab_ok mb0 [] rfl rfl ?zo ?zk
  case zo =>
    repeat' apply AllP.cons
    all_goals first | exact trivial
  case zk =>
  refine Aw.block (Aw.rounds 1 h1E [(2, .pt x.c), (13, outW G), (15, outW G2)] (fun k : Nat => [(23, .int k)]) (fun k => []) (fun k => k ≤ G.length) (fun k => G.length - k) 0 ?zg ⟨?zc, ?zv, ?zh, Nat.le_of_ble_eq_true rfl⟩ ?zu (fun k zhk => ?zw) (fun k zhk => ?zx) fun k hk => ?zr)
  case zg =>
    (repeat' (first | exact Nat.zero_le _ | exact Nat.le_refl _ | exact trivial | exact ux | exact uG | exact uG2 | (refine And.intro ?_ ?_)))
  case zc =>
    (repeat' (first | (refine And.intro ?_ ?_) | exact trivial | exact A.Le.refl _ | exact rfl | exact ux | exact uG | exact uG2))
  case zv =>
    (repeat' (first | (refine And.intro ?_ ?_) | exact trivial | exact A.Le.refl _ | exact rfl | exact ux | exact uG | exact uG2))
  case zh =>
    (repeat' (first | (refine And.intro ?_ ?_) | exact trivial | exact A.Le.refl _ | exact rfl | exact ux | exact uG | exact uG2))
  case zu =>
    (repeat' (first | exact trivial | exact Under.s _ | exact Under.un | assumption | exact (free_ints _ _ _).under | exact Under.ref _ _ (by decide) | exact Under.ms _ _ _ (by decide) | exact Under.mp _ (by decide) | exact (Free.agg _ (by assumption)).under | exact (Free.pt _ (by assumption)).under | exact grL_under _ | exact outA_under _ | exact Nat.le_of_ble_eq_true rfl | exact (fun _ _ => rfl) | exact ux | exact uG | exact uG2 | (refine And.intro ?_ ?_)))
  case zw =>
    (repeat' (first | exact trivial | exact Under.s _ | exact Under.un | assumption | exact (free_ints _ _ _).under | exact Under.ref _ _ (by decide) | exact Under.ms _ _ _ (by decide) | exact Under.mp _ (by decide) | exact (Free.agg _ (by assumption)).under | exact (Free.pt _ (by assumption)).under | exact grL_under _ | exact outA_under _ | exact Nat.le_of_ble_eq_true rfl | exact (fun _ _ => rfl) | exact ux | exact uG | exact uG2 | (refine And.intro ?_ ?_)))
  case zx =>
    (repeat' (first | exact trivial | exact Under.s _ | exact Under.un | assumption | exact (free_ints _ _ _).under | exact Under.ref _ _ (by decide) | exact Under.ms _ _ _ (by decide) | exact Under.mp _ (by decide) | exact (Free.agg _ (by assumption)).under | exact (Free.pt _ (by assumption)).under | exact grL_under _ | exact outA_under _ | exact Nat.le_of_ble_eq_true rfl | exact (fun _ _ => rfl) | exact ux | exact uG | exact uG2 | (refine And.intro ?_ ?_)))
  case zr =>
  refine Aw.seq ?_
  refine Aw.sm tab_ok mb0 [] rfl rfl ?zo ?zk
  case zo =>
    repeat' apply AllP.cons
    all_goals first | exact trivial
  case zk =>
  refine Aw.cond rfl (fun h5 => Aw.skip ?_) (fun h5 => ?_)
  · have hlt : k < G.length := by have := of_decide_eq_true (show decide ((k : Int) < ((ints G).length : Int)) = true from h5); omega
    have hget := ints_get hlt
    have hmem := List.getElem_mem hlt
    generalize G[k] = c at *
    have hwi := hin c hmem
    have hci := wi_iff.1 hwi
    have hit := in_t c 0 (x.s.wide * x.s.high - 1)
    rw [hwi] at hit
    have htu := turned_t x.s ho c (by omega)
    have hpl := place_t G2 G2.isEmpty (turnF x.s.wide c) (by omega)
    have hpn := placeF_nn.2 (t1 c hmem)
    generalize placeF (turnF x.s.wide c) 0 G2 = pv at *
    generalize turnF x.s.wide c = tc at *
    refine Aw.seq (Aw.block ?_)
    refine Aw.sd tab_ok mixed mb0 [(2, [.int c]), (12, [.bool true]), (20, [.int c]), (22, [.int tc]), (23, [.int pv])] rfl (by kernel_rfl) rfl rfl ?zo ?zk
    case zo =>
      repeat' apply AllP.cons
      all_goals first | exact trivial | exact id | exact rfl | exact fun _ => rfl | exact Nat.le_of_ble_eq_true rfl | exact fun _ => Nat.le_of_ble_eq_true rfl | exact Int.natCast_nonneg _ | exact fun _ => Int.natCast_nonneg _ | exact hget | exact hit | exact fun _ => hget | exact fun _ => htu | exact fun _ => hpl | exact (by simp only [Ob.of, inR]; omega)
    case zk =>
    refine Aw.cond rfl (fun h6 => ?_) (fun _ => Aw.skip ?_)
    · have h6 : cond (!true) true (decide (pv < 0)) = true := h6
      rw [decide_eq_false (by omega)] at h6; cases h6
    refine Aw.em tab_ok mb0 [] rfl rfl ?zo ?zk
    case zo =>
      repeat' apply AllP.cons
      all_goals first | exact trivial | exact (by simp only [Ob.of, inR]; omega)
    case zk =>
    refine ⟨k + 1, ?zg, ?zm, ⟨?zc, ?zv, ?zh, Nat.le_of_ble_eq_true rfl⟩⟩
    case zg =>
      (repeat' (first | assumption | omega | (refine And.intro ?_ ?_)))
    case zm =>
      (repeat' (first | omega | (refine And.intro ?_ ?_)))
    case zc =>
      (repeat' (first | (refine And.intro ?_ ?_) | exact trivial | exact A.Le.refl _ | exact rfl))
    case zv =>
      (repeat' (first | (refine And.intro ?_ ?_) | exact trivial | exact A.Le.refl _ | exact rfl))
    case zh =>
      (repeat' (first | (refine And.intro ?_ ?_) | exact trivial | exact A.Le.refl _ | exact rfl))
  refine Aw.exit2 ?_
  refine Aw.sm tab_ok mb0 [(0, [.bool true])] rfl rfl ?zo ?zk
  case zo =>
    repeat' apply AllP.cons
    all_goals first | exact trivial | exact works_t
  case zk =>
  exact Aw.ret ⟨_, .cons (.tmp _) .nil, rfl⟩
theorem mirror_l (x : Srch) (a b : Int) (hx : SrFit2 x) : Ans Try.prog 14 [.agg x.c, .agg [.int a, .int b]] (.bool true) := law_mirror x hx.fit a b
end Go.Proofs.Ytohbjneaaahpcaa

namespace Go.Proofs.Ytohbjneaaahpcaa
open Go Go.AL Go.ChangeShapes Go.WideShapes Go.ChangeAt Go.RowKit
set_option maxRecDepth 100000 in
theorem shoalMirror_lifted (os : Os) (started : os.Started) (H : Type) (enc : TypeId × Value → H) :
    ReturnsInHanded {} Try.checked os 14 .any (Rows.shoalMirrorSpec.pre6 enc Try.prog Try.f14 [] false) (Rows.shoalMirrorSpec.post enc Try.prog Try.f14 false true false false) := by
  refine lifted2 (tb := 4) (C := Try.checked) own started (by kernel_rfl) Try.func14
    (ChangeSpec.witness6 (enc := enc) (C := Try.checked) false ⟨#[], #[.agg #[.int .i64 0, .int .i64 0, .slice none 0 0, .int .i64 0, .slice none 0 0, .int .i64 0, .slice none 0 0], .agg #[.int .i64 0, .int .i64 0]], []⟩ 8 (by kernel_rfl) (by kernel_rfl) (by kernel_rfl) (by kernel_rfl))
    laidOut ?_ rfl rfl (by kernel_rfl) uBool ?_ ?_
  · rw [Try.params14]; exact all2t (p := fun t => Try.prog.readableRec t = true ∧ t < Try.prog.types.size) t28 t38
  · intro ds hd
    rw [Try.params14] at hd
    match ds, hd with
    | [d0, d1], _ => rfl
  · intro W base args ds p hval hA hwt
    rw [Try.params14] at hA hval
    obtain ⟨v0, v1, d0, d1, p0, p1, rfl, rfl, rfl, h0, h1⟩ := trodAll_two hA
    obtain ⟨y0, q0, s0⟩ := arg_srch (φ := fun _ => none) (hval 0 28 v0 rfl rfl) h0 fun k hk => hwt k (List.mem_append.2 (.inl hk))
    obtain ⟨y1, q1⟩ := arg_2 (φ := fun _ => none) (hval 1 38 v1 rfl rfl) h1 fun k hk => hwt k (List.mem_append.2 (.inr (List.mem_append.2 (.inl hk))))
    exact ⟨_, _, vrs2 q0 q1, mirror_l y0 y1.1 y1.2 s0⟩
theorem shoalMirror_holds : Rows.ShoalMirrorSaid :=
  OpenClaim.holds_of_wide 14 Try.f14 rfl rfl rfl rfl rfl rfl rfl ⟨rfl, rfl, rfl, rfl, rfl⟩ rfl rfl rfl rfl rfl (by kernel_rfl) Try.func14 (by kernel_rfl)
    (of_decide_eq_true (by kernel_rfl)) (by unfold Func.isWrapper; first | (rw [if_pos (by decide +kernel)]; kernel_rfl) | (rw [if_neg (by decide +kernel)]; exact ⟨rfl, rfl⟩))
    (fun os started H enc _ => shoalMirror_lifted os started H enc)
end Go.Proofs.Ytohbjneaaahpcaa

