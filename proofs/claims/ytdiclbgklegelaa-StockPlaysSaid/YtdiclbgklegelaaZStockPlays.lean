/- StockPlays holds: Play of the stock answers as the specification's Play does. No condition. -/
import Derived.Test.YtdiclbgklegelaaK6
set_option linter.all false
namespace Go.AL.Q
open Go
def seenF (l : List Scale) (k : Nat) : Int := ((l.take k).map Scale.seen).sum
theorem seenF_succ {l : List Scale} {k : Nat} (h : k < l.length) : seenF l (k + 1) = seenF l k + l[k].seen := by
  unfold seenF
  rw [List.take_succ_eq_append_getElem h, List.map_append, List.sum_append]; simp
def truthS (f t : Int) (p : List Int) (k : Nat) (x : Scale) (T : Int) : Int :=
  addIf (wi (chosenF x.lo x.hi (pickF p ((k : Int) + 2))) f t) (addIf (wi (chosenF x.lo x.hi (pickF p ((k : Int) + 1))) f t) T (pickF p k % (x.seen + 1))) (x.seen - pickF p k % (x.seen + 1))
def truthF (l : List Scale) (f t : Int) (p : List Int) : Nat → Int
  | 0 => 0
  | k + 1 => truthS f t p k (l.getD k ⟨0, 0, 0⟩) (truthF l f t p k)
theorem truthF_succ {l : List Scale} {f t : Int} {p : List Int} {k : Nat} (h : k < l.length) : truthF l f t p (k + 1) = truthS f t p k l[k] (truthF l f t p k) := by
  rw [truthF, List.getD_eq_getElem?_getD, List.getElem?_eq_getElem h]; rfl
theorem isLow_in {f t : Int} {x : Scale} (h : x.lo ≤ x.hi) : cond (wi x.lo f t) (wi x.hi f t) false = isLow f t x := by
  rw [Bool.eq_iff_iff]
  simp only [isLow, c_and, Bool.and_eq_true, wi_iff, decide_eq_true_eq]
  omega
theorem isHigh_in {f t : Int} {x : Scale} (h : x.lo ≤ x.hi) (hf : f ≤ t) : cond (cond (wi x.lo f t) true (wi x.hi f t)) true (cond (decide (x.lo < f)) (decide (x.hi > t)) false) = isHigh f t x := by
  have e : ∀ a b : Bool, cond a true b = (a || b) := fun a b => by cases a <;> rfl
  rw [Bool.eq_iff_iff]
  simp only [isHigh, c_and, e, Bool.and_eq_true, Bool.or_eq_true, wi_iff, decide_eq_true_eq]
  omega
theorem truthS_in {f t : Int} {p : List Int} {k : Nat} {x : Scale} {T a b : Int} (h1 : 0 ≤ x.seen) (h2 : x.lo ≤ x.hi) (ha : a ≤ T) (hb : T ≤ b) :
    addIf (isLow f t x) a x.seen ≤ truthS f t p k x T ∧ truthS f t p k x T ≤ addIf (isHigh f t x) b x.seen := by
  have c1 := chosen_in (lo := x.lo) (hi := x.hi) (n := pickF p ((k : Int) + 1)) h2
  have c2 := chosen_in (lo := x.lo) (hi := x.hi) (n := pickF p ((k : Int) + 2)) h2
  have m1 := Int.emod_nonneg (pickF p k) (show x.seen + 1 ≠ 0 by omega)
  have m2 := Int.emod_lt_of_pos (pickF p k) (show 0 < x.seen + 1 by omega)
  unfold truthS
  generalize chosenF x.lo x.hi (pickF p ((k : Int) + 1)) = u at *
  generalize chosenF x.lo x.hi (pickF p ((k : Int) + 2)) = v at *
  generalize pickF p k % (x.seen + 1) = m at *
  have i1 : isLow f t x = true ↔ f ≤ x.lo ∧ x.hi ≤ t := by simp [isLow]
  have i2 : isHigh f t x = true ↔ f ≤ x.hi ∧ x.lo ≤ t := by simp [isHigh]
  have w1 : wi u f t = true ↔ f ≤ u ∧ u ≤ t := wi_iff
  have w2 : wi v f t = true ↔ f ≤ v ∧ v ≤ t := wi_iff
  unfold addIf
  constructor <;> (split <;> split <;> split <;> simp_all <;> omega)
theorem truthF_in {l : List Scale} {f t : Int} {p : List Int} (hs : ∀ s ∈ l, (0 ≤ s.seen ∧ s.seen ≤ 10000) ∧ 0 ≤ s.lo ∧ s.lo ≤ s.hi ∧ s.hi ≤ 20) : ∀ k, k ≤ l.length → agedL f t (l.take k) ≤ truthF l f t p k ∧ truthF l f t p k ≤ agedH f t (l.take k)
  | 0, _ => by simp [truthF, agedL, agedH]
  | k + 1, h => by
    have hk : k < l.length := h
    obtain ⟨a, b⟩ := truthF_in (f := f) (t := t) (p := p) hs k (by omega)
    have c := hs l[k] (List.getElem_mem hk)
    rw [truthF_succ hk, agedL_step f t l k hk, agedH_step f t l k hk]
    exact truthS_in c.1.1 c.2.2.1 a b
theorem filter_all {l : List Scale} {p : Scale → Bool} (h : ∀ s ∈ l, p s = true) : l.filter p = l := List.filter_eq_self.2 h
theorem aged_all {l : List Scale} (h : scalesOk l = true) : agedS l 0 20 = ⟨seenF l l.length, seenF l l.length⟩ ∧ agedE l 0 20 = 0 := by
  obtain ⟨_, hs⟩ := scales_in h
  have r : rangeOk 0 20 = true := rfl
  have e1 : agedL 0 20 l = seenF l l.length := by
    unfold agedL seenF
    rw [filter_all fun s m => by have := hs s m; simp [isLow]; omega, List.take_length]
  have e2 : agedH 0 20 l = seenF l l.length := by
    unfold agedH seenF
    rw [filter_all fun s m => by have := hs s m; simp [isHigh]; omega, List.take_length]
  unfold agedS agedE
  rw [h, r]
  simp only [if_true]
  rw [e1, e2]
  exact ⟨rfl, trivial⟩
theorem seenF_bd {l : List Scale} (hl : l.length ≤ 20) (hs : ∀ s ∈ l, 0 ≤ s.seen ∧ s.seen ≤ 10000) (k : Nat) : 0 ≤ seenF l k ∧ seenF l k ≤ 200000 := by
  have h1 := sum_bd (l := (l.take k).map Scale.seen) (b := 10000) fun x hx => by
    obtain ⟨s, m, rfl⟩ := List.mem_map.1 hx
    exact hs s (List.mem_of_mem_take m)
  have h2 : ((l.take k).map Scale.seen).length ≤ 20 := by rw [List.length_map, List.length_take]; omega
  unfold seenF; omega
end Go.AL.Q
namespace Go.AL.Q
open Go
def LeP (a b : List Int) : Prop := a.length = b.length ∧ ∀ i, a.getD i 0 ≤ b.getD i 0
theorem LeP.refl (a : List Int) : LeP a a := ⟨rfl, fun _ => Int.le_refl _⟩
theorem LeP.set {a b : List Int} (h : LeP a b) {i : Nat} {x y : Int} (hi : i < b.length) (hx : x ≤ y) : LeP (a.set i x) (b.set i y) :=
  ⟨by simp [h.1], fun j => by
    have hl := h.1
    rw [getD_set' _ _ _ _ (by omega), getD_set' _ _ _ _ hi]
    split
    · exact hx
    · exact h.2 j⟩
theorem catchF_mono {mesh : Nat} : ∀ (k : Nat) (t t' : Int) (l l' : List Int), LeP l l' → k ≤ l'.length → t' ≤ t → LeP (catchF l mesh k t) (catchF l' mesh k t')
  | 0, t, t', l, l', h, _, _ => h
  | k + 1, t, t', l, l', h, hk, ht => by
    unfold catchF
    have h1 := h.2 k
    have hl := h.1
    split
    · exact catchF_mono k _ _ _ _ (h.set (by omega) (by omega)) (by simp; omega) (by omega)
    · exact h
theorem catchF_len {mesh : Nat} : ∀ (k : Nat) (t : Int) (l : List Int), (catchF l mesh k t).length = l.length
  | 0, t, l => rfl
  | k + 1, t, l => by
    unfold catchF
    split
    · rw [catchF_len]; simp
    · rfl
theorem sum_mono {α : Type} {f g : α → Int} : ∀ {l : List α}, (∀ x ∈ l, f x ≤ g x) → (l.map f).sum ≤ (l.map g).sum
  | [], _ => by simp
  | x :: l, h => by
    have h1 := h x (List.mem_cons_self ..)
    have h2 := sum_mono (f := f) (g := g) (l := l) fun y hy => h y (List.mem_cons_of_mem _ hy)
    simp only [List.map_cons, List.sum_cons]; omega
theorem spawnF_mono {r : Rce} (hr : RceOk r) {l l' : List Int} (h : LeP l l') : spawnF r l ≤ spawnF r l' := by
  unfold spawnF spawnN
  exact sum_mono fun i hi => Int.mul_le_mul_of_nonneg_right (h.2 i) (hr.sb i (List.mem_range.1 hi)).1
theorem tdiv_mono {a b : Int} (h : a ≤ b) : a.tdiv 1000 ≤ b.tdiv 1000 := by
  rw [Int.tdiv_eq_ediv, Int.tdiv_eq_ediv, show Int.sign 1000 = 1 from rfl]
  split <;> split <;> omega
theorem winN_len {r : Rce} {l : List Int} : ∀ k, (winN r l k).length = r.many
  | 0 => by simp [winN]
  | k + 1 => by simp [winN, winN_len k]
theorem winN_mono {r : Rce} (hr : RceOk r) {l l' : List Int} (h : LeP l l') : ∀ k, k ≤ r.many → LeP (winN r l k) (winN r l' k)
  | 0, _ => LeP.refl _
  | k + 1, hk => by
    have ih := winN_mono hr h k (by omega)
    have h1 := hr.m1
    have h2 := Int.mul_le_mul_of_nonneg_right (h.2 k) (hr.kb k (by omega)).1
    have h3 := tdiv_mono h2
    have h4 := ih.2 (min (k + 1) (r.many - 1))
    exact ih.set (by rw [winN_len]; omega) (by omega)
theorem winF_mono {r : Rce} (hr : RceOk r) {l l' : List Int} {x x' : Int} (h : LeP l l') (hx : x ≤ x') : LeP (winF r l x) (winF r l' x') := by
  have ih := winN_mono hr h r.many (Nat.le_refl _)
  have h1 := hr.m1
  have h2 := ih.2 0
  exact ih.set (by rw [winN_len]; omega) (by omega)
theorem playF_mono {r : Rce} (hr : RceOk r) : ∀ (ts ts' xs xs' l l' : List Int), LeP l l' → r.many ≤ l'.length → LeP ts' ts → LeP xs xs' → ts.length = xs.length → LeP (playF r l ts xs) (playF r l' ts' xs')
  | [], [], xs, xs', l, l', _, _, _, _, _ => by cases xs <;> cases xs' <;> exact LeP.refl _
  | t :: ts, [], xs, xs', l, l', _, _, h, _, _ => by cases h.1
  | [], t' :: ts', xs, xs', l, l', _, _, h, _, _ => by cases h.1
  | t :: ts, t' :: ts', [], xs', l, l', _, _, h, hx, e => by cases e
  | t :: ts, t' :: ts', x :: xs, [], l, l', _, _, h, hx, e => by cases hx.1
  | t :: ts, t' :: ts', x :: xs, x' :: xs', l, l', hl, hm, ht, hx, e => by
    have t0 : t' ≤ t := ht.2 0
    have x0 : x ≤ x' := hx.2 0
    have hts : LeP ts' ts := ⟨by simpa using ht.1, fun i => by simpa using ht.2 (i + 1)⟩
    have hxs : LeP xs xs' := ⟨by simpa using hx.1, fun i => by simpa using hx.2 (i + 1)⟩
    have hc : LeP (caughtF r l t) (caughtF r l' t') := catchF_mono _ _ _ _ _ hl hm t0
    have hs := spawnF_mono hr hc
    have hw := winF_mono hr hc x0
    have ih := playF_mono hr ts ts' xs xs' _ _ hw (by simp [winF, winN_len]) hts hxs (by simpa using e)
    unfold playF yearF
    exact ⟨by simp [ih.1], fun i => by
      cases i with
      | zero => exact hs
      | succ i => exact ih.2 i⟩
theorem playF_take {r : Rce} : ∀ (ts xs l : List Int) (a : Nat) (v : Int) (i : Nat), i < a → (playF r l (ts.set a v) xs).getD i 0 = (playF r l ts xs).getD i 0
  | [], xs, l, a, v, i, h => by simp
  | t :: ts, [], l, 0, v, i, h => by omega
  | t :: ts, [], l, a + 1, v, i, h => by simp [playF]
  | t :: ts, x :: xs, l, 0, v, i, h => by omega
  | t :: ts, x :: xs, l, a + 1, v, 0, h => by simp [playF]
  | t :: ts, x :: xs, l, a + 1, v, i + 1, h => by
    simp only [List.set_cons_succ, playF, List.getD_cons_succ]
    exact playF_take ts xs _ a v i (by omega)
theorem playF_recs {r : Rce} : ∀ (ts xs l : List Int) (a : Nat) (v : Int) (i : Nat), i ≤ a → (playF r l ts (xs.set a v)).getD i 0 = (playF r l ts xs).getD i 0
  | [], xs, l, a, v, i, h => by simp [playF]
  | t :: ts, [], l, a, v, i, h => by simp
  | t :: ts, x :: xs, l, 0, v, i, h => by
    have : i = 0 := by omega
    subst this
    simp [playF, yearF]
  | t :: ts, x :: xs, l, a + 1, v, 0, h => by simp [playF]
  | t :: ts, x :: xs, l, a + 1, v, i + 1, h => by
    simp only [List.set_cons_succ, playF, List.getD_cons_succ]
    exact playF_recs ts xs _ a v i (by omega)
theorem spawnF_pos {r : Rce} (hr : RceOk r) {b : Int} {l : List Int} (h : Pop r b l) : 0 ≤ spawnF r l := by
  unfold spawnF spawnN
  exact sum_nn fun y hy => by
    obtain ⟨i, hi, rfl⟩ := List.mem_map.1 hy
    exact Int.mul_nonneg (getD_pos h.pos i) (hr.sb i (List.mem_range.1 hi)).1
theorem playF_pos {r : Rce} (hr : RceOk r) : ∀ (ts xs l : List Int) (b : Int), Pop r b l → (∀ t ∈ ts, 0 ≤ t) → (∀ x ∈ xs, 0 ≤ x) → ∀ i, 0 ≤ (playF r l ts xs).getD i 0
  | [], xs, l, b, _, _, _, i => by simp [playF]
  | t :: ts, [], l, b, _, _, _, i => by simp [playF]
  | t :: ts, x :: xs, l, b, h, ht, hx, i => by
    have t0 := ht t (List.mem_cons_self ..)
    have x0 := hx x (List.mem_cons_self ..)
    unfold playF
    cases i with
    | zero => exact spawnF_pos hr (caughtF_pop h t0)
    | succ i => exact playF_pos hr ts xs _ _ (yearF_pop hr h t0 x0) (fun y hy => ht y (List.mem_cons_of_mem _ hy)) (fun y hy => hx y (List.mem_cons_of_mem _ hy)) i
def Rce.aliveHead (r : Rce) : Bool := cond (cond (cond (wi r.many 1 6) ((r.keep.length : Int) == r.many) false) ((r.spawn.length : Int) == r.many) false) (wi r.mesh 0 ((r.many : Int) - 1)) false
def Rce.alive (r : Rce) : Bool := cond r.aliveHead ((List.range r.many).all r.ageOk) false
theorem Rce.alive_of {r : Rce} (h : r.ok = true) : r.alive = true := by
  unfold Rce.ok at h
  have h0 := ac1 h
  have h2 := ac2 h
  unfold Rce.head at h0
  have b1 := ac1 (ac1 (ac1 (ac1 h0)))
  have b2 := ac2 (ac1 (ac1 (ac1 h0)))
  have b3 := ac2 (ac1 (ac1 h0))
  have b5 := ac2 h0
  unfold Rce.alive Rce.aliveHead
  rw [b1, b2, b3, b5, h2]; rfl
structure PlayIn (r : Rce) (takes recs : List Int) : Prop where
  ok : r.ok = true
  l1 : 1 ≤ takes.length
  l10 : takes.length ≤ 10
  len : recs.length = takes.length
  t : ∀ i, i < takes.length → 0 ≤ takes.getD i 0 ∧ takes.getD i 0 ≤ 100000000
  x : ∀ i, i < takes.length → 0 ≤ recs.getD i 0 ∧ recs.getD i 0 ≤ 100000
theorem PlayIn.of {r : Rce} {takes recs : List Int} (h : playOk r takes recs = true) : PlayIn r takes recs := by
  unfold playOk at h
  have h1 := ac1 h
  have h2 := fun i hi => List.all_eq_true.1 (ac2 h) i (List.mem_range.2 hi)
  unfold playHead at h1
  have a1 := wi_iff.1 (ac2 (ac1 h1))
  have a2 := eq_of_beq (ac2 h1)
  exact ⟨ac1 (ac1 h1), by omega, by omega, by omega, fun i hi => wi_iff.1 (ac1 (h2 i hi)), fun i hi => wi_iff.1 (ac2 (h2 i hi))⟩
theorem PlayIn.to {r : Rce} {takes recs : List Int} (h : PlayIn r takes recs) : playOk r takes recs = true := by
  have h1 := h.l1
  have h2 := h.l10
  have h3 := h.len
  have e1 : wi takes.length 1 10 = true := wi_iff.2 ⟨by omega, by omega⟩
  have e2 : ((recs.length : Int) == takes.length) = true := by rw [h3]; simp
  unfold playOk playHead
  rw [h.ok, e1, e2]
  show (List.range takes.length).all (playYear takes recs) = true
  refine List.all_eq_true.2 fun i hi => ?_
  have hi := List.mem_range.1 hi
  unfold playYear
  rw [wi_iff.2 (h.t i hi), wi_iff.2 (h.x i hi)]; rfl
theorem getD_mem {l : List Int} {x : Int} (h : x ∈ l) : ∃ i, i < l.length ∧ l.getD i 0 = x := by
  obtain ⟨i, hi, rfl⟩ := List.mem_iff_getElem.1 h
  exact ⟨i, hi, by simp [List.getD_eq_getElem?_getD, hi]⟩
theorem LeP.up {l : List Int} {i : Nat} {v : Int} (hi : i < l.length) (h : l.getD i 0 ≤ v) : LeP l (l.set i v) := ⟨by simp, fun j => by
  rw [getD_set' _ _ _ _ hi]
  split
  · rename_i e; subst e; exact h
  · exact Int.le_refl _⟩
theorem LeP.dn {l : List Int} {i : Nat} {v : Int} (hi : i < l.length) (h : v ≤ l.getD i 0) : LeP (l.set i v) l := ⟨by simp, fun j => by
  rw [getD_set' _ _ _ _ hi]
  split
  · rename_i e; subst e; exact h
  · exact Int.le_refl _⟩
theorem more_taken {r : Rce} {takes recs : List Int} (h : PlayIn r takes recs) {a : Nat} {v : Int} (ha : a < takes.length) (h1 : takes.getD a 0 ≤ v) (h2 : v ≤ 100000000) :
    PlayIn r (takes.set a v) recs ∧ LeP (playF r r.numbers (takes.set a v) recs) (playF r r.numbers takes recs) ∧ ∀ i, i < a → (playF r r.numbers (takes.set a v) recs).getD i 0 = (playF r r.numbers takes recs).getD i 0 := by
  have hl := h.len
  have ht0 := (h.t a ha).1
  refine ⟨⟨h.ok, by simpa using h.l1, by simpa using h.l10, by simpa using h.len, fun i hi => ?_, fun i hi => h.x i (by simpa using hi)⟩, ?_, fun i hi => playF_take _ _ _ _ _ _ hi⟩
  · rw [getD_set' _ _ _ _ ha]
    split
    · omega
    · exact h.t i (by simpa using hi)
  · exact playF_mono (.of h.ok) _ _ _ _ _ _ (LeP.refl _) (Nat.le_refl _) (LeP.up ha h1) (LeP.refl _) (by simp [hl])
theorem fewer_come {r : Rce} {takes recs : List Int} (h : PlayIn r takes recs) {a : Nat} {v : Int} (ha : a < takes.length) (h1 : v ≤ recs.getD a 0) (h2 : 0 ≤ v) :
    PlayIn r takes (recs.set a v) ∧ LeP (playF r r.numbers takes (recs.set a v)) (playF r r.numbers takes recs) ∧ ∀ i, i ≤ a → (playF r r.numbers takes (recs.set a v)).getD i 0 = (playF r r.numbers takes recs).getD i 0 := by
  have hl := h.len
  have hx0 := (h.x a ha).2
  refine ⟨⟨h.ok, h.l1, h.l10, by simpa using h.len, fun i hi => h.t i hi, fun i hi => ?_⟩, ?_, fun i hi => playF_recs _ _ _ _ _ _ hi⟩
  · rw [getD_set' _ _ _ _ (by omega)]
    split
    · omega
    · exact h.x i hi
  · exact playF_mono (.of h.ok) _ _ _ _ _ _ (LeP.refl _) (Nat.le_refl _) (LeP.refl _) (LeP.dn (by omega) h1) (by simp [hl])
theorem play_pos {r : Rce} {takes recs : List Int} (h : PlayIn r takes recs) (i : Nat) : 0 ≤ (playF r r.numbers takes recs).getD i 0 :=
  playF_pos (.of h.ok) _ _ _ _ (first_pop (.of h.ok)) (fun t ht => by obtain ⟨j, hj, rfl⟩ := getD_mem ht; exact (h.t j hj).1) (fun t ht => by obtain ⟨j, hj, rfl⟩ := getD_mem ht; exact (h.x j (by have := h.len; omega)).1) i
end Go.AL.Q
set_option maxRecDepth 100000
namespace Go.Proofs.Ytdiclbgklegelaa
open Go Go.AL Go.AL.Q Go.ChangeShapes Go.WideShapes Go.ChangeAt Go.RowKit
theorem t39 : Try.prog.readableRec 39 = true ∧ 39 < Try.prog.types.size := ty_ok (by kernel_rfl) (by kernel_rfl)
theorem t72 : Try.prog.readableRec 72 = true ∧ 72 < Try.prog.types.size := ty_ok (by kernel_rfl) (by kernel_rfl)
theorem u39 : Try.prog.underlying 39 = some (.struct #[fld "Numbers" 37 0 0, fld "Keep" 37 1 24, fld "Spawn" 37 2 48, fld "Line" 3 3 72, fld "Mesh" 3 4 80]) := by kernel_rfl
theorem u72 : Try.prog.underlying 72 = some (.array 3 3) := by kernel_rfl
theorem c39 : Try.prog.cellsOf 39 = 5 := by kernel_rfl
theorem c72 : Try.prog.cellsOf 72 = 3 := by kernel_rfl
theorem ct39 : Try.prog.cellTypes Try.prog.depth 39 = some [37, 37, 37, 3, 3] := by kernel_rfl
section
variable {H : Type} {enc : TypeId × Value → H} {w : World} {base : Nat} {spare : Nat → Bool} {held : Bool} {φ : Names}
theorem cell_ints {v : Value} {fuel : Nat} {x : DataW H × List MemPlace} {r : Reach} {b0 : Nat} (hok : Cell.okWide Try.prog w r b0 37 v) (h : DataW.trod enc Try.prog w base spare held fuel 37 [v] = some x) (hw : ∀ k ∈ x.1.weights Try.prog 37, k ≤ reachBytes) :
    ∃ (b : Bool) (l : List Int), VR φ (allZ w) w (.sl b .any (ints l)) v ∧ (l.length : Int) ≤ 9223372036854775806 := by
  obtain ⟨b, es, q, l1, m⟩ := open_nums (φ := φ) u37 c3 n3 hok h
  have z := slice_len u37 h q hw
  rw [List.length_map, by3] at z
  obtain ⟨l, r1, p1⟩ := rows1 es l1
  rw [r1] at q
  have h5 : reachBytes = 140737488351232 := by decide
  exact ⟨b, l, q, by omega⟩
theorem open_rce {cs : Array Value} {fuel : Nat} {x : DataW H × List MemPlace} {r : Reach} {b0 : Nat} (hok : Row.okWide Try.prog w r b0 39 cs) (h : DataW.trod enc Try.prog w base spare held fuel 39 cs.toList = some x) (hw : ∀ k ∈ x.1.weights Try.prog 39, k ≤ reachBytes) :
    ∃ y : Rce, VR φ (allZ w) w (.agg y.c) (.agg cs) ∧ y.Fit := by
  obtain ⟨xs, n, _, hx, hl, hlen, hf⟩ := DataW.trod_struct u39 h
  rw [c39] at hl
  obtain ⟨l⟩ := cs
  have hl : l.length = 5 := hl
  match l, hl with
  | [v0, v1, v2, v3, v4], _ =>
  have hlen : xs.length = 5 := hlen
  match xs, hlen with
  | [y0, y1, y2, y3, y4], _ =>
  obtain ⟨ts, hts, _, hc⟩ := hok
  rw [ct39] at hts; cases hts
  have k0 : Cell.okWide Try.prog w r b0 37 v0 := by obtain ⟨u, hu, hk⟩ := hc 0 v0 rfl; cases hu; exact hk
  have k1 : Cell.okWide Try.prog w r b0 37 v1 := by obtain ⟨u, hu, hk⟩ := hc 1 v1 rfl; cases hu; exact hk
  have k2 : Cell.okWide Try.prog w r b0 37 v2 := by obtain ⟨u, hu, hk⟩ := hc 2 v2 rfl; cases hu; exact hk
  have h0 : DataW.trod enc Try.prog w base spare held n 37 (([v0, v1, v2, v3, v4].drop 0).take (Try.prog.cellsOf 37)) = some y0 := hf 0 _ rfl
  have h1 : DataW.trod enc Try.prog w base spare held n 37 (([v0, v1, v2, v3, v4].drop 1).take (Try.prog.cellsOf 37)) = some y1 := hf 1 _ rfl
  have h2 : DataW.trod enc Try.prog w base spare held n 37 (([v0, v1, v2, v3, v4].drop 2).take (Try.prog.cellsOf 37)) = some y2 := hf 2 _ rfl
  have h3 : DataW.trod enc Try.prog w base spare held n 3 (([v0, v1, v2, v3, v4].drop 3).take (Try.prog.cellsOf 3)) = some y3 := hf 3 _ rfl
  have h4 : DataW.trod enc Try.prog w base spare held n 3 (([v0, v1, v2, v3, v4].drop 4).take (Try.prog.cellsOf 3)) = some y4 := hf 4 _ rfl
  rw [c37] at h0 h1 h2; rw [c3] at h3 h4
  have h0 : DataW.trod enc Try.prog w base spare held n 37 [v0] = some y0 := h0
  have h1 : DataW.trod enc Try.prog w base spare held n 37 [v1] = some y1 := h1
  have h2 : DataW.trod enc Try.prog w base spare held n 37 [v2] = some y2 := h2
  have h3 : DataW.trod enc Try.prog w base spare held n 3 [v3] = some y3 := h3
  have h4 : DataW.trod enc Try.prog w base spare held n 3 [v4] = some y4 := h4
  obtain ⟨z3, e3, _⟩ := DataW.trod_int u3 h3
  obtain ⟨z4, e4, _⟩ := DataW.trod_int u3 h4
  cases e3; cases e4
  have hxw : ∀ k, k ∈ y0.1.weights Try.prog 37 ∨ k ∈ y1.1.weights Try.prog 37 ∨ k ∈ y2.1.weights Try.prog 37 → k ≤ reachBytes := fun k hk => by
    refine hw k ?_
    rw [hx]
    simp only [DataW.weights, u39]
    have e : DataW.weightsEach Try.prog ((#[fld "Numbers" 37 0 0, fld "Keep" 37 1 24, fld "Spawn" 37 2 48, fld "Line" 3 3 72, fld "Mesh" 3 4 80] : Array Field).toList.map (·.type)) ([y0, y1, y2, y3, y4].map (·.1)) = y0.1.weights Try.prog 37 ++ (y1.1.weights Try.prog 37 ++ (y2.1.weights Try.prog 37 ++ (y3.1.weights Try.prog 3 ++ (y4.1.weights Try.prog 3 ++ [])))) := rfl
    rw [e]
    simp only [List.mem_append]
    rcases hk with h | h | h
    · exact .inl h
    · exact .inr (.inl h)
    · exact .inr (.inr (.inl h))
  obtain ⟨b0, l0, q0, s0⟩ := cell_ints (φ := φ) k0 h0 fun k hk => hxw k (.inl hk)
  obtain ⟨b1, l1, q1, s1⟩ := cell_ints (φ := φ) k1 h1 fun k hk => hxw k (.inr (.inl hk))
  obtain ⟨b2, l2, q2, s2⟩ := cell_ints (φ := φ) k2 h2 fun k hk => hxw k (.inr (.inr hk))
  refine ⟨⟨b0, l0, b1, l1, b2, l2, z3, z4⟩, .agg _ _ rfl (fun i hi => ?_) (fun i hi => ?_), ⟨s0, s1, s2⟩⟩
  · match i, hi with
    | 0, _ => exact sl_one q0
    | 1, _ => exact sl_one q1
    | 2, _ => exact sl_one q2
    | 3, _ => rfl
    | 4, _ => rfl
  · match i, hi with
    | 0, _ => exact q0
    | 1, _ => exact q1
    | 2, _ => exact q2
    | 3, _ => exact .s _
    | 4, _ => exact .s _
theorem arg_rce {v : Value} {d : DataW H} {p : List MemPlace} {r : Reach} {b0 : Nat} (hok : Value.okWide Try.prog w r b0 39 v) (h : DataW.Trod enc Try.prog w base spare held 39 v d p) (hw : ∀ k ∈ d.weights Try.prog 39, k ≤ reachBytes) :
    ∃ y : Rce, VR φ (allZ w) w (.agg y.c) v ∧ y.Fit := by
  obtain ⟨fuel, h⟩ := h
  unfold Value.okWide at hok
  rw [u39] at hok
  obtain ⟨cs, rfl, _, hrow⟩ := hok
  exact open_rce (φ := φ) hrow h hw
theorem arg_3 {v : Value} {d : DataW H} {p : List MemPlace} {r : Reach} {b0 : Nat} (hok : Value.okWide Try.prog w r b0 72 v) (h : DataW.Trod enc Try.prog w base spare held 72 v d p) : ∃ y : Int × Int × Int, VR φ (allZ w) w (.agg [.int y.1, .int y.2.1, .int y.2.2]) v := by
  obtain ⟨fuel, h⟩ := h
  unfold Value.okWide at hok
  rw [u72] at hok
  obtain ⟨⟨l⟩, rfl, hs, _⟩ := hok
  rw [c72] at hs
  have hs : l.length = 3 := hs
  match l, hs with
  | [c0, c1, c2], _ =>
  have h : DataW.trod enc Try.prog w base spare held fuel 72 [c0, c1, c2] = some (d, p) := h
  obtain ⟨y0, y1, y2, n, _, h0, h1, h2⟩ := trod_array3 u72 (show Try.prog.cellsOf 3 = 1 by kernel_rfl) h
  obtain ⟨a, e0, _⟩ := DataW.trod_int u3 h0
  obtain ⟨b, e1, _⟩ := DataW.trod_int u3 h1
  obtain ⟨c, e2, _⟩ := DataW.trod_int u3 h2
  cases e0; cases e1; cases e2
  exact ⟨(a, b, c), row_vr (zs := [a, b, c])⟩
end
end Go.Proofs.Ytdiclbgklegelaa
namespace Go.Proofs.Ytdiclbgklegelaa
open Go Go.AL Go.AL.Q
theorem neq_d {a b : Int} (h : (a != b) = true) : a ≠ b := by simpa using h
theorem truth_t (b : Bool) (l : List Scale) (y0 y1 : Int) (bp : Bool) (p : List Int) (hl : (l.length : Int) ≤ 9223372036854775806) (hp : (p.length : Int) ≤ 9223372036854775806) :
    Ans Try.prog 8 [.sl b .any (l.map Scale.c), .agg [.int y0, .int y1], .sl bp .any (ints p)] (.bool true) := by
  have hsl : Free (.sl b .any (l.map Scale.c)) := free_map Scale.free _ _ _
  have lz : ((l.map Scale.c).length : Int) = l.length := by simp
  have f1 := Int.emod_nonneg y0 (show (21 : Int) ≠ 0 by omega)
  have f2 := Int.emod_lt_of_pos y0 (show (0 : Int) < 21 by omega)
  have t1 := chosen_in (lo := y0 % 21) (hi := 20) (n := y1) (by omega)
  refine told Try.func8 rfl rfl (Pure.of tab_ok Try.func8 rfl Try.ntmps8 rfl (allC (hsl) (allC (.agg _ (allC (.s _) (all1 (.s _)))) (all1 (free_ints _ _ _)))) (allC (fun _ => rfl) (allC (fun _ => rfl) (all1 (fun _ => rfl)))) (by first | exact .s _ | assumption | exact .tup _ (by intro x hx; simp only [List.mem_cons, List.not_mem_nil, or_false] at hx; rcases hx with rfl | rfl | rfl | rfl <;> first | exact .s _ | (simp_all; done))) fun E hE => ?_)
  refine Aw.sm tab_ok mb0 [] rfl rfl ?zo ?zk
  case zo =>
    repeat' apply AllP.cons
    all_goals first | exact trivial | exact id | exact rfl | exact fun _ => rfl | exact Nat.le_of_ble_eq_true rfl | exact fun _ => Nat.le_of_ble_eq_true rfl | exact Int.natCast_nonneg _ | exact fun _ => Int.natCast_nonneg _ | exact in_t _ _ _ | exact (in_t _ _ _).un | exact gq_f
  case zk =>
  refine Aw.sm tab_ok mb0 [(2, [.int (y0 % 21)])] rfl rfl ?zo ?zk
  case zo =>
    repeat' apply AllP.cons
    all_goals first | exact trivial | exact id | exact rfl | exact fun _ => rfl | exact Nat.le_of_ble_eq_true rfl | exact fun _ => Nat.le_of_ble_eq_true rfl | exact Int.natCast_nonneg _ | exact fun _ => Int.natCast_nonneg _ | exact in_t _ _ _ | exact (in_t _ _ _).un | exact gq_f | exact mod_t _ _ (by omega) (by omega)
  case zk =>
  refine Aw.sm tab_ok mb0 [(3, [.int (chosenF (y0 % 21) 20 y1)])] rfl rfl ?zo ?zk
  case zo =>
    repeat' apply AllP.cons
    all_goals first | exact trivial | exact id | exact rfl | exact fun _ => rfl | exact Nat.le_of_ble_eq_true rfl | exact fun _ => Nat.le_of_ble_eq_true rfl | exact Int.natCast_nonneg _ | exact fun _ => Int.natCast_nonneg _ | exact in_t _ _ _ | exact (in_t _ _ _).un | exact gq_f | exact chosen_t _ _ _ (by omega) (by omega)
  case zk =>
  generalize y0 % 21 = f at *
  generalize chosenF f 20 y1 = t at *
  have hrg : rangeOk f t = true := by
    unfold rangeOk
    rw [wi_iff.2 ⟨by omega, by omega⟩, wi_iff.2 ⟨by omega, by omega⟩]; rfl
  cases hok : scalesOk l with
  | false =>
    have e : agedR l f t = [.agg (Sp.c ⟨0, 0⟩), .int 90] := by simp only [agedR, agedS, agedE, hok]; rfl
    refine Aw.sm tab_ok mb0 [(3, [.tup [.agg (Sp.c ⟨0, 0⟩), .int 90]])] rfl rfl ?zo ?zk
    case zo =>
      repeat' apply AllP.cons
      all_goals first | exact trivial | exact id | exact rfl | exact fun _ => rfl | exact Nat.le_of_ble_eq_true rfl | exact fun _ => Nat.le_of_ble_eq_true rfl | exact Int.natCast_nonneg _ | exact fun _ => Int.natCast_nonneg _ | exact in_t _ _ _ | exact (in_t _ _ _).un | exact gq_f | exact e ▸ aged_t b l f t hl
    case zk =>
    refine Aw.seq ?_
    refine Aw.sm tab_ok mb0 [] rfl rfl ?zo ?zk
    case zo =>
      repeat' apply AllP.cons
      all_goals first | exact trivial | exact id | exact rfl | exact fun _ => rfl | exact Nat.le_of_ble_eq_true rfl | exact fun _ => Nat.le_of_ble_eq_true rfl | exact Int.natCast_nonneg _ | exact fun _ => Int.natCast_nonneg _ | exact in_t _ _ _ | exact (in_t _ _ _).un | exact gq_f | exact (fun h => by cases h) | exact (fun _ => rfl)
    case zk =>
    refine Aw.cond rfl (fun _ => ?_) (fun h => by cases h)
    refine Aw.sm tab_ok mb0 [(5, [.bool true]), (8, [.bool true])] rfl rfl ?zo ?zk
    case zo =>
      repeat' apply AllP.cons
      all_goals first | exact trivial | exact id | exact rfl | exact fun _ => rfl | exact Nat.le_of_ble_eq_true rfl | exact fun _ => Nat.le_of_ble_eq_true rfl | exact Int.natCast_nonneg _ | exact fun _ => Int.natCast_nonneg _ | exact in_t _ _ _ | exact (in_t _ _ _).un | exact gq_f | exact fun _ => eqSp _ _ ⟨0, 0⟩ ⟨0, 0⟩ | exact fun _ => works_t
    case zk =>
    exact Aw.ret ⟨_, .cons (.tmp _) .nil, rfl⟩
  | true =>
  obtain ⟨hl20, hsc⟩ := scales_in hok
  have e : agedR l f t = [.agg (Sp.c ⟨agedL f t l, agedH f t l⟩), .int 0] := by simp only [agedR, agedS, agedE, hok, hrg]; rfl
  refine Aw.sm tab_ok mb0 [(3, [.tup [.agg (Sp.c ⟨agedL f t l, agedH f t l⟩), .int 0]])] rfl rfl ?zo ?zk
  case zo =>
    repeat' apply AllP.cons
    all_goals first | exact trivial | exact id | exact rfl | exact fun _ => rfl | exact Nat.le_of_ble_eq_true rfl | exact fun _ => Nat.le_of_ble_eq_true rfl | exact Int.natCast_nonneg _ | exact fun _ => Int.natCast_nonneg _ | exact in_t _ _ _ | exact (in_t _ _ _).un | exact gq_f | exact e ▸ aged_t b l f t hl
  case zk =>
  refine Aw.seq ?_
  refine Aw.sm tab_ok mb0 [] rfl rfl ?zo ?zk
  case zo =>
    repeat' apply AllP.cons
    all_goals first | exact trivial | exact id | exact rfl | exact fun _ => rfl | exact Nat.le_of_ble_eq_true rfl | exact fun _ => Nat.le_of_ble_eq_true rfl | exact Int.natCast_nonneg _ | exact fun _ => Int.natCast_nonneg _ | exact in_t _ _ _ | exact (in_t _ _ _).un | exact gq_f | exact (fun h => by cases h) | exact (fun _ => rfl)
  case zk =>
  refine Aw.cond rfl (fun h => ?_) (fun _ => Aw.skip ?_)
  · have h : decide (((l.map Scale.c).length : Int) > 20) = true := h
    have := of_decide_eq_true h; omega
  refine Aw.sm tab_ok mb0 [] rfl rfl ?zo ?zk
  case zo =>
    repeat' apply AllP.cons
    all_goals first | exact trivial | exact id | exact rfl | exact fun _ => rfl | exact Nat.le_of_ble_eq_true rfl | exact fun _ => Nat.le_of_ble_eq_true rfl | exact Int.natCast_nonneg _ | exact fun _ => Int.natCast_nonneg _ | exact in_t _ _ _ | exact (in_t _ _ _).un | exact gq_f
  case zk =>
  have tin := truthF_in (f := f) (t := t) (p := p) hsc
  have bdL : ∀ k, 0 ≤ agedL f t (l.take k) ∧ agedL f t (l.take k) ≤ 200000 := fun k => by
    have := filt_sum (p := isLow f t) (l := l.take k) fun s hs => (hsc s (List.mem_of_mem_take hs)).1
    have h2 : (l.take k).length ≤ 20 := by rw [List.length_take]; omega
    unfold agedL; omega
  have bdH : ∀ k, 0 ≤ agedH f t (l.take k) ∧ agedH f t (l.take k) ≤ 200000 := fun k => by
    have := filt_sum (p := isHigh f t) (l := l.take k) fun s hs => (hsc s (List.mem_of_mem_take hs)).1
    have h2 : (l.take k).length ≤ 20 := by rw [List.length_take]; omega
    unfold agedH; omega
  have bdS := seenF_bd hl20 fun s hs => (hsc s hs).1
  have hE1 : ∀ id, 1 ≤ id → E.φ0 id = none := fun id h => hE id (by omega)
  refine Aw.seq ?_
  refine Aw.sm tab_ok mb0 [] rfl rfl ?zo ?zk
  case zo =>
    repeat' apply AllP.cons
    all_goals first | exact trivial | exact id | exact rfl | exact fun _ => rfl | exact Nat.le_of_ble_eq_true rfl | exact fun _ => Nat.le_of_ble_eq_true rfl | exact Int.natCast_nonneg _ | exact fun _ => Int.natCast_nonneg _ | exact in_t _ _ _ | exact (in_t _ _ _).un | exact gq_f
  case zk =>
  refine Aw.block (Aw.rounds 1 hE1 [(0, .sl b .any (l.map Scale.c)), (2, .sl bp .any (ints p)), (7, .int f), (8, .int t), (9, .ref 0 0)] (fun k : Nat => [(11, .int (seenF l k)), (12, .int (truthF l f t p k)), (13, .int (agedL f t (l.take k))), (14, .int (agedH f t (l.take k))), (15, .int k)]) (fun _ => [(0, .cells [.int (agedL f t l), .int (agedH f t l)])]) (fun k => k ≤ l.length) (fun k => l.length - k) 0
    (Nat.zero_le _) ⟨⟨.refl _, .refl _, .refl _, .refl _, .refl _, trivial⟩, ⟨.refl _, .refl _, .refl _, .refl _, .refl _, trivial⟩, ⟨rfl, trivial⟩, Nat.le_of_ble_eq_true rfl⟩ ⟨hsl.under, (free_ints _ _ _).under, .s _, .s _, .ref _ _ (by decide), trivial⟩ (fun _ _ => ⟨.s _, .s _, .s _, .s _, .s _, trivial⟩) (fun _ _ => ⟨⟨by decide, .cells _ (allC (.s _) (all1 (.s _)))⟩, trivial⟩) fun k hk => ?_)
  refine Aw.seq ?_
  refine Aw.sm tab_ok mb0 [] rfl rfl ?zo ?zk
  case zo =>
    repeat' apply AllP.cons
    all_goals first | exact trivial | exact id | exact rfl | exact fun _ => rfl | exact Nat.le_of_ble_eq_true rfl | exact fun _ => Nat.le_of_ble_eq_true rfl | exact Int.natCast_nonneg _ | exact fun _ => Int.natCast_nonneg _ | exact in_t _ _ _ | exact (in_t _ _ _).un | exact gq_f
  case zk =>
  refine Aw.cond rfl (fun h1 => Aw.skip ?_) (fun h1 => ?_)
  · have hlt : k < l.length := by have := of_decide_eq_true h1; omega
    have b1 := bdL k
    have b2 := bdH k
    have b3 := hsc l[k] (List.getElem_mem hlt)
    have b4 := bdS k
    have b5 := tin k hk
    have s1 := agedL_step f t l k hlt
    have s2 := agedH_step f t l k hlt
    have s3 := seenF_succ hlt
    have s4 := truthF_succ (f := f) (t := t) (p := p) hlt
    have gk := get_map (f := Scale.c) hlt
    generalize agedL f t (l.take k) = x1 at *
    generalize agedH f t (l.take k) = x2 at *
    generalize seenF l k = x3 at *
    generalize truthF l f t p k = x4 at *
    generalize l[k] = x at *
    have k20 : (k : Int) ≤ 20 := by omega
    have m1 := Int.emod_nonneg (pickF p k) (show x.seen + 1 ≠ 0 by omega)
    have m2 := Int.emod_lt_of_pos (pickF p k) (show 0 < x.seen + 1 by omega)
    refine Aw.seq (Aw.block ?_)
    refine Aw.sm tab_ok mb0 [(3, x.c)] rfl rfl ?zo ?zk
    case zo =>
      repeat' apply AllP.cons
      all_goals first | exact trivial | exact id | exact rfl | exact fun _ => rfl | exact Nat.le_of_ble_eq_true rfl | exact fun _ => Nat.le_of_ble_eq_true rfl | exact Int.natCast_nonneg _ | exact fun _ => Int.natCast_nonneg _ | exact in_t _ _ _ | exact (in_t _ _ _).un | exact gq_f | exact gk | exact (by simp only [Ob.of, inR]; omega)
    case zk =>
    refine Aw.sd tab_ok mixed mb0 [(2, [.int (pickF p k)]), (5, x.c), (9, [.int (pickF p k % (x.seen + 1))])] rfl (by kernel_rfl) rfl rfl ?zo ?zk
    case zo =>
      repeat' apply AllP.cons
      all_goals first | exact trivial | exact id | exact rfl | exact fun _ => rfl | exact Nat.le_of_ble_eq_true rfl | exact fun _ => Nat.le_of_ble_eq_true rfl | exact Int.natCast_nonneg _ | exact fun _ => Int.natCast_nonneg _ | exact in_t _ _ _ | exact (in_t _ _ _).un | exact gq_f | exact pick_t _ _ _ (by omega) | exact gk | exact mod_t _ _ (by omega) (by omega) | exact (by simp only [Ob.of, inR]; omega)
    case zk =>
    unfold truthS at s4
    generalize pickF p k % (x.seen + 1) = m at *
    generalize hu : pickF p ((k : Int) + 1) = pu at *
    generalize hv : pickF p ((k : Int) + 2) = pv at *
    generalize hcu : chosenF x.lo x.hi pu = cu at *
    generalize hcv : chosenF x.lo x.hi pv = cv at *
    generalize hwu : wi cu f t = wu at *
    generalize hwv : wi cv f t = wv at *
    have uc : UnderL 1 [(0, A.sl b .any (l.map Scale.c)), (2, .sl bp .any (ints p)), (7, .int f), (8, .int t), (9, .ref 0 0), (11, .int (x3 + x.seen)), (13, .int x1), (14, .int x2), (15, .int k), (16, .int m)] := ⟨hsl.under, (free_ints _ _ _).under, .s _, .s _, .ref _ _ (by decide), .s _, .s _, .s _, .s _, .s _, trivial⟩
    have uh : UnderH 1 [(0, B.cells [.int (agedL f t l), .int (agedH f t l)])] := ⟨⟨by decide, .cells _ (allC (.s _) (all1 (.s _)))⟩, trivial⟩
    refine Aw.join1 1 hE1 [(0, .sl b .any (l.map Scale.c)), (2, .sl bp .any (ints p)), (7, .int f), (8, .int t), (9, .ref 0 0), (11, .int (x3 + x.seen)), (13, .int x1), (14, .int x2), (15, .int k), (16, .int m)] [(12, .int (addIf wu x4 m))] [(0, .cells [.int (agedL f t l), .int (agedH f t l)])] uc ⟨.s _, trivial⟩ uh ?_ ?_
    · refine Aw.sd tab_ok mixed mb0 [(2, x.c), (8, x.c), (15, [.int pu]), (16, [.int cu]), (19, [.bool wu])] rfl (by kernel_rfl) rfl rfl ?zo ?zk
      case zo =>
        repeat' apply AllP.cons
        all_goals first | exact trivial | exact id | exact rfl | exact fun _ => rfl | exact Nat.le_of_ble_eq_true rfl | exact fun _ => Nat.le_of_ble_eq_true rfl | exact Int.natCast_nonneg _ | exact fun _ => Int.natCast_nonneg _ | exact in_t _ _ _ | exact (in_t _ _ _).un | exact gq_f | exact gk | exact hu ▸ pick_t _ _ _ (by omega) | exact hcu ▸ chosen_t _ _ _ (by omega) (by omega) | exact hwu ▸ in_t _ _ _ | exact inrk k (by omega)
      case zk =>
      refine Aw.cond rfl (fun h2 => ?_) (fun h2 => Aw.skip ?_)
      · have h2 : wu = true := h2
        subst h2
        refine Aw.em tab_ok mb0 [] rfl rfl ?zo ?zk
        case zo =>
          repeat' apply AllP.cons
          all_goals first | exact trivial | exact id | exact rfl | exact fun _ => rfl | exact Nat.le_of_ble_eq_true rfl | exact fun _ => Nat.le_of_ble_eq_true rfl | exact Int.natCast_nonneg _ | exact fun _ => Int.natCast_nonneg _ | exact in_t _ _ _ | exact (in_t _ _ _).un | exact gq_f | exact (by simp only [Ob.of, inR]; omega)
        case zk =>
        exact ⟨⟨.refl _, .refl _, .refl _, .refl _, .refl _, .refl _, .refl _, .refl _, .refl _, .refl _, trivial⟩, ⟨.refl _, trivial⟩, ⟨rfl, trivial⟩, Nat.le_of_ble_eq_true rfl⟩
      · have h2 : wu = false := h2
        subst h2
        exact ⟨⟨.refl _, .refl _, .refl _, .refl _, .refl _, .refl _, .refl _, .refl _, .refl _, .refl _, trivial⟩, ⟨.refl _, trivial⟩, ⟨rfl, trivial⟩, Nat.le_of_ble_eq_true rfl⟩
    have hx4 : 0 ≤ addIf wu x4 m ∧ addIf wu x4 m ≤ 300000 := by unfold addIf; split <;> omega
    generalize addIf wu x4 m = x5 at *
    refine Aw.join1 1 hE1 [(0, .sl b .any (l.map Scale.c)), (2, .sl bp .any (ints p)), (7, .int f), (8, .int t), (9, .ref 0 0), (11, .int (x3 + x.seen)), (13, .int x1), (14, .int x2), (15, .int k), (16, .int m)] [(12, .int (addIf wv x5 (x.seen - m)))] [(0, .cells [.int (agedL f t l), .int (agedH f t l)])] uc ⟨.s _, trivial⟩ uh ?_ ?_
    · refine Aw.sd tab_ok mixed mb0 [(2, x.c), (8, x.c), (15, [.int pv]), (16, [.int cv]), (19, [.bool wv])] rfl (by kernel_rfl) rfl rfl ?zo ?zk
      case zo =>
        repeat' apply AllP.cons
        all_goals first | exact trivial | exact id | exact rfl | exact fun _ => rfl | exact Nat.le_of_ble_eq_true rfl | exact fun _ => Nat.le_of_ble_eq_true rfl | exact Int.natCast_nonneg _ | exact fun _ => Int.natCast_nonneg _ | exact in_t _ _ _ | exact (in_t _ _ _).un | exact gq_f | exact gk | exact hv ▸ pick_t _ _ _ (by omega) | exact hcv ▸ chosen_t _ _ _ (by omega) (by omega) | exact hwv ▸ in_t _ _ _ | exact (by simp only [Ob.of, inR]; omega)
      case zk =>
      refine Aw.cond rfl (fun h2 => ?_) (fun h2 => Aw.skip ?_)
      · have h2 : wv = true := h2
        subst h2
        refine Aw.em tab_ok mb0 [(3, x.c)] rfl rfl ?zo ?zk
        case zo =>
          repeat' apply AllP.cons
          all_goals first | exact trivial | exact id | exact rfl | exact fun _ => rfl | exact Nat.le_of_ble_eq_true rfl | exact fun _ => Nat.le_of_ble_eq_true rfl | exact Int.natCast_nonneg _ | exact fun _ => Int.natCast_nonneg _ | exact in_t _ _ _ | exact (in_t _ _ _).un | exact gq_f | exact gk | exact (by simp only [Ob.of, inR]; omega)
        case zk =>
        exact ⟨⟨.refl _, .refl _, .refl _, .refl _, .refl _, .refl _, .refl _, .refl _, .refl _, .refl _, trivial⟩, ⟨.refl _, trivial⟩, ⟨rfl, trivial⟩, Nat.le_of_ble_eq_true rfl⟩
      · have h2 : wv = false := h2
        subst h2
        exact ⟨⟨.refl _, .refl _, .refl _, .refl _, .refl _, .refl _, .refl _, .refl _, .refl _, .refl _, trivial⟩, ⟨.refl _, trivial⟩, ⟨rfl, trivial⟩, Nat.le_of_ble_eq_true rfl⟩
    rw [← s4]
    have il := isLow_in (f := f) (t := t) b3.2.2.1
    have ih := isHigh_in (f := f) (t := t) b3.2.2.1 t1.1
    generalize h6 : truthF l f t p (k + 1) = x6 at *
    have uc2 : UnderL 1 [(0, A.sl b .any (l.map Scale.c)), (2, .sl bp .any (ints p)), (7, .int f), (8, .int t), (9, .ref 0 0), (11, .int (x3 + x.seen)), (12, .int x6), (14, .int x2), (15, .int k)] := ⟨hsl.under, (free_ints _ _ _).under, .s _, .s _, .ref _ _ (by decide), .s _, .s _, .s _, .s _, trivial⟩
    refine Aw.join1 1 hE1 [(0, .sl b .any (l.map Scale.c)), (2, .sl bp .any (ints p)), (7, .int f), (8, .int t), (9, .ref 0 0), (11, .int (x3 + x.seen)), (12, .int x6), (14, .int x2), (15, .int k)] [(13, .int (addIf (isLow f t x) x1 x.seen))] [(0, .cells [.int (agedL f t l), .int (agedH f t l)])] uc2 ⟨.s _, trivial⟩ uh ?_ ?_
    · refine Aw.sm tab_ok mb0 [(2, x.c), (8, [.bool (wi x.lo f t)]), (12, x.c), (18, [.bool (wi x.hi f t)])] rfl rfl ?zo ?zk
      case zo =>
        repeat' apply AllP.cons
        all_goals first | exact trivial | exact id | exact rfl | exact fun _ => rfl | exact Nat.le_of_ble_eq_true rfl | exact fun _ => Nat.le_of_ble_eq_true rfl | exact Int.natCast_nonneg _ | exact fun _ => Int.natCast_nonneg _ | exact in_t _ _ _ | exact (in_t _ _ _).un | exact gq_f | exact gk | exact fun _ => gk
      case zk =>
      refine Aw.cond rfl (fun h2 => ?_) (fun h2 => Aw.skip ?_)
      · have h2' : isLow f t x = true := il.symm.trans h2
        rw [h2']
        refine Aw.em tab_ok mb0 [(3, x.c)] rfl rfl ?zo ?zk
        case zo =>
          repeat' apply AllP.cons
          all_goals first | exact trivial | exact id | exact rfl | exact fun _ => rfl | exact Nat.le_of_ble_eq_true rfl | exact fun _ => Nat.le_of_ble_eq_true rfl | exact Int.natCast_nonneg _ | exact fun _ => Int.natCast_nonneg _ | exact in_t _ _ _ | exact (in_t _ _ _).un | exact gq_f | exact gk | exact (by simp only [Ob.of, inR]; omega)
        case zk =>
        exact ⟨⟨.refl _, .refl _, .refl _, .refl _, .refl _, .refl _, .refl _, .refl _, .refl _, trivial⟩, ⟨.refl _, trivial⟩, ⟨rfl, trivial⟩, Nat.le_of_ble_eq_true rfl⟩
      · have h2' : isLow f t x = false := il.symm.trans h2
        rw [h2']
        exact ⟨⟨.refl _, .refl _, .refl _, .refl _, .refl _, .refl _, .refl _, .refl _, .refl _, trivial⟩, ⟨.refl _, trivial⟩, ⟨rfl, trivial⟩, Nat.le_of_ble_eq_true rfl⟩
    rw [← s1]
    refine Aw.sm tab_ok mb0 [(2, x.c), (8, [.bool (wi x.lo f t)]), (12, x.c), (18, [.bool (wi x.hi f t)]), (23, x.c), (32, x.c)] rfl rfl ?zo ?zk
    case zo =>
      repeat' apply AllP.cons
      all_goals first | exact trivial | exact id | exact rfl | exact fun _ => rfl | exact Nat.le_of_ble_eq_true rfl | exact fun _ => Nat.le_of_ble_eq_true rfl | exact Int.natCast_nonneg _ | exact fun _ => Int.natCast_nonneg _ | exact in_t _ _ _ | exact (in_t _ _ _).un | exact gq_f | exact gk | exact fun _ => gk | exact gq_t | exact gq_c | exact fun _ _ => rfl
    case zk =>
    refine Aw.cond rfl (fun h2 => ?_) (fun h2 => Aw.skip ?_)
    · have h2' : isHigh f t x = true := ih.symm.trans h2
      rw [h2'] at s2
      refine Aw.em tab_ok mb0 [(3, x.c)] rfl rfl ?zo ?zk
      case zo =>
        repeat' apply AllP.cons
        all_goals first | exact trivial | exact id | exact rfl | exact fun _ => rfl | exact Nat.le_of_ble_eq_true rfl | exact fun _ => Nat.le_of_ble_eq_true rfl | exact Int.natCast_nonneg _ | exact fun _ => Int.natCast_nonneg _ | exact in_t _ _ _ | exact (in_t _ _ _).un | exact gq_f | exact gk | exact (by simp only [Ob.of, inR]; omega)
      case zk =>
      refine Aw.em tab_ok mb0 [] rfl rfl ?zo ?zk
      case zo =>
        repeat' apply AllP.cons
        all_goals first | exact trivial | exact id | exact rfl | exact fun _ => rfl | exact Nat.le_of_ble_eq_true rfl | exact fun _ => Nat.le_of_ble_eq_true rfl | exact Int.natCast_nonneg _ | exact fun _ => Int.natCast_nonneg _ | exact in_t _ _ _ | exact (in_t _ _ _).un | exact gq_f | exact inrk k (by omega)
      case zk =>
      exact ⟨k + 1, hlt, by omega, ⟨.refl _, .refl _, .refl _, .refl _, .refl _, trivial⟩, ⟨.of_eq (congrArg A.int s3), .of_eq (congrArg A.int h6), .refl _, .of_eq (congrArg A.int s2), .refl _, trivial⟩, ⟨rfl, trivial⟩, Nat.le_of_ble_eq_true rfl⟩
    · have h2' : isHigh f t x = false := ih.symm.trans h2
      rw [h2'] at s2
      refine Aw.em tab_ok mb0 [] rfl rfl ?zo ?zk
      case zo =>
        repeat' apply AllP.cons
        all_goals first | exact trivial | exact id | exact rfl | exact fun _ => rfl | exact Nat.le_of_ble_eq_true rfl | exact fun _ => Nat.le_of_ble_eq_true rfl | exact Int.natCast_nonneg _ | exact fun _ => Int.natCast_nonneg _ | exact in_t _ _ _ | exact (in_t _ _ _).un | exact gq_f | exact inrk k (by omega)
      case zk =>
      exact ⟨k + 1, hlt, by omega, ⟨.refl _, .refl _, .refl _, .refl _, .refl _, trivial⟩, ⟨.of_eq (congrArg A.int s3), .of_eq (congrArg A.int h6), .refl _, .of_eq (congrArg A.int s2), .refl _, trivial⟩, ⟨rfl, trivial⟩, Nat.le_of_ble_eq_true rfl⟩
  have hle : k = l.length := by have := of_decide_eq_false h1; omega
  subst hle
  have tl := tin l.length (Nat.le_refl _)
  rw [List.take_length] at *
  obtain ⟨a1, a2⟩ := aged_all hok
  have ea : agedR l 0 20 = [.agg (Sp.c ⟨seenF l l.length, seenF l l.length⟩), .int 0] := by simp only [agedR, a1, a2]
  refine Aw.exit2 ?_
  refine Aw.sm tab_ok mb0 [(1, [.tup [.agg (Sp.c ⟨seenF l l.length, seenF l l.length⟩), .int 0]])] rfl rfl ?zo ?zk
  case zo =>
    repeat' apply AllP.cons
    all_goals first | exact trivial | exact id | exact rfl | exact fun _ => rfl | exact Nat.le_of_ble_eq_true rfl | exact fun _ => Nat.le_of_ble_eq_true rfl | exact Int.natCast_nonneg _ | exact fun _ => Int.natCast_nonneg _ | exact in_t _ _ _ | exact (in_t _ _ _).un | exact gq_f | exact ea ▸ aged_t b l 0 20 hl
  case zk =>
  generalize seenF l l.length = S at *
  generalize truthF l f t p l.length = T at *
  generalize agedL f t l = L at *
  generalize agedH f t l = H at *
  have hw : wi T L H = true := wi_iff.2 tl
  have r1 : ∀ (x y : Operand) (s : Sp), EqIs tab .eql 25 x y (.agg s.c) (.agg s.c) true := fun x y s => by have := eqSp x y s s; rwa [beq_self_eq_true] at this
  refine Aw.sd tab_ok mixed mb0 [(6, [.agg (Sp.c ⟨S, S⟩)]), (7, [.bool true]), (12, [.bool true]), (18, [.agg (Sp.c ⟨L, H⟩)]), (19, [.bool true]), (22, [.bool true])] rfl (by kernel_rfl) rfl rfl ?zo ?zk
  case zo =>
    repeat' apply AllP.cons
    all_goals first | exact trivial | exact id | exact rfl | exact fun _ => rfl | exact Nat.le_of_ble_eq_true rfl | exact fun _ => Nat.le_of_ble_eq_true rfl | exact Int.natCast_nonneg _ | exact fun _ => Int.natCast_nonneg _ | exact in_t _ _ _ | exact (in_t _ _ _).un | exact gq_f | exact fun _ => to_t _ _ | exact fun _ => r1 _ _ ⟨S, S⟩ | exact fun _ => hw ▸ holds_l ⟨L, H⟩ T | exact fun _ => r1 _ _ ⟨L, H⟩ | exact fun _ => works_t
  case zk =>
  exact Aw.ret ⟨_, .cons (.tmp _) .nil, rfl⟩
end Go.Proofs.Ytdiclbgklegelaa
namespace Go.Proofs.Ytdiclbgklegelaa
open Go Go.AL Go.AL.Q
theorem alive_t (r : Rce) (hf : r.Fit) : Ans Try.prog 46 [.agg r.c] (.bool r.alive) := by
  have h1 := hf.n
  have h2 := hf.k
  have h3 := hf.s
  have ln := ints_lenI r.numbers
  have lk := ints_lenI r.keep
  have ls := ints_lenI r.spawn
  have lm : (r.many : Int) = r.numbers.length := rfl
  have hm : r.many = r.numbers.length := rfl
  have urc : Under 0 (A.pt r.c) := (Free.pt _ r.free).under
  refine told Try.func46 rfl rfl (Pure.of tab_ok Try.func46 rfl Try.ntmps46 rfl (all1 (.agg _ r.free)) (all1 (fun _ => rfl)) (by first | exact .s _ | assumption | exact .tup _ (by intro x hx; simp only [List.mem_cons, List.not_mem_nil, or_false] at hx; rcases hx with rfl | rfl | rfl | rfl <;> first | exact .s _ | (simp_all; done))) fun E hE => ?_)
  refine Aw.sm tab_ok mb0 [] rfl rfl ?zo ?zk
  case zo =>
    repeat' apply AllP.cons
    all_goals first | exact trivial | exact id | exact rfl | exact fun _ => rfl | exact Nat.le_of_ble_eq_true rfl | exact fun _ => Nat.le_of_ble_eq_true rfl | exact Int.natCast_nonneg _ | exact fun _ => Int.natCast_nonneg _ | exact in_t _ _ _ | exact (in_t _ _ _).un | exact gq_f
  case zk =>
  refine Aw.sm tab_ok mb0 [] rfl rfl ?zo ?zk
  case zo =>
    repeat' apply AllP.cons
    all_goals first | exact trivial | exact id | exact rfl | exact fun _ => rfl | exact Nat.le_of_ble_eq_true rfl | exact fun _ => Nat.le_of_ble_eq_true rfl | exact Int.natCast_nonneg _ | exact fun _ => Int.natCast_nonneg _ | exact in_t _ _ _ | exact (in_t _ _ _).un | exact gq_f
  case zk =>
  refine Aw.keep (n := 0) (cst := [(1, .pt r.c), (3, .int r.many)]) (v := []) (Hl := []) hE ⟨urc, .s _, trivial⟩ trivial trivial ⟨⟨.refl _, .of_eq (congrArg A.int ln.symm), trivial⟩, trivial, trivial, Nat.zero_le _⟩ ?_
  refine Aw.sm tab_ok mb0 [(1, [.bool (wi r.many 1 6)]), (21, [.bool (wi r.mesh 0 ((r.many:Int) - 1))])] rfl rfl ?zo ?zk
  case zo =>
    repeat' apply AllP.cons
    all_goals first | exact trivial | exact id | exact rfl | exact fun _ => rfl | exact Nat.le_of_ble_eq_true rfl | exact fun _ => Nat.le_of_ble_eq_true rfl | exact Int.natCast_nonneg _ | exact fun _ => Int.natCast_nonneg _ | exact in_t _ _ _ | exact (in_t _ _ _).un | exact gq_f | exact fun _ => (by simp only [Ob.of, inR]; omega)
  case zk =>
  have hd : A.bool r.aliveHead = A.bool (cond (cond (cond (wi r.many 1 6) (((ints r.keep).length : Int) == r.many) false) (((ints r.spawn).length : Int) == r.many) false) (wi r.mesh 0 ((r.many:Int) - 1)) false) := by rw [lk, ls]; rfl
  refine Aw.seq ?_
  refine Aw.sm tab_ok mb0 [] rfl rfl ?zo ?zk
  case zo =>
    repeat' apply AllP.cons
    all_goals first | exact trivial | exact id | exact rfl | exact fun _ => rfl | exact Nat.le_of_ble_eq_true rfl | exact fun _ => Nat.le_of_ble_eq_true rfl | exact Int.natCast_nonneg _ | exact fun _ => Int.natCast_nonneg _ | exact in_t _ _ _ | exact (in_t _ _ _).un | exact gq_f
  case zk =>
  have lr : (List.range r.many).length = r.many := List.length_range
  refine Aw.block (Aw.rounds 0 hE [(1, .pt r.c), (3, .int r.many)] (fun k : Nat => [(4, .bool (andAll r.aliveHead r.ageOk (List.range r.many) k)), (5, .int k)]) (fun _ => []) (fun k => k ≤ r.many) (fun k => r.many - k) 0
    (Nat.zero_le _) ⟨⟨.refl _, .refl _, trivial⟩, ⟨.of_eq (by rw [andAll_zero]; exact hd), .refl _, trivial⟩, trivial, Nat.le_refl _⟩ ⟨urc, .s _, trivial⟩ (fun _ _ => ⟨.s _, .s _, trivial⟩) (fun _ _ => trivial) fun k hk => ?_)
  refine Aw.seq ?_
  refine Aw.sm tab_ok mb0 [] rfl rfl ?zo ?zk
  case zo =>
    repeat' apply AllP.cons
    all_goals first | exact trivial | exact id | exact rfl | exact fun _ => rfl | exact Nat.le_of_ble_eq_true rfl | exact fun _ => Nat.le_of_ble_eq_true rfl | exact Int.natCast_nonneg _ | exact fun _ => Int.natCast_nonneg _ | exact in_t _ _ _ | exact (in_t _ _ _).un | exact gq_f
  case zk =>
  refine Aw.cond rfl (fun h1 => Aw.skip ?_) (fun h1 => ?_)
  · have h1 : cond (andAll r.aliveHead r.ageOk (List.range r.many) k) (decide ((k : Int) < r.many)) false = true := h1
    have hb := ac1 h1
    have hlt : k < r.many := by have := of_decide_eq_true (ac2 h1); omega
    have hh : r.aliveHead = true := by unfold andAll at hb; exact ac1 hb
    have hk1 : r.keep.length = r.many := by unfold Rce.aliveHead at hh; have := eq_of_beq (ac2 (ac1 (ac1 hh))); omega
    have hs1 : r.spawn.length = r.many := by unfold Rce.aliveHead at hh; have := eq_of_beq (ac2 (ac1 hh)); omega
    refine Aw.seq (Aw.block ?_)
    refine Aw.em tab_ok mb0 [(3, [.int (r.numbers.getD k 0)]), (5, [.bool (wi (r.numbers.getD k 0) 0 100000)]), (10, [.int (r.keep.getD k 0)]), (12, [.bool (wi (r.keep.getD k 0) 0 1000)]), (18, [.int (r.spawn.getD k 0)]), (20, [.bool (wi (r.spawn.getD k 0) 0 100)])] rfl rfl ?zo ?zk
    case zo =>
      repeat' apply AllP.cons
      all_goals first | exact trivial | exact id | exact rfl | exact fun _ => rfl | exact Nat.le_of_ble_eq_true rfl | exact fun _ => Nat.le_of_ble_eq_true rfl | exact Int.natCast_nonneg _ | exact fun _ => Int.natCast_nonneg _ | exact in_t _ _ _ | exact (in_t _ _ _).un | exact gq_f | exact ints_getD hlt | exact fun _ => ints_getD (by omega)
    case zk =>
    refine Aw.em tab_ok mb0 [] rfl rfl ?zo ?zk
    case zo =>
      repeat' apply AllP.cons
      all_goals first | exact trivial | exact id | exact rfl | exact fun _ => rfl | exact Nat.le_of_ble_eq_true rfl | exact fun _ => Nat.le_of_ble_eq_true rfl | exact Int.natCast_nonneg _ | exact fun _ => Int.natCast_nonneg _ | exact in_t _ _ _ | exact (in_t _ _ _).un | exact gq_f | exact inrk k (by omega)
    case zk =>
    have e : andAll r.aliveHead r.ageOk (List.range r.many) (k + 1) = r.ageOk k := by
      rw [andAll_succ (by rw [lr]; exact hlt) hb, List.getElem_range]
    exact ⟨k + 1, hlt, by omega, ⟨.refl _, .refl _, trivial⟩, ⟨.of_eq (congrArg A.bool e), .refl _, trivial⟩, trivial, Nat.zero_le _⟩
  have h1 : cond (andAll r.aliveHead r.ageOk (List.range r.many) k) (decide ((k : Int) < r.many)) false = false := h1
  have hend : andAll r.aliveHead r.ageOk (List.range r.many) k = r.alive := (andAll_end (by
    cases e : andAll r.aliveHead r.ageOk (List.range r.many) k with
    | false => exact .inl rfl
    | true => rw [e] at h1; have := of_decide_eq_false h1; exact .inr (by rw [lr]; omega)) (by rw [lr]; exact hk)).trans rfl
  rw [hend]
  refine Aw.exit2 ?_
  refine Aw.sm tab_ok mb0 [] rfl rfl ?zo ?zk
  case zo =>
    repeat' apply AllP.cons
    all_goals first | exact trivial | exact id | exact rfl | exact fun _ => rfl | exact Nat.le_of_ble_eq_true rfl | exact fun _ => Nat.le_of_ble_eq_true rfl | exact Int.natCast_nonneg _ | exact fun _ => Int.natCast_nonneg _ | exact in_t _ _ _ | exact (in_t _ _ _).un | exact gq_f
  case zk =>
  exact Aw.ret ⟨_, .cons (.tmp _) .nil, rfl⟩
def oneC (n : Int) : List A := [.int n]
theorem outX_ne {l : List Int} (h : l ≠ []) : outX l = .sl false .exact (ints l) := by
  cases l with
  | nil => exact absurd rfl h
  | cons x l => rfl
theorem ints_flat (l : List Int) : (ints l).flatten.map A.down = l.map A.int := by
  induction l with
  | nil => rfl
  | cons x l ih =>
    rw [show ints (x :: l) = [.int x] :: ints l from rfl, List.flatten_cons, List.map_append, ih]; rfl
theorem ints_each (l : List Int) : ∀ z ∈ ints l, z.length = 1 := fun z hz => by obtain ⟨n, _, rfl⟩ := List.mem_map.1 hz; rfl
theorem cell_at {l : List Int} {a : Nat} (h : a < l.length) : ((l.map A.int).getD (0 + a * 1) .un).down = .int (l.getD a 0) := by
  rw [Nat.zero_add, Nat.mul_one]
  simp [List.getD_eq_getElem?_getD, h, A.down]
theorem cell_set {l : List Int} {a : Nat} (h : a < l.length) (v : Int) : setSeg (l.map A.int) (0 + a * 1) [A.int v] = (l.set a v).map A.int := by
  rw [Nat.zero_add, Nat.mul_one, setSeg_set h]
theorem rows_ints (l : List Int) : RowsAre (l.map A.int) (ints l) 1 := by
  have e : (ints l).flatten = l.map A.int := by
    induction l with
    | nil => rfl
    | cons x l ih => rw [show ints (x :: l) = [.int x] :: ints l from rfl, List.flatten_cons, ih]; rfl
  have := rows_all (c := fun n : Int => [A.int n]) (sz := 1) (fun _ => rfl) (fun _ => rfl) l
  rwa [show (l.map fun n : Int => [A.int n]) = ints l from rfl, e] at this
set_option maxRecDepth 100000 in
theorem falls_t (r : Rce) (p q : Bool) (takes recs : List Int) (y0 y1 y2 : Int) (hf : r.Fit) (ht : (takes.length : Int) ≤ 9223372036854775806) (hc : (recs.length : Int) ≤ 9223372036854775806) :
    Ans Try.prog 11 [.agg r.c, .sl p .any (ints takes), .sl q .any (ints recs), .agg [.int y0, .int y1, .int y2]] (.bool true) := by
  have lt := ints_lenI takes
  have lc := ints_lenI recs
  refine told Try.func11 rfl rfl (Pure.of tab_ok Try.func11 rfl Try.ntmps11 rfl (allC (.agg _ r.free) (allC (free_ints _ _ _) (allC (free_ints _ _ _) (all1 (.agg _ (allC (.s _) (allC (.s _) (all1 (.s _))))))))) (allC (fun _ => rfl) (allC (fun _ => rfl) (allC (fun _ => rfl) (all1 (fun _ => rfl))))) (by first | exact .s _ | assumption | exact .tup _ (by intro x hx; simp only [List.mem_cons, List.not_mem_nil, or_false] at hx; rcases hx with rfl | rfl | rfl | rfl <;> first | exact .s _ | (simp_all; done))) fun E hE => ?_)
  refine Aw.sm tab_ok mb0 [] rfl rfl ?zo ?zk
  case zo =>
    repeat' apply AllP.cons
    all_goals first | exact trivial | exact id | exact rfl | exact fun _ => rfl | exact Nat.le_of_ble_eq_true rfl | exact fun _ => Nat.le_of_ble_eq_true rfl | exact Int.natCast_nonneg _ | exact fun _ => Int.natCast_nonneg _ | exact in_t _ _ _ | exact (in_t _ _ _).un | exact gq_f
  case zk =>
  cases hok : playOk r takes recs with
  | false =>
    have e : playR r takes recs = [.sl true .exact [], .int 92] := by unfold playR; rw [hok]; rfl
    refine Aw.sm tab_ok mb0 [(3, [.tup [.sl true .exact [], .int 92]])] rfl rfl ?zo ?zk
    case zo =>
      repeat' apply AllP.cons
      all_goals first | exact trivial | exact id | exact rfl | exact fun _ => rfl | exact Nat.le_of_ble_eq_true rfl | exact fun _ => Nat.le_of_ble_eq_true rfl | exact Int.natCast_nonneg _ | exact fun _ => Int.natCast_nonneg _ | exact in_t _ _ _ | exact (in_t _ _ _).un | exact gq_f | exact e ▸ play_t r hf p q takes recs ht hc
    case zk =>
    refine Aw.seq ?_
    refine Aw.sm tab_ok mb0 [(4, [.bool true]), (10, [.bool true])] rfl rfl ?zo ?zk
    case zo =>
      repeat' apply AllP.cons
      all_goals first | exact trivial | exact id | exact rfl | exact fun _ => rfl | exact Nat.le_of_ble_eq_true rfl | exact fun _ => Nat.le_of_ble_eq_true rfl | exact Int.natCast_nonneg _ | exact fun _ => Int.natCast_nonneg _ | exact in_t _ _ _ | exact (in_t _ _ _).un | exact gq_f | exact (fun h => by cases h) | exact (fun _ => rfl)
    case zk =>
    refine Aw.cond rfl (fun _ => ?_) (fun h => by cases h)
    refine Aw.sm tab_ok mb0 [(8, [.bool true])] rfl rfl ?zo ?zk
    case zo =>
      repeat' apply AllP.cons
      all_goals first | exact trivial | exact id | exact rfl | exact fun _ => rfl | exact Nat.le_of_ble_eq_true rfl | exact fun _ => Nat.le_of_ble_eq_true rfl | exact Int.natCast_nonneg _ | exact fun _ => Int.natCast_nonneg _ | exact in_t _ _ _ | exact (in_t _ _ _).un | exact gq_f | exact fun _ => works_t
    case zk =>
    exact Aw.ret ⟨_, .cons (.tmp _) .nil, rfl⟩
  | true =>
  have hi := PlayIn.of hok
  have i1 := hi.l1
  have i10 := hi.l10
  have ilen := hi.len
  have lP : (playF r r.numbers takes recs).length = takes.length := playF_len r takes recs _ ilen.symm
  have hal := Rce.alive_of hi.ok
  have neP : playF r r.numbers takes recs ≠ [] := fun h => by rw [h] at lP; simp at lP; omega
  have e : playR r takes recs = [.sl false .exact (ints (playF r r.numbers takes recs)), .int 0] := by unfold playR; rw [hok, ← outX_ne neP]; rfl
  refine Aw.sm tab_ok mb0 [(3, [.tup [.sl false .exact (ints (playF r r.numbers takes recs)), .int 0]])] rfl rfl ?zo ?zk
  case zo =>
    repeat' apply AllP.cons
    all_goals first | exact trivial | exact id | exact rfl | exact fun _ => rfl | exact Nat.le_of_ble_eq_true rfl | exact fun _ => Nat.le_of_ble_eq_true rfl | exact Int.natCast_nonneg _ | exact fun _ => Int.natCast_nonneg _ | exact in_t _ _ _ | exact (in_t _ _ _).un | exact gq_f | exact e ▸ play_t r hf p q takes recs ht hc
  case zk =>
  generalize hP : playF r r.numbers takes recs = P at *
  have lP2 := ints_lenI P
  refine Aw.seq ?_
  refine Aw.sm tab_ok mb0 [(4, [.bool true]), (10, [.bool true])] rfl rfl ?zo ?zk
  case zo =>
    repeat' apply AllP.cons
    all_goals first | exact trivial | exact id | exact rfl | exact fun _ => rfl | exact Nat.le_of_ble_eq_true rfl | exact fun _ => Nat.le_of_ble_eq_true rfl | exact Int.natCast_nonneg _ | exact fun _ => Int.natCast_nonneg _ | exact in_t _ _ _ | exact (in_t _ _ _).un | exact gq_f | exact fun _ => hal ▸ alive_t r hf | exact fun _ => (show wi (ints takes).length 1 10 = true from wi_iff.2 ⟨by omega, by omega⟩) ▸ in_t _ _ _ | exact (fun h => by cases h) | exact (fun _ => rfl)
  case zk =>
  refine Aw.cond rfl (fun h => ?_) (fun _ => Aw.skip ?_)
  · have h : cond (cond (cond (cond (((0 : Int) != 0)) true (!true)) true (!true)) true (((ints recs).length : Int) != ((ints takes).length : Int))) true (((ints P).length : Int) != ((ints takes).length : Int)) = true := h
    rw [lt, lc, lP2, lP, ilen] at h
    simp at h
  have g1 := Int.emod_nonneg y0 (show (takes.length : Int) ≠ 0 by omega)
  have g2 := Int.emod_lt_of_pos y0 (show 0 < (takes.length : Int) by omega)
  obtain ⟨a, ha⟩ : ∃ a : Nat, y0 % (takes.length : Int) = a := ⟨(y0 % (takes.length : Int)).toNat, (Int.toNat_of_nonneg g1).symm⟩
  have ha1 : a < takes.length := by omega
  have ha2 : a < recs.length := by omega
  refine Aw.sm tab_ok mb0 [(4, [.int a])] rfl rfl ?zo ?zk
  case zo =>
    repeat' apply AllP.cons
    all_goals first | exact trivial | exact id | exact rfl | exact fun _ => rfl | exact Nat.le_of_ble_eq_true rfl | exact fun _ => Nat.le_of_ble_eq_true rfl | exact Int.natCast_nonneg _ | exact fun _ => Int.natCast_nonneg _ | exact in_t _ _ _ | exact (in_t _ _ _).un | exact gq_f | exact (by have := mod_t y0 takes.length (by omega) (by omega); rw [ha, ← lt] at this; exact this)
  case zk =>
  have u1 := Int.emod_nonneg y1 (show (50 : Int) ≠ 0 by omega)
  have u2 := Int.emod_lt_of_pos y1 (show (0 : Int) < 50 by omega)
  have u3 := Int.emod_nonneg y2 (show (50 : Int) ≠ 0 by omega)
  have u4 := Int.emod_lt_of_pos y2 (show (0 : Int) < 50 by omega)
  have k1 : Ans Try.prog 35 [.int y1, .int 50] (.int (y1 % 50)) := mod_t _ _ (by omega) (by omega)
  have k2 : Ans Try.prog 35 [.int y2, .int 50] (.int (y2 % 50)) := mod_t _ _ (by omega) (by omega)
  generalize y1 % 50 = v1 at *
  generalize y2 % 50 = v2 at *
  have n1 : ints takes ≠ [] := fun h => by rw [h] at lt; simp at lt; omega
  have n2 : ints recs ≠ [] := fun h => by rw [h] at lc; simp at lc; omega
  refine Aw.sm tab_ok mb0 [(2, [.ms 0 0 0]), (5, [.ms 0 0 0])] rfl rfl ?zo ?zk
  case zo =>
    repeat' apply AllP.cons
    all_goals first | exact trivial | exact id | exact rfl | exact fun _ => rfl | exact Nat.le_of_ble_eq_true rfl | exact fun _ => Nat.le_of_ble_eq_true rfl | exact Int.natCast_nonneg _ | exact fun _ => Int.natCast_nonneg _ | exact in_t _ _ _ | exact (in_t _ _ _).un | exact gq_f | exact n1 | exact n2 | exact ints_each _ | exact (show (ints takes).length * 8 ≤ 140737488355328 by omega) | exact (show (ints recs).length * 8 ≤ 140737488355328 by omega) | exact (show (ints takes).length ≤ maxLen by unfold maxLen; omega) | exact (show (ints recs).length ≤ maxLen by unfold maxLen; omega)
  case zk =>
  have hE2 : ∀ id, 2 ≤ id → E.φ0 id = none := fun id h => hE id (by omega)
  have cu : ∀ l : List Int, UnderB 2 (.cells (l.map A.int)) := fun l => cells_under l
  refine Aw.keep (n := 2) (cst := [(1, .sl p .any (ints takes)), (2, .sl q .any (ints recs)), (4, .pt r.c), (7, .pt [.int y0, .int y1, .int y2]), (9, .sl false .exact (ints P)), (11, .int a), (12, .ms 0 0 (ints takes).length), (13, .ms 1 0 (ints recs).length)]) (v := []) (Hl := [(0, .cells (takes.map A.int)), (1, .cells (recs.map A.int))]) hE2
    ⟨(free_ints _ _ _).under, (free_ints _ _ _).under, (Free.pt _ r.free).under, .pt _ (allC (.s _) (allC (.s _) (all1 (.s _)))), (free_ints _ _ _).under, .s _, .ms _ _ _ (by decide), .ms _ _ _ (by decide), trivial⟩ trivial ⟨⟨by decide, cu _⟩, ⟨by decide, cu _⟩, trivial⟩
    ⟨⟨.refl _, .refl _, .refl _, .refl _, .refl _, .refl _, .refl _, .refl _, trivial⟩, trivial, ⟨congrArg (fun x => some (B.cells x)) (ints_flat takes), congrArg (fun x => some (B.cells x)) (ints_flat recs), trivial⟩, Nat.le_refl _⟩ ?_
  have tb := hi.t a ha1
  have rb := hi.x a ha1
  have pa : 0 + a * 1 < (takes.map A.int).length := by rw [List.length_map]; omega
  have pa2 : 0 + a * 1 + 1 ≤ (takes.map A.int).length := by omega
  have qa : 0 + a * 1 < (recs.map A.int).length := by rw [List.length_map]; omega
  have qa2 : 0 + a * 1 + 1 ≤ (recs.map A.int).length := by omega
  have ax : (a : Int) < ((ints takes).length : Nat) := by omega
  have ay : (a : Int) < ((ints recs).length : Nat) := by omega
  refine Aw.sd tab_ok mixed mb0 [(5, [.int (takes.getD a 0)]), (8, [.int v1])] rfl (by kernel_rfl) rfl rfl ?zo ?zk
  case zo =>
    repeat' apply AllP.cons
    all_goals first | exact trivial | exact id | exact rfl | exact fun _ => rfl | exact Nat.le_of_ble_eq_true rfl | exact fun _ => Nat.le_of_ble_eq_true rfl | exact Int.natCast_nonneg _ | exact fun _ => Int.natCast_nonneg _ | exact in_t _ _ _ | exact (in_t _ _ _).un | exact gq_f | exact cell_at ha1 | exact pa | exact pa2 | exact ax | exact k1 | exact (by simp only [Ob.of, inR]; omega)
  case zk =>
  refine Aw.sd tab_ok mixed mb0 [(5, [.int (recs.getD a 0)]), (8, [.int v2])] rfl (by kernel_rfl) rfl rfl ?zo ?zk
  case zo =>
    repeat' apply AllP.cons
    all_goals first | exact trivial | exact id | exact rfl | exact fun _ => rfl | exact Nat.le_of_ble_eq_true rfl | exact fun _ => Nat.le_of_ble_eq_true rfl | exact Int.natCast_nonneg _ | exact fun _ => Int.natCast_nonneg _ | exact in_t _ _ _ | exact (in_t _ _ _).un | exact gq_f | exact cell_at ha2 | exact qa | exact qa2 | exact ay | exact k2 | exact (by simp only [Ob.of, inR]; omega)
  case zk =>
  have hs1 : setSeg (takes.map A.int) (0 + a * 1) [A.int (if takes.getD a 0 + v1 < 100000000 then takes.getD a 0 + v1 else 100000000)] = (takes.set a (min 100000000 (takes.getD a 0 + v1))).map A.int := by
    rw [minI, cell_set ha1]
  have hs2 : setSeg (recs.map A.int) (0 + a * 1) [A.int (if 0 < recs.getD a 0 - v2 then recs.getD a 0 - v2 else 0)] = (recs.set a (max 0 (recs.getD a 0 - v2))).map A.int := by
    rw [show (if 0 < recs.getD a 0 - v2 then recs.getD a 0 - v2 else 0) = max 0 (recs.getD a 0 - v2) by rw [Int.max_def]; split <;> split <;> omega, cell_set ha2]
  obtain ⟨m1, m2, m3⟩ := more_taken hi ha1 (v := min 100000000 (takes.getD a 0 + v1)) (by omega) (by omega)
  obtain ⟨f1, f2, f3⟩ := fewer_come hi ha1 (v := max 0 (recs.getD a 0 - v2)) (by omega) (by omega)
  refine Aw.keep (n := 2) (cst := [(1, .sl p .any (ints takes)), (2, .sl q .any (ints recs)), (4, .pt r.c), (9, .sl false .exact (ints P)), (11, .int a), (12, .ms 0 0 (ints takes).length), (13, .ms 1 0 (ints recs).length)]) (v := []) (Hl := [(0, .cells ((takes.set a (min 100000000 (takes.getD a 0 + v1))).map A.int)), (1, .cells ((recs.set a (max 0 (recs.getD a 0 - v2))).map A.int))]) hE2
    ⟨(free_ints _ _ _).under, (free_ints _ _ _).under, (Free.pt _ r.free).under, (free_ints _ _ _).under, .s _, .ms _ _ _ (by decide), .ms _ _ _ (by decide), trivial⟩ trivial ⟨⟨by decide, cu _⟩, ⟨by decide, cu _⟩, trivial⟩
    ⟨⟨.refl _, .refl _, .refl _, .refl _, .refl _, .refl _, .refl _, trivial⟩, trivial, ⟨congrArg (fun x => some (B.cells x)) hs1, congrArg (fun x => some (B.cells x)) hs2, trivial⟩, Nat.le_of_ble_eq_true rfl⟩ ?_
  have T1l : (takes.set a (min 100000000 (takes.getD a 0 + v1))).length = takes.length := List.length_set
  have X1l : (recs.set a (max 0 (recs.getD a 0 - v2))).length = recs.length := List.length_set
  have pp := play_pos hi
  rw [hP] at m2 m3 f2 f3 pp
  generalize takes.set a (min 100000000 (takes.getD a 0 + v1)) = T1 at *
  generalize recs.set a (max 0 (recs.getD a 0 - v2)) = X1 at *
  refine Aw.freezeS (id := 0) (t := 12) (sz := 1) (cs := T1.map A.int) (ints T1) rfl rfl (rows_ints _) (by have := ints_lenI T1; omega) ?_
  refine Aw.freezeS (id := 1) (t := 13) (sz := 1) (cs := X1.map A.int) (ints X1) rfl rfl (rows_ints _) (by have := ints_lenI X1; omega) ?_
  refine Aw.keep (n := 0) (cst := [(1, .sl p .any (ints takes)), (2, .sl q .any (ints recs)), (4, .pt r.c), (9, .sl false .exact (ints P)), (11, .int a), (12, .sl false .any (ints T1)), (13, .sl false .any (ints X1))]) (v := []) (Hl := []) hE
    ⟨(free_ints _ _ _).under, (free_ints _ _ _).under, (Free.pt _ r.free).under, (free_ints _ _ _).under, .s _, (free_ints _ _ _).under, (free_ints _ _ _).under, trivial⟩ trivial trivial
    ⟨⟨.refl _, .refl _, .refl _, .refl _, .refl _, .refl _, .refl _, trivial⟩, trivial, trivial, Nat.zero_le _⟩ ?_
  have l1 := m2.1
  have l2 := f2.1
  have ne1 : playF r r.numbers T1 recs ≠ [] := fun h => by rw [h, lP] at l1; simp at l1; omega
  have ne2 : playF r r.numbers takes X1 ≠ [] := fun h => by rw [h, lP] at l2; simp at l2; omega
  have e1 : playR r T1 recs = [.sl false .exact (ints (playF r r.numbers T1 recs)), .int 0] := by unfold playR; rw [m1.to, ← outX_ne ne1]; rfl
  have e2 : playR r takes X1 = [.sl false .exact (ints (playF r r.numbers takes X1)), .int 0] := by unfold playR; rw [f1.to, ← outX_ne ne2]; rfl
  refine Aw.sm tab_ok mb0 [(3, [.tup [.sl false .exact (ints (playF r r.numbers T1 recs)), .int 0]])] rfl rfl ?zo ?zk
  case zo =>
    repeat' apply AllP.cons
    all_goals first | exact trivial | exact id | exact rfl | exact fun _ => rfl | exact Nat.le_of_ble_eq_true rfl | exact fun _ => Nat.le_of_ble_eq_true rfl | exact Int.natCast_nonneg _ | exact fun _ => Int.natCast_nonneg _ | exact in_t _ _ _ | exact (in_t _ _ _).un | exact gq_f | exact e1 ▸ play_t r hf false q T1 recs (by omega) hc
  case zk =>
  refine Aw.sm tab_ok mb0 [(3, [.tup [.sl false .exact (ints (playF r r.numbers takes X1)), .int 0]])] rfl rfl ?zo ?zk
  case zo =>
    repeat' apply AllP.cons
    all_goals first | exact trivial | exact id | exact rfl | exact fun _ => rfl | exact Nat.le_of_ble_eq_true rfl | exact fun _ => Nat.le_of_ble_eq_true rfl | exact Int.natCast_nonneg _ | exact fun _ => Int.natCast_nonneg _ | exact in_t _ _ _ | exact (in_t _ _ _).un | exact gq_f | exact e2 ▸ play_t r hf p false takes X1 ht (by omega)
  case zk =>
  generalize playF r r.numbers T1 recs = P1 at *
  generalize playF r r.numbers takes X1 = P2 at *
  have lP3 := ints_lenI P1
  have lP4 := ints_lenI P2
  refine Aw.seq ?_
  refine Aw.sm tab_ok mb0 [] rfl rfl ?zo ?zk
  case zo =>
    repeat' apply AllP.cons
    all_goals first | exact trivial | exact id | exact rfl | exact fun _ => rfl | exact Nat.le_of_ble_eq_true rfl | exact fun _ => Nat.le_of_ble_eq_true rfl | exact Int.natCast_nonneg _ | exact fun _ => Int.natCast_nonneg _ | exact in_t _ _ _ | exact (in_t _ _ _).un | exact gq_f | exact (fun h => by cases h) | exact (fun _ => rfl)
  case zk =>
  refine Aw.cond rfl (fun h => ?_) (fun _ => Aw.skip ?_)
  · have h : cond (cond (cond ((0 : Int) != 0) true ((0 : Int) != 0)) true (((ints P1).length : Int) != ((ints P).length : Int))) true (((ints P2).length : Int) != ((ints P).length : Int)) = true := h
    rw [lP2, lP3, lP4, l1, l2] at h
    simp at h
  refine Aw.seq ?_
  refine Aw.sm tab_ok mb0 [] rfl rfl ?zo ?zk
  case zo =>
    repeat' apply AllP.cons
    all_goals first | exact trivial | exact id | exact rfl | exact fun _ => rfl | exact Nat.le_of_ble_eq_true rfl | exact fun _ => Nat.le_of_ble_eq_true rfl | exact Int.natCast_nonneg _ | exact fun _ => Int.natCast_nonneg _ | exact in_t _ _ _ | exact (in_t _ _ _).un | exact gq_f
  case zk =>
  have uP : ∀ (l : List Int), Under 0 (A.sl false .exact (ints l)) := fun l => (free_ints _ _ _).under
  refine Aw.block (Aw.rounds 0 hE [(9, .sl false .exact (ints P)), (11, .int a), (14, .sl false .exact (ints P1)), (15, .sl false .exact (ints P2))] (fun k : Nat => [(17, .int k)]) (fun _ => []) (fun k => k ≤ P.length) (fun k => P.length - k) 0
    (Nat.zero_le _) ⟨⟨.refl _, .refl _, .refl _, .refl _, trivial⟩, ⟨.refl _, trivial⟩, trivial, Nat.zero_le _⟩ ⟨uP _, .s _, uP _, uP _, trivial⟩ (fun _ _ => ⟨.s _, trivial⟩) (fun _ _ => trivial) fun k hk => ?_)
  refine Aw.seq ?_
  refine Aw.sm tab_ok mb0 [] rfl rfl ?zo ?zk
  case zo =>
    repeat' apply AllP.cons
    all_goals first | exact trivial | exact id | exact rfl | exact fun _ => rfl | exact Nat.le_of_ble_eq_true rfl | exact fun _ => Nat.le_of_ble_eq_true rfl | exact Int.natCast_nonneg _ | exact fun _ => Int.natCast_nonneg _ | exact in_t _ _ _ | exact (in_t _ _ _).un | exact gq_f
  case zk =>
  refine Aw.cond rfl (fun h1 => Aw.skip ?_) (fun h1 => ?_)
  · have hlt : k < P.length := by have := of_decide_eq_true h1; omega
    have b0 := pp k
    have b1 := m2.2 k
    have b2 := f2.2 k
    have b3 := m3 k
    have b4 := f3 k
    have c0 : (ints P)[k]? = some [.int (P.getD k 0)] := ints_getD hlt
    have c1 : (ints P1)[k]? = some [.int (P1.getD k 0)] := ints_getD (by omega)
    have c2 : (ints P2)[k]? = some [.int (P2.getD k 0)] := ints_getD (by omega)
    generalize P.getD k 0 = x0 at *
    generalize P1.getD k 0 = x1 at *
    generalize P2.getD k 0 = x2 at *
    refine Aw.seq (Aw.block ?_)
    refine Aw.sd tab_ok mixed mb0 [(2, [.int x0]), (8, [.int x1]), (12, [.int x0]), (19, [.int x2]), (23, [.int x0]), (34, [.int x1]), (38, [.int x0]), (50, [.int x2]), (54, [.int x0])] rfl (by kernel_rfl) rfl rfl ?zo ?zk
    case zo =>
      repeat' apply AllP.cons
      all_goals first | exact trivial | exact id | exact rfl | exact fun _ => rfl | exact Nat.le_of_ble_eq_true rfl | exact fun _ => Nat.le_of_ble_eq_true rfl | exact Int.natCast_nonneg _ | exact fun _ => Int.natCast_nonneg _ | exact in_t _ _ _ | exact (in_t _ _ _).un | exact gq_f | exact c0 | exact fun _ => c0 | exact fun _ => c1 | exact fun _ => c2 | exact gq_t | exact gq_c | exact fun _ _ => rfl
    case zk =>
    refine Aw.cond rfl (fun h => ?_) (fun _ => Aw.skip ?_)
    · have h : cond (cond (cond (cond (decide (x0 < 0)) true (decide (x1 > x0))) true (decide (x2 > x0))) true (cond (decide ((k : Int) < a)) (x1 != x0) false)) true (cond (decide ((k : Int) ≤ a)) (x2 != x0) false) = true := h
      have d1 : decide (x0 < 0) = false := decide_eq_false (by omega)
      have d2 : decide (x1 > x0) = false := decide_eq_false (by omega)
      have d3 : decide (x2 > x0) = false := decide_eq_false (by omega)
      have d4 : cond (decide ((k : Int) < a)) (x1 != x0) false = false := by
        by_cases h : (k : Int) < a
        · rw [b3 (by omega)]; simp
        · rw [decide_eq_false h]; rfl
      have d5 : cond (decide ((k : Int) ≤ a)) (x2 != x0) false = false := by
        by_cases h : (k : Int) ≤ a
        · rw [b4 (by omega)]; simp
        · rw [decide_eq_false h]; rfl
      rw [d1, d2, d3, d4, d5] at h
      cases h
    refine Aw.em tab_ok mb0 [] rfl rfl ?zo ?zk
    case zo =>
      repeat' apply AllP.cons
      all_goals first | exact trivial | exact id | exact rfl | exact fun _ => rfl | exact Nat.le_of_ble_eq_true rfl | exact fun _ => Nat.le_of_ble_eq_true rfl | exact Int.natCast_nonneg _ | exact fun _ => Int.natCast_nonneg _ | exact in_t _ _ _ | exact (in_t _ _ _).un | exact gq_f | exact inrk k (by omega)
    case zk =>
    exact ⟨k + 1, hlt, by omega, ⟨.refl _, .refl _, .refl _, .refl _, trivial⟩, ⟨.refl _, trivial⟩, trivial, Nat.zero_le _⟩
  refine Aw.exit2 ?_
  refine Aw.sm tab_ok mb0 [(0, [.bool true])] rfl rfl ?zo ?zk
  case zo =>
    repeat' apply AllP.cons
    all_goals first | exact trivial | exact id | exact rfl | exact fun _ => rfl | exact Nat.le_of_ble_eq_true rfl | exact fun _ => Nat.le_of_ble_eq_true rfl | exact Int.natCast_nonneg _ | exact fun _ => Int.natCast_nonneg _ | exact in_t _ _ _ | exact (in_t _ _ _).un | exact gq_f | exact works_t
  case zk =>
  exact Aw.ret ⟨_, .cons (.tmp _) .nil, rfl⟩
end Go.Proofs.Ytdiclbgklegelaa
namespace Go.Proofs.Ytdiclbgklegelaa
open Go Go.AL Go.AL.Q
theorem race_t (r : Rce) (hf : r.Fit) : Ans Try.prog 75 [.agg r.c] (.bool r.ok) := by
  have h1 := hf.n
  have h2 := hf.k
  have h3 := hf.s
  have ln := ints_lenI r.numbers
  have lk := ints_lenI r.keep
  have ls := ints_lenI r.spawn
  have lm : (r.many : Int) = r.numbers.length := rfl
  have hm : r.many = r.numbers.length := rfl
  have urc : Under 0 (A.pt r.c) := (Free.pt _ r.free).under
  refine told Try.func75 rfl rfl (Pure.of tab_ok Try.func75 rfl Try.ntmps75 rfl (all1 (.agg _ r.free)) (all1 (fun _ => rfl)) (by first | exact .s _ | assumption | exact .tup _ (by intro x hx; simp only [List.mem_cons, List.not_mem_nil, or_false] at hx; rcases hx with rfl | rfl | rfl | rfl <;> first | exact .s _ | (simp_all; done))) fun E hE => ?_)
  refine Aw.sm tab_ok mb0 [] rfl rfl ?zo ?zk
  case zo =>
    repeat' apply AllP.cons
    all_goals first | exact trivial | exact id | exact rfl | exact fun _ => rfl | exact Nat.le_of_ble_eq_true rfl | exact fun _ => Nat.le_of_ble_eq_true rfl | exact Int.natCast_nonneg _ | exact fun _ => Int.natCast_nonneg _ | exact in_t _ _ _ | exact (in_t _ _ _).un | exact gq_f
  case zk =>
  refine Aw.sm tab_ok mb0 [] rfl rfl ?zo ?zk
  case zo =>
    repeat' apply AllP.cons
    all_goals first | exact trivial | exact id | exact rfl | exact fun _ => rfl | exact Nat.le_of_ble_eq_true rfl | exact fun _ => Nat.le_of_ble_eq_true rfl | exact Int.natCast_nonneg _ | exact fun _ => Int.natCast_nonneg _ | exact in_t _ _ _ | exact (in_t _ _ _).un | exact gq_f
  case zk =>
  refine Aw.keep (n := 0) (cst := [(1, .pt r.c), (3, .int r.many)]) (v := []) (Hl := []) hE ⟨urc, .s _, trivial⟩ trivial trivial ⟨⟨.refl _, .of_eq (congrArg A.int ln.symm), trivial⟩, trivial, trivial, Nat.zero_le _⟩ ?_
  refine Aw.sm tab_ok mb0 [(1, [.bool (wi r.many 1 6)]), (19, [.bool (wi r.line 0 100000000)]), (26, [.bool (wi r.mesh 0 ((r.many:Int) - 1))])] rfl rfl ?zo ?zk
  case zo =>
    repeat' apply AllP.cons
    all_goals first | exact trivial | exact id | exact rfl | exact fun _ => rfl | exact Nat.le_of_ble_eq_true rfl | exact fun _ => Nat.le_of_ble_eq_true rfl | exact Int.natCast_nonneg _ | exact fun _ => Int.natCast_nonneg _ | exact in_t _ _ _ | exact (in_t _ _ _).un | exact gq_f | exact fun _ => (by simp only [Ob.of, inR]; omega)
  case zk =>
  have hd : A.bool r.head = A.bool (cond (cond (cond (cond (wi r.many 1 6) (((ints r.keep).length : Int) == r.many) false) (((ints r.spawn).length : Int) == r.many) false) (wi r.line 0 100000000) false) (wi r.mesh 0 ((r.many:Int) - 1)) false) := by rw [lk, ls]; rfl
  refine Aw.seq ?_
  refine Aw.sm tab_ok mb0 [] rfl rfl ?zo ?zk
  case zo =>
    repeat' apply AllP.cons
    all_goals first | exact trivial | exact id | exact rfl | exact fun _ => rfl | exact Nat.le_of_ble_eq_true rfl | exact fun _ => Nat.le_of_ble_eq_true rfl | exact Int.natCast_nonneg _ | exact fun _ => Int.natCast_nonneg _ | exact in_t _ _ _ | exact (in_t _ _ _).un | exact gq_f
  case zk =>
  have lr : (List.range r.many).length = r.many := List.length_range
  refine Aw.block (Aw.rounds 0 hE [(1, .pt r.c), (3, .int r.many)] (fun k : Nat => [(4, .bool (andAll r.head r.ageOk (List.range r.many) k)), (5, .int k)]) (fun _ => []) (fun k => k ≤ r.many) (fun k => r.many - k) 0
    (Nat.zero_le _) ⟨⟨.refl _, .refl _, trivial⟩, ⟨.of_eq (by rw [andAll_zero]; exact hd), .refl _, trivial⟩, trivial, Nat.le_refl _⟩ ⟨urc, .s _, trivial⟩ (fun _ _ => ⟨.s _, .s _, trivial⟩) (fun _ _ => trivial) fun k hk => ?_)
  refine Aw.seq ?_
  refine Aw.sm tab_ok mb0 [] rfl rfl ?zo ?zk
  case zo =>
    repeat' apply AllP.cons
    all_goals first | exact trivial | exact id | exact rfl | exact fun _ => rfl | exact Nat.le_of_ble_eq_true rfl | exact fun _ => Nat.le_of_ble_eq_true rfl | exact Int.natCast_nonneg _ | exact fun _ => Int.natCast_nonneg _ | exact in_t _ _ _ | exact (in_t _ _ _).un | exact gq_f
  case zk =>
  refine Aw.cond rfl (fun h1 => Aw.skip ?_) (fun h1 => ?_)
  · have h1 : cond (andAll r.head r.ageOk (List.range r.many) k) (decide ((k : Int) < r.many)) false = true := h1
    have hb := ac1 h1
    have hlt : k < r.many := by have := of_decide_eq_true (ac2 h1); omega
    have hh : r.head = true := by unfold andAll at hb; exact ac1 hb
    have hk1 : r.keep.length = r.many := by unfold Rce.head at hh; have := eq_of_beq (ac2 (ac1 (ac1 (ac1 hh)))); omega
    have hs1 : r.spawn.length = r.many := by unfold Rce.head at hh; have := eq_of_beq (ac2 (ac1 (ac1 hh))); omega
    refine Aw.seq (Aw.block ?_)
    refine Aw.em tab_ok mb0 [(3, [.int (r.numbers.getD k 0)]), (5, [.bool (wi (r.numbers.getD k 0) 0 100000)]), (10, [.int (r.keep.getD k 0)]), (12, [.bool (wi (r.keep.getD k 0) 0 1000)]), (18, [.int (r.spawn.getD k 0)]), (20, [.bool (wi (r.spawn.getD k 0) 0 100)])] rfl rfl ?zo ?zk
    case zo =>
      repeat' apply AllP.cons
      all_goals first | exact trivial | exact id | exact rfl | exact fun _ => rfl | exact Nat.le_of_ble_eq_true rfl | exact fun _ => Nat.le_of_ble_eq_true rfl | exact Int.natCast_nonneg _ | exact fun _ => Int.natCast_nonneg _ | exact in_t _ _ _ | exact (in_t _ _ _).un | exact gq_f | exact ints_getD hlt | exact fun _ => ints_getD (by omega)
    case zk =>
    refine Aw.em tab_ok mb0 [] rfl rfl ?zo ?zk
    case zo =>
      repeat' apply AllP.cons
      all_goals first | exact trivial | exact id | exact rfl | exact fun _ => rfl | exact Nat.le_of_ble_eq_true rfl | exact fun _ => Nat.le_of_ble_eq_true rfl | exact Int.natCast_nonneg _ | exact fun _ => Int.natCast_nonneg _ | exact in_t _ _ _ | exact (in_t _ _ _).un | exact gq_f | exact inrk k (by omega)
    case zk =>
    have e : andAll r.head r.ageOk (List.range r.many) (k + 1) = r.ageOk k := by
      rw [andAll_succ (by rw [lr]; exact hlt) hb, List.getElem_range]
    exact ⟨k + 1, hlt, by omega, ⟨.refl _, .refl _, trivial⟩, ⟨.of_eq (congrArg A.bool e), .refl _, trivial⟩, trivial, Nat.zero_le _⟩
  have h1 : cond (andAll r.head r.ageOk (List.range r.many) k) (decide ((k : Int) < r.many)) false = false := h1
  have hend : andAll r.head r.ageOk (List.range r.many) k = r.ok := (andAll_end (by
    cases e : andAll r.head r.ageOk (List.range r.many) k with
    | false => exact .inl rfl
    | true => rw [e] at h1; have := of_decide_eq_false h1; exact .inr (by rw [lr]; omega)) (by rw [lr]; exact hk)).trans rfl
  rw [hend]
  refine Aw.exit2 ?_
  refine Aw.sm tab_ok mb0 [] rfl rfl ?zo ?zk
  case zo =>
    repeat' apply AllP.cons
    all_goals first | exact trivial | exact id | exact rfl | exact fun _ => rfl | exact Nat.le_of_ble_eq_true rfl | exact fun _ => Nat.le_of_ble_eq_true rfl | exact Int.natCast_nonneg _ | exact fun _ => Int.natCast_nonneg _ | exact in_t _ _ _ | exact (in_t _ _ _).un | exact gq_f
  case zk =>
  exact Aw.ret ⟨_, .cons (.tmp _) .nil, rfl⟩
def numF (l : List Int) (n m : Int) : Bool := cond ((l.length : Int) == n) (l.all fun x => wi x 0 m) false
theorem numbers_t (b : Bool) (l : List Int) (n m : Int) (hl : (l.length : Int) ≤ 9223372036854775806) : Ans Try.prog 76 [.sl b .any (ints l), .int n, .int m] (.bool (numF l n m)) := by
  have lz := ints_lenI l
  refine told Try.func76 rfl rfl (Pure.of tab_ok Try.func76 rfl Try.ntmps76 rfl (allC (free_ints _ _ _) (allC (.s _) (all1 (.s _)))) (allC (fun _ => rfl) (allC (fun _ => rfl) (all1 (fun _ => rfl)))) (by first | exact .s _ | assumption | exact .tup _ (by intro x hx; simp only [List.mem_cons, List.not_mem_nil, or_false] at hx; rcases hx with rfl | rfl | rfl | rfl <;> first | exact .s _ | (simp_all; done))) fun E hE => ?_)
  refine Aw.sm tab_ok mb0 [] rfl rfl ?zo ?zk
  case zo =>
    repeat' apply AllP.cons
    all_goals first | exact trivial | exact id | exact rfl | exact fun _ => rfl | exact Nat.le_of_ble_eq_true rfl | exact fun _ => Nat.le_of_ble_eq_true rfl | exact Int.natCast_nonneg _ | exact fun _ => Int.natCast_nonneg _ | exact in_t _ _ _ | exact (in_t _ _ _).un | exact gq_f
  case zk =>
  refine Aw.sm tab_ok mb0 [] rfl rfl ?zo ?zk
  case zo =>
    repeat' apply AllP.cons
    all_goals first | exact trivial | exact id | exact rfl | exact fun _ => rfl | exact Nat.le_of_ble_eq_true rfl | exact fun _ => Nat.le_of_ble_eq_true rfl | exact Int.natCast_nonneg _ | exact fun _ => Int.natCast_nonneg _ | exact in_t _ _ _ | exact (in_t _ _ _).un | exact gq_f
  case zk =>
  have hd : A.bool ((l.length : Int) == n) = A.bool (((ints l).length : Int) == n) := by rw [lz]
  refine Aw.seq ?_
  refine Aw.sm tab_ok mb0 [] rfl rfl ?zo ?zk
  case zo =>
    repeat' apply AllP.cons
    all_goals first | exact trivial | exact id | exact rfl | exact fun _ => rfl | exact Nat.le_of_ble_eq_true rfl | exact fun _ => Nat.le_of_ble_eq_true rfl | exact Int.natCast_nonneg _ | exact fun _ => Int.natCast_nonneg _ | exact in_t _ _ _ | exact (in_t _ _ _).un | exact gq_f
  case zk =>
  have ul : Under 0 (A.sl b .any (ints l)) := (free_ints _ _ _).under
  refine Aw.block (Aw.rounds 0 hE [(0, .sl b .any (ints l)), (2, .int m)] (fun k : Nat => [(7, .bool (andAll ((l.length : Int) == n) (fun x => wi x 0 m) l k)), (8, .int k)]) (fun _ => []) (fun k => k ≤ l.length) (fun k => l.length - k) 0
    (Nat.zero_le _) ⟨⟨.refl _, .refl _, trivial⟩, ⟨.of_eq (by rw [andAll_zero]; exact hd), .refl _, trivial⟩, trivial, Nat.le_refl _⟩ ⟨ul, .s _, trivial⟩ (fun _ _ => ⟨.s _, .s _, trivial⟩) (fun _ _ => trivial) fun k hk => ?_)
  refine Aw.seq ?_
  refine Aw.sm tab_ok mb0 [] rfl rfl ?zo ?zk
  case zo =>
    repeat' apply AllP.cons
    all_goals first | exact trivial | exact id | exact rfl | exact fun _ => rfl | exact Nat.le_of_ble_eq_true rfl | exact fun _ => Nat.le_of_ble_eq_true rfl | exact Int.natCast_nonneg _ | exact fun _ => Int.natCast_nonneg _ | exact in_t _ _ _ | exact (in_t _ _ _).un | exact gq_f
  case zk =>
  refine Aw.cond rfl (fun h1 => Aw.skip ?_) (fun h1 => ?_)
  · have h1 : cond (andAll ((l.length : Int) == n) (fun x => wi x 0 m) l k) (decide ((k : Int) < ((ints l).length : Int))) false = true := h1
    have hb := ac1 h1
    have hlt : k < l.length := by have := of_decide_eq_true (ac2 h1); omega
    have e := andAll_succ hlt hb
    have g := ints_get hlt
    generalize l[k] = x at *
    refine Aw.seq (Aw.block ?_)
    refine Aw.em tab_ok mb0 [(2, [.int x]), (5, [.bool (wi x 0 m)])] rfl rfl ?zo ?zk
    case zo =>
      repeat' apply AllP.cons
      all_goals first | exact trivial | exact id | exact rfl | exact fun _ => rfl | exact Nat.le_of_ble_eq_true rfl | exact fun _ => Nat.le_of_ble_eq_true rfl | exact Int.natCast_nonneg _ | exact fun _ => Int.natCast_nonneg _ | exact in_t _ _ _ | exact (in_t _ _ _).un | exact gq_f | exact g
    case zk =>
    refine Aw.em tab_ok mb0 [] rfl rfl ?zo ?zk
    case zo =>
      repeat' apply AllP.cons
      all_goals first | exact trivial | exact id | exact rfl | exact fun _ => rfl | exact Nat.le_of_ble_eq_true rfl | exact fun _ => Nat.le_of_ble_eq_true rfl | exact Int.natCast_nonneg _ | exact fun _ => Int.natCast_nonneg _ | exact in_t _ _ _ | exact (in_t _ _ _).un | exact gq_f | exact inrk k (by omega)
    case zk =>
    exact ⟨k + 1, hlt, by omega, ⟨.refl _, .refl _, trivial⟩, ⟨.of_eq (congrArg A.bool e), .refl _, trivial⟩, trivial, Nat.zero_le _⟩
  have h1 : cond (andAll ((l.length : Int) == n) (fun x => wi x 0 m) l k) (decide ((k : Int) < ((ints l).length : Int))) false = false := h1
  have hend : andAll ((l.length : Int) == n) (fun x => wi x 0 m) l k = numF l n m := (andAll_end (by
    cases e : andAll ((l.length : Int) == n) (fun x => wi x 0 m) l k with
    | false => exact .inl rfl
    | true => rw [e] at h1; have := of_decide_eq_false h1; exact .inr (by omega)) hk)
  rw [hend]
  refine Aw.exit2 ?_
  refine Aw.sm tab_ok mb0 [] rfl rfl ?zo ?zk
  case zo =>
    repeat' apply AllP.cons
    all_goals first | exact trivial | exact id | exact rfl | exact fun _ => rfl | exact Nat.le_of_ble_eq_true rfl | exact fun _ => Nat.le_of_ble_eq_true rfl | exact Int.natCast_nonneg _ | exact fun _ => Int.natCast_nonneg _ | exact in_t _ _ _ | exact (in_t _ _ _).un | exact gq_f
  case zk =>
  exact Aw.ret ⟨_, .cons (.tmp _) .nil, rfl⟩
theorem spawners_t (r : Rce) (hr : RceOk r) (b : Bool) (l : List Int) (B : Int) (hp : Pop r B l) (hB : B ≤ 10000000) : Ans Try.prog 92 [.agg r.c, .sl b .any (ints l)] (.int (spawnF r l)) := by
  have lz := ints_lenI l
  have m6 := hr.m6
  have hlen := hp.len
  refine told Try.func92 rfl rfl (Pure.of tab_ok Try.func92 rfl Try.ntmps92 rfl (allC (.agg _ r.free) (all1 (free_ints _ _ _))) (allC (fun _ => rfl) (all1 (fun _ => rfl))) (by first | exact .s _ | assumption | exact .tup _ (by intro x hx; simp only [List.mem_cons, List.not_mem_nil, or_false] at hx; rcases hx with rfl | rfl | rfl | rfl <;> first | exact .s _ | (simp_all; done))) fun E hE => ?_)
  refine Aw.sm tab_ok mb0 [] rfl rfl ?zo ?zk
  case zo =>
    repeat' apply AllP.cons
    all_goals first | exact trivial | exact id | exact rfl | exact fun _ => rfl | exact Nat.le_of_ble_eq_true rfl | exact fun _ => Nat.le_of_ble_eq_true rfl | exact Int.natCast_nonneg _ | exact fun _ => Int.natCast_nonneg _ | exact in_t _ _ _ | exact (in_t _ _ _).un | exact gq_f
  case zk =>
  refine Aw.sm tab_ok mb0 [] rfl rfl ?zo ?zk
  case zo =>
    repeat' apply AllP.cons
    all_goals first | exact trivial | exact id | exact rfl | exact fun _ => rfl | exact Nat.le_of_ble_eq_true rfl | exact fun _ => Nat.le_of_ble_eq_true rfl | exact Int.natCast_nonneg _ | exact fun _ => Int.natCast_nonneg _ | exact in_t _ _ _ | exact (in_t _ _ _).un | exact gq_f
  case zk =>
  refine Aw.seq ?_
  refine Aw.sm tab_ok mb0 [] rfl rfl ?zo ?zk
  case zo =>
    repeat' apply AllP.cons
    all_goals first | exact trivial | exact id | exact rfl | exact fun _ => rfl | exact Nat.le_of_ble_eq_true rfl | exact fun _ => Nat.le_of_ble_eq_true rfl | exact Int.natCast_nonneg _ | exact fun _ => Int.natCast_nonneg _ | exact in_t _ _ _ | exact (in_t _ _ _).un | exact gq_f
  case zk =>
  have ul : Under 0 (A.sl b .any (ints l)) := (free_ints _ _ _).under
  have urc : Under 0 (A.pt r.c) := (Free.pt _ r.free).under
  have bd : ∀ k, k ≤ r.many → 0 ≤ (spawnN r l k).sum ∧ (spawnN r l k).sum ≤ 1000000000 * k := fun k => by
    induction k with
    | zero => intro _; simp [spawnN]
    | succ k ih =>
      intro hk
      have h1 := ih (by omega)
      have h2 := getD_pos hp.pos k
      have h3 := sum_ge hp.pos k
      have h4 := hr.sb k (by omega)
      have h5 := hp.sum
      have h6 := mul_bd (a := l.getD k 0) (b := r.spawn.getD k 0) (x := 10000000) (y := 100) ⟨h2, by omega⟩ h4
      have e : spawnN r l (k + 1) = spawnN r l k ++ [l.getD k 0 * r.spawn.getD k 0] := by unfold spawnN; rw [List.range_succ, List.map_append]; rfl
      rw [e, List.sum_append]
      simp only [List.sum_cons, List.sum_nil]
      omega
  refine Aw.block (Aw.rounds 0 hE [(1, .sl b .any (ints l)), (2, .pt r.c)] (fun k : Nat => [(5, .int (spawnN r l k).sum), (6, .int k)]) (fun _ => []) (fun k => k ≤ r.many) (fun k => r.many - k) 0
    (Nat.zero_le _) ⟨⟨.refl _, .refl _, trivial⟩, ⟨.refl _, .refl _, trivial⟩, trivial, Nat.le_refl _⟩ ⟨ul, urc, trivial⟩ (fun _ _ => ⟨.s _, .s _, trivial⟩) (fun _ _ => trivial) fun k hk => ?_)
  refine Aw.seq ?_
  refine Aw.sm tab_ok mb0 [] rfl rfl ?zo ?zk
  case zo =>
    repeat' apply AllP.cons
    all_goals first | exact trivial | exact id | exact rfl | exact fun _ => rfl | exact Nat.le_of_ble_eq_true rfl | exact fun _ => Nat.le_of_ble_eq_true rfl | exact Int.natCast_nonneg _ | exact fun _ => Int.natCast_nonneg _ | exact in_t _ _ _ | exact (in_t _ _ _).un | exact gq_f
  case zk =>
  refine Aw.cond rfl (fun h1 => Aw.skip ?_) (fun h1 => ?_)
  · have hlt : k < r.many := by have := of_decide_eq_true h1; omega
    have b1 := bd k hk
    have b2 := bd (k + 1) hlt
    have e : (spawnN r l (k + 1)).sum = (spawnN r l k).sum + l.getD k 0 * r.spawn.getD k 0 := by
      unfold spawnN; rw [List.range_succ, List.map_append, List.sum_append]; simp
    have g1 : (ints l)[k]? = some [.int (l.getD k 0)] := ints_getD (by omega)
    have g2 : (ints r.spawn)[k]? = some [.int (r.spawn.getD k 0)] := ints_getD (by have := hr.s; omega)
    have o1 : inR (l.getD k 0 * r.spawn.getD k 0) := by
      have := mul_bd (a := l.getD k 0) (b := r.spawn.getD k 0) (x := 10000000) (y := 100) ⟨getD_pos hp.pos k, by have := sum_ge hp.pos k; have := hp.sum; omega⟩ (hr.sb k (by omega))
      simp only [inR]; omega
    have o2 : inR ((spawnN r l k).sum + l.getD k 0 * r.spawn.getD k 0) := by rw [← e]; simp only [inR]; omega
    refine Aw.seq (Aw.block ?_)
    refine Aw.ed tab_ok mixed mb0 [(3, [.int (l.getD k 0)]), (8, [.int (r.spawn.getD k 0)])] rfl (by kernel_rfl) rfl rfl ?zo ?zk
    case zo =>
      repeat' apply AllP.cons
      all_goals first | exact trivial | exact id | exact rfl | exact fun _ => rfl | exact Nat.le_of_ble_eq_true rfl | exact fun _ => Nat.le_of_ble_eq_true rfl | exact Int.natCast_nonneg _ | exact fun _ => Int.natCast_nonneg _ | exact in_t _ _ _ | exact (in_t _ _ _).un | exact gq_f | exact g1 | exact g2 | exact o1 | exact o2
    case zk =>
    refine Aw.em tab_ok mb0 [] rfl rfl ?zo ?zk
    case zo =>
      repeat' apply AllP.cons
      all_goals first | exact trivial | exact id | exact rfl | exact fun _ => rfl | exact Nat.le_of_ble_eq_true rfl | exact fun _ => Nat.le_of_ble_eq_true rfl | exact Int.natCast_nonneg _ | exact fun _ => Int.natCast_nonneg _ | exact in_t _ _ _ | exact (in_t _ _ _).un | exact gq_f | exact inrk k (by omega)
    case zk =>
    exact ⟨k + 1, hlt, by omega, ⟨.refl _, .refl _, trivial⟩, ⟨.of_eq (congrArg A.int e), .refl _, trivial⟩, trivial, Nat.zero_le _⟩
  have hend : k = r.many := by have := of_decide_eq_false h1; omega
  subst hend
  refine Aw.exit2 ?_
  refine Aw.sm tab_ok mb0 [] rfl rfl ?zo ?zk
  case zo =>
    repeat' apply AllP.cons
    all_goals first | exact trivial | exact id | exact rfl | exact fun _ => rfl | exact Nat.le_of_ble_eq_true rfl | exact fun _ => Nat.le_of_ble_eq_true rfl | exact Int.natCast_nonneg _ | exact fun _ => Int.natCast_nonneg _ | exact in_t _ _ _ | exact (in_t _ _ _).un | exact gq_f
  case zk =>
  exact Aw.ret ⟨_, .cons (.tmp _) .nil, rfl⟩
end Go.Proofs.Ytdiclbgklegelaa
namespace Go.Proofs.Ytdiclbgklegelaa
open Go Go.AL Go.AL.Q
theorem caught_t (r : Rce) (hr : RceOk r) (b : Bool) (l : List Int) (take bd : Int) (hp : Pop r bd l) (hB : bd ≤ 10000000) (ht : 0 ≤ take ∧ take ≤ 1000000000) :
    Ans Try.prog 91 [.agg r.c, .sl b .any (ints l), .int take] (.sl false .any (ints (caughtF r l take))) := by
  have hfr : Free (.sl false .any (ints (caughtF r l take))) := free_ints _ _ _
  have lz := ints_lenI l
  have m1 := hr.m1
  have m6 := hr.m6
  have hlen := hp.len
  have hmesh := hr.h
  refine told Try.func91 rfl rfl (Pure.of tab_ok Try.func91 rfl Try.ntmps91 rfl (allC (.agg _ r.free) (allC (free_ints _ _ _) (all1 (.s _)))) (allC (fun _ => rfl) (allC (fun _ => rfl) (all1 (fun _ => rfl)))) (by first | exact .s _ | assumption | exact .tup _ (by intro x hx; simp only [List.mem_cons, List.not_mem_nil, or_false] at hx; rcases hx with rfl | rfl | rfl | rfl <;> first | exact .s _ | (simp_all; done))) fun E hE => ?_)
  have hE1 : ∀ id, 1 ≤ id → E.φ0 id = none := fun id h => hE id (by omega)
  have n1 : ints l ≠ [] := fun h => by rw [h] at lz; simp at lz; omega
  refine Aw.sm tab_ok mb0 [] rfl rfl ?zo ?zk
  case zo =>
    repeat' apply AllP.cons
    all_goals first | exact trivial | exact id | exact rfl | exact fun _ => rfl | exact Nat.le_of_ble_eq_true rfl | exact fun _ => Nat.le_of_ble_eq_true rfl | exact Int.natCast_nonneg _ | exact fun _ => Int.natCast_nonneg _ | exact in_t _ _ _ | exact (in_t _ _ _).un | exact gq_f
  case zk =>
  refine Aw.sm tab_ok mb0 [(2, [.ms 0 0 0])] rfl rfl ?zo ?zk
  case zo =>
    repeat' apply AllP.cons
    all_goals first | exact trivial | exact id | exact rfl | exact fun _ => rfl | exact Nat.le_of_ble_eq_true rfl | exact fun _ => Nat.le_of_ble_eq_true rfl | exact Int.natCast_nonneg _ | exact fun _ => Int.natCast_nonneg _ | exact in_t _ _ _ | exact (in_t _ _ _).un | exact gq_f | exact n1 | exact ints_each _ | exact (show (ints l).length * 8 ≤ 140737488355328 by omega) | exact (show (ints l).length ≤ maxLen by unfold maxLen; omega)
  case zk =>
  refine Aw.seq ?_
  refine Aw.sm tab_ok mb0 [] rfl rfl ?zo ?zk
  case zo =>
    repeat' apply AllP.cons
    all_goals first | exact trivial | exact id | exact rfl | exact fun _ => rfl | exact Nat.le_of_ble_eq_true rfl | exact fun _ => Nat.le_of_ble_eq_true rfl | exact Int.natCast_nonneg _ | exact fun _ => Int.natCast_nonneg _ | exact in_t _ _ _ | exact (in_t _ _ _).un | exact gq_f | exact (show inR (((ints l).length : Int) - 1) by simp only [inR]; omega)
  case zk =>
  have cu : ∀ l : List Int, UnderB 1 (.cells (l.map A.int)) := fun l => cells_under l
  refine Aw.block (Aw.rounds (ι := Nat × List Int × Int) 1 hE1 [(3, .pt r.c), (7, .ms 0 0 r.many)] (fun i => [(2, .int i.2.2), (8, .int (dn i.1))]) (fun i => [(0, .cells (i.2.1.map A.int))])
    (fun i => i.1 ≤ r.many ∧ Pop r bd i.2.1 ∧ (0 ≤ i.2.2 ∧ i.2.2 ≤ 1000000000) ∧ catchF i.2.1 r.mesh.toNat i.1 i.2.2 = caughtF r l take) (fun i => i.1) (r.many, l, take)
    ⟨Nat.le_refl _, hp, ht, rfl⟩ ⟨⟨.refl _, .of_eq (show A.ms 0 0 r.many = A.ms 0 0 (ints l).length by rw [ints_len, hlen]), trivial⟩, ⟨.refl _, .of_eq (congrArg A.int (by rw [dn_eq]; omega)), trivial⟩, ⟨congrArg (fun x => some (B.cells x)) (ints_flat l), trivial⟩, Nat.le_refl _⟩
    ⟨(Free.pt _ r.free).under, .ms _ _ _ (by decide), trivial⟩ (fun _ _ => ⟨.s _, .s _, trivial⟩) (fun _ _ => ⟨⟨by decide, cu _⟩, trivial⟩) ?_)
  rintro ⟨k, l1, tk⟩ ⟨hk, hpop, htk, hrun⟩
  simp only at hk hpop htk hrun
  refine Aw.seq ?_
  refine Aw.sm tab_ok mb0 [] rfl rfl ?zo ?zk
  case zo =>
    repeat' apply AllP.cons
    all_goals first | exact trivial | exact id | exact rfl | exact fun _ => rfl | exact Nat.le_of_ble_eq_true rfl | exact fun _ => Nat.le_of_ble_eq_true rfl | exact Int.natCast_nonneg _ | exact fun _ => Int.natCast_nonneg _ | exact in_t _ _ _ | exact (in_t _ _ _).un | exact gq_f
  case zk =>
  refine Aw.cond rfl (fun h1 => Aw.skip ?_) (fun h1 => ?_)
  · have h1' : dn k ≥ r.mesh := of_decide_eq_true h1
    obtain ⟨j, rfl⟩ : ∃ j, k = j + 1 := by cases k with
      | zero => have : (-1 : Int) ≥ r.mesh := h1'; omega
      | succ j => exact ⟨j, rfl⟩
    have h2 : r.mesh.toNat ≤ j := by have : (j : Int) ≥ r.mesh := h1'; omega
    rw [catchF, if_pos h2] at hrun
    have jl : j < l1.length := by rw [hpop.len]; omega
    have nn := getD_pos hpop.pos j
    have ns := sum_ge hpop.pos j
    have nsb := hpop.sum
    have hmn := minI (l1.getD j 0) tk
    have hg' := cell_at jl
    have pj' : 0 + j * 1 < (l1.map A.int).length := by rw [List.length_map]; omega
    have pj2 : 0 + j * 1 + 1 ≤ (l1.map A.int).length := by omega
    have j6 : (j : Int) < ((r.many : Nat) : Int) := by omega
    refine Aw.seq (Aw.block ?_)
    refine Aw.sm tab_ok mb0 [(3, [.int (l1.getD j 0)])] rfl rfl ?zo ?zk
    case zo =>
      repeat' apply AllP.cons
      all_goals first | exact trivial | exact id | exact rfl | exact fun _ => rfl | exact Nat.le_of_ble_eq_true rfl | exact fun _ => Nat.le_of_ble_eq_true rfl | exact Int.natCast_nonneg _ | exact fun _ => Int.natCast_nonneg _ | exact in_t _ _ _ | exact (in_t _ _ _).un | exact gq_f | exact hg' | exact pj' | exact j6
    case zk =>
    have ob1 : inR (tk - (if tk < l1.getD j 0 then tk else l1.getD j 0)) := by rw [hmn]; simp only [inR]; omega
    have ob2 : inR (l1.getD j 0 - (if tk < l1.getD j 0 then tk else l1.getD j 0)) := by rw [hmn]; simp only [inR]; omega
    have hst : setSeg (l1.map A.int) (0 + j * 1) [A.int (l1.getD j 0 - (if tk < l1.getD j 0 then tk else l1.getD j 0))] = (l1.set j (l1.getD j 0 - min (l1.getD j 0) tk)).map A.int := by
      rw [hmn, cell_set jl]
    refine Aw.sm tab_ok mb0 [(3, [.int (l1.getD j 0)])] rfl rfl ?zo ?zk
    case zo =>
      repeat' apply AllP.cons
      all_goals first | exact trivial | exact id | exact rfl | exact fun _ => rfl | exact Nat.le_of_ble_eq_true rfl | exact fun _ => Nat.le_of_ble_eq_true rfl | exact Int.natCast_nonneg _ | exact fun _ => Int.natCast_nonneg _ | exact in_t _ _ _ | exact (in_t _ _ _).un | exact gq_f | exact hg' | exact pj' | exact pj2 | exact j6 | exact ob2
    case zk =>
    refine Aw.em tab_ok mb0 [] rfl rfl ?zo ?zk
    case zo =>
      repeat' apply AllP.cons
      all_goals first | exact trivial | exact id | exact rfl | exact fun _ => rfl | exact Nat.le_of_ble_eq_true rfl | exact fun _ => Nat.le_of_ble_eq_true rfl | exact Int.natCast_nonneg _ | exact fun _ => Int.natCast_nonneg _ | exact in_t _ _ _ | exact (in_t _ _ _).un | exact gq_f | exact ob1
    case zk =>
    refine Aw.em tab_ok mb0 [] rfl rfl ?zo ?zk
    case zo =>
      repeat' apply AllP.cons
      all_goals first | exact trivial | exact id | exact rfl | exact fun _ => rfl | exact Nat.le_of_ble_eq_true rfl | exact fun _ => Nat.le_of_ble_eq_true rfl | exact Int.natCast_nonneg _ | exact fun _ => Int.natCast_nonneg _ | exact in_t _ _ _ | exact (in_t _ _ _).un | exact gq_f | exact (show inR ((j : Int) - 1) by simp only [inR]; omega)
    case zk =>
    have hpop2 := catchF_pop (mesh := j) (j + 1) tk l1 hpop htk.1 hk
    rw [catchF, if_pos (Nat.le_refl _), show ∀ (l : List Int) (t : Int), catchF l j j t = l from fun l t => by cases j with
      | zero => rfl
      | succ i => rw [catchF, if_neg (by omega)]] at hpop2
    exact ⟨(j, l1.set j (l1.getD j 0 - min (l1.getD j 0) tk), tk - min (l1.getD j 0) tk), ⟨by show j ≤ _; omega, hpop2, by show 0 ≤ tk - min (l1.getD j 0) tk ∧ tk - min (l1.getD j 0) tk ≤ _; omega, hrun⟩, Nat.lt_succ_self j,
      ⟨.refl _, .refl _, trivial⟩, ⟨.of_eq (show A.int (tk - min (l1.getD j 0) tk) = A.int (tk - (if tk < l1.getD j 0 then tk else l1.getD j 0)) by rw [hmn]), .of_eq (show A.int (dn j) = A.int ((j : Int) - 1) by rw [dn_eq]), trivial⟩,
      ⟨congrArg (fun x => some (B.cells x)) hst, trivial⟩, Nat.le_of_ble_eq_true rfl⟩
  have h1' : ¬ dn k ≥ r.mesh := of_decide_eq_false h1
  have hC : l1 = caughtF r l take := by
    rw [← hrun]
    cases k with
    | zero => rfl
    | succ j =>
      have : ¬ (j : Int) ≥ r.mesh := h1'
      rw [catchF, if_neg (by omega)]
  refine Aw.exit2 ?_
  rw [← hC]
  refine Aw.freezeS (id := 0) (t := 7) (sz := 1) (cs := l1.map A.int) (ints l1) rfl rfl (rows_ints _) (by rw [ints_len, hpop.len]) ?_
  refine Aw.sm tab_ok mb0 [] rfl rfl ?zo ?zk
  case zo =>
    repeat' apply AllP.cons
    all_goals first | exact trivial | exact id | exact rfl | exact fun _ => rfl | exact Nat.le_of_ble_eq_true rfl | exact fun _ => Nat.le_of_ble_eq_true rfl | exact Int.natCast_nonneg _ | exact fun _ => Int.natCast_nonneg _ | exact in_t _ _ _ | exact (in_t _ _ _).un | exact gq_f
  case zk =>
  exact Aw.ret ⟨_, .cons (.tmp _) .nil, rfl⟩
theorem winter_t (r : Rce) (hr : RceOk r) (b : Bool) (l : List Int) (x bd : Int) (hp : Pop r bd l) (hB : bd ≤ 10000000) (hx : 0 ≤ x ∧ x ≤ 100000) :
    Ans Try.prog 93 [.agg r.c, .sl b .any (ints l), .int x] (.sl false .any (ints (winF r l x))) := by
  have hfr : Free (.sl false .any (ints (winF r l x))) := free_ints _ _ _
  have lz := ints_lenI l
  have m1 := hr.m1
  have m6 := hr.m6
  have hlen := hp.len
  refine told Try.func93 rfl rfl (Pure.of tab_ok Try.func93 rfl Try.ntmps93 rfl (allC (.agg _ r.free) (allC (free_ints _ _ _) (all1 (.s _)))) (allC (fun _ => rfl) (allC (fun _ => rfl) (all1 (fun _ => rfl)))) (by first | exact .s _ | assumption | exact .tup _ (by intro x hx; simp only [List.mem_cons, List.not_mem_nil, or_false] at hx; rcases hx with rfl | rfl | rfl | rfl <;> first | exact .s _ | (simp_all; done))) fun E hE => ?_)
  have hE1 : ∀ id, 1 ≤ id → E.φ0 id = none := fun id h => hE id (by omega)
  refine Aw.sm tab_ok mb0 [] rfl rfl ?zo ?zk
  case zo =>
    repeat' apply AllP.cons
    all_goals first | exact trivial | exact id | exact rfl | exact fun _ => rfl | exact Nat.le_of_ble_eq_true rfl | exact fun _ => Nat.le_of_ble_eq_true rfl | exact Int.natCast_nonneg _ | exact fun _ => Int.natCast_nonneg _ | exact in_t _ _ _ | exact (in_t _ _ _).un | exact gq_f
  case zk =>
  refine Aw.sm tab_ok mb0 [] rfl rfl ?zo ?zk
  case zo =>
    repeat' apply AllP.cons
    all_goals first | exact trivial | exact id | exact rfl | exact fun _ => rfl | exact Nat.le_of_ble_eq_true rfl | exact fun _ => Nat.le_of_ble_eq_true rfl | exact Int.natCast_nonneg _ | exact fun _ => Int.natCast_nonneg _ | exact in_t _ _ _ | exact (in_t _ _ _).un | exact gq_f | exact (show (((ints l).length : Nat) : Int) ≤ maxLen by unfold maxLen; omega) | exact (show (8 : Int) * (((ints l).length : Nat) : Int) ≤ 140737488355328 by omega)
  case zk =>
  have cu : ∀ l : List Int, UnderB 1 (.cells (l.map A.int)) := fun l => cells_under l
  have hz : (((List.range (((ints l).length : Int).toNat * 1)).map fun j => ([A.s (.int .i64 0)] : List A).getD (j % 1) .un).map A.down) = (winN r l 0).map A.int := by
    rw [Int.toNat_natCast, ints_len, hlen, Nat.mul_one]
    refine List.ext_getElem (by simp [winN]) fun i h1 h2 => ?_
    simp [winN, Nat.mod_one, A.down]
  refine Aw.seq ?_
  refine Aw.sm tab_ok mb0 [] rfl rfl ?zo ?zk
  case zo =>
    repeat' apply AllP.cons
    all_goals first | exact trivial | exact id | exact rfl | exact fun _ => rfl | exact Nat.le_of_ble_eq_true rfl | exact fun _ => Nat.le_of_ble_eq_true rfl | exact Int.natCast_nonneg _ | exact fun _ => Int.natCast_nonneg _ | exact in_t _ _ _ | exact (in_t _ _ _).un | exact gq_f
  case zk =>
  refine Aw.block (Aw.rounds 1 hE1 [(1, .sl b .any (ints l)), (2, .int x), (3, .pt r.c), (7, .ms 0 0 r.many)] (fun k : Nat => [(8, .int k)]) (fun k => [(0, .cells ((winN r l k).map A.int))]) (fun k => k ≤ r.many) (fun k => r.many - k) 0
    (Nat.zero_le _) ⟨⟨.refl _, .refl _, .refl _, .of_eq (show A.ms 0 0 r.many = A.ms 0 0 ((ints l).length : Int).toNat by rw [Int.toNat_natCast, ints_len, hlen]), trivial⟩, ⟨.refl _, trivial⟩, ⟨congrArg (fun x => some (B.cells x)) hz, trivial⟩, Nat.le_refl _⟩
    ⟨(free_ints _ _ _).under, .s _, (Free.pt _ r.free).under, .ms _ _ _ (by decide), trivial⟩ (fun _ _ => ⟨.s _, trivial⟩) (fun _ _ => ⟨⟨by decide, cu _⟩, trivial⟩) fun k hk => ?_)
  refine Aw.seq ?_
  refine Aw.sm tab_ok mb0 [] rfl rfl ?zo ?zk
  case zo =>
    repeat' apply AllP.cons
    all_goals first | exact trivial | exact id | exact rfl | exact fun _ => rfl | exact Nat.le_of_ble_eq_true rfl | exact fun _ => Nat.le_of_ble_eq_true rfl | exact Int.natCast_nonneg _ | exact fun _ => Int.natCast_nonneg _ | exact in_t _ _ _ | exact (in_t _ _ _).un | exact gq_f
  case zk =>
  refine Aw.cond rfl (fun h1 => Aw.skip ?_) (fun h1 => ?_)
  · have hlt : k < r.many := by have := of_decide_eq_true h1; omega
    have hw := winN_pop hr hp k (by omega)
    have hkb := hr.kb k hlt
    have hc0 := getD_pos hp.pos k
    have hc1 := sum_ge hp.pos k
    have hc2 := hp.sum
    have hkl := hr.k
    have hck := mul_bd (a := l.getD k 0) (x := 10000000) ⟨hc0, by omega⟩ hkb
    have ok : inR (l.getD k 0 * r.keep.getD k 0) := by simp only [inR]; omega
    obtain ⟨m, hm1⟩ : ∃ m : Nat, m = min (k + 1) (r.many - 1) := ⟨_, rfl⟩
    have hmi : (if ((ints l).length : Int) - 1 < (k : Int) + 1 then ((ints l).length : Int) - 1 else (k : Int) + 1) = (m : Int) := by split <;> omega
    have wl := hw.len
    have hwg : (((winN r l k).map A.int).getD (0 + Int.toNat (if ((ints l).length : Int) - 1 < (k : Int) + 1 then ((ints l).length : Int) - 1 else (k : Int) + 1) * 1) .un).down = .int ((winN r l k).getD m 0) := by
      rw [hmi, Int.toNat_natCast]; exact cell_at (by omega)
    have wb := getD_pos hw.pos m
    have wg := sum_ge hw.pos m
    have ws := hw.sum
    have wt := sum_take_le hp.pos k
    have lb := live_bd hc0 hkb
    have q1 : 0 + Int.toNat (if ((ints l).length : Int) - 1 < (k : Int) + 1 then ((ints l).length : Int) - 1 else (k : Int) + 1) * 1 + 1 ≤ ((winN r l k).map A.int).length := by rw [hmi, Int.toNat_natCast, List.length_map, wl]; omega
    have q2 : 0 + Int.toNat (if ((ints l).length : Int) - 1 < (k : Int) + 1 then ((ints l).length : Int) - 1 else (k : Int) + 1) * 1 < ((winN r l k).map A.int).length := q1
    have q3 : 0 ≤ (if ((ints l).length : Int) - 1 < (k : Int) + 1 then ((ints l).length : Int) - 1 else (k : Int) + 1) := by rw [hmi]; omega
    have q4 : (if ((ints l).length : Int) - 1 < (k : Int) + 1 then ((ints l).length : Int) - 1 else (k : Int) + 1) < ((r.many : Nat) : Int) := by rw [hmi]; omega
    have q5 : inR ((winN r l k).getD m 0 + (l.getD k 0 * r.keep.getD k 0).tdiv 1000) := by simp only [inR]; omega
    have q6 : (1000 : Int) ≠ 0 ∧ inR ((l.getD k 0 * r.keep.getD k 0).tdiv 1000) := ⟨by decide, by simp only [inR]; omega⟩
    have q7 : inR (((ints l).length : Int) - 1) := by simp only [inR]; omega
    have hst : setSeg ((winN r l k).map A.int) (0 + Int.toNat (if ((ints l).length : Int) - 1 < (k : Int) + 1 then ((ints l).length : Int) - 1 else (k : Int) + 1) * 1) [A.int ((winN r l k).getD m 0 + (l.getD k 0 * r.keep.getD k 0).tdiv 1000)] = (winN r l (k + 1)).map A.int := by
      rw [hmi, Int.toNat_natCast, cell_set (by omega), winN, ← hm1]
    refine Aw.seq (Aw.block ?_)
    refine Aw.ed tab_ok mixed mb0 [(8, [.int ((winN r l k).getD m 0)]), (11, [.int (l.getD k 0)]), (16, [.int (r.keep.getD k 0)])] rfl (by kernel_rfl) rfl rfl ?zo ?zk
    case zo =>
      repeat' apply AllP.cons
      all_goals first | exact trivial | exact id | exact rfl | exact fun _ => rfl | exact Nat.le_of_ble_eq_true rfl | exact fun _ => Nat.le_of_ble_eq_true rfl | exact Int.natCast_nonneg _ | exact fun _ => Int.natCast_nonneg _ | exact in_t _ _ _ | exact (in_t _ _ _).un | exact gq_f | exact ok | exact hwg | exact ints_getD (by omega) | exact q1 | exact q2 | exact q3 | exact q4 | exact q5 | exact q6 | exact q7 | exact inrk k (by omega)
    case zk =>
    refine Aw.em tab_ok mb0 [] rfl rfl ?zo ?zk
    case zo =>
      repeat' apply AllP.cons
      all_goals first | exact trivial | exact id | exact rfl | exact fun _ => rfl | exact Nat.le_of_ble_eq_true rfl | exact fun _ => Nat.le_of_ble_eq_true rfl | exact Int.natCast_nonneg _ | exact fun _ => Int.natCast_nonneg _ | exact in_t _ _ _ | exact (in_t _ _ _).un | exact gq_f | exact inrk k (by omega)
    case zk =>
    exact ⟨k + 1, hlt, by omega, ⟨.refl _, .refl _, .refl _, .refl _, trivial⟩, ⟨.refl _, trivial⟩, ⟨congrArg (fun x => some (B.cells x)) hst, trivial⟩, Nat.le_of_ble_eq_true rfl⟩
  have hle : k = r.many := by have := of_decide_eq_false h1; omega
  subst hle
  have hw := winN_pop hr hp r.many (Nat.le_refl _)
  have wl := hw.len
  have wb := getD_pos hw.pos 0
  have wg := sum_ge hw.pos 0
  have ws := hw.sum
  have wt := sum_take_le hp.pos r.many
  have hps := hp.sum
  have z1 : (((winN r l r.many).map A.int).getD (0 + 0 * 1) .un).down = .int ((winN r l r.many).getD 0 0) := cell_at (by omega)
  have z2 : 0 + 0 * 1 < ((winN r l r.many).map A.int).length := by rw [List.length_map, wl]; omega
  have z3 : (0 : Int) < ((r.many : Nat) : Int) := by omega
  refine Aw.exit2 ?_
  refine Aw.sm tab_ok mb0 [(2, [.int ((winN r l r.many).getD 0 0)])] rfl rfl ?zo ?zk
  case zo =>
    repeat' apply AllP.cons
    all_goals first | exact trivial | exact id | exact rfl | exact fun _ => rfl | exact Nat.le_of_ble_eq_true rfl | exact fun _ => Nat.le_of_ble_eq_true rfl | exact Int.natCast_nonneg _ | exact fun _ => Int.natCast_nonneg _ | exact in_t _ _ _ | exact (in_t _ _ _).un | exact gq_f | exact z1 | exact z2 | exact z3 | exact (show inR ((winN r l r.many).getD 0 0 + x) by simp only [inR]; omega)
  case zk =>
  have hst : setSeg ((winN r l r.many).map A.int) (0 + 0 * 1) [A.int ((winN r l r.many).getD 0 0 + x)] = (winF r l x).map A.int := by
    rw [cell_set (by omega)]; rfl
  refine Aw.freezeS (id := 0) (t := 7) (sz := 1) (cs := setSeg ((winN r l r.many).map A.int) (0 + 0 * 1) [A.int ((winN r l r.many).getD 0 0 + x)]) (ints (winF r l x)) rfl rfl (by rw [hst]; exact rows_ints _) (by rw [ints_len]; simp [winF, wl]) ?_
  refine Aw.sm tab_ok mb0 [] rfl rfl ?zo ?zk
  case zo =>
    repeat' apply AllP.cons
    all_goals first | exact trivial | exact id | exact rfl | exact fun _ => rfl | exact Nat.le_of_ble_eq_true rfl | exact fun _ => Nat.le_of_ble_eq_true rfl | exact Int.natCast_nonneg _ | exact fun _ => Int.natCast_nonneg _ | exact in_t _ _ _ | exact (in_t _ _ _).un | exact gq_f
  case zk =>
  exact Aw.ret ⟨_, .cons (.tmp _) .nil, rfl⟩
end Go.Proofs.Ytdiclbgklegelaa
namespace Go.Proofs.Ytdiclbgklegelaa
open Go Go.AL Go.AL.Q
theorem rplay_t (r : Rce) (hr : RceOk r) (p q : Bool) (takes recs : List Int) (hlen : recs.length = takes.length) (h10 : takes.length ≤ 10)
    (ht : ∀ i, i < takes.length → 0 ≤ takes.getD i 0 ∧ takes.getD i 0 ≤ 100000000) (hx : ∀ i, i < takes.length → 0 ≤ recs.getD i 0 ∧ recs.getD i 0 ≤ 100000) :
    Ans Try.prog 77 [.agg r.c, .sl p .any (ints takes), .sl q .any (ints recs)] (outA (playF r r.numbers takes recs)) := by
  have hfr := outA_free (playF r r.numbers takes recs)
  have lt := ints_lenI takes
  have lc := ints_lenI recs
  refine told Try.func77 rfl rfl (Pure.of tab_ok Try.func77 rfl Try.ntmps77 rfl (allC (.agg _ r.free) (allC (free_ints _ _ _) (all1 (free_ints _ _ _)))) (allC (fun _ => rfl) (allC (fun _ => rfl) (all1 (fun _ => rfl)))) (by first | exact .s _ | assumption | exact .tup _ (by intro x hx; simp only [List.mem_cons, List.not_mem_nil, or_false] at hx; rcases hx with rfl | rfl | rfl | rfl <;> first | exact .s _ | (simp_all; done))) fun E hE => ?_)
  refine Aw.sm tab_ok mb0 [] rfl rfl ?zo ?zk
  case zo =>
    repeat' apply AllP.cons
    all_goals first | exact trivial | exact id | exact rfl | exact fun _ => rfl | exact Nat.le_of_ble_eq_true rfl | exact fun _ => Nat.le_of_ble_eq_true rfl | exact Int.natCast_nonneg _ | exact fun _ => Int.natCast_nonneg _ | exact in_t _ _ _ | exact (in_t _ _ _).un | exact gq_f
  case zk =>
  refine Aw.sm tab_ok mb0 [] rfl rfl ?zo ?zk
  case zo =>
    repeat' apply AllP.cons
    all_goals first | exact trivial | exact id | exact rfl | exact fun _ => rfl | exact Nat.le_of_ble_eq_true rfl | exact fun _ => Nat.le_of_ble_eq_true rfl | exact Int.natCast_nonneg _ | exact fun _ => Int.natCast_nonneg _ | exact in_t _ _ _ | exact (in_t _ _ _).un | exact gq_f
  case zk =>
  refine Aw.sm tab_ok mb0 [] rfl rfl ?zo ?zk
  case zo =>
    repeat' apply AllP.cons
    all_goals first | exact trivial | exact id | exact rfl | exact fun _ => rfl | exact Nat.le_of_ble_eq_true rfl | exact fun _ => Nat.le_of_ble_eq_true rfl | exact Int.natCast_nonneg _ | exact fun _ => Int.natCast_nonneg _ | exact in_t _ _ _ | exact (in_t _ _ _).un | exact gq_f
  case zk =>
  refine Aw.seq ?_
  refine Aw.sm tab_ok mb0 [] rfl rfl ?zo ?zk
  case zo =>
    repeat' apply AllP.cons
    all_goals first | exact trivial | exact id | exact rfl | exact fun _ => rfl | exact Nat.le_of_ble_eq_true rfl | exact fun _ => Nat.le_of_ble_eq_true rfl | exact Int.natCast_nonneg _ | exact fun _ => Int.natCast_nonneg _ | exact in_t _ _ _ | exact (in_t _ _ _).un | exact gq_f
  case zk =>
  have ut : ∀ {n}, Under n (A.sl p .any (ints takes)) := (free_ints _ _ _).under
  have uq : ∀ {n}, Under n (A.sl q .any (ints recs)) := (free_ints _ _ _).under
  have ur : ∀ {n}, Under n (A.pt r.c) := (Free.pt _ r.free).under
  refine Aw.block (Aw.rounds (ι := Nat × Bool × List Int × List Int) 0 hE [(1, .sl p .any (ints takes)), (2, .sl q .any (ints recs)), (3, .pt r.c)] (fun i => [(7, grL 3 i.2.2.2), (8, .sl i.2.1 .any (ints i.2.2.1)), (9, .int i.1)]) (fun _ => [])
    (fun i => i.1 ≤ takes.length ∧ Pop r (600000 + 100000 * i.1) i.2.2.1 ∧ i.2.2.2.length = i.1 ∧ i.2.2.2 ++ playF r i.2.2.1 (takes.drop i.1) (recs.drop i.1) = playF r r.numbers takes recs) (fun i => takes.length - i.1) (0, r.nn, r.numbers, [])
    ⟨Nat.zero_le _, by simpa using first_pop hr, rfl, rfl⟩ ⟨⟨.refl _, .refl _, .refl _, trivial⟩, ⟨.refl _, .refl _, .refl _, trivial⟩, trivial, Nat.le_refl _⟩ ⟨ut, uq, ur, trivial⟩ (fun _ _ => ⟨grL_under _, (free_ints _ _ _).under, .s _, trivial⟩) (fun _ _ => trivial) ?_)
  rintro ⟨k, bb, lk, out⟩ ⟨hk, hpop, hol, hrun⟩
  simp only at hk hpop hol hrun
  refine Aw.seq ?_
  refine Aw.sm tab_ok mb0 [] rfl rfl ?zo ?zk
  case zo =>
    repeat' apply AllP.cons
    all_goals first | exact trivial | exact id | exact rfl | exact fun _ => rfl | exact Nat.le_of_ble_eq_true rfl | exact fun _ => Nat.le_of_ble_eq_true rfl | exact Int.natCast_nonneg _ | exact fun _ => Int.natCast_nonneg _ | exact in_t _ _ _ | exact (in_t _ _ _).un | exact gq_f
  case zk =>
  refine Aw.cond rfl (fun h1 => Aw.skip ?_) (fun h1 => ?_)
  · have hlt : k < takes.length := by have := of_decide_eq_true h1; omega
    have hlc : k < recs.length := by omega
    have b1 := ht k hlt
    have b2 := hx k hlt
    have et : takes.drop k = takes.getD k 0 :: takes.drop (k + 1) := by rw [List.drop_eq_getElem_cons hlt, List.getD_eq_getElem?_getD, List.getElem?_eq_getElem hlt]; rfl
    have ec : recs.drop k = recs.getD k 0 :: recs.drop (k + 1) := by rw [List.drop_eq_getElem_cons hlc, List.getD_eq_getElem?_getD, List.getElem?_eq_getElem hlc]; rfl
    rw [et, ec, playF] at hrun
    have g1 : (ints takes)[k]? = some [.int (takes.getD k 0)] := ints_getD hlt
    have g2 : (ints recs)[k]? = some [.int (recs.getD k 0)] := ints_getD hlc
    generalize takes.getD k 0 = t at *
    generalize recs.getD k 0 = x at *
    have hC := caughtF_pop hpop b1.1
    have hW := yearF_pop hr hpop b1.1 b2.1
    rw [show yearF r lk t x = (spawnF r (caughtF r lk t), winF r (caughtF r lk t) x) from rfl] at hrun hW
    simp only at hrun hW
    have c1 := caught_t r hr bb lk t _ hpop (by omega) ⟨b1.1, by omega⟩
    have c2 := spawners_t r hr false (caughtF r lk t) _ hC (by omega)
    have c3 := winter_t r hr false (caughtF r lk t) x _ hC (by omega) b2
    generalize caughtF r lk t = C at *
    generalize winF r C x = W at *
    generalize spawnF r C = s at *
    refine Aw.seq (Aw.block ?_)
    refine Aw.sd tab_ok mixed mb0 [(4, [.int t]), (6, [.sl false .any (ints C)])] rfl (by kernel_rfl) rfl rfl ?zo ?zk
    case zo =>
      repeat' apply AllP.cons
      all_goals first | exact trivial | exact id | exact rfl | exact fun _ => rfl | exact Nat.le_of_ble_eq_true rfl | exact fun _ => Nat.le_of_ble_eq_true rfl | exact Int.natCast_nonneg _ | exact fun _ => Int.natCast_nonneg _ | exact in_t _ _ _ | exact (in_t _ _ _).un | exact gq_f | exact g1 | exact c1
    case zk =>
    have fin : out ++ s :: playF r W (takes.drop (k + 1)) (recs.drop (k + 1)) = (out ++ [s]) ++ playF r W (takes.drop (k + 1)) (recs.drop (k + 1)) := by simp
    rw [fin] at hrun
    have hpop2 : Pop r (600000 + 100000 * ((k + 1 : Nat) : Int)) W := ⟨hW.len, hW.pos, by have := hW.sum; omega⟩
    cases out with
    | nil =>
      refine Aw.sm tab_ok mb0 [(3, [.int s])] rfl rfl ?zo ?zk
      case zo =>
        repeat' apply AllP.cons
        all_goals first | exact trivial | exact id | exact rfl | exact fun _ => rfl | exact Nat.le_of_ble_eq_true rfl | exact fun _ => Nat.le_of_ble_eq_true rfl | exact Int.natCast_nonneg _ | exact fun _ => Int.natCast_nonneg _ | exact in_t _ _ _ | exact (in_t _ _ _).un | exact gq_f | exact c2 | exact (show ∀ z ∈ [] ++ [[A.int _]], z.length = 1 from fun z hz => by simp at hz; subst hz; rfl) | exact (by simp only [Ob.of]; decide)
      case zk =>
      refine Aw.ed tab_ok mixed mb0 [(4, [.int x]), (6, [.sl false .any (ints W)])] rfl (by kernel_rfl) rfl rfl ?zo ?zk
      case zo =>
        repeat' apply AllP.cons
        all_goals first | exact trivial | exact id | exact rfl | exact fun _ => rfl | exact Nat.le_of_ble_eq_true rfl | exact fun _ => Nat.le_of_ble_eq_true rfl | exact Int.natCast_nonneg _ | exact fun _ => Int.natCast_nonneg _ | exact in_t _ _ _ | exact (in_t _ _ _).un | exact gq_f | exact g2 | exact c3
      case zk =>
      refine Aw.em tab_ok mb0 [] rfl rfl ?zo ?zk
      case zo =>
        repeat' apply AllP.cons
        all_goals first | exact trivial | exact id | exact rfl | exact fun _ => rfl | exact Nat.le_of_ble_eq_true rfl | exact fun _ => Nat.le_of_ble_eq_true rfl | exact Int.natCast_nonneg _ | exact fun _ => Int.natCast_nonneg _ | exact in_t _ _ _ | exact (in_t _ _ _).un | exact gq_f | exact inrk k (by omega)
      case zk =>
      exact ⟨(k + 1, false, W, [] ++ [s]), ⟨hlt, hpop2, by simp at hol ⊢; omega, hrun⟩, by show takes.length - (k + 1) < takes.length - k; omega, ⟨.refl _, .refl _, .refl _, trivial⟩, ⟨.of_eq rfl, .refl _, .refl _, trivial⟩, trivial, Nat.zero_le _⟩
    | cons y ys =>
      have hlen2 : (ints (y :: ys)).length = k := by rw [ints_len]; exact hol
      have hz := ints_one (y :: ys)
      refine Aw.sm tab_ok mb0 [(3, [.int s])] rfl rfl ?zo ?zk
      case zo =>
        repeat' apply AllP.cons
        all_goals first | exact trivial | exact id | exact rfl | exact fun _ => rfl | exact Nat.le_of_ble_eq_true rfl | exact fun _ => Nat.le_of_ble_eq_true rfl | exact Int.natCast_nonneg _ | exact fun _ => Int.natCast_nonneg _ | exact in_t _ _ _ | exact (in_t _ _ _).un | exact gq_f | exact c2 | exact (show ∀ z ∈ [[A.int _]], z.length = 1 from fun z hz => by simp at hz; subst hz; rfl) | exact hz | exact (show ((ints (y :: ys)).length + 1) * 8 ≤ 140737488355328 by omega) | exact (show (ints (y :: ys)).length + 1 ≤ maxLen by unfold maxLen; omega)
      case zk =>
      refine Aw.ed tab_ok mixed mb0 [(4, [.int x]), (6, [.sl false .any (ints W)])] rfl (by kernel_rfl) rfl rfl ?zo ?zk
      case zo =>
        repeat' apply AllP.cons
        all_goals first | exact trivial | exact id | exact rfl | exact fun _ => rfl | exact Nat.le_of_ble_eq_true rfl | exact fun _ => Nat.le_of_ble_eq_true rfl | exact Int.natCast_nonneg _ | exact fun _ => Int.natCast_nonneg _ | exact in_t _ _ _ | exact (in_t _ _ _).un | exact gq_f | exact g2 | exact c3
      case zk =>
      refine Aw.em tab_ok mb0 [] rfl rfl ?zo ?zk
      case zo =>
        repeat' apply AllP.cons
        all_goals first | exact trivial | exact id | exact rfl | exact fun _ => rfl | exact Nat.le_of_ble_eq_true rfl | exact fun _ => Nat.le_of_ble_eq_true rfl | exact Int.natCast_nonneg _ | exact fun _ => Int.natCast_nonneg _ | exact in_t _ _ _ | exact (in_t _ _ _).un | exact gq_f | exact inrk k (by omega)
      case zk =>
      exact ⟨(k + 1, false, W, (y :: ys) ++ [s]), ⟨hlt, hpop2, by simp at hol ⊢; omega, hrun⟩, by show takes.length - (k + 1) < takes.length - k; omega, ⟨.refl _, .refl _, .refl _, trivial⟩,
        ⟨.of_eq (show grL 3 ((y :: ys) ++ [s]) = A.sl false (.own 3) (ints (y :: ys) ++ [[A.int s]]) by simp [grL, ints]), .refl _, .refl _, trivial⟩, trivial, Nat.zero_le _⟩
  have hend : k = takes.length := by have := of_decide_eq_false h1; omega
  have hdone : out = playF r r.numbers takes recs := by
    rw [← hrun, hend, List.drop_length]; simp [playF]
  refine Aw.exit2 ?_
  rw [← hdone]
  cases out with
  | nil =>
    refine Aw.sm tab_ok mb0 [] rfl rfl ?zo ?zk
    case zo =>
      repeat' apply AllP.cons
      all_goals first | exact trivial | exact id | exact rfl | exact fun _ => rfl | exact Nat.le_of_ble_eq_true rfl | exact fun _ => Nat.le_of_ble_eq_true rfl | exact Int.natCast_nonneg _ | exact fun _ => Int.natCast_nonneg _ | exact in_t _ _ _ | exact (in_t _ _ _).un | exact gq_f
    case zk =>
    exact Aw.ret ⟨_, .cons (.tmp _) .nil, rfl⟩
  | cons y ys =>
    refine Aw.sm tab_ok mb0 [] rfl rfl ?zo ?zk
    case zo =>
      repeat' apply AllP.cons
      all_goals first | exact trivial | exact id | exact rfl | exact fun _ => rfl | exact Nat.le_of_ble_eq_true rfl | exact fun _ => Nat.le_of_ble_eq_true rfl | exact Int.natCast_nonneg _ | exact fun _ => Int.natCast_nonneg _ | exact in_t _ _ _ | exact (in_t _ _ _).un | exact gq_f
    case zk =>
    exact Aw.ret ⟨_, .cons (.tmp _) .nil, rfl⟩
def rPlayR (r : Rce) (takes recs : List Int) : List A := if playOk r takes recs then [outA (playF r r.numbers takes recs), .int 0] else [outA [], .int 92]
theorem playOk_num (r : Rce) (takes recs : List Int) : playOk r takes recs = !(cond (cond (cond (!r.ok) true (!wi takes.length 1 10)) true (!numF takes takes.length 100000000)) true (!numF recs takes.length 100000)) := by
  have e1 : (List.range takes.length).all (fun i => wi (takes.getD i 0) 0 100000000) = takes.all fun x => wi x 0 100000000 := by
    rw [Bool.eq_iff_iff, List.all_eq_true, List.all_eq_true]
    constructor
    · intro h x hx
      obtain ⟨i, hi, rfl⟩ := getD_mem hx
      exact h i (List.mem_range.2 hi)
    · intro h i hi
      have hi := List.mem_range.1 hi
      refine h _ ?_
      rw [List.getD_eq_getElem?_getD, List.getElem?_eq_getElem hi]
      exact List.getElem_mem hi
  by_cases hl : recs.length = takes.length
  · have e2 : (List.range takes.length).all (fun i => wi (recs.getD i 0) 0 100000) = recs.all fun x => wi x 0 100000 := by
      rw [Bool.eq_iff_iff, List.all_eq_true, List.all_eq_true]
      constructor
      · intro h x hx
        obtain ⟨i, hi, rfl⟩ := getD_mem hx
        exact h i (List.mem_range.2 (by omega))
      · intro h i hi
        have hi := List.mem_range.1 hi
        refine h _ ?_
        rw [List.getD_eq_getElem?_getD, List.getElem?_eq_getElem (by omega)]
        exact List.getElem_mem (by omega)
    have e3 : (List.range takes.length).all (playYear takes recs) = ((List.range takes.length).all (fun i => wi (takes.getD i 0) 0 100000000) && (List.range takes.length).all (fun i => wi (recs.getD i 0) 0 100000)) := by
      rw [Bool.eq_iff_iff, Bool.and_eq_true, List.all_eq_true, List.all_eq_true, List.all_eq_true]
      constructor
      · intro h
        exact ⟨fun i hi => ac1 (h i hi), fun i hi => ac2 (h i hi)⟩
      · rintro ⟨h1, h2⟩ i hi
        unfold playYear
        rw [h1 i hi, h2 i hi]; rfl
    unfold playOk playHead numF
    rw [e3, e1, e2, hl]
    cases r.ok <;> cases wi takes.length 1 10 <;> simp
  · have e0 : ((recs.length : Int) == takes.length) = false := by
      rw [beq_eq_false_iff_ne]; omega
    unfold playOk playHead numF
    rw [e0]
    cases r.ok <;> cases wi takes.length 1 10 <;> cases (takes.all fun x => wi x 0 100000000) <;> simp
theorem rPlay_t (r : Rce) (hf : r.Fit) (p q : Bool) (takes recs : List Int) (ht : (takes.length : Int) ≤ 9223372036854775806) (hc : (recs.length : Int) ≤ 9223372036854775806) :
    Ans Try.prog 25 [.agg r.c, .sl p .any (ints takes), .sl q .any (ints recs)] (.tup (rPlayR r takes recs)) := by
  have hfr : Free (.tup (rPlayR r takes recs)) := .tup _ (by unfold rPlayR; split <;> exact allC (outA_free _) (all1 (.s _)))
  have lt := ints_lenI takes
  refine told Try.func25 rfl rfl (Pure.of tab_ok Try.func25 rfl Try.ntmps25 rfl (allC (.agg _ r.free) (allC (free_ints _ _ _) (all1 (free_ints _ _ _)))) (allC (fun _ => rfl) (allC (fun _ => rfl) (all1 (fun _ => rfl)))) (by first | exact .s _ | assumption | exact .tup _ (by intro x hx; simp only [List.mem_cons, List.not_mem_nil, or_false] at hx; rcases hx with rfl | rfl | rfl | rfl <;> first | exact .s _ | (simp_all; done))) fun E hE => ?_)
  refine Aw.sm tab_ok mb0 [] rfl rfl ?zo ?zk
  case zo =>
    repeat' apply AllP.cons
    all_goals first | exact trivial | exact id | exact rfl | exact fun _ => rfl | exact Nat.le_of_ble_eq_true rfl | exact fun _ => Nat.le_of_ble_eq_true rfl | exact Int.natCast_nonneg _ | exact fun _ => Int.natCast_nonneg _ | exact in_t _ _ _ | exact (in_t _ _ _).un | exact gq_f
  case zk =>
  refine Aw.seq ?_
  refine Aw.sm tab_ok mb0 [(1, [.bool r.ok]), (6, [.bool (wi takes.length 1 10)]), (13, [.bool (numF takes takes.length 100000000)]), (20, [.bool (numF recs takes.length 100000)])] rfl rfl ?zo ?zk
  case zo =>
    repeat' apply AllP.cons
    all_goals first | exact trivial | exact id | exact rfl | exact fun _ => rfl | exact Nat.le_of_ble_eq_true rfl | exact fun _ => Nat.le_of_ble_eq_true rfl | exact Int.natCast_nonneg _ | exact fun _ => Int.natCast_nonneg _ | exact in_t _ _ _ | exact (in_t _ _ _).un | exact gq_f | exact race_t r hf | exact fun _ => lt ▸ in_t _ _ _ | exact fun _ => lt ▸ numbers_t p takes _ _ ht | exact fun _ => lt ▸ numbers_t q recs _ _ hc
  case zk =>
  refine Aw.cond rfl (fun h => ?_) (fun h => Aw.skip ?_)
  · have hno : playOk r takes recs = false := by
      rw [playOk_num]
      have h : cond (cond (cond (!r.ok) true (!wi takes.length 1 10)) true (!numF takes takes.length 100000000)) true (!numF recs takes.length 100000) = true := h
      rw [h]; rfl
    refine Aw.sm tab_ok mb0 [] rfl rfl ?zo ?zk
    case zo =>
      repeat' apply AllP.cons
      all_goals first | exact trivial | exact id | exact rfl | exact fun _ => rfl | exact Nat.le_of_ble_eq_true rfl | exact fun _ => Nat.le_of_ble_eq_true rfl | exact Int.natCast_nonneg _ | exact fun _ => Int.natCast_nonneg _ | exact in_t _ _ _ | exact (in_t _ _ _).un | exact gq_f
    case zk =>
    exact Aw.ret ⟨_, .cons (.tmp _) (.cons (.tmp _) .nil), by unfold rPlayR; rw [hno]; rfl⟩
  · have hok : playOk r takes recs = true := by
      rw [playOk_num]
      have h : cond (cond (cond (!r.ok) true (!wi takes.length 1 10)) true (!numF takes takes.length 100000000)) true (!numF recs takes.length 100000) = false := h
      rw [h]; rfl
    have hi := PlayIn.of hok
    have c := rplay_t r (.of hi.ok) p q takes recs hi.len hi.l10 hi.t hi.x
    have e : rPlayR r takes recs = [outA (playF r r.numbers takes recs), .int 0] := by unfold rPlayR; rw [hok]; rfl
    rw [e]
    cases hP : playF r r.numbers takes recs with
    | nil =>
      rw [hP] at c
      refine Aw.sm tab_ok mb0 [(3, [.sl true .exact []])] rfl rfl ?zo ?zk
      case zo =>
        repeat' apply AllP.cons
        all_goals first | exact trivial | exact id | exact rfl | exact fun _ => rfl | exact Nat.le_of_ble_eq_true rfl | exact fun _ => Nat.le_of_ble_eq_true rfl | exact Int.natCast_nonneg _ | exact fun _ => Int.natCast_nonneg _ | exact in_t _ _ _ | exact (in_t _ _ _).un | exact gq_f | exact c
      case zk =>
      exact Aw.ret ⟨_, .cons (.tmp _) (.cons (.tmp _) .nil), rfl⟩
    | cons y ys =>
      rw [hP] at c
      refine Aw.sm tab_ok mb0 [(3, [.sl false .any (ints (y :: ys))])] rfl rfl ?zo ?zk
      case zo =>
        repeat' apply AllP.cons
        all_goals first | exact trivial | exact id | exact rfl | exact fun _ => rfl | exact Nat.le_of_ble_eq_true rfl | exact fun _ => Nat.le_of_ble_eq_true rfl | exact Int.natCast_nonneg _ | exact fun _ => Int.natCast_nonneg _ | exact in_t _ _ _ | exact (in_t _ _ _).un | exact gq_f | exact c
      case zk =>
      exact Aw.ret ⟨_, .cons (.tmp _) (.cons (.tmp _) .nil), rfl⟩
theorem plays_t (r : Rce) (p q : Bool) (takes recs : List Int) (hf : r.Fit) (ht : (takes.length : Int) ≤ 9223372036854775806) (hc : (recs.length : Int) ≤ 9223372036854775806) :
    Ans Try.prog 5 [.agg r.c, .sl p .any (ints takes), .sl q .any (ints recs)] (.bool true) := by
  refine told Try.func5 rfl rfl (Pure.of tab_ok Try.func5 rfl Try.ntmps5 rfl (allC (.agg _ r.free) (allC (free_ints _ _ _) (all1 (free_ints _ _ _)))) (allC (fun _ => rfl) (allC (fun _ => rfl) (all1 (fun _ => rfl)))) (by first | exact .s _ | assumption | exact .tup _ (by intro x hx; simp only [List.mem_cons, List.not_mem_nil, or_false] at hx; rcases hx with rfl | rfl | rfl | rfl <;> first | exact .s _ | (simp_all; done))) fun E hE => ?_)
  have c1 := play_t r hf p q takes recs ht hc
  have c2 := rPlay_t r hf p q takes recs ht hc
  unfold playR at c1
  unfold rPlayR at c2
  refine Aw.sm tab_ok mb0 [] rfl rfl ?zo ?zk
  case zo =>
    repeat' apply AllP.cons
    all_goals first | exact trivial | exact id | exact rfl | exact fun _ => rfl | exact Nat.le_of_ble_eq_true rfl | exact fun _ => Nat.le_of_ble_eq_true rfl | exact Int.natCast_nonneg _ | exact fun _ => Int.natCast_nonneg _ | exact in_t _ _ _ | exact (in_t _ _ _).un | exact gq_f
  case zk =>
  cases hok : playOk r takes recs with
  | false =>
    rw [hok] at c1 c2
    have s : Ans Try.prog 26 [.sl true .exact [], .sl true .exact []] (.bool true) := le2 (same_t true true [] [] (by decide)) (.any _ _ _) (.any _ _ _)
    refine Aw.sm tab_ok mb0 [(3, [.tup [.sl true .exact [], .int 92]])] rfl rfl ?zo ?zk
    case zo =>
      repeat' apply AllP.cons
      all_goals first | exact trivial | exact id | exact rfl | exact fun _ => rfl | exact Nat.le_of_ble_eq_true rfl | exact fun _ => Nat.le_of_ble_eq_true rfl | exact Int.natCast_nonneg _ | exact fun _ => Int.natCast_nonneg _ | exact in_t _ _ _ | exact (in_t _ _ _).un | exact gq_f | exact c1
    case zk =>
    refine Aw.sm tab_ok mb0 [(3, [.tup [.sl true .exact [], .int 92]])] rfl rfl ?zo ?zk
    case zo =>
      repeat' apply AllP.cons
      all_goals first | exact trivial | exact id | exact rfl | exact fun _ => rfl | exact Nat.le_of_ble_eq_true rfl | exact fun _ => Nat.le_of_ble_eq_true rfl | exact Int.natCast_nonneg _ | exact fun _ => Int.natCast_nonneg _ | exact in_t _ _ _ | exact (in_t _ _ _).un | exact gq_f | exact c2
    case zk =>
    refine Aw.sm tab_ok mb0 [(2, [.bool true]), (9, [.bool true])] rfl rfl ?zo ?zk
    case zo =>
      repeat' apply AllP.cons
      all_goals first | exact trivial | exact id | exact rfl | exact fun _ => rfl | exact Nat.le_of_ble_eq_true rfl | exact fun _ => Nat.le_of_ble_eq_true rfl | exact Int.natCast_nonneg _ | exact fun _ => Int.natCast_nonneg _ | exact in_t _ _ _ | exact (in_t _ _ _).un | exact gq_f | exact s | exact fun _ => works_t
    case zk =>
    exact Aw.ret ⟨_, .cons (.tmp _) .nil, rfl⟩
  | true =>
    rw [hok] at c1 c2
    have hi := PlayIn.of hok
    have lP : (playF r r.numbers takes recs).length = takes.length := playF_len r takes recs _ hi.len.symm
    cases hP : playF r r.numbers takes recs with
    | nil => rw [hP] at lP; have := hi.l1; simp at lP; omega
    | cons y ys =>
      rw [hP] at c1 c2 lP
      have s : Ans Try.prog 26 [.sl false .exact (ints (y :: ys)), .sl false .any (ints (y :: ys))] (.bool true) := by
        have := same_t false false (y :: ys) (y :: ys) (by rw [lP]; exact ht)
        rw [beq_self_eq_true] at this
        exact le2 this (.any _ _ _) (.refl _)
      refine Aw.sm tab_ok mb0 [(3, [.tup [.sl false .exact (ints (y :: ys)), .int 0]])] rfl rfl ?zo ?zk
      case zo =>
        repeat' apply AllP.cons
        all_goals first | exact trivial | exact id | exact rfl | exact fun _ => rfl | exact Nat.le_of_ble_eq_true rfl | exact fun _ => Nat.le_of_ble_eq_true rfl | exact Int.natCast_nonneg _ | exact fun _ => Int.natCast_nonneg _ | exact in_t _ _ _ | exact (in_t _ _ _).un | exact gq_f | exact c1
      case zk =>
      refine Aw.sm tab_ok mb0 [(3, [.tup [.sl false .any (ints (y :: ys)), .int 0]])] rfl rfl ?zo ?zk
      case zo =>
        repeat' apply AllP.cons
        all_goals first | exact trivial | exact id | exact rfl | exact fun _ => rfl | exact Nat.le_of_ble_eq_true rfl | exact fun _ => Nat.le_of_ble_eq_true rfl | exact Int.natCast_nonneg _ | exact fun _ => Int.natCast_nonneg _ | exact in_t _ _ _ | exact (in_t _ _ _).un | exact gq_f | exact c2
      case zk =>
      refine Aw.sm tab_ok mb0 [(2, [.bool true]), (9, [.bool true])] rfl rfl ?zo ?zk
      case zo =>
        repeat' apply AllP.cons
        all_goals first | exact trivial | exact id | exact rfl | exact fun _ => rfl | exact Nat.le_of_ble_eq_true rfl | exact fun _ => Nat.le_of_ble_eq_true rfl | exact Int.natCast_nonneg _ | exact fun _ => Int.natCast_nonneg _ | exact in_t _ _ _ | exact (in_t _ _ _).un | exact gq_f | exact s | exact fun _ => works_t
      case zk =>
      exact Aw.ret ⟨_, .cons (.tmp _) .nil, rfl⟩
end Go.Proofs.Ytdiclbgklegelaa
namespace Go.Proofs.Ytdiclbgklegelaa
open Go Go.AL Go.ChangeShapes Go.WideShapes Go.ChangeAt Go.RowKit
set_option maxRecDepth 100000 in
theorem stockPlays_lifted (os : Os) (started : os.Started) (H : Type) (enc : TypeId × Value → H) :
    ReturnsInHanded {} Try.checked os 5 .any (Rows.stockPlaysSpec.pre6 enc Try.prog Try.f5 [] false) (Rows.stockPlaysSpec.post enc Try.prog Try.f5 false true false false) := by
  refine lifted2 (tb := 4) (C := Try.checked) own started (by kernel_rfl) Try.func5
    (ChangeSpec.witness6 (enc := enc) (C := Try.checked) false ⟨#[], #[.agg #[.slice none 0 0, .slice none 0 0, .slice none 0 0, .int .i64 0, .int .i64 0], .slice none 0 0, .slice none 0 0], []⟩ 8 (by kernel_rfl) (by kernel_rfl) (by kernel_rfl) (by kernel_rfl))
    laidOut ?_ rfl rfl (by kernel_rfl) uBool ?_ ?_
  · rw [Try.params5]; exact all3t (p := fun t => Try.prog.readableRec t = true ∧ t < Try.prog.types.size) t39 t37 t37
  · intro ds hd
    rw [Try.params5] at hd
    match ds, hd with
    | [d0, d1, d2], _ => rfl
  · intro W base args ds p hval hA hwt
    rw [Try.params5] at hA hval
    obtain ⟨v0, v1, v2, d0, d1, d2, p0, p1, p2, rfl, rfl, rfl, h0, h1, h2⟩ := trodAll_three hA
    obtain ⟨y0, q0, s0⟩ := arg_rce (φ := fun _ => none) (hval 0 39 v0 rfl rfl) h0 fun k hk => hwt k (List.mem_append.2 (.inl hk))
    obtain ⟨b1, y1, q1, s1⟩ := arg_ints (φ := fun _ => none) (hval 1 37 v1 rfl rfl) h1 fun k hk => hwt k (List.mem_append.2 (.inr (List.mem_append.2 (.inl hk))))
    obtain ⟨b2, y2, q2, s2⟩ := arg_ints (φ := fun _ => none) (hval 2 37 v2 rfl rfl) h2 fun k hk => hwt k (List.mem_append.2 (.inr (List.mem_append.2 (.inr (List.mem_append.2 (.inl hk))))))
    exact ⟨_, _, vrs3 q0 q1 q2, plays_t y0 b1 b2 y1 y2 s0 s1 s2⟩
theorem stockPlays_holds : Rows.StockPlaysSaid :=
  OpenClaim.holds_of_wide 5 Try.f5 rfl rfl rfl rfl rfl rfl rfl ⟨rfl, rfl, rfl, rfl, rfl⟩ rfl rfl rfl rfl rfl (by kernel_rfl) Try.func5 (by kernel_rfl)
    (of_decide_eq_true (by kernel_rfl)) (by unfold Func.isWrapper; first | (rw [if_pos (by decide +kernel)]; kernel_rfl) | (rw [if_neg (by decide +kernel)]; exact ⟨rfl, rfl⟩))
    (fun os started H enc _ => stockPlays_lifted os started H enc)
end Go.Proofs.Ytdiclbgklegelaa
