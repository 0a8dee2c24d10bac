/- StockYear holds: a race of which nothing is taken, of which all live on, has as many in each year; with a take as many fewer as were taken, while there are some. No condition. -/
import Derived.Test.YtdiclbgklegelaaK6
set_option linter.all false
namespace Go.AL.Q
open Go
end Go.AL.Q

namespace Go.AL.Q
open Go
def LeP (a b : List Int) : Prop := a.length = b.length ∧ ∀ i, a.getD i 0 ≤ b.getD i 0
theorem LeP.refl (a : List Int) : LeP a a := ⟨rfl, fun _ => Int.le_refl _⟩
theorem LeP.set {a b : List Int} (h : LeP a b) {i : Nat} {x y : Int} (hi : i < b.length) (hx : x ≤ y) : LeP (a.set i x) (b.set i y) :=
  ⟨by simp [h.1], fun j => by
    have hl := h.1
    rw [getD_set' _ _ _ _ (by omega), getD_set' _ _ _ _ hi]
    split
    · exact hx
    · exact h.2 j⟩
def Rce.aliveHead (r : Rce) : Bool := cond (cond (cond (wi r.many 1 6) ((r.keep.length : Int) == r.many) false) ((r.spawn.length : Int) == r.many) false) (wi r.mesh 0 ((r.many : Int) - 1)) false
def Rce.alive (r : Rce) : Bool := cond r.aliveHead ((List.range r.many).all r.ageOk) false
structure PlayIn (r : Rce) (takes recs : List Int) : Prop where
  ok : r.ok = true
  l1 : 1 ≤ takes.length
  l10 : takes.length ≤ 10
  len : recs.length = takes.length
  t : ∀ i, i < takes.length → 0 ≤ takes.getD i 0 ∧ takes.getD i 0 ≤ 100000000
  x : ∀ i, i < takes.length → 0 ≤ recs.getD i 0 ∧ recs.getD i 0 ≤ 100000
theorem PlayIn.of {r : Rce} {takes recs : List Int} (h : playOk r takes recs = true) : PlayIn r takes recs := by
  unfold playOk at h
  have h1 := ac1 h
  have h2 := fun i hi => List.all_eq_true.1 (ac2 h) i (List.mem_range.2 hi)
  unfold playHead at h1
  have a1 := wi_iff.1 (ac2 (ac1 h1))
  have a2 := eq_of_beq (ac2 h1)
  exact ⟨ac1 (ac1 h1), by omega, by omega, by omega, fun i hi => wi_iff.1 (ac1 (h2 i hi)), fun i hi => wi_iff.1 (ac2 (h2 i hi))⟩
theorem LeP.up {l : List Int} {i : Nat} {v : Int} (hi : i < l.length) (h : l.getD i 0 ≤ v) : LeP l (l.set i v) := ⟨by simp, fun j => by
  rw [getD_set' _ _ _ _ hi]
  split
  · rename_i e; subst e; exact h
  · exact Int.le_refl _⟩
theorem LeP.dn {l : List Int} {i : Nat} {v : Int} (hi : i < l.length) (h : v ≤ l.getD i 0) : LeP (l.set i v) l := ⟨by simp, fun j => by
  rw [getD_set' _ _ _ _ hi]
  split
  · rename_i e; subst e; exact h
  · exact Int.le_refl _⟩
end Go.AL.Q

namespace Go.AL.Q
open Go
def yearX (r : Rce) : Rce := ⟨r.nn, r.numbers, false, List.replicate r.many 1000, false, List.replicate r.many 1, 0, 0⟩
theorem yearX_ok {r : Rce} (m1 : 1 ≤ r.many) (m6 : r.many ≤ 6) (nb : ∀ i, i < r.many → 0 ≤ r.numbers.getD i 0 ∧ r.numbers.getD i 0 ≤ 100000) : (yearX r).ok = true := by
  have hm : (yearX r).many = r.many := rfl
  unfold Rce.ok Rce.head
  have e1 : wi ((yearX r).many : Int) 1 6 = true := wi_iff.2 (by rw [hm]; omega)
  have e2 : ((((yearX r).keep.length : Nat) : Int) == ((yearX r).many : Int)) = true := by show ((((List.replicate r.many (1000 : Int)).length : Nat) : Int) == (r.many : Int)) = true; simp
  have e3 : ((((yearX r).spawn.length : Nat) : Int) == ((yearX r).many : Int)) = true := by show ((((List.replicate r.many (1 : Int)).length : Nat) : Int) == (r.many : Int)) = true; simp
  have e4 : wi (yearX r).line 0 100000000 = true := show wi 0 0 100000000 = true by decide
  have e5 : wi (yearX r).mesh 0 (((yearX r).many : Int) - 1) = true := wi_iff.2 (by rw [hm]; show (0 : Int) ≤ 0 ∧ (0 : Int) ≤ _; omega)
  rw [e1, e2, e3, e4, e5]
  show ((List.range (yearX r).many).all (yearX r).ageOk) = true
  refine List.all_eq_true.2 fun i hi => ?_
  have hi : i < r.many := List.mem_range.1 hi
  have n1 := nb i hi
  unfold Rce.ageOk
  have g1 : wi ((yearX r).numbers.getD i 0) 0 100000 = true := wi_iff.2 n1
  have g2 : (yearX r).keep.getD i 0 = 1000 := by show (List.replicate r.many (1000 : Int)).getD i 0 = 1000; rw [List.getD_eq_getElem?_getD, List.getElem?_replicate, if_pos hi]; rfl
  have g3 : (yearX r).spawn.getD i 0 = 1 := by show (List.replicate r.many (1 : Int)).getD i 0 = 1; rw [List.getD_eq_getElem?_getD, List.getElem?_replicate, if_pos hi]; rfl
  rw [g1, g2, g3]; decide
theorem getD_set (l : List Int) (k i : Nat) (v : Int) : (l.set k v).getD i 0 = if k = i ∧ k < l.length then v else l.getD i 0 := by
  rw [List.getD_eq_getElem?_getD, List.getElem?_set]
  by_cases e : k = i
  · subst e
    by_cases h : k < l.length
    · rw [if_pos rfl, if_pos h, if_pos ⟨rfl, h⟩]; rfl
    · rw [if_pos rfl, if_neg h, if_neg (fun x => h x.2), List.getD_eq_getElem?_getD, List.getElem?_eq_none (by omega)]
  · rw [if_neg e, if_neg (fun x => e x.1), List.getD_eq_getElem?_getD]
theorem sum_set1 : ∀ {l : List Int} {k : Nat} {v : Int}, k < l.length → (l.set k v).sum = l.sum - l.getD k 0 + v
  | [], k, v, h => by simp at h
  | x :: l, 0, v, _ => by simp; omega
  | x :: l, k + 1, v, h => by
    have := sum_set1 (l := l) (k := k) (v := v) (by simpa using h)
    rw [List.set_cons_succ, List.sum_cons, List.sum_cons, this, List.getD_cons_succ]; omega
theorem take_sum {l : List Int} {k : Nat} (h : k < l.length) : (l.take (k + 1)).sum = (l.take k).sum + l.getD k 0 := by
  rw [List.take_succ_eq_append_getElem h, List.sum_append]
  simp [List.getD_eq_getElem?_getD, h]
structure Pos (n : Nat) (l : List Int) : Prop where
  n : l.length = n
  p : ∀ i, 0 ≤ l.getD i 0
theorem Pos.take {n : Nat} {l : List Int} (h : Pos n l) : ∀ k, 0 ≤ (l.take k).sum
  | 0 => by simp
  | k + 1 => by
    by_cases hk : k < l.length
    · rw [take_sum hk]; have := h.take k; have := h.p k; omega
    · rw [List.take_of_length_le (by omega)]
      have := h.take k
      rwa [List.take_of_length_le (by omega)] at this
theorem Pos.set {n : Nat} {l : List Int} (h : Pos n l) (k : Nat) {v : Int} (hv : 0 ≤ v) : Pos n (l.set k v) := ⟨by rw [List.length_set]; exact h.n, fun i => by
  rw [getD_set]
  split
  · exact hv
  · exact h.p i⟩
theorem catch_pos {n : Nat} : ∀ (k : Nat) (l : List Int) (t : Int), Pos n l → 0 ≤ t → k ≤ n → Pos n (catchF l 0 k t) ∧ (catchF l 0 k t).sum = l.sum - min (l.take k).sum t
  | 0, l, t, h, ht, _ => by
    rw [catchF]
    refine ⟨h, ?_⟩
    rw [List.take_zero, List.sum_nil]; omega
  | k + 1, l, t, h, ht, hk => by
    have hkl : k < l.length := by rw [h.n]; omega
    have hp := h.p k
    rw [catchF, if_pos (Nat.zero_le k)]
    have hs := h.set k (v := l.getD k 0 - min (l.getD k 0) t) (by omega)
    obtain ⟨h1, h2⟩ := catch_pos k _ (t - min (l.getD k 0) t) hs (by omega) (by omega)
    refine ⟨h1, ?_⟩
    have e : (l.set k (l.getD k 0 - min (l.getD k 0) t)).take k = l.take k := by rw [List.take_set, List.set_eq_of_length_le (by rw [List.length_take]; omega)]
    have hpre := h.take k
    rw [h2, sum_set1 hkl, e, take_sum hkl]
    omega
theorem yearX_keep {r : Rce} {k : Nat} (h : k < r.many) : (yearX r).keep.getD k 0 = 1000 := by
  show (List.replicate r.many (1000 : Int)).getD k 0 = 1000
  rw [List.getD_eq_getElem?_getD, List.getElem?_replicate, if_pos h]; rfl
theorem win_pos {r : Rce} (hm : 1 ≤ r.many) {l : List Int} (h : Pos r.many l) : ∀ k, k ≤ r.many → Pos r.many (winN (yearX r) l k) ∧ (winN (yearX r) l k).sum = (l.take k).sum
  | 0, _ => by
    show Pos r.many (List.replicate r.many 0) ∧ (List.replicate r.many (0 : Int)).sum = _
    refine ⟨⟨by simp, fun i => ?_⟩, ?_⟩
    · rw [List.getD_eq_getElem?_getD, List.getElem?_replicate]; split <;> exact Int.le_refl _
    · rw [List.take_zero, List.sum_nil]
      generalize r.many = n
      induction n with
      | zero => rfl
      | succ n ih => rw [List.replicate_succ, List.sum_cons, ih]; rfl
  | k + 1, hk => by
    obtain ⟨h1, h2⟩ := win_pos hm h k (by omega)
    have hmm : (yearX r).many = r.many := rfl
    have hp := h.p k
    have hq := h1.p (min (k + 1) (r.many - 1))
    have hv : (l.getD k 0 * (yearX r).keep.getD k 0).tdiv 1000 = l.getD k 0 := by rw [yearX_keep (by omega)]; exact Int.mul_tdiv_cancel _ (by decide)
    rw [winN, hmm, hv]
    refine ⟨h1.set _ (by omega), ?_⟩
    rw [sum_set1 (by rw [h1.n]; omega), h2, take_sum (by rw [h.n]; omega)]
    omega
theorem spawn_sum {r : Rce} {l : List Int} (h : l.length = r.many) : spawnF (yearX r) l = l.sum := by
  have key : ∀ k, k ≤ r.many → (spawnN (yearX r) l k).sum = (l.take k).sum := by
    intro k
    induction k with
    | zero => intro _; simp [spawnN]
    | succ k ih =>
      intro hk
      have e : spawnN (yearX r) l (k + 1) = spawnN (yearX r) l k ++ [l.getD k 0 * (yearX r).spawn.getD k 0] := by unfold spawnN; rw [List.range_succ, List.map_append]; rfl
      have e2 : (yearX r).spawn.getD k 0 = 1 := by
        show (List.replicate r.many (1 : Int)).getD k 0 = 1
        rw [List.getD_eq_getElem?_getD, List.getElem?_replicate, if_pos (by omega)]; rfl
      rw [e, List.sum_append, ih (by omega), take_sum (by omega), e2]
      simp
  unfold spawnF
  have : (yearX r).many = r.many := rfl
  rw [this, key _ (Nat.le_refl _), ← h, List.take_length]
theorem year_sum {r : Rce} (hm : 1 ≤ r.many) {l : List Int} (h : Pos r.many l) {t : Int} (ht : 0 ≤ t) : (yearF (yearX r) l t 0).1 = max 0 (l.sum - t) ∧ Pos r.many (yearF (yearX r) l t 0).2 ∧ (yearF (yearX r) l t 0).2.sum = max 0 (l.sum - t) := by
  have hmm : (yearX r).many = r.many := rfl
  have hmesh : (yearX r).mesh.toNat = 0 := rfl
  obtain ⟨h1, h2⟩ := catch_pos r.many l t h ht (Nat.le_refl _)
  have hc : caughtF (yearX r) l t = catchF l 0 r.many t := rfl
  have hl : (l.take r.many).sum = l.sum := by rw [← h.n, List.take_length]
  have hp := h.take r.many
  rw [hl] at hp h2
  have hs : (caughtF (yearX r) l t).sum = max 0 (l.sum - t) := by rw [hc, h2]; omega
  rw [← hc] at h1
  obtain ⟨w1, w2⟩ := win_pos hm h1 r.many (Nat.le_refl _)
  have hl2 : ((caughtF (yearX r) l t).take r.many).sum = (caughtF (yearX r) l t).sum := by rw [← h1.n, List.take_length]
  rw [hl2, hs] at w2
  have hw : winF (yearX r) (caughtF (yearX r) l t) 0 = (winN (yearX r) (caughtF (yearX r) l t) r.many).set 0 ((winN (yearX r) (caughtF (yearX r) l t) r.many).getD 0 0 + 0) := rfl
  refine ⟨?_, ?_, ?_⟩
  · show spawnF (yearX r) (caughtF (yearX r) l t) = _
    rw [spawn_sum h1.n, hs]
  · show Pos r.many (winF _ _ 0)
    rw [hw]
    exact w1.set 0 (by have := w1.p 0; omega)
  · show (winF (yearX r) (caughtF (yearX r) l t) 0).sum = _
    rw [hw, sum_set1 (by rw [w1.n]; omega), w2]; omega
theorem play_year {r : Rce} (hm : 1 ≤ r.many) {t : Int} (ht : 0 ≤ t) : ∀ (n : Nat) (l : List Int), Pos r.many l → ∀ y, y < n → (playF (yearX r) l (List.replicate n t) (List.replicate n 0)).getD y 0 = max 0 (l.sum - t * ((y : Int) + 1))
  | 0, l, _, y, h => by omega
  | n + 1, l, hl, y, hy => by
    obtain ⟨h1, h2, h3⟩ := year_sum hm hl ht
    rw [List.replicate_succ, List.replicate_succ, playF]
    cases y with
    | zero =>
      rw [List.getD_cons_zero, h1]
      have : t * (((0 : Nat) : Int) + 1) = t := by simp
      rw [this]
    | succ y =>
      rw [List.getD_cons_succ, play_year hm ht n _ h2 y (by omega), h3]
      have e : t * (((y + 1 : Nat) : Int) + 1) = t * ((y : Int) + 1) + t := by
        rw [show (((y + 1 : Nat) : Int) + 1) = ((y : Int) + 1) + 1 by omega, Int.mul_add, Int.mul_one]
      have hnn : 0 ≤ t * ((y : Int) + 1) := Int.mul_nonneg ht (by omega)
      rw [e]
      omega
theorem race_pos {r : Rce} (nb : ∀ i, i < r.many → 0 ≤ r.numbers.getD i 0 ∧ r.numbers.getD i 0 ≤ 100000) : Pos r.many r.numbers := ⟨rfl, fun i => by
  by_cases hi : i < r.many
  · exact (nb i hi).1
  · rw [List.getD_eq_getElem?_getD, List.getElem?_eq_none (by unfold Rce.many at hi; omega)]; exact Int.le_refl _⟩
theorem alive_is {r : Rce} (h : r.alive = true) : (1 ≤ r.many ∧ r.many ≤ 6) ∧ ∀ i, i < r.many → 0 ≤ r.numbers.getD i 0 ∧ r.numbers.getD i 0 ≤ 100000 := by
  unfold Rce.alive at h
  have h1 := ac1 h
  have h2 := fun i hi => List.all_eq_true.1 (ac2 h) i (List.mem_range.2 hi)
  unfold Rce.aliveHead at h1
  have a1 := wi_iff.1 (ac1 (ac1 (ac1 h1)))
  exact ⟨by omega, fun i hi => wi_iff.1 (ac1 (ac1 (h2 i hi)))⟩
theorem num_sum {r : Rce} (nb : ∀ i, i < r.many → 0 ≤ r.numbers.getD i 0 ∧ r.numbers.getD i 0 ≤ 100000) : ∀ k, k ≤ r.many → 0 ≤ (r.numbers.take k).sum ∧ (r.numbers.take k).sum ≤ 100000 * (k : Int)
  | 0, _ => by simp
  | k + 1, h => by
    have ih := num_sum nb k (by omega)
    have := nb k (by omega)
    rw [take_sum (by unfold Rce.many at h; omega)]
    omega
end Go.AL.Q

set_option maxRecDepth 100000
namespace Go.Proofs.Ytdiclbgklegelaa
open Go Go.AL Go.AL.Q Go.ChangeShapes Go.WideShapes Go.ChangeAt Go.RowKit
theorem t39 : Try.prog.readableRec 39 = true ∧ 39 < Try.prog.types.size := ty_ok (by kernel_rfl) (by kernel_rfl)
theorem u39 : Try.prog.underlying 39 = some (.struct #[fld "Numbers" 37 0 0, fld "Keep" 37 1 24, fld "Spawn" 37 2 48, fld "Line" 3 3 72, fld "Mesh" 3 4 80]) := by kernel_rfl
theorem c39 : Try.prog.cellsOf 39 = 5 := by kernel_rfl
theorem ct39 : Try.prog.cellTypes Try.prog.depth 39 = some [37, 37, 37, 3, 3] := by kernel_rfl
section
variable {H : Type} {enc : TypeId × Value → H} {w : World} {base : Nat} {spare : Nat → Bool} {held : Bool} {φ : Names}
theorem cell_ints {v : Value} {fuel : Nat} {x : DataW H × List MemPlace} {r : Reach} {b0 : Nat} (hok : Cell.okWide Try.prog w r b0 37 v) (h : DataW.trod enc Try.prog w base spare held fuel 37 [v] = some x) (hw : ∀ k ∈ x.1.weights Try.prog 37, k ≤ reachBytes) :
    ∃ (b : Bool) (l : List Int), VR φ (allZ w) w (.sl b .any (ints l)) v ∧ (l.length : Int) ≤ 9223372036854775806 := by
  obtain ⟨b, es, q, l1, m⟩ := open_nums (φ := φ) u37 c3 n3 hok h
  have z := slice_len u37 h q hw
  rw [List.length_map, by3] at z
  obtain ⟨l, r1, p1⟩ := rows1 es l1
  rw [r1] at q
  have h5 : reachBytes = 140737488351232 := by decide
  exact ⟨b, l, q, by omega⟩
theorem open_rce {cs : Array Value} {fuel : Nat} {x : DataW H × List MemPlace} {r : Reach} {b0 : Nat} (hok : Row.okWide Try.prog w r b0 39 cs) (h : DataW.trod enc Try.prog w base spare held fuel 39 cs.toList = some x) (hw : ∀ k ∈ x.1.weights Try.prog 39, k ≤ reachBytes) :
    ∃ y : Rce, VR φ (allZ w) w (.agg y.c) (.agg cs) ∧ y.Fit := by
  obtain ⟨xs, n, _, hx, hl, hlen, hf⟩ := DataW.trod_struct u39 h
  rw [c39] at hl
  obtain ⟨l⟩ := cs
  have hl : l.length = 5 := hl
  match l, hl with
  | [v0, v1, v2, v3, v4], _ =>
  have hlen : xs.length = 5 := hlen
  match xs, hlen with
  | [y0, y1, y2, y3, y4], _ =>
  obtain ⟨ts, hts, _, hc⟩ := hok
  rw [ct39] at hts; cases hts
  have k0 : Cell.okWide Try.prog w r b0 37 v0 := by obtain ⟨u, hu, hk⟩ := hc 0 v0 rfl; cases hu; exact hk
  have k1 : Cell.okWide Try.prog w r b0 37 v1 := by obtain ⟨u, hu, hk⟩ := hc 1 v1 rfl; cases hu; exact hk
  have k2 : Cell.okWide Try.prog w r b0 37 v2 := by obtain ⟨u, hu, hk⟩ := hc 2 v2 rfl; cases hu; exact hk
  have h0 : DataW.trod enc Try.prog w base spare held n 37 (([v0, v1, v2, v3, v4].drop 0).take (Try.prog.cellsOf 37)) = some y0 := hf 0 _ rfl
  have h1 : DataW.trod enc Try.prog w base spare held n 37 (([v0, v1, v2, v3, v4].drop 1).take (Try.prog.cellsOf 37)) = some y1 := hf 1 _ rfl
  have h2 : DataW.trod enc Try.prog w base spare held n 37 (([v0, v1, v2, v3, v4].drop 2).take (Try.prog.cellsOf 37)) = some y2 := hf 2 _ rfl
  have h3 : DataW.trod enc Try.prog w base spare held n 3 (([v0, v1, v2, v3, v4].drop 3).take (Try.prog.cellsOf 3)) = some y3 := hf 3 _ rfl
  have h4 : DataW.trod enc Try.prog w base spare held n 3 (([v0, v1, v2, v3, v4].drop 4).take (Try.prog.cellsOf 3)) = some y4 := hf 4 _ rfl
  rw [c37] at h0 h1 h2; rw [c3] at h3 h4
  have h0 : DataW.trod enc Try.prog w base spare held n 37 [v0] = some y0 := h0
  have h1 : DataW.trod enc Try.prog w base spare held n 37 [v1] = some y1 := h1
  have h2 : DataW.trod enc Try.prog w base spare held n 37 [v2] = some y2 := h2
  have h3 : DataW.trod enc Try.prog w base spare held n 3 [v3] = some y3 := h3
  have h4 : DataW.trod enc Try.prog w base spare held n 3 [v4] = some y4 := h4
  obtain ⟨z3, e3, _⟩ := DataW.trod_int u3 h3
  obtain ⟨z4, e4, _⟩ := DataW.trod_int u3 h4
  cases e3; cases e4
  have hxw : ∀ k, k ∈ y0.1.weights Try.prog 37 ∨ k ∈ y1.1.weights Try.prog 37 ∨ k ∈ y2.1.weights Try.prog 37 → k ≤ reachBytes := fun k hk => by
    refine hw k ?_
    rw [hx]
    simp only [DataW.weights, u39]
    have e : DataW.weightsEach Try.prog ((#[fld "Numbers" 37 0 0, fld "Keep" 37 1 24, fld "Spawn" 37 2 48, fld "Line" 3 3 72, fld "Mesh" 3 4 80] : Array Field).toList.map (·.type)) ([y0, y1, y2, y3, y4].map (·.1)) = y0.1.weights Try.prog 37 ++ (y1.1.weights Try.prog 37 ++ (y2.1.weights Try.prog 37 ++ (y3.1.weights Try.prog 3 ++ (y4.1.weights Try.prog 3 ++ [])))) := rfl
    rw [e]
    simp only [List.mem_append]
    rcases hk with h | h | h
    · exact .inl h
    · exact .inr (.inl h)
    · exact .inr (.inr (.inl h))
  obtain ⟨b0, l0, q0, s0⟩ := cell_ints (φ := φ) k0 h0 fun k hk => hxw k (.inl hk)
  obtain ⟨b1, l1, q1, s1⟩ := cell_ints (φ := φ) k1 h1 fun k hk => hxw k (.inr (.inl hk))
  obtain ⟨b2, l2, q2, s2⟩ := cell_ints (φ := φ) k2 h2 fun k hk => hxw k (.inr (.inr hk))
  refine ⟨⟨b0, l0, b1, l1, b2, l2, z3, z4⟩, .agg _ _ rfl (fun i hi => ?_) (fun i hi => ?_), ⟨s0, s1, s2⟩⟩
  · match i, hi with
    | 0, _ => exact sl_one q0
    | 1, _ => exact sl_one q1
    | 2, _ => exact sl_one q2
    | 3, _ => rfl
    | 4, _ => rfl
  · match i, hi with
    | 0, _ => exact q0
    | 1, _ => exact q1
    | 2, _ => exact q2
    | 3, _ => exact .s _
    | 4, _ => exact .s _
theorem arg_rce {v : Value} {d : DataW H} {p : List MemPlace} {r : Reach} {b0 : Nat} (hok : Value.okWide Try.prog w r b0 39 v) (h : DataW.Trod enc Try.prog w base spare held 39 v d p) (hw : ∀ k ∈ d.weights Try.prog 39, k ≤ reachBytes) :
    ∃ y : Rce, VR φ (allZ w) w (.agg y.c) v ∧ y.Fit := by
  obtain ⟨fuel, h⟩ := h
  unfold Value.okWide at hok
  rw [u39] at hok
  obtain ⟨cs, rfl, _, hrow⟩ := hok
  exact open_rce (φ := φ) hrow h hw
end
end Go.Proofs.Ytdiclbgklegelaa

namespace Go.Proofs.Ytdiclbgklegelaa
open Go Go.AL Go.AL.Q
end Go.Proofs.Ytdiclbgklegelaa

namespace Go.Proofs.Ytdiclbgklegelaa
open Go Go.AL Go.AL.Q
theorem alive_t (r : Rce) (hf : r.Fit) : Ans Try.prog 46 [.agg r.c] (.bool r.alive) := by
  have h1 := hf.n
  have h2 := hf.k
  have h3 := hf.s
  have ln := ints_lenI r.numbers
  have lk := ints_lenI r.keep
  have ls := ints_lenI r.spawn
  have lm : (r.many : Int) = r.numbers.length := rfl
  have hm : r.many = r.numbers.length := rfl
  have urc : Under 0 (A.pt r.c) := (Free.pt _ r.free).under
  refine told Try.func46 rfl rfl (Pure.of tab_ok Try.func46 rfl Try.ntmps46 rfl (all1 (.agg _ r.free)) (all1 (fun _ => rfl)) (by first | exact .s _ | assumption | exact .tup _ (by intro x hx; simp only [List.mem_cons, List.not_mem_nil, or_false] at hx; rcases hx with rfl | rfl | rfl | rfl <;> first | exact .s _ | (simp_all; done))) fun E hE => ?_)
  refine Aw.sm tab_ok mb0 [] rfl rfl ?zo ?zk
  case zo =>
    repeat' apply AllP.cons
    all_goals first | exact trivial | exact id | exact rfl | exact fun _ => rfl | exact Nat.le_of_ble_eq_true rfl | exact fun _ => Nat.le_of_ble_eq_true rfl | exact Int.natCast_nonneg _ | exact fun _ => Int.natCast_nonneg _ | exact in_t _ _ _ | exact (in_t _ _ _).un | exact gq_f
  case zk =>
  refine Aw.sm tab_ok mb0 [] rfl rfl ?zo ?zk
  case zo =>
    repeat' apply AllP.cons
    all_goals first | exact trivial | exact id | exact rfl | exact fun _ => rfl | exact Nat.le_of_ble_eq_true rfl | exact fun _ => Nat.le_of_ble_eq_true rfl | exact Int.natCast_nonneg _ | exact fun _ => Int.natCast_nonneg _ | exact in_t _ _ _ | exact (in_t _ _ _).un | exact gq_f
  case zk =>
  refine Aw.keep (n := 0) (cst := [(1, .pt r.c), (3, .int r.many)]) (v := []) (Hl := []) hE ⟨urc, .s _, trivial⟩ trivial trivial ⟨⟨.refl _, .of_eq (congrArg A.int ln.symm), trivial⟩, trivial, trivial, Nat.zero_le _⟩ ?_
  refine Aw.sm tab_ok mb0 [(1, [.bool (wi r.many 1 6)]), (21, [.bool (wi r.mesh 0 ((r.many:Int) - 1))])] rfl rfl ?zo ?zk
  case zo =>
    repeat' apply AllP.cons
    all_goals first | exact trivial | exact id | exact rfl | exact fun _ => rfl | exact Nat.le_of_ble_eq_true rfl | exact fun _ => Nat.le_of_ble_eq_true rfl | exact Int.natCast_nonneg _ | exact fun _ => Int.natCast_nonneg _ | exact in_t _ _ _ | exact (in_t _ _ _).un | exact gq_f | exact fun _ => (by simp only [Ob.of, inR]; omega)
  case zk =>
  have hd : A.bool r.aliveHead = A.bool (cond (cond (cond (wi r.many 1 6) (((ints r.keep).length : Int) == r.many) false) (((ints r.spawn).length : Int) == r.many) false) (wi r.mesh 0 ((r.many:Int) - 1)) false) := by rw [lk, ls]; rfl
  refine Aw.seq ?_
  refine Aw.sm tab_ok mb0 [] rfl rfl ?zo ?zk
  case zo =>
    repeat' apply AllP.cons
    all_goals first | exact trivial | exact id | exact rfl | exact fun _ => rfl | exact Nat.le_of_ble_eq_true rfl | exact fun _ => Nat.le_of_ble_eq_true rfl | exact Int.natCast_nonneg _ | exact fun _ => Int.natCast_nonneg _ | exact in_t _ _ _ | exact (in_t _ _ _).un | exact gq_f
  case zk =>
  have lr : (List.range r.many).length = r.many := List.length_range
  refine Aw.block (Aw.rounds 0 hE [(1, .pt r.c), (3, .int r.many)] (fun k : Nat => [(4, .bool (andAll r.aliveHead r.ageOk (List.range r.many) k)), (5, .int k)]) (fun _ => []) (fun k => k ≤ r.many) (fun k => r.many - k) 0
    (Nat.zero_le _) ⟨⟨.refl _, .refl _, trivial⟩, ⟨.of_eq (by rw [andAll_zero]; exact hd), .refl _, trivial⟩, trivial, Nat.le_refl _⟩ ⟨urc, .s _, trivial⟩ (fun _ _ => ⟨.s _, .s _, trivial⟩) (fun _ _ => trivial) fun k hk => ?_)
  refine Aw.seq ?_
  refine Aw.sm tab_ok mb0 [] rfl rfl ?zo ?zk
  case zo =>
    repeat' apply AllP.cons
    all_goals first | exact trivial | exact id | exact rfl | exact fun _ => rfl | exact Nat.le_of_ble_eq_true rfl | exact fun _ => Nat.le_of_ble_eq_true rfl | exact Int.natCast_nonneg _ | exact fun _ => Int.natCast_nonneg _ | exact in_t _ _ _ | exact (in_t _ _ _).un | exact gq_f
  case zk =>
  refine Aw.cond rfl (fun h1 => Aw.skip ?_) (fun h1 => ?_)
  · have h1 : cond (andAll r.aliveHead r.ageOk (List.range r.many) k) (decide ((k : Int) < r.many)) false = true := h1
    have hb := ac1 h1
    have hlt : k < r.many := by have := of_decide_eq_true (ac2 h1); omega
    have hh : r.aliveHead = true := by unfold andAll at hb; exact ac1 hb
    have hk1 : r.keep.length = r.many := by unfold Rce.aliveHead at hh; have := eq_of_beq (ac2 (ac1 (ac1 hh))); omega
    have hs1 : r.spawn.length = r.many := by unfold Rce.aliveHead at hh; have := eq_of_beq (ac2 (ac1 hh)); omega
    refine Aw.seq (Aw.block ?_)
    refine Aw.em tab_ok mb0 [(3, [.int (r.numbers.getD k 0)]), (5, [.bool (wi (r.numbers.getD k 0) 0 100000)]), (10, [.int (r.keep.getD k 0)]), (12, [.bool (wi (r.keep.getD k 0) 0 1000)]), (18, [.int (r.spawn.getD k 0)]), (20, [.bool (wi (r.spawn.getD k 0) 0 100)])] rfl rfl ?zo ?zk
    case zo =>
      repeat' apply AllP.cons
      all_goals first | exact trivial | exact id | exact rfl | exact fun _ => rfl | exact Nat.le_of_ble_eq_true rfl | exact fun _ => Nat.le_of_ble_eq_true rfl | exact Int.natCast_nonneg _ | exact fun _ => Int.natCast_nonneg _ | exact in_t _ _ _ | exact (in_t _ _ _).un | exact gq_f | exact ints_getD hlt | exact fun _ => ints_getD (by omega)
    case zk =>
    refine Aw.em tab_ok mb0 [] rfl rfl ?zo ?zk
    case zo =>
      repeat' apply AllP.cons
      all_goals first | exact trivial | exact id | exact rfl | exact fun _ => rfl | exact Nat.le_of_ble_eq_true rfl | exact fun _ => Nat.le_of_ble_eq_true rfl | exact Int.natCast_nonneg _ | exact fun _ => Int.natCast_nonneg _ | exact in_t _ _ _ | exact (in_t _ _ _).un | exact gq_f | exact inrk k (by omega)
    case zk =>
    have e : andAll r.aliveHead r.ageOk (List.range r.many) (k + 1) = r.ageOk k := by
      rw [andAll_succ (by rw [lr]; exact hlt) hb, List.getElem_range]
    exact ⟨k + 1, hlt, by omega, ⟨.refl _, .refl _, trivial⟩, ⟨.of_eq (congrArg A.bool e), .refl _, trivial⟩, trivial, Nat.zero_le _⟩
  have h1 : cond (andAll r.aliveHead r.ageOk (List.range r.many) k) (decide ((k : Int) < r.many)) false = false := h1
  have hend : andAll r.aliveHead r.ageOk (List.range r.many) k = r.alive := (andAll_end (by
    cases e : andAll r.aliveHead r.ageOk (List.range r.many) k with
    | false => exact .inl rfl
    | true => rw [e] at h1; have := of_decide_eq_false h1; exact .inr (by rw [lr]; omega)) (by rw [lr]; exact hk)).trans rfl
  rw [hend]
  refine Aw.exit2 ?_
  refine Aw.sm tab_ok mb0 [] rfl rfl ?zo ?zk
  case zo =>
    repeat' apply AllP.cons
    all_goals first | exact trivial | exact id | exact rfl | exact fun _ => rfl | exact Nat.le_of_ble_eq_true rfl | exact fun _ => Nat.le_of_ble_eq_true rfl | exact Int.natCast_nonneg _ | exact fun _ => Int.natCast_nonneg _ | exact in_t _ _ _ | exact (in_t _ _ _).un | exact gq_f
  case zk =>
  exact Aw.ret ⟨_, .cons (.tmp _) .nil, rfl⟩
theorem outX_ne {l : List Int} (h : l ≠ []) : outX l = .sl false .exact (ints l) := by
  cases l with
  | nil => exact absurd rfl h
  | cons x l => rfl
end Go.Proofs.Ytdiclbgklegelaa

namespace Go.Proofs.Ytdiclbgklegelaa
open Go Go.AL Go.AL.Q
def boxY (r : Rce) (k : Nat) : B := .cells [.sl r.nn .any (ints r.numbers), grL 3 (List.replicate k 1000), grL 3 (List.replicate k 1), .int 0, .int 0]
theorem boxY_under (r : Rce) (k : Nat) {n : Nat} : UnderB n (boxY r k) := .cells _ (allC (free_ints _ _ _).under (allC (grL_under _) (allC (grL_under _) (allC (.s _) (all1 (.s _))))))
def idleT (t : Int) (Y k : Nat) : List Int := List.replicate k t ++ List.replicate (Y - k) 0
theorem idleT_len {t : Int} {Y k : Nat} (h : k ≤ Y) : (idleT t Y k).length = Y := by simp [idleT]; omega
theorem idleT_set {t : Int} {Y k : Nat} (h : k < Y) : (idleT t Y k).set k t = idleT t Y (k + 1) := by
  unfold idleT
  obtain ⟨q, hq⟩ : ∃ q, Y - k = q + 1 := ⟨Y - k - 1, by omega⟩
  rw [List.set_append_right _ _ (by simp), hq, show Y - (k + 1) = q by omega, List.length_replicate, Nat.sub_self, List.replicate_succ, List.set_cons_zero, List.replicate_succ', List.append_assoc]; rfl
theorem idleT_end (t : Int) (Y : Nat) : idleT t Y Y = List.replicate Y t := by unfold idleT; simp
theorem setI {l : List Int} {k : Nat} {v : Int} (h : k < l.length) : setSeg (l.map A.int) (0 + k * 1) [A.int v] = (l.set k v).map A.int := by
  have := setSeg_app (l := []) (r := l.map A.int) (v := A.int v) (i := k) (by simpa using h)
  simp only [List.length_nil, Nat.zero_add, List.nil_append] at this
  rw [Nat.zero_add, Nat.mul_one, this, List.map_set]
theorem rowsY (L : List Int) : RowsAre (L.map A.int) (ints L) 1 := ⟨ints_one L, by rw [ints_len, Nat.mul_one, List.length_map]; exact Nat.le_refl _, fun i j hi hj => by
  obtain rfl : j = 0 := by omega
  rw [ints_len] at hi
  simp [ints, List.getD_eq_getElem?_getD, hi]; rfl⟩
theorem yearX_play {r : Rce} (m1 : 1 ≤ r.many) (m6 : r.many ≤ 6) (nb : ∀ i, i < r.many → 0 ≤ r.numbers.getD i 0 ∧ r.numbers.getD i 0 ≤ 100000) {t : Int} (ht : 0 ≤ t ∧ t < 50) {Y : Nat} (hY : 1 ≤ Y ∧ Y ≤ 10) :
    playR (yearX r) (List.replicate Y t) (List.replicate Y 0) = [.sl false .exact (ints (playF (yearX r) r.numbers (List.replicate Y t) (List.replicate Y 0))), .int 0] ∧ (playF (yearX r) r.numbers (List.replicate Y t) (List.replicate Y 0)).length = Y := by
  have hok : playOk (yearX r) (List.replicate Y t) (List.replicate Y 0) = true := by
    unfold playOk playHead
    rw [yearX_ok m1 m6 nb, List.length_replicate, List.length_replicate, wi_iff.2 (show (1 : Int) ≤ (Y : Int) ∧ (Y : Int) ≤ 10 by omega)]
    simp only [beq_self_eq_true, cond_true]
    refine List.all_eq_true.2 fun i hi => ?_
    have hi := List.mem_range.1 hi
    unfold playYear
    have e1 : (List.replicate Y t).getD i 0 = t := by rw [List.getD_eq_getElem?_getD, List.getElem?_replicate, if_pos hi]; rfl
    have e2 : (List.replicate Y (0 : Int)).getD i 0 = 0 := by rw [List.getD_eq_getElem?_getD, List.getElem?_replicate, if_pos hi]; rfl
    rw [e1, e2, wi_iff.2 (show (0 : Int) ≤ t ∧ t ≤ 100000000 by omega)]; decide
  have hlen : (playF (yearX r) r.numbers (List.replicate Y t) (List.replicate Y 0)).length = Y := by rw [playF_len _ _ _ _ (by simp), List.length_replicate]
  refine ⟨?_, hlen⟩
  unfold playR
  rw [hok, if_pos rfl, ← outX_ne (fun h => by rw [h] at hlen; simp at hlen; omega)]; rfl
set_option maxRecDepth 100000 in
set_option maxHeartbeats 4000000 in
theorem year_l (r : Rce) (y0 y1 : Int) (hf : r.Fit) : Ans Try.prog 12 [.agg r.c, .agg [.int y0, .int y1]] (.bool true) := by
  have ln := ints_lenI r.numbers
  have c1 := alive_t r hf
  have hy2 : ∀ x ∈ [A.int y0, A.int y1], Free x := allC (.s _) (all1 (.s _))
  have ur : ∀ {n : Nat}, Under n (A.pt r.c) := (Free.pt _ r.free).under
  have uy : ∀ {n : Nat}, Under n (A.pt [.int y0, .int y1]) := (Free.pt _ hy2).under
  refine told Try.func12 rfl rfl (Pure.of tab_ok Try.func12 rfl Try.ntmps12 rfl (allC (.agg _ r.free) (all1 (.agg _ hy2))) (allC (fun _ => rfl) (all1 (fun _ => rfl))) (by first | exact .s _ | assumption | exact .tup _ (by intro x hx; simp only [List.mem_cons, List.not_mem_nil, or_false] at hx; rcases hx with rfl | rfl | rfl | rfl <;> first | exact .s _ | (simp_all; done))) fun E hE => ?_)
  refine Aw.sm tab_ok mb0 [] rfl rfl ?zo ?zk
  case zo =>
    repeat' apply AllP.cons
    all_goals first | exact trivial
  case zk =>
  cases hal : r.alive with
  | false =>
    rw [hal] at c1
    refine Aw.seq ?_
    refine Aw.sm tab_ok mb0 [(1, [.bool false])] rfl rfl ?zo ?zk
    case zo =>
      repeat' apply AllP.cons
      all_goals first | exact trivial | exact Nat.le_of_ble_eq_true rfl | exact c1
    case zk =>
    refine Aw.cond rfl (fun _ => ?_) (fun h => by cases h)
    refine Aw.sm tab_ok mb0 [(0, [.bool true])] rfl rfl ?zo ?zk
    case zo =>
      repeat' apply AllP.cons
      all_goals first | exact trivial | exact works_t
    case zk =>
    exact Aw.ret ⟨_, .cons (.tmp _) .nil, rfl⟩
  | true =>
  rw [hal] at c1
  obtain ⟨⟨m1, m6⟩, nb⟩ := alive_is hal
  have hmany : r.numbers.length = r.many := rfl
  refine Aw.seq ?_
  refine Aw.sm tab_ok mb0 [(1, [.bool true])] rfl rfl ?zo ?zk
  case zo =>
    repeat' apply AllP.cons
    all_goals first | exact trivial | exact Nat.le_of_ble_eq_true rfl | exact c1
  case zk =>
  refine Aw.cond rfl (fun h => by cases h) (fun _ => Aw.skip ?_)
  refine Aw.sm tab_ok mb0 [] rfl rfl ?zo ?zk
  case zo =>
    repeat' apply AllP.cons
    all_goals first | exact trivial | exact rfl | exact Nat.le_of_ble_eq_true rfl
  case zk =>
  refine Aw.sm tab_ok mb0 [] rfl rfl ?zo ?zk
  case zo =>
    repeat' apply AllP.cons
    all_goals first | exact trivial | exact rfl | exact Nat.le_of_ble_eq_true rfl
  case zk =>
  refine Aw.sm tab_ok mb0 [] rfl rfl ?zo ?zk
  case zo =>
    repeat' apply AllP.cons
    all_goals first | exact trivial
  case zk =>
  have h1e : ∀ id, 1 ≤ id → E.φ0 id = none := fun id _ => hE id (by omega)
  refine Aw.keep (n := 1) (cst := [(2, .pt r.c), (3, .pt [.int y0, .int y1]), (5, .ref 0 0), (6, .int (r.numbers.take 0).sum)]) (v := []) (Hl := [(0, boxY r 0)]) h1e ?zu ?zw ?zx ⟨?zc, ?zv, ?zh, Nat.le_of_ble_eq_true rfl⟩ ?zr
  case zu =>
    (repeat' (first | exact trivial | exact Under.s _ | exact Under.ref _ _ (by decide) | exact (Free.pt _ (by assumption)).under | exact ur | (refine And.intro ?_ ?_)))
  case zw =>
    (repeat' (first | exact trivial))
  case zx =>
    (repeat' (first | exact trivial | exact Nat.le_of_ble_eq_true rfl | exact boxY_under _ _ | (refine And.intro ?_ ?_)))
  case zc =>
    (repeat' (first | (refine And.intro ?_ ?_) | exact trivial | exact A.Le.refl _))
  case zv =>
    (repeat' (first | exact trivial))
  case zh =>
    (repeat' (first | (refine And.intro ?_ ?_) | exact trivial | exact rfl))
  case zr =>
  refine Aw.seq ?_
  refine Aw.sm tab_ok mb0 [] rfl rfl ?zo ?zk
  case zo =>
    repeat' apply AllP.cons
    all_goals first | exact trivial
  case zk =>
  refine Aw.block (Aw.rounds 1 h1e [(2, .pt r.c), (3, .pt [.int y0, .int y1]), (5, .ref 0 0)] (fun k : Nat => [(6, .int (r.numbers.take k).sum), (7, .int k)]) (fun k => [(0, boxY r k)]) (fun k => k ≤ r.many) (fun k => r.many - k) 0 ?zg ⟨?zc, ?zv, ?zh, Nat.le_of_ble_eq_true rfl⟩ ?zu (fun k zhk => ?zw) (fun k zhk => ?zx) fun k hk => ?zr)
  case zg =>
    (repeat' (first | exact Nat.zero_le _))
  case zc =>
    (repeat' (first | (refine And.intro ?_ ?_) | exact trivial | exact A.Le.refl _))
  case zv =>
    (repeat' (first | (refine And.intro ?_ ?_) | exact trivial | exact A.Le.refl _))
  case zh =>
    (repeat' (first | (refine And.intro ?_ ?_) | exact trivial | exact rfl))
  case zu =>
    (repeat' (first | exact trivial | exact Under.ref _ _ (by decide) | exact (Free.pt _ (by assumption)).under | exact ur | (refine And.intro ?_ ?_)))
  case zw =>
    (repeat' (first | exact trivial | exact Under.s _ | (refine And.intro ?_ ?_)))
  case zx =>
    (repeat' (first | exact trivial | exact Nat.le_of_ble_eq_true rfl | exact boxY_under _ _ | (refine And.intro ?_ ?_)))
  case zr =>
  refine Aw.seq ?_
  refine Aw.sm tab_ok mb0 [] rfl rfl ?zo ?zk
  case zo =>
    repeat' apply AllP.cons
    all_goals first | exact trivial | exact Nat.le_of_ble_eq_true rfl
  case zk =>
  refine Aw.cond rfl (fun h1 => Aw.skip ?_) (fun h1 => ?_)
  · have hlt : k < r.many := by have := of_decide_eq_true h1; omega
    have hg := ints_getD (l := r.numbers) (k := k) (by omega)
    have hts := take_sum (l := r.numbers) (k := k) (by omega)
    have hsb := num_sum nb k hk
    have hnk := nb k hlt
    generalize hS1 : (r.numbers.take (k + 1)).sum = S1 at *
    generalize (r.numbers.take k).sum = S0 at *
    generalize r.numbers.getD k 0 = x at *
    have hone : ∀ z ∈ [[A.int 1000]], z.length = 1 := fun z hz => by simp at hz; subst hz; rfl
    have hone1 : ∀ z ∈ [[A.int 1]], z.length = 1 := fun z hz => by simp at hz; subst hz; rfl
    refine Aw.seq (Aw.block ?_)
    refine Aw.seq (SegW.start mixed ?_)
    cases k with
    | zero =>
      refine SegW.run (b := 0) tab_ok mb0 9 [] rfl (by kernel_rfl) rfl rfl ?zo ?zk
      case zo =>
        repeat' apply AllP.cons
        all_goals first | exact trivial | exact id | exact rfl | exact hone | exact hone1 | exact Nat.le_of_ble_eq_true rfl | exact (by simp only [Ob.of]; decide)
      case zk =>
      refine SegW.run (b := 9) tab_ok mb0 3 [] rfl (by kernel_rfl) rfl rfl ?zo2 ?zk2
      case zo2 =>
        repeat' apply AllP.cons
        all_goals first | exact trivial | exact id | exact rfl | exact Nat.le_of_ble_eq_true rfl | exact (by simp only [Ob.of]; decide)
      case zk2 =>
      refine SegW.done (by kernel_rfl) (Nat.le_of_ble_eq_true rfl) ?_
      refine Aw.em tab_ok mb0 [(4, [.int x])] rfl rfl ?zo ?zk
      case zo =>
        repeat' apply AllP.cons
        all_goals first | exact trivial | exact rfl | exact Nat.le_of_ble_eq_true rfl | exact Int.natCast_nonneg _ | exact hg | exact (show inR (S0 + x) by simp only [inR]; omega)
      case zk =>
      refine Aw.em tab_ok mb0 [] rfl rfl ?zo ?zk
      case zo =>
        repeat' apply AllP.cons
        all_goals first | exact trivial | exact inrk 0 (by omega)
      case zk =>
      refine ⟨0 + 1, ?zg, ?zm, ⟨?zc, ?zv, ?zh, Nat.le_of_ble_eq_true rfl⟩⟩
      case zg =>
        (repeat' (first | assumption))
      case zm =>
        (repeat' (first | omega))
      case zc =>
        (repeat' (first | (refine And.intro ?_ ?_) | exact trivial | exact A.Le.refl _))
      case zv =>
        (repeat' (first | (refine And.intro ?_ ?_) | exact trivial | exact A.Le.refl _ | exact .of_eq (congrArg A.int (hS1.trans hts))))
      case zh =>
        (repeat' (first | (refine And.intro ?_ ?_) | exact trivial | exact rfl))
    | succ k =>
      have hl1 : (ints (List.replicate (k + 1) (1000 : Int))).length ≤ 6 := by rw [ints_len, List.length_replicate]; omega
      have hl2 : (ints (List.replicate (k + 1) (1 : Int))).length ≤ 6 := by rw [ints_len, List.length_replicate]; omega
      have hz1 := ints_one (List.replicate (k + 1) (1000 : Int))
      have hz2 := ints_one (List.replicate (k + 1) (1 : Int))
      have s1 : ((ints (List.replicate (k + 1) (1000 : Int))).length + 1) * 8 ≤ 140737488355328 := by omega
      have s2 : (ints (List.replicate (k + 1) (1000 : Int))).length + 1 ≤ maxLen := by unfold maxLen; omega
      have s3 : ((ints (List.replicate (k + 1) (1 : Int))).length + 1) * 8 ≤ 140737488355328 := by omega
      have s4 : (ints (List.replicate (k + 1) (1 : Int))).length + 1 ≤ maxLen := by unfold maxLen; omega
      refine SegW.runT (b := 0) 0 1 5 tab_ok mb0 9 [(1, []), (5, [])] (by decide) (by decide) rfl (by kernel_rfl) rfl rfl ?zo rfl rfl rfl rfl rfl ?za rfl ?zb ?zk
      case zo =>
        repeat' apply AllP.cons
        all_goals first | exact trivial | exact id | exact rfl | exact hone | exact hone1 | exact hz1 | exact hz2 | exact s1 | exact s2 | exact s3 | exact s4 | exact Nat.le_of_ble_eq_true rfl | exact (by simp only [Ob.of]; decide)
      case za =>
        repeat' apply AllP.cons
        all_goals first | exact trivial | exact id | exact rfl | exact Nat.le_of_ble_eq_true rfl | exact (by simp only [Ob.of]; decide)
      case zb =>
        repeat' apply AllP.cons
        all_goals first | exact trivial | exact id | exact rfl | exact Nat.le_of_ble_eq_true rfl | exact (by simp only [Ob.of]; decide)
      case zk =>
      refine SegW.run (b := 9) tab_ok mb0 3 [] rfl (by kernel_rfl) rfl rfl ?zo3 ?zk3
      case zo3 =>
        repeat' apply AllP.cons
        all_goals first | exact trivial | exact id | exact rfl | exact Nat.le_of_ble_eq_true rfl | exact (by simp only [Ob.of]; decide)
      case zk3 =>
      refine SegW.done (by kernel_rfl) (Nat.le_of_ble_eq_true rfl) ?_
      refine Aw.em tab_ok mb0 [(4, [.int x])] rfl rfl ?zo ?zk
      case zo =>
        repeat' apply AllP.cons
        all_goals first | exact trivial | exact rfl | exact Nat.le_of_ble_eq_true rfl | exact Int.natCast_nonneg _ | exact hg | exact (show inR (S0 + x) by simp only [inR]; omega)
      case zk =>
      have b1 : boxY r (k + 1 + 1) = .cells [.sl r.nn .any (ints r.numbers), .sl false (.own 3) (ints (List.replicate (k + 1) 1000) ++ [[A.int 1000]]), .sl false (.own 3) (ints (List.replicate (k + 1) 1) ++ [[A.int 1]]), .int 0, .int 0] := by
        have e : ∀ v : Int, grL 3 (List.replicate (k + 1 + 1) v) = .sl false (.own 3) (ints (List.replicate (k + 1) v) ++ [[A.int v]]) := fun v => by
          rw [show List.replicate (k + 1 + 1) v = List.replicate (k + 1) v ++ [v] from List.replicate_succ' ..]
          cases hq : List.replicate (k + 1) v with
          | nil => simp at hq
          | cons a t => simp [grL, ints]
        unfold boxY
        rw [e, e]
      refine Aw.em tab_ok mb0 [] rfl rfl ?zo ?zk
      case zo =>
        repeat' apply AllP.cons
        all_goals first | exact trivial | exact inrk (k + 1) (by omega)
      case zk =>
      refine ⟨k + 1 + 1, ?zg, ?zm, ⟨?zc, ?zv, ?zh, Nat.le_of_ble_eq_true rfl⟩⟩
      case zg =>
        (repeat' (first | assumption))
      case zm =>
        (repeat' (first | omega))
      case zc =>
        (repeat' (first | (refine And.intro ?_ ?_) | exact trivial | exact A.Le.refl _))
      case zv =>
        (repeat' (first | (refine And.intro ?_ ?_) | exact trivial | exact A.Le.refl _ | exact .of_eq (congrArg A.int (hS1.trans hts))))
      case zh =>
        (repeat' (first | (refine And.intro ?_ ?_) | exact trivial | exact congrArg some b1.symm))
  have hle : k = r.many := by have := of_decide_eq_false h1; omega
  subst hle
  refine Aw.exit2 ?_
  have hpos := race_pos nb
  have hsb := num_sum nb r.many (Nat.le_refl _)
  have hall : (r.numbers.take r.many).sum = r.numbers.sum := by rw [← hmany, List.take_length]
  rw [hall] at hsb ⊢
  have hown : boxY r r.many = .cells [.sl r.nn .any (ints r.numbers), .sl false (.own 3) (ints (List.replicate r.many 1000)), .sl false (.own 3) (ints (List.replicate r.many 1)), .int 0, .int 0] := by
    have e : ∀ v : Int, grL 3 (List.replicate r.many v) = .sl false (.own 3) (ints (List.replicate r.many v)) := fun v => by
      cases hq : List.replicate r.many v with
      | nil => simp at hq; omega
      | cons a t => rfl
    unfold boxY
    rw [e, e]
  rw [hown]
  have ubx : ∀ {n : Nat}, UnderB n (.cells [.sl r.nn .any (ints r.numbers), .sl false (.own 3) (ints (List.replicate r.many 1000)), .sl false (.own 3) (ints (List.replicate r.many 1)), .int 0, .int 0]) := by
    intro n; rw [← hown]; exact boxY_under _ _
  refine Aw.keep (n := 1) (cst := [(3, .pt [.int y0, .int y1]), (5, .ref 0 0), (6, .int r.numbers.sum)]) (v := []) (Hl := [(0, .cells [.sl r.nn .any (ints r.numbers), .sl false (.own 3) (ints (List.replicate r.many 1000)), .sl false (.own 3) (ints (List.replicate r.many 1)), .int 0, .int 0])]) h1e ?zu ?zw ?zx ⟨?zc, ?zv, ?zh, Nat.le_of_ble_eq_true rfl⟩ ?zr
  case zu =>
    (repeat' (first | exact trivial | exact Under.s _ | exact Under.ref _ _ (by decide) | exact (Free.pt _ (by assumption)).under | (refine And.intro ?_ ?_)))
  case zw =>
    (repeat' (first | exact trivial))
  case zx =>
    (repeat' (first | exact trivial | exact Nat.le_of_ble_eq_true rfl | exact ubx | (refine And.intro ?_ ?_)))
  case zc =>
    (repeat' (first | (refine And.intro ?_ ?_) | exact trivial | exact A.Le.refl _))
  case zv =>
    (repeat' (first | exact trivial))
  case zh =>
    (repeat' (first | (refine And.intro ?_ ?_) | exact trivial | exact rfl))
  case zr =>
  have g1 : Ans Try.prog 35 [.int y1, .int 10] (.int (y1 % 10)) := mod_t _ _ (by decide) (by decide)
  have g2 : Ans Try.prog 35 [.int y0, .int 50] (.int (y0 % 50)) := mod_t _ _ (by decide) (by decide)
  obtain ⟨Y, hY⟩ : ∃ Y : Nat, 1 + y1 % 10 = (Y : Int) := ⟨(1 + y1 % 10).toNat, by omega⟩
  have hY1 : 1 ≤ Y ∧ Y ≤ 10 := by omega
  have ht : 0 ≤ y0 % 50 ∧ y0 % 50 < 50 := by omega
  generalize y1 % 10 = q1 at *
  generalize y0 % 50 = t at *
  refine Aw.sd tab_ok mixed mb0 [(2, [.int q1]), (6, [.int t])] rfl (by kernel_rfl) rfl rfl ?zo ?zk
  case zo =>
    repeat' apply AllP.cons
    all_goals first | exact trivial | exact Nat.le_of_ble_eq_true rfl | exact Int.natCast_nonneg _ | exact g1 | exact g2 | exact (show inR (1 + q1) by simp only [inR]; omega)
  case zk =>
  refine Aw.keep (n := 1) (cst := [(5, .ref 0 0), (6, .int r.numbers.sum), (8, .int Y), (9, .int t)]) (v := []) (Hl := [(0, .cells [.sl r.nn .any (ints r.numbers), .sl false (.own 3) (ints (List.replicate r.many 1000)), .sl false (.own 3) (ints (List.replicate r.many 1)), .int 0, .int 0])]) h1e ?zu ?zw ?zx ⟨?zc, ?zv, ?zh, Nat.le_of_ble_eq_true rfl⟩ ?zr
  case zu =>
    (repeat' (first | exact trivial | exact Under.s _ | exact Under.ref _ _ (by decide) | (refine And.intro ?_ ?_)))
  case zw =>
    (repeat' (first | exact trivial))
  case zx =>
    (repeat' (first | exact trivial | exact Nat.le_of_ble_eq_true rfl | exact ubx | (refine And.intro ?_ ?_)))
  case zc =>
    (repeat' (first | (refine And.intro ?_ ?_) | exact trivial | exact A.Le.refl _ | exact .of_eq (congrArg A.int hY.symm)))
  case zv =>
    (repeat' (first | exact trivial))
  case zh =>
    (repeat' (first | (refine And.intro ?_ ?_) | exact trivial | exact rfl))
  case zr =>
  refine Aw.sd tab_ok mixed mb0 [] rfl (by kernel_rfl) rfl rfl ?zo ?zk
  case zo =>
    repeat' apply AllP.cons
    all_goals first | exact trivial | exact rfl | exact Int.natCast_nonneg _ | exact (show (Y : Int) ≤ maxLen by simp only [maxLen]; omega) | exact (show ((8 : Nat) : Int) * (Y : Int) ≤ 140737488355328 by omega)
  case zk =>
  have h5e : ∀ id, 5 ≤ id → E.φ0 id = none := fun id _ => hE id (by omega)
  have hz : B.cells (((List.range (Int.toNat (Y : Int) * 1)).map fun j => (tab.zr 3).getD (j % 1) .un).map A.down) = .cells ((List.replicate Y (0 : Int)).map A.int) := by
    congr 1
    rw [Nat.mul_one, Int.toNat_natCast, List.map_map]
    refine List.ext_getElem (by simp) fun i p q => ?_
    simp only [List.getElem_map, List.getElem_range, List.getElem_replicate]
    show ((tab.zr 3).getD (i % 1) .un).down = A.int 0
    rw [Nat.mod_one]; rfl
  have hz0 : idleT t Y 0 = List.replicate Y 0 := rfl
  refine Aw.keep (n := 5) (cst := [(5, .ref 0 0), (6, .int r.numbers.sum), (8, .int Y), (9, .int t), (10, .ms 2 0 Y), (11, .ms 4 0 Y)]) (v := []) (Hl := [(0, .cells [.sl r.nn .any (ints r.numbers), .sl false (.own 3) (ints (List.replicate r.many 1000)), .sl false (.own 3) (ints (List.replicate r.many 1)), .int 0, .int 0]), (2, .cells ((List.replicate Y (0 : Int)).map A.int)), (4, .cells ((idleT t Y 0).map A.int))]) h5e ?zu ?zw ?zx ⟨?zc, ?zv, ?zh, Nat.le_of_ble_eq_true rfl⟩ ?zr
  case zu =>
    (repeat' (first | exact trivial | exact Under.s _ | exact Under.ref _ _ (by decide) | exact Under.ms _ _ _ (by decide) | (refine And.intro ?_ ?_)))
  case zw =>
    (repeat' (first | exact trivial))
  case zx =>
    (repeat' (first | exact trivial | exact Nat.le_of_ble_eq_true rfl | exact ubx | exact cells_under _ | (refine And.intro ?_ ?_)))
  case zc =>
    (repeat' (first | (refine And.intro ?_ ?_) | exact trivial | exact A.Le.refl _))
  case zv =>
    (repeat' (first | exact trivial))
  case zh =>
    (repeat' (first | (refine And.intro ?_ ?_) | exact trivial | exact rfl | exact congrArg some hz))
  case zr =>
  refine Aw.seq ?_
  refine Aw.sm tab_ok mb0 [] rfl rfl ?zo ?zk
  case zo =>
    repeat' apply AllP.cons
    all_goals first | exact trivial
  case zk =>
  refine Aw.block (Aw.rounds 5 h5e [(5, .ref 0 0), (6, .int r.numbers.sum), (8, .int Y), (9, .int t), (10, .ms 2 0 Y), (11, .ms 4 0 Y)] (fun i : Nat => [(12, .int i)]) (fun i => [(0, .cells [.sl r.nn .any (ints r.numbers), .sl false (.own 3) (ints (List.replicate r.many 1000)), .sl false (.own 3) (ints (List.replicate r.many 1)), .int 0, .int 0]), (2, .cells ((List.replicate Y (0 : Int)).map A.int)), (4, .cells ((idleT t Y i).map A.int))]) (fun i => i ≤ Y) (fun i => Y - i) 0 ?zg ⟨?zc, ?zv, ?zh, Nat.le_of_ble_eq_true rfl⟩ ?zu (fun i zhk => ?zw) (fun i zhk => ?zx) fun i hk => ?zr)
  case zg =>
    (repeat' (first | exact Nat.zero_le _))
  case zc =>
    (repeat' (first | (refine And.intro ?_ ?_) | exact trivial | exact A.Le.refl _))
  case zv =>
    (repeat' (first | (refine And.intro ?_ ?_) | exact trivial | exact A.Le.refl _))
  case zh =>
    (repeat' (first | (refine And.intro ?_ ?_) | exact trivial | exact rfl))
  case zu =>
    (repeat' (first | exact trivial | exact Under.s _ | exact Under.ref _ _ (by decide) | exact Under.ms _ _ _ (by decide) | (refine And.intro ?_ ?_)))
  case zw =>
    (repeat' (first | exact trivial | exact Under.s _ | (refine And.intro ?_ ?_)))
  case zx =>
    (repeat' (first | exact trivial | exact Nat.le_of_ble_eq_true rfl | exact ubx | exact cells_under _ | (refine And.intro ?_ ?_)))
  case zr =>
  refine Aw.seq ?_
  refine Aw.sm tab_ok mb0 [] rfl rfl ?zo ?zk
  case zo =>
    repeat' apply AllP.cons
    all_goals first | exact trivial
  case zk =>
  refine Aw.cond rfl (fun h1 => Aw.skip ?_) (fun h1 => ?_)
  · have hlt : i < Y := by have := of_decide_eq_true h1; omega
    have hlen := idleT_len (t := t) (Y := Y) (k := i) hk
    have hset := idleT_set (t := t) hlt
    generalize idleT t Y i = I at *
    have q2 : 0 + Int.toNat (i : Int) * 1 + 1 ≤ (I.map A.int).length := by rw [List.length_map, hlen, Int.toNat_natCast]; omega
    have q4 : (i : Int) < ((Y : Nat) : Int) := by omega
    have hs := congrArg (fun x => some (B.cells x)) (setI (l := I) (k := Int.toNat (i : Int)) (v := t) (by rw [Int.toNat_natCast]; omega))
    rw [Int.toNat_natCast, hset] at hs
    refine Aw.seq (Aw.block ?_)
    refine Aw.em tab_ok mb0 [] rfl rfl ?zo ?zk
    case zo =>
      repeat' apply AllP.cons
      all_goals first | exact trivial | exact rfl | exact Int.natCast_nonneg _ | exact q2 | exact q4
    case zk =>
    refine Aw.em tab_ok mb0 [] rfl rfl ?zo ?zk
    case zo =>
      repeat' apply AllP.cons
      all_goals first | exact trivial | exact inrk i (by omega)
    case zk =>
    refine ⟨i + 1, ?zg, ?zm, ⟨?zc, ?zv, ?zh, Nat.le_of_ble_eq_true rfl⟩⟩
    case zg =>
      (repeat' (first | assumption))
    case zm =>
      (repeat' (first | omega))
    case zc =>
      (repeat' (first | (refine And.intro ?_ ?_) | exact trivial | exact A.Le.refl _))
    case zv =>
      (repeat' (first | (refine And.intro ?_ ?_) | exact trivial | exact A.Le.refl _))
    case zh =>
      (repeat' (first | (refine And.intro ?_ ?_) | exact trivial | exact rfl | exact hs))
  have hle : i = Y := by have := of_decide_eq_false h1; omega
  subst hle
  refine Aw.exit2 ?_
  rw [idleT_end]
  refine Aw.freezeS (id := 4) (t := 11) (n := i) (sz := 1) (cs := (List.replicate i t).map A.int) (ints (List.replicate i t)) rfl rfl (rowsY _) (by rw [ints_len, List.length_replicate]) ?_
  refine Aw.freezeS (id := 2) (t := 10) (n := i) (sz := 1) (cs := (List.replicate i (0 : Int)).map A.int) (ints (List.replicate i 0)) rfl rfl (rowsY _) (by rw [ints_len, List.length_replicate]) ?_
  have hfit : (yearX r).Fit := ⟨hf.n, by show (((List.replicate r.many (1000 : Int)).length : Nat) : Int) ≤ _; rw [List.length_replicate]; omega, by show (((List.replicate r.many (1 : Int)).length : Nat) : Int) ≤ _; rw [List.length_replicate]; omega⟩
  have hrl : ∀ v : Int, (((List.replicate i v).length : Nat) : Int) ≤ 9223372036854775806 := fun v => by rw [List.length_replicate]; omega
  have p1 := play_t (yearX r) hfit false false (List.replicate i 0) (List.replicate i 0) (hrl 0) (hrl 0)
  have p2 := play_t (yearX r) hfit false false (List.replicate i t) (List.replicate i 0) (hrl t) (hrl 0)
  obtain ⟨e1, l1⟩ := yearX_play m1 m6 nb (t := 0) (by omega) hY1
  obtain ⟨e2, l2⟩ := yearX_play m1 m6 nb (t := t) ht hY1
  have v1 := fun y h => play_year m1 (t := 0) (Int.le_refl _) i r.numbers hpos y h
  have v2 := fun y h => play_year m1 (t := t) ht.1 i r.numbers hpos y h
  rw [e1] at p1
  rw [e2] at p2
  have hXc : (yearX r).c = [.sl r.nn .any (ints r.numbers), .sl false .any (ints (List.replicate r.many 1000)), .sl false .any (ints (List.replicate r.many 1)), .int 0, .int 0] := rfl
  rw [hXc] at p1 p2
  generalize playF (yearX r) r.numbers (List.replicate i 0) (List.replicate i 0) = P1 at *
  generalize playF (yearX r) r.numbers (List.replicate i t) (List.replicate i 0) = P2 at *
  have lP1 := ints_lenI P1
  have lP2 := ints_lenI P2
  have uP1 : ∀ {n : Nat}, Under n (A.sl false .exact (ints P1)) := (free_ints _ _ _).under
  have uP2 : ∀ {n : Nat}, Under n (A.sl false .exact (ints P2)) := (free_ints _ _ _).under
  refine Aw.sm tab_ok mb0 [(3, [.tup [.sl false .exact (ints P1), .int 0]])] rfl rfl ?zo ?zk
  case zo =>
    repeat' apply AllP.cons
    all_goals first | exact trivial | exact Nat.le_of_ble_eq_true rfl | exact p1
  case zk =>
  refine Aw.sm tab_ok mb0 [(3, [.tup [.sl false .exact (ints P2), .int 0]])] rfl rfl ?zo ?zk
  case zo =>
    repeat' apply AllP.cons
    all_goals first | exact trivial | exact Nat.le_of_ble_eq_true rfl | exact p2
  case zk =>
  refine Aw.seq ?_
  refine Aw.sm tab_ok mb0 [] rfl rfl ?zo ?zk
  case zo =>
    repeat' apply AllP.cons
    all_goals first | exact trivial | exact id | exact fun _ => rfl | exact gq_f
  case zk =>
  refine Aw.cond rfl (fun h => absurd h (by
    show ¬ (cond (cond (cond ((0 : Int) != 0) true ((0 : Int) != 0)) true (((ints P1).length : Int) != (i : Int))) true (((ints P2).length : Int) != (i : Int))) = true
    rw [lP1, lP2, l1, l2]; simp)) (fun _ => Aw.skip ?_)
  refine Aw.keep (n := 0) (cst := [(6, .int r.numbers.sum), (8, .int i), (9, .int t), (13, .sl false .exact (ints P1)), (15, .sl false .exact (ints P2))]) (v := []) (Hl := []) hE ?zu ?zw ?zx ⟨?zc, ?zv, ?zh, Nat.le_of_ble_eq_true rfl⟩ ?zr
  case zu =>
    (repeat' (first | exact trivial | exact Under.s _ | exact (free_ints _ _ _).under | (refine And.intro ?_ ?_)))
  case zw =>
    (repeat' (first | exact trivial))
  case zx =>
    (repeat' (first | exact trivial))
  case zc =>
    (repeat' (first | (refine And.intro ?_ ?_) | exact trivial | exact A.Le.refl _))
  case zv =>
    (repeat' (first | exact trivial))
  case zh =>
    (repeat' (first | exact trivial))
  case zr =>
  refine Aw.seq ?_
  refine Aw.sm tab_ok mb0 [] rfl rfl ?zo ?zk
  case zo =>
    repeat' apply AllP.cons
    all_goals first | exact trivial
  case zk =>
  refine Aw.block (Aw.rounds 0 hE [(6, .int r.numbers.sum), (8, .int i), (9, .int t), (13, .sl false .exact (ints P1)), (15, .sl false .exact (ints P2))] (fun y : Nat => [(17, .int y)]) (fun y => []) (fun y => y ≤ i) (fun y => i - y) 0 ?zg ⟨?zc, ?zv, ?zh, Nat.le_of_ble_eq_true rfl⟩ ?zu (fun y zhk => ?zw) (fun y zhk => ?zx) fun y hk => ?zr)
  case zg =>
    (repeat' (first | exact Nat.zero_le _))
  case zc =>
    (repeat' (first | (refine And.intro ?_ ?_) | exact trivial | exact A.Le.refl _))
  case zv =>
    (repeat' (first | (refine And.intro ?_ ?_) | exact trivial | exact A.Le.refl _))
  case zh =>
    (repeat' (first | exact trivial))
  case zu =>
    (repeat' (first | exact trivial | exact Under.s _ | exact (free_ints _ _ _).under | (refine And.intro ?_ ?_)))
  case zw =>
    (repeat' (first | exact trivial | exact Under.s _ | (refine And.intro ?_ ?_)))
  case zx =>
    (repeat' (first | exact trivial))
  case zr =>
  refine Aw.seq ?_
  refine Aw.sm tab_ok mb0 [] rfl rfl ?zo ?zk
  case zo =>
    repeat' apply AllP.cons
    all_goals first | exact trivial
  case zk =>
  refine Aw.cond rfl (fun h1 => Aw.skip ?_) (fun h1 => ?_)
  rotate_left
  · refine Aw.exit2 ?_
    refine Aw.sm tab_ok mb0 [(0, [.bool true])] rfl rfl ?zo ?zk
    case zo =>
      repeat' apply AllP.cons
      all_goals first | exact trivial | exact works_t
    case zk =>
    exact Aw.ret ⟨_, .cons (.tmp _) .nil, rfl⟩
  have hlt : y < i := by have := of_decide_eq_true h1; omega
  have w1 := v1 y hlt
  have w2 := v2 y hlt
  have g1 := ints_getD (l := P1) (k := y) (by omega)
  have g2 := ints_getD (l := P2) (k := y) (by omega)
  rw [w1] at g1
  rw [w2] at g2
  have hmul : 0 ≤ t * ((y : Int) + 1) ∧ t * ((y : Int) + 1) ≤ 50 * 11 := ⟨Int.mul_nonneg ht.1 (by omega), Int.mul_le_mul (by omega) (by omega) (by omega) (by omega)⟩
  generalize hm : t * ((y : Int) + 1) = mv at *
  generalize r.numbers.sum = S at *
  have z1 : max 0 (S - 0 * ((y : Int) + 1)) = S := by rw [Int.zero_mul]; omega
  rw [z1] at g1
  have z2 : (if S - mv > 0 then S - mv else 0) = max 0 (S - mv) := by split <;> omega
  have i1 : inR (t * ((y : Int) + 1)) := by rw [hm]; simp only [inR]; omega
  have i2 : inR (S - t * ((y : Int) + 1)) := by rw [hm]; simp only [inR]; omega
  refine Aw.seq (Aw.block ?_)
  refine Aw.sm tab_ok mb0 [(2, [.int S]), (9, [.int (max 0 (S - mv))])] rfl rfl ?zo ?zk
  case zo =>
    repeat' apply AllP.cons
    all_goals first | exact trivial | exact id | exact rfl | exact fun _ => rfl | exact Nat.le_of_ble_eq_true rfl | exact fun _ => Nat.le_of_ble_eq_true rfl | exact Int.natCast_nonneg _ | exact fun _ => Int.natCast_nonneg _ | exact gq_f | exact g1 | exact fun _ => g2 | exact fun _ => inrk y (by omega) | exact fun _ => i1 | exact fun _ => i2
  case zk =>
  refine Aw.cond rfl (fun h => absurd h (by
    show ¬ (cond (S != S) true (max 0 (S - mv) != (if S - t * ((y : Int) + 1) > 0 then S - t * ((y : Int) + 1) else 0))) = true
    rw [hm, z2]; simp)) (fun _ => Aw.skip ?_)
  refine Aw.em tab_ok mb0 [] rfl rfl ?zo ?zk
  case zo =>
    repeat' apply AllP.cons
    all_goals first | exact trivial | exact inrk y (by omega)
  case zk =>
  refine ⟨y + 1, ?zg, ?zm, ⟨?zc, ?zv, ?zh, Nat.le_of_ble_eq_true rfl⟩⟩
  case zg =>
    (repeat' (first | assumption))
  case zm =>
    (repeat' (first | omega))
  case zc =>
    (repeat' (first | (refine And.intro ?_ ?_) | exact trivial | exact A.Le.refl _))
  case zv =>
    (repeat' (first | (refine And.intro ?_ ?_) | exact trivial | exact A.Le.refl _))
  case zh =>
    (repeat' (first | exact trivial))
end Go.Proofs.Ytdiclbgklegelaa

namespace Go.Proofs.Ytdiclbgklegelaa
open Go Go.AL Go.ChangeShapes Go.WideShapes Go.ChangeAt Go.RowKit
set_option maxRecDepth 100000 in
theorem stockYear_lifted (os : Os) (started : os.Started) (H : Type) (enc : TypeId × Value → H) :
    ReturnsInHanded {} Try.checked os 12 .any (Rows.stockYearSpec.pre6 enc Try.prog Try.f12 [] false) (Rows.stockYearSpec.post enc Try.prog Try.f12 false true false false) := by
  refine lifted2 (tb := 4) (C := Try.checked) own started (by kernel_rfl) Try.func12
    (ChangeSpec.witness6 (enc := enc) (C := Try.checked) false ⟨#[], #[.agg #[.slice none 0 0, .slice none 0 0, .slice none 0 0, .int .i64 0, .int .i64 0], .agg #[.int .i64 0, .int .i64 0]], []⟩ 8 (by kernel_rfl) (by kernel_rfl) (by kernel_rfl) (by kernel_rfl))
    laidOut ?_ rfl rfl (by kernel_rfl) uBool ?_ ?_
  · rw [Try.params12]; exact all2t (p := fun t => Try.prog.readableRec t = true ∧ t < Try.prog.types.size) t39 t23
  · intro ds hd
    rw [Try.params12] at hd
    match ds, hd with
    | [d0, d1], _ => rfl
  · intro W base args ds p hval hA hwt
    rw [Try.params12] at hA hval
    obtain ⟨v0, v1, d0, d1, p0, p1, rfl, rfl, rfl, h0, h1⟩ := trodAll_two hA
    obtain ⟨y0, q0, s0⟩ := arg_rce (φ := fun _ => none) (hval 0 39 v0 rfl rfl) h0 fun k hk => hwt k (List.mem_append.2 (.inl hk))
    obtain ⟨y1, q1⟩ := arg_pair (φ := fun _ => none) (hval 1 23 v1 rfl rfl) h1
    exact ⟨_, _, vrs2 q0 q1, year_l y0 y1.1 y1.2 s0⟩
theorem stockYear_holds : Rows.StockYearSaid :=
  OpenClaim.holds_of_wide 12 Try.f12 rfl rfl rfl rfl rfl rfl rfl ⟨rfl, rfl, rfl, rfl, rfl⟩ rfl rfl rfl rfl rfl (by kernel_rfl) Try.func12 (by kernel_rfl)
    (of_decide_eq_true (by kernel_rfl)) (by unfold Func.isWrapper; first | (rw [if_pos (by decide +kernel)]; kernel_rfl) | (rw [if_neg (by decide +kernel)]; exact ⟨rfl, rfl⟩))
    (fun os started H enc _ => stockYear_lifted os started H enc)
end Go.Proofs.Ytdiclbgklegelaa

