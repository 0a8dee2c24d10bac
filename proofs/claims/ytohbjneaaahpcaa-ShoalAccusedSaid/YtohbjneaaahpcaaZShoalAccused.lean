/- ShoalAccused holds: the reports that are named are false of each track of which the fewest are; one that is not named is true of some such track. No condition. -/
import Derived.Test.YtohbjneaaahpcaaK7
set_option linter.all false
namespace Go.Proofs.Ytohbjneaaahpcaa
open Go Go.AL Go.AL.Q Go.AL.Sh
theorem few_at {s : Sea} (ho : s.Ok) {l : List Rep} (hl : l.length ≤ 24) (hn : fewF s l < 1048576) : ∃ T, Trk s T ∧ (costW s l 0 T : Int) = fewF s l := by
  rcases (fewF_min ho hl).or with ⟨h, _⟩ | ⟨n, h1, ⟨T, h2, h3⟩, _⟩
  · exact absurd hn (by have := h; omega)
  · exact ⟨T, h2, by rw [h1, h3]⟩
theorem few_288 {s : Sea} (ho : s.Ok) {l : List Rep} (hl : l.length ≤ 24) (hn : fewF s l < 1048576) : 0 ≤ fewF s l ∧ fewF s l ≤ 288 := by
  obtain ⟨T, h1, h2⟩ := few_at ho hl hn
  have := TrA.le ho hl ⟨T, h1, rfl⟩
  omega
theorem trkN_ok {s : Sea} (ho : s.Ok) {l : List Rep} (hl : l.length ≤ 24) (hn : fewF s l < 1048576) : Trk s (trkN s l (fewF s l) (hrs s)).1 ∧ (costW s l 0 (trkN s l (fewF s l) (hrs s)).1 : Int) = fewF s l := by
  have h := trkN_inv ho hl hn (hrs s) (Nat.le_refl _)
  refine ⟨⟨h.len, h.ok⟩, ?_⟩
  have h1 := h.sum
  have h2 := h.fin rfl
  omega
theorem getD_of_get {T : List Nat} {h c : Nat} (k : T[h]? = some c) : (tI T).getD h 0 = (c : Int) := by
  obtain ⟨h1, h2⟩ := List.getElem?_eq_some_iff.1 k
  rw [tI_at h1, h2]
theorem liarB_iff {s : Sea} (ho : s.Ok) {l : List Rep} (hl : l.length ≤ 24) (hn : fewF s l < 1048576) {r : Rep} (hr : 0 ≤ r.hour ∧ r.hour ≤ s.hours - 1) :
    liarB s l (fewF s l) r = true ↔ ∀ T, Trk s T → (costW s l 0 T : Int) = fewF s l → lieB s.wide T r = true := by
  have hp := hrs_pos ho
  have hh : r.hour.toNat < hrs s := by omega
  unfold liarB
  rw [Bool.not_eq_true', List.any_eq_false]
  constructor
  · intro h T hT hc
    have hlt : r.hour.toNat < T.length := by rw [hT.len]; exact hh
    have hm := okW_mem s hT.ok T[r.hour.toNat] (List.getElem_mem hlt)
    have h1 := h _ hm
    have h2 : (thrR s l r.hour.toNat).getD T[r.hour.toNat] 0 = fewF s l := by
      have h3 := thr_min ho hl hh hm
      rcases h3.or with ⟨_, h4⟩ | ⟨m, h4, ⟨T', k1, k2, k3⟩, h5⟩
      · exact absurd ⟨T, hT, List.getElem?_eq_getElem hlt, rfl⟩ (h4 (costW s l 0 T))
      · have := h5 _ ⟨T, hT, List.getElem?_eq_getElem hlt, rfl⟩
        have := (few_le ho hl k1).1
        omega
    unfold mayB at h1
    rw [h2, beq_self_eq_true, Bool.true_and] at h1
    unfold lieB
    rw [tI_at hlt]
    simpa using h1
  · intro h c hc hm
    unfold mayB at hm
    rw [Bool.and_eq_true, beq_iff_eq] at hm
    obtain ⟨h1, h2⟩ := hm
    have h3 := thr_min ho hl hh hc
    rcases h3.or with ⟨h4, _⟩ | ⟨m, h4, ⟨T, k1, k2, k3⟩, h5⟩
    · omega
    · have h6 := h T k1 (by omega)
      unfold lieB at h6
      rw [getD_of_get k2, h2] at h6
      cases h6
theorem cost_more {s : Sea} {l m : List Rep} {T : List Nat} (hT : (T.length : Int) = s.hours) (h1 : ∀ r ∈ l, 0 ≤ r.hour ∧ r.hour ≤ s.hours - 1) (h2 : ∀ r ∈ m, 0 ≤ r.hour ∧ r.hour ≤ s.hours - 1) : costW s (l ++ m) 0 T = costW s l 0 T + m.countP (lieB s.wide T) := by
  rw [cost_count s hT h1, cost_count s hT (l := l ++ m) (fun r hr => (List.mem_append.1 hr).elim (h1 r) (h2 r)), List.countP_append]
theorem cost_rep {s : Sea} {l : List Rep} {r : Rep} {n : Nat} {T : List Nat} (hT : (T.length : Int) = s.hours) (h1 : ∀ r ∈ l, 0 ≤ r.hour ∧ r.hour ≤ s.hours - 1) (h2 : 0 ≤ r.hour ∧ r.hour ≤ s.hours - 1) : costW s (l ++ List.replicate n r) 0 T = costW s l 0 T + if lieB s.wide T r then n else 0 := by
  rw [cost_more hT h1 fun x hx => by rw [List.eq_of_mem_replicate hx]; exact h2, List.countP_replicate]
theorem Trk.hours {s : Sea} (ho : s.Ok) {T : List Nat} (h : Trk s T) : (T.length : Int) = s.hours := by have := hrs_pos ho; have := h.len; omega
theorem few_rep {s : Sea} (ho : s.Ok) {l : List Rep} {r : Rep} {n : Nat} (hl : (l ++ List.replicate n r).length ≤ 24) (h1 : ∀ r ∈ l, 0 ≤ r.hour ∧ r.hour ≤ s.hours - 1) (h2 : 0 ≤ r.hour ∧ r.hour ≤ s.hours - 1) {w : Int} (hw : w < n) :
    fewF s (l ++ List.replicate n r) ≤ w ↔ ∃ T, Trk s T ∧ (costW s l 0 T : Int) ≤ w ∧ lieB s.wide T r = false := by
  have hn : (n : Int) ≤ 24 := by simp at hl; omega
  rw [(fewF_min ho hl).le_iff (by omega)]
  constructor
  · rintro ⟨m, h3, T, h4, h5⟩
    rw [cost_rep (h4.hours ho) h1 h2] at h5
    refine ⟨T, h4, ?_, ?_⟩
    · split at h5 <;> omega
    · cases h6 : lieB s.wide T r with
      | false => rfl
      | true => rw [h6, if_pos rfl] at h5; omega
  · rintro ⟨T, h4, h5, h6⟩
    exact ⟨costW s l 0 T, h5, T, h4, by rw [cost_rep (h4.hours ho) h1 h2, h6]; simp⟩
end Go.Proofs.Ytohbjneaaahpcaa

namespace Go.Proofs.Ytohbjneaaahpcaa
open Go Go.AL Go.AL.Q Go.AL.Sh
structure NextIs (w : Int) (G : List Int) (casts : List Sp) (k : Nat) (p : Int × Int) : Prop where
  i : ∃ i : Nat, p.1 = i ∧ i < k ∧ p.2 = worstF w G (casts.getD i ⟨0, 0⟩)
  ge : ∀ j : Nat, j < k → p.2 ≤ worstF w G (casts.getD j ⟨0, 0⟩) ∧ ((j : Int) < p.1 → p.2 < worstF w G (casts.getD j ⟨0, 0⟩))
def lastI (l : List Int) : Int := l.getLast?.getD (-1)
structure Rd (n f : Nat) (last : Int) (m : List Int) : Prop where
  len : m.length = f
  ri : risingF n last m = true
structure ChT (fd : List Int → Bool) (n f : Nat) (l : List Int) (r : Cst) : Prop where
  t : r.1 = true → ∃ m, Rd n f (lastI l) m ∧ r.2 = l ++ m ∧ fd (l ++ m) = true ∧ ∀ m', Rd n f (lastI l) m' → fd (l ++ m') = true → Q.befF m' m = false
  f : r.1 = false → ∀ m', Rd n f (lastI l) m' → fd (l ++ m') = false
structure GoT (fd : List Int → Bool) (n f : Nat) (l : List Int) (is : List Nat) (r : Cst) : Prop where
  t : r.1 = true → ∃ i ∈ is, ∃ m, Rd n f i m ∧ r.2 = l ++ (i : Int) :: m ∧ fd (l ++ (i : Int) :: m) = true ∧ ∀ i' ∈ is, ∀ m', Rd n f i' m' → fd (l ++ (i' : Int) :: m') = true → Q.befF ((i' : Int) :: m') ((i : Int) :: m) = false
  f : r.1 = false → ∀ i' ∈ is, ∀ m', Rd n f i' m' → fd (l ++ (i' : Int) :: m') = false
structure SureIs (fd : List Int → Bool) (n : Nat) (o : List Int) : Prop where
  ri : risingF n (-1) o = true
  ok : fd o = true
  pos : 1 ≤ o.length
  first : ∀ o', o' ≠ [] → risingF n (-1) o' = true → fd o' = true → o.length < o'.length ∨ o'.length = o.length ∧ Q.befF o' o = false
end Go.Proofs.Ytohbjneaaahpcaa

namespace Go.Proofs.Ytohbjneaaahpcaa
open Go Go.AL Go.AL.Q Go.AL.Sh
theorem LeastR_bad {s : Sea} {l : List Rep} (h : (LeastR s l).2.2 ≠ 0) : LeastR s l = (0, [], (LeastR s l).2.2) := by
  unfold LeastR at h ⊢
  cases h1 : s.ok <;> cases h2 : s.repsOk l <;> by_cases h3 : fewF s l < 1048576 <;> simp [h1, h2, h3] at h ⊢
theorem LeastR_good {s : Sea} {l : List Rep} (h : (LeastR s l).2.2 = 0) : s.ok = true ∧ s.repsOk l = true ∧ fewF s l < 1048576 := by
  unfold LeastR at h
  split at h
  · split at h
    · split at h
      · exact ⟨‹_›, ‹_›, ‹_›⟩
      · cases h
    · cases h
  · cases h
end Go.Proofs.Ytohbjneaaahpcaa

namespace Go.Proofs.Ytohbjneaaahpcaa
open Go Go.AL Go.AL.Q Go.AL.Sh
theorem reps_iff {s : Sea} {l : List Rep} : s.repsOk l = true ↔ l.length ≤ 24 ∧ ∀ r ∈ l, s.repOk r = true := by
  unfold Sea.repsOk
  constructor
  · intro h; exact ⟨by have := of_decide_eq_true (ac1 h); omega, List.all_eq_true.1 (ac2 h)⟩
  · rintro ⟨h1, h2⟩
    rw [decide_eq_true (show (l.length : Int) ≤ 24 by omega)]
    exact List.all_eq_true.2 h2
theorem reps_app {s : Sea} {l m : List Rep} (h : s.repsOk l = true) (hl : (l ++ m).length ≤ 24) (hm : ∀ r ∈ m, s.repOk r = true) : s.repsOk (l ++ m) = true :=
  reps_iff.2 ⟨hl, fun r hr => (List.mem_append.1 hr).elim ((reps_iff.1 h).2 r) (hm r)⟩
theorem cost_mono (s : Sea) (l m : List Rep) : ∀ (T : List Nat) (h : Nat), costW s l h T ≤ costW s (l ++ m) h T
  | [], _ => Nat.le_refl _
  | c :: T, h => by
    rw [costW, costW]
    have := cost_mono s l m T (h + 1)
    have : unN s l h c ≤ unN s (l ++ m) h c := by unfold unN; rw [List.countP_append]; omega
    omega
end Go.Proofs.Ytohbjneaaahpcaa

namespace Go.Proofs.Ytohbjneaaahpcaa
open Go Go.AL Go.AL.Q Go.AL.Sh
end Go.Proofs.Ytohbjneaaahpcaa

namespace Go.Proofs.Ytohbjneaaahpcaa
open Go Go.AL Go.AL.Q Go.AL.Sh
theorem rep4 : ∀ l : List Rep, ∀ z ∈ l.map Rep.c, z.length = 4 := fun l z hz => by obtain ⟨y, _, rfl⟩ := List.mem_map.1 hz; rfl
theorem rep_more (l : List Rep) (i : Nat) (r : Rep) : (l ++ List.replicate (i + 1) r).map Rep.c = (l ++ List.replicate i r).map Rep.c ++ [r.c] := by
  rw [List.replicate_succ', ← List.append_assoc, List.map_append]; rfl
end Go.Proofs.Ytohbjneaaahpcaa

namespace Go.Proofs.Ytohbjneaaahpcaa
open Go Go.AL Go.AL.Q Go.AL.Sh
structure MoreIs (G A B C : List Int) (e f g h : Int) : Prop where
  e : e = canE G
  a : ∀ c ∈ A, c ∈ G
  b : ∀ c ∈ B, c ∈ G
  c : ∀ c ∈ C, c ∈ G
  f : (f = 11 ∧ A = []) ∨ f = canE A
  g : g = canE B
  h : h = canE C
  la : A.length ≤ 80
  lb : B.length ≤ 80
  lc : C.length ≤ 80
  lG : G.length ≤ 80
end Go.Proofs.Ytohbjneaaahpcaa

namespace Go.Proofs.Ytohbjneaaahpcaa
open Go Go.AL Go.AL.Q Go.AL.Sh
theorem LiarsR_bad {s : Sea} {l : List Rep} (h : (LeastR s l).2.2 ≠ 0) : LiarsR s l = ([], (LeastR s l).2.2) := by
  unfold LeastR at h ⊢; unfold LiarsR
  cases h1 : s.ok <;> cases h2 : s.repsOk l <;> by_cases h3 : fewF s l < 1048576 <;> simp [h1, h2, h3] at h ⊢
theorem LiarsR_ok {s : Sea} {l : List Rep} (hok : s.ok = true) (hr : s.repsOk l = true) (h : fewF s l < 1048576) : LiarsR s l = (liarK s l (fewF s l) l.length, 0) := by
  unfold LiarsR; rw [hok, hr]; simp only [if_true]; rw [if_pos h]
theorem liarK_mem {s : Sea} {l : List Rep} {n : Int} {k : Nat} (h : k < l.length) : (k : Int) ∈ liarK s l n l.length ↔ liarB s l n l[k] = true := by
  unfold liarK
  have e : l.getD k ⟨0, 0, 0, false⟩ = l[k] := by simp [List.getD_eq_getElem?_getD, h]
  constructor
  · intro hm
    obtain ⟨j, hj, e2⟩ := List.mem_map.1 hm
    have e2 : j = k := Int.ofNat_inj.1 e2
    subst e2
    have := (List.mem_filter.1 hj).2
    rwa [e] at this
  · intro hm; exact List.mem_map.2 ⟨k, List.mem_filter.2 ⟨List.mem_range.2 h, by rw [e]; exact hm⟩, rfl⟩
theorem liarK_at {s : Sea} {l : List Rep} {n i : Int} (h : i ∈ liarK s l n l.length) : ∃ k : Nat, i = k ∧ ∃ hk : k < l.length, liarB s l n l[k] = true := by
  unfold liarK at h
  obtain ⟨k, hk, rfl⟩ := List.mem_map.1 h
  have h1 := List.mem_range.1 (List.mem_filter.1 hk).1
  exact ⟨k, rfl, h1, (liarK_mem h1).1 h⟩
theorem liarK_rising (s : Sea) (l : List Rep) (n : Int) : risingF l.length (-1) (liarK s l n l.length) = true := by
  unfold liarK
  exact rising_of (List.Pairwise.filter _ List.pairwise_lt_range) (fun x _ => by omega) fun x hx => by
    have := List.mem_range.1 (List.mem_filter.1 hx).1; omega
theorem filter_count {l : List Rep} (p : Rep → Bool) : ((List.range l.length).filter fun i => p (l.getD i ⟨0, 0, 0, false⟩)).length = l.countP p := by
  have e : l = (List.range l.length).map fun i => l.getD i ⟨0, 0, 0, false⟩ := by
    refine List.ext_getElem (by simp) fun i h1 h2 => ?_
    simp [List.getD_eq_getElem?_getD, h1]
  conv => rhs; rw [e, List.countP_map, List.countP_eq_length_filter]
  rfl
theorem liars_le {s : Sea} (ho : s.Ok) {l : List Rep} (hr : RepFit s l) (hn : fewF s l < 1048576) : ((liarK s l (fewF s l) l.length).length : Int) ≤ fewF s l := by
  have hl24 : l.length ≤ 24 := by have := hr.len; omega
  obtain ⟨T, h1, h2⟩ := few_at ho hl24 hn
  have h3 := cost_count s (h1.hours ho) (l := l) fun r h => (hr.at' r h).1
  have h4 : (liarK s l (fewF s l) l.length).length = l.countP (liarB s l (fewF s l)) := by
    unfold liarK; rw [List.length_map]; exact filter_count _
  have h5 : l.countP (liarB s l (fewF s l)) ≤ l.countP (lieB s.wide T) := List.countP_mono_left fun r h k => (liarB_iff ho hl24 hn (hr.at' r h).1).1 k T h1 h2
  omega
structure TrkIs (s : Sea) (l : List Rep) (NM : List Int) (fw : Int) (T : List Nat) (n : Int) (is : Bool) : Prop where
  r : TrackR s l (tI T) = (n, is, 0)
  c : ∀ c ∈ tI T, 0 ≤ c ∧ c ≤ 1000
  len : T.length ≤ 12
  h : is = true → n = fw → (T.length : Int) = s.hours ∧ ∀ i ∈ NM, ∃ k : Nat, i = k ∧ ∃ hk : k < l.length, lieB s.wide T l[k] = true
theorem trk_is {s : Sea} (hok : s.ok = true) {l : List Rep} (hr : s.repsOk l = true) (hn : fewF s l < 1048576) {T : List Nat} (hT : okW s 0 T) (hl : T.length ≤ hrs s) : ∃ n is, TrkIs s l (liarK s l (fewF s l) l.length) (fewF s l) T n is := by
  have ho := Sea.ok_of hok
  have hrf := reps_fit hr
  have hp := hrs_pos ho
  have hl24 : l.length ≤ 24 := by have := hrf.len; omega
  have hc : ∀ c ∈ tI T, 0 ≤ c ∧ c ≤ 1000 := fun c hc => by
    obtain ⟨k, hk, rfl⟩ := List.mem_map.1 hc
    have := wat_lt ho (okW_mem s hT k hk)
    show 0 ≤ (k : Int) ∧ (k : Int) ≤ 1000; omega
  by_cases e : T.length = hrs s
  · have hTr : Trk s T := ⟨e, hT⟩
    refine ⟨_, _, TrackR_ok hok hr hTr, hc, by omega, fun _ h => ⟨hTr.hours ho, fun i hi => ?_⟩⟩
    obtain ⟨k, h1, hk, h2⟩ := liarK_at hi
    exact ⟨k, h1, hk, (liarB_iff ho hl24 hn (hrf.at' _ (List.getElem_mem hk)).1).1 h2 T hTr h⟩
  · exact ⟨_, _, TrackR_short hok hr e, hc, by omega, fun h => by cases h⟩
theorem few_more {s : Sea} (ho : s.Ok) {l : List Rep} {r : Rep} {n : Nat} (hl : (l ++ List.replicate n r).length ≤ 24) {fw : Int} (hfw : fw = fewF s l) (hlt : fewF s l < 1048576) (hn : fw < n) (hrf : RepFit s l) (hr : 0 ≤ r.hour ∧ r.hour ≤ s.hours - 1) :
    fewF s (l ++ List.replicate n r) < 1048576 ∧ ((fewF s (l ++ List.replicate n r) == fw) = !liarB s l fw r) := by
  have hl24 : l.length ≤ 24 := by simp at hl; omega
  obtain ⟨T, h1, h2⟩ := few_at ho hl24 hlt
  have h3 := few_le ho hl h1
  refine ⟨h3.2, ?_⟩
  have hfr := few_rep ho hl (fun r hr => (hrf.at' r hr).1) hr hn
  have hge : fw ≤ fewF s (l ++ List.replicate n r) := by
    obtain ⟨T2, k1, k2⟩ := few_at ho hl h3.2
    have := (few_le ho hl24 k1).1
    have := cost_mono s l (List.replicate n r) T2 0
    omega
  have hiff := liarB_iff ho hl24 hlt hr
  rw [← hfw] at hiff
  cases hb : liarB s l fw r with
  | true =>
    rw [hb] at hiff
    have hall := hiff.1 rfl
    show (_ == fw) = false
    rw [beq_eq_false_iff_ne]
    intro he
    obtain ⟨T2, k1, k2, k3⟩ := hfr.1 (by omega)
    have := (few_le ho hl24 k1).1
    rw [hall T2 k1 (by omega)] at k3; cases k3
  | false =>
    show (_ == fw) = true
    rw [beq_iff_eq]
    have hno : ¬ ∀ T, Trk s T → (costW s l 0 T : Int) = fw → lieB s.wide T r = true := fun k => by rw [hiff.2 k] at hb; cases hb
    have : fewF s (l ++ List.replicate n r) ≤ fw := hfr.2 (by
      refine Classical.byContradiction fun k => hno fun T hT hc => ?_
      cases h : lieB s.wide T r with
      | true => rfl
      | false => exact absurd ⟨T, hT, by omega, h⟩ k)
    omega
set_option maxRecDepth 20000 in
set_option maxHeartbeats 2000000 in
theorem law_accused (x : Srch) (hx : SrFit x) (bb : Bool) (bits : List Int) (hb : (bits.length : Int) ≤ 9223372036854775806) (k0 : Int) : Ans Try.prog 11 [.agg x.c, .sl bb .any (ints bits), .int k0] (.bool true) := by
  have hso := sound_t x hx
  have hle := Least_w x hx
  have hli := Liars_w x hx
  have ux : ∀ {m : Nat}, Under m (A.pt x.c) := (Free.pt _ x.free).under
  refine told Try.func11 rfl rfl (Pure.of tab_ok Try.func11 rfl Try.ntmps11 rfl (allC (.agg _ x.free) (allC (free_ints _ _ _) (all1 (.s _)))) (allC (fun _ => rfl) (allC (fun _ => rfl) (all1 (fun _ => rfl)))) (by first | exact .s _ | assumption | exact .tup _ (by intro x hx; simp only [List.mem_cons, List.not_mem_nil, or_false] at hx; rcases hx with rfl | rfl | rfl | rfl <;> first | exact .s _ | (simp_all; done))) fun E hE => ?_)
  refine Aw.sm tab_ok mb0 [] rfl rfl ?zo ?zk
  case zo =>
    repeat' apply AllP.cons
    all_goals first | exact trivial
  case zk =>
  by_cases he : (LeastR x.s x.l).2.2 = 0
  · obtain ⟨hok, hr, hfw⟩ := LeastR_good he
    rw [LeastR_ok hok hr hfw] at hle
    rw [LiarsR_ok hok hr hfw] at hli
    rw [sound_iff.2 ⟨hok, hr⟩] at hso
    have ho := Sea.ok_of hok
    have hrf := reps_fit hr
    have hp := hrs_pos ho
    have hhr := ho.hr
    have hm := ho.many
    have hl24 : x.l.length ≤ 24 := by have := hrf.len; omega
    have ll : ((x.l.map Rep.c).length : Int) = x.l.length := by simp
    obtain ⟨hT2, hc2⟩ := trkN_ok ho hl24 hfw
    obtain ⟨n2, is2, hI2⟩ := trk_is hok hr hfw hT2.ok (by rw [hT2.len]; exact Nat.le_refl _)
    have hsk := swumF_ok ho bits
    obtain ⟨n1, is1, hI1⟩ := trk_is hok hr hfw hsk.1 hsk.2
    have hsw := swum_w x hx ho bb bits hb
    have hris := rising_t (liarK x.s x.l (fewF x.s x.l) x.l.length) (liarK x.s x.l (fewF x.s x.l) x.l.length).isEmpty x.l.length (by have := liarK_len x.s x.l (fewF x.s x.l) x.l.length; omega) (by omega)
    rw [liarK_rising, ← ll] at hris
    have hlile := liars_le ho hrf hfw
    have hnn := few_288 ho hl24 hfw
    have hmemk := fun (k : Nat) (h : k < x.l.length) => liarK_mem (s := x.s) (n := fewF x.s x.l) h
    have hlk := liarK_len x.s x.l (fewF x.s x.l) x.l.length
    have hfm := fun (r : Rep) (n : Nat) h1 h2 h3 => few_more ho (l := x.l) (r := r) (n := n) h1 rfl hfw h2 hrf h3
    generalize (trkN x.s x.l (fewF x.s x.l) (hrs x.s)).1 = T2 at *
    generalize swumF x.s bits = T1 at *
    generalize hNM : liarK x.s x.l (fewF x.s x.l) x.l.length = NM at *
    generalize hfwe : fewF x.s x.l = fw at *
    obtain ⟨w, hw⟩ : ∃ w : Nat, (w : Int) = fw := ⟨fw.toNat, by omega⟩
    have lN := ints_lenI NM
    have uN : ∀ {m : Nat}, Under m (outW NM) := (outW_free NM).under
    refine Aw.sm tab_ok mb0 [(4, [.tup [outW NM, .int 0]])] rfl rfl ?zo ?zk
    case zo =>
      repeat' apply AllP.cons
      all_goals first | exact trivial | exact Nat.le_of_ble_eq_true rfl | exact hli
    case zk =>
    refine Aw.sm tab_ok mb0 [(4, [.tup [.int fw, outW (tI T2), .int 0]])] rfl rfl ?zo ?zk
    case zo =>
      repeat' apply AllP.cons
      all_goals first | exact trivial | exact Nat.le_of_ble_eq_true rfl | exact hle
    case zk =>
    refine Aw.seq ?_
    refine Aw.sm tab_ok mb0 [(4, [.bool true])] rfl rfl ?zo ?zk
    case zo =>
      repeat' apply AllP.cons
      all_goals first | exact trivial | exact id | exact fun _ => rfl | exact fun _ => Nat.le_of_ble_eq_true rfl | exact fun _ => hso
    case zk =>
    refine Aw.cond rfl (fun h => absurd h (by decide)) (fun _ => Aw.skip ?_)
    refine Aw.seq ?_
    refine Aw.sm tab_ok mb0 [(7, [.bool true])] rfl rfl ?zo ?zk
    case zo =>
      repeat' apply AllP.cons
      all_goals first | exact trivial | exact id | exact fun _ => rfl | exact fun _ => Nat.le_of_ble_eq_true rfl | exact fun _ => hris
    case zk =>
    refine Aw.cond rfl (fun h => ?_) (fun _ => Aw.skip ?_)
    · have h : cond (cond ((0 : Int) != 0) true (!true)) true (decide (((ints NM).length : Int) > fw)) = true := h
      rw [decide_eq_false (by omega)] at h; cases h
    refine Aw.sm tab_ok mb0 [(4, [outW (tI T1)])] rfl rfl ?zo ?zk
    case zo =>
      repeat' apply AllP.cons
      all_goals first | exact trivial | exact Nat.le_of_ble_eq_true rfl | exact hsw
    case zk =>
    have u12 : ∀ {m : Nat}, Under m (.sl false .exact [[outW (tI T2)], [outW (tI T1)]]) := (Free.sl _ _ _ fun e he y hy => by
      simp at he; rcases he with rfl | rfl <;> (simp at hy; subst hy; exact outW_free _)).under
    refine Aw.seq ?_
    refine Aw.sm tab_ok mb0 [] rfl rfl ?zo ?zk
    case zo =>
      repeat' apply AllP.cons
      all_goals first | exact trivial
    case zk =>
    refine Aw.block (Aw.rounds 0 hE [(2, .int k0), (3, .pt x.c), (7, outW NM), (9, .int fw), (12, .sl false .exact [[outW (tI T2)], [outW (tI T1)]])] (fun i : Nat => [(13, .int i)]) (fun i => []) (fun i => i ≤ 2) (fun i => 2 - i) 0 ?zg ⟨?zc, ?zv, ?zh, Nat.le_of_ble_eq_true rfl⟩ ?zu (fun i zhk => ?zw) (fun i zhk => ?zx) fun i hk => ?zr)
    case zg =>
      (repeat' (first | exact Nat.zero_le _ | exact Nat.le_refl _ | exact trivial | exact ux | exact uN | exact u12 | exact by decide | (refine And.intro ?_ ?_)))
    case zc =>
      (repeat' (first | (refine And.intro ?_ ?_) | exact trivial | exact A.Le.refl _ | exact rfl | exact ux | exact uN | exact u12 | exact by decide))
    case zv =>
      (repeat' (first | (refine And.intro ?_ ?_) | exact trivial | exact A.Le.refl _ | exact rfl | exact ux | exact uN | exact u12 | exact by decide))
    case zh =>
      (repeat' (first | (refine And.intro ?_ ?_) | exact trivial | exact A.Le.refl _ | exact rfl | exact ux | exact uN | exact u12 | exact by decide))
    case zu =>
      (repeat' (first | exact trivial | exact Under.s _ | exact Under.un | assumption | exact (free_ints _ _ _).under | exact Under.ref _ _ (by decide) | exact Under.ms _ _ _ (by decide) | exact Under.mp _ (by decide) | exact (Free.agg _ (by assumption)).under | exact (Free.pt _ (by assumption)).under | exact grL_under _ | exact outA_under _ | exact Nat.le_of_ble_eq_true rfl | exact (fun _ _ => rfl) | exact ux | exact uN | exact u12 | exact by decide | (refine And.intro ?_ ?_)))
    case zw =>
      (repeat' (first | exact trivial | exact Under.s _ | exact Under.un | assumption | exact (free_ints _ _ _).under | exact Under.ref _ _ (by decide) | exact Under.ms _ _ _ (by decide) | exact Under.mp _ (by decide) | exact (Free.agg _ (by assumption)).under | exact (Free.pt _ (by assumption)).under | exact grL_under _ | exact outA_under _ | exact Nat.le_of_ble_eq_true rfl | exact (fun _ _ => rfl) | exact ux | exact uN | exact u12 | exact by decide | (refine And.intro ?_ ?_)))
    case zx =>
      (repeat' (first | exact trivial | exact Under.s _ | exact Under.un | assumption | exact (free_ints _ _ _).under | exact Under.ref _ _ (by decide) | exact Under.ms _ _ _ (by decide) | exact Under.mp _ (by decide) | exact (Free.agg _ (by assumption)).under | exact (Free.pt _ (by assumption)).under | exact grL_under _ | exact outA_under _ | exact Nat.le_of_ble_eq_true rfl | exact (fun _ _ => rfl) | exact ux | exact uN | exact u12 | exact by decide | (refine And.intro ?_ ?_)))
    case zr =>
    refine Aw.seq ?_
    refine Aw.sm tab_ok mb0 [] rfl rfl ?zo ?zk
    case zo =>
      repeat' apply AllP.cons
      all_goals first | exact trivial
    case zk =>
    refine Aw.cond rfl (fun h2 => Aw.skip ?_) (fun h2 => ?_)
    · have hlt : i < 2 := by have := of_decide_eq_true (show decide ((i : Int) < ((2 : Nat) : Int)) = true from h2); omega
      obtain ⟨Ti, ni, isi, hget, hI⟩ : ∃ Ti ni isi, [[outW (tI T2)], [outW (tI T1)]][(i : Int).toNat]? = some [outW (tI Ti)] ∧ TrkIs x.s x.l NM fw Ti ni isi := by
        have : i = 0 ∨ i = 1 := by omega
        rcases this with rfl | rfl
        · exact ⟨T2, n2, is2, rfl, hI2⟩
        · exact ⟨T1, n1, is1, rfl, hI1⟩
      have hit := IsTrack_w x hx (tI Ti).isEmpty (tI Ti) (by rw [tI_len]; have := hI.len; omega)
      rw [hI.r] at hit
      have hh := hI.h
      have hcs := hI.c
      have lT : ((ints (tI Ti)).length : Int) = Ti.length := by rw [ints_lenI, tI_len]
      have uT : ∀ {m : Nat}, Under m (outW (tI Ti)) := (outW_free _).under
      refine Aw.seq (Aw.block ?_)
      refine Aw.sd tab_ok mixed mb0 [(6, [outW (tI Ti)]), (8, [.tup [.int ni, .bool isi, .int 0]])] rfl (by kernel_rfl) rfl rfl ?zo ?zk
      case zo =>
        repeat' apply AllP.cons
        all_goals first | exact trivial | exact rfl | exact Nat.le_of_ble_eq_true rfl | exact Int.natCast_nonneg _ | exact hget | exact hit
      case zk =>
      refine Aw.seq ?_
      refine Aw.sm tab_ok mb0 [] rfl rfl ?zo ?zk
      case zo =>
        repeat' apply AllP.cons
        all_goals first | exact trivial
      case zk =>
      refine Aw.cond rfl (fun h => absurd h (by decide)) (fun _ => Aw.skip ?_)
      refine Aw.sm tab_ok mb0 [] rfl rfl ?zo ?zk
      case zo =>
        repeat' apply AllP.cons
        all_goals first | exact trivial
      case zk =>
      refine Aw.block (Aw.rounds 0 hE [(2, .int k0), (3, .pt x.c), (7, outW NM), (9, .int fw), (12, .sl false .exact [[outW (tI T2)], [outW (tI T1)]]), (13, .int i), (14, .int ni), (15, .bool isi)] (fun j : Nat => [(17, .int j)]) (fun j => []) (fun j => j ≤ NM.length) (fun j => NM.length - j) 0 ?zg ⟨?zc, ?zv, ?zh, Nat.le_of_ble_eq_true rfl⟩ ?zu (fun j zhk => ?zw) (fun j zhk => ?zx) fun j hk => ?zr)
      case zg =>
        (repeat' (first | exact Nat.zero_le _ | exact Nat.le_refl _ | exact trivial | exact ux | exact uN | exact u12 | (refine And.intro ?_ ?_)))
      case zc =>
        (repeat' (first | (refine And.intro ?_ ?_) | exact trivial | exact A.Le.refl _ | exact rfl | exact ux | exact uN | exact u12))
      case zv =>
        (repeat' (first | (refine And.intro ?_ ?_) | exact trivial | exact A.Le.refl _ | exact rfl | exact ux | exact uN | exact u12))
      case zh =>
        (repeat' (first | (refine And.intro ?_ ?_) | exact trivial | exact A.Le.refl _ | exact rfl | exact ux | exact uN | exact u12))
      case zu =>
        (repeat' (first | exact trivial | exact Under.s _ | exact Under.un | assumption | exact (free_ints _ _ _).under | exact Under.ref _ _ (by decide) | exact Under.ms _ _ _ (by decide) | exact Under.mp _ (by decide) | exact (Free.agg _ (by assumption)).under | exact (Free.pt _ (by assumption)).under | exact grL_under _ | exact outA_under _ | exact Nat.le_of_ble_eq_true rfl | exact (fun _ _ => rfl) | exact ux | exact uN | exact u12 | (refine And.intro ?_ ?_)))
      case zw =>
        (repeat' (first | exact trivial | exact Under.s _ | exact Under.un | assumption | exact (free_ints _ _ _).under | exact Under.ref _ _ (by decide) | exact Under.ms _ _ _ (by decide) | exact Under.mp _ (by decide) | exact (Free.agg _ (by assumption)).under | exact (Free.pt _ (by assumption)).under | exact grL_under _ | exact outA_under _ | exact Nat.le_of_ble_eq_true rfl | exact (fun _ _ => rfl) | exact ux | exact uN | exact u12 | (refine And.intro ?_ ?_)))
      case zx =>
        (repeat' (first | exact trivial | exact Under.s _ | exact Under.un | assumption | exact (free_ints _ _ _).under | exact Under.ref _ _ (by decide) | exact Under.ms _ _ _ (by decide) | exact Under.mp _ (by decide) | exact (Free.agg _ (by assumption)).under | exact (Free.pt _ (by assumption)).under | exact grL_under _ | exact outA_under _ | exact Nat.le_of_ble_eq_true rfl | exact (fun _ _ => rfl) | exact ux | exact uN | exact u12 | (refine And.intro ?_ ?_)))
      case zr =>
      refine Aw.seq ?_
      refine Aw.sm tab_ok mb0 [] rfl rfl ?zo ?zk
      case zo =>
        repeat' apply AllP.cons
        all_goals first | exact trivial | exact id | exact fun _ => rfl
      case zk =>
      refine Aw.cond rfl (fun h3 => Aw.skip ?_) (fun h3 => ?_)
      · have h3 : cond (cond (decide ((j : Int) < ((ints NM).length : Int))) isi false) (ni == fw) false = true := h3
        have h4 := of_decide_eq_true (ac1 (ac1 h3))
        have h5 := ac2 (ac1 h3)
        have h6 : ni = fw := eq_of_beq (ac2 h3)
        obtain ⟨hTh, hall⟩ := hh h5 h6
        have hltj : j < NM.length := by omega
        have hgetj := ints_get hltj
        obtain ⟨k, hk1, hk2, hk3⟩ := hall NM[j] (List.getElem_mem hltj)
        generalize NM[j] = kk at *
        subst hk1
        have hgetr := get_map (f := Rep.c) hk2
        have hin := hrf.at' _ (List.getElem_mem hk2)
        have htd := told_t x.s ho x.l[k] (tI Ti).isEmpty (tI Ti) (by rw [tI_len]; omega) (by omega) hcs
        have hlb : lieB x.s.wide Ti x.l[k] = !isTrueF x.s.wide x.l[k] (placeP x.s.wide ((tI Ti).getD x.l[k].hour.toNat 0)) := rfl
        rw [hk3] at hlb
        generalize isTrueF x.s.wide x.l[k] (placeP x.s.wide ((tI Ti).getD x.l[k].hour.toNat 0)) = tv at *
        generalize x.l[k] = r at *
        obtain rfl : tv = false := by cases tv with | false => rfl | true => cases hlb
        refine Aw.seq (Aw.block ?_)
        refine Aw.sd tab_ok mixed mb0 [(2, [outW (tI Ti)]), (16, [.int k]), (18, r.c), (22, [outW (tI Ti)]), (24, [.bool false])] rfl (by kernel_rfl) rfl rfl ?zo ?zk
        case zo =>
          repeat' apply AllP.cons
          all_goals first | exact trivial | exact id | exact rfl | exact fun _ => rfl | exact Nat.le_of_ble_eq_true rfl | exact fun _ => Nat.le_of_ble_eq_true rfl | exact Int.natCast_nonneg _ | exact fun _ => Int.natCast_nonneg _ | exact gq_f | exact hget | exact fun _ => hget | exact fun _ => hgetj | exact fun _ => hgetr | exact fun _ => htd
        case zk =>
        refine Aw.cond rfl (fun h => ?_) (fun _ => Aw.skip ?_)
        · have h : cond (((ints (tI Ti)).length : Int) != x.s.hours) true false = true := h
          rw [lT, hTh] at h
          simp at h
        refine Aw.em tab_ok mb0 [] rfl rfl ?zo ?zk
        case zo =>
          repeat' apply AllP.cons
          all_goals first | exact trivial | exact (by simp only [Ob.of, inR]; omega)
        case zk =>
        refine ⟨j + 1, ?zg, ?zm, ⟨?zc, ?zv, ?zh, Nat.le_of_ble_eq_true rfl⟩⟩
        case zg =>
          (repeat' (first | assumption | omega | (refine And.intro ?_ ?_)))
        case zm =>
          (repeat' (first | omega | (refine And.intro ?_ ?_)))
        case zc =>
          (repeat' (first | (refine And.intro ?_ ?_) | exact trivial | exact A.Le.refl _ | exact rfl))
        case zv =>
          (repeat' (first | (refine And.intro ?_ ?_) | exact trivial | exact A.Le.refl _ | exact rfl))
        case zh =>
          (repeat' (first | (refine And.intro ?_ ?_) | exact trivial | exact A.Le.refl _ | exact rfl))
      refine Aw.exit2 ?_
      refine Aw.em tab_ok mb0 [] rfl rfl ?zo ?zk
      case zo =>
        repeat' apply AllP.cons
        all_goals first | exact trivial | exact (by simp only [Ob.of, inR]; omega)
      case zk =>
      refine ⟨i + 1, ?zg, ?zm, ⟨?zc, ?zv, ?zh, Nat.le_of_ble_eq_true rfl⟩⟩
      case zg =>
        (repeat' (first | assumption | omega | (refine And.intro ?_ ?_)))
      case zm =>
        (repeat' (first | omega | (refine And.intro ?_ ?_)))
      case zc =>
        (repeat' (first | (refine And.intro ?_ ?_) | exact trivial | exact A.Le.refl _ | exact rfl))
      case zv =>
        (repeat' (first | (refine And.intro ?_ ?_) | exact trivial | exact A.Le.refl _ | exact rfl))
      case zh =>
        (repeat' (first | (refine And.intro ?_ ?_) | exact trivial | exact A.Le.refl _ | exact rfl))
    refine Aw.exit2 ?_
    refine Aw.seq ?_
    refine Aw.sm tab_ok mb0 [] rfl rfl ?zo ?zk
    case zo =>
      repeat' apply AllP.cons
      all_goals first | exact trivial | exact id | exact fun _ => rfl | exact Nat.le_of_ble_eq_true rfl | exact fun _ => Nat.le_of_ble_eq_true rfl | exact gq_f | exact fun _ => (by simp only [Ob.of, inR]; omega)
    case zk =>
    refine Aw.cond rfl (fun _ => ?_) (fun h3 => Aw.skip ?_)
    · refine Aw.sm tab_ok mb0 [(0, [.bool true])] rfl rfl ?zo ?zk
      case zo =>
        repeat' apply AllP.cons
        all_goals first | exact trivial | exact works_t
      case zk =>
      exact Aw.ret ⟨_, .cons (.tmp _) .nil, rfl⟩
    have h3 : cond (((x.l.map Rep.c).length : Int) == 0) true (decide (((x.l.map Rep.c).length : Int) + fw + 1 > 24)) = false := h3
    have hpos : 0 < x.l.length := by
      rcases Nat.eq_zero_or_pos x.l.length with h | h
      · rw [ll, h] at h3; cases h3
      · exact h
    have hle24 : (x.l.length : Int) + fw + 1 ≤ 24 := by
      have h4 : (((x.l.map Rep.c).length : Int) == 0) = false := by rw [beq_eq_false_iff_ne]; omega
      rw [h4] at h3
      have := of_decide_eq_false h3; omega
    have hmk := mod_t k0 ((x.l.map Rep.c).length : Int) (by omega) (by omega)
    have g1 := Int.emod_nonneg k0 (show ((x.l.map Rep.c).length : Int) ≠ 0 by omega)
    have g2 := Int.emod_lt_of_pos k0 (show 0 < ((x.l.map Rep.c).length : Int) by omega)
    obtain ⟨k, hk⟩ : ∃ k : Nat, (k : Int) = k0 % ((x.l.map Rep.c).length : Int) := ⟨(k0 % ((x.l.map Rep.c).length : Int)).toNat, by omega⟩
    rw [← hk] at hmk g1 g2
    have hkl : k < x.l.length := by omega
    have hgetk := get_map (f := Rep.c) hkl
    have hin := hrf.at' _ (List.getElem_mem hkl)
    have hrk := (reps_iff.1 hr).2 _ (List.getElem_mem hkl)
    have hmk2 := hmemk k hkl
    generalize x.l[k] = r at *
    have hl2 : (x.l ++ List.replicate (w + 1) r).length ≤ 24 := by simp; omega
    have hr2 : x.s.repsOk (x.l ++ List.replicate (w + 1) r) = true := reps_app hr hl2 fun r hr => by rw [List.eq_of_mem_replicate hr]; exact hrk
    obtain ⟨hlt2, heq⟩ := hfm r (w + 1) hl2 (by omega) hin.1
    have hle2 : Ans Try.prog 20 [.agg x.s.c, .sl false .any ((x.l ++ List.replicate (w + 1) r).map Rep.c)] _ := Least_w ⟨x.s, false, x.l ++ List.replicate (w + 1) r⟩ ⟨hx.s, by show ((x.l ++ List.replicate (w + 1) r).length : Int) ≤ _; omega⟩
    rw [show LeastR (⟨x.s, false, x.l ++ List.replicate (w + 1) r⟩ : Srch).s (⟨x.s, false, x.l ++ List.replicate (w + 1) r⟩ : Srch).l = _ from LeastR_ok hok hr2 hlt2] at hle2
    have hpl := place_t NM NM.isEmpty k (by omega)
    have hfin : cond (cond ((0 : Int) == 0) ((fewF x.s (x.l ++ List.replicate (w + 1) r) == fw) == decide (placeF (k : Int) 0 NM < 0)) false) true false = true := by
      rw [heq]
      have : decide (placeF (k : Int) 0 NM < 0) = !liarB x.s x.l fw r := by
        have h5 := placeF_neg (c := (k : Int)) NM 0
        have h5 : placeF (k : Int) 0 NM < 0 ↔ (k : Int) ∉ NM := h5
        cases h6 : liarB x.s x.l fw r with
        | true => exact decide_eq_false fun h7 => (h5.1 h7) (hmk2.2 h6)
        | false => exact decide_eq_true (h5.2 fun h7 => by rw [hmk2.1 h7] at h6; cases h6)
      rw [this]; simp
    generalize placeF (k : Int) 0 NM = pv at *
    generalize fewF x.s (x.l ++ List.replicate (w + 1) r) = m at *
    generalize (trkN x.s (x.l ++ List.replicate (w + 1) r) m (hrs x.s)).1 = T3 at *
    refine Aw.sm tab_ok mb0 [(4, [.int k])] rfl rfl ?zo ?zk
    case zo =>
      repeat' apply AllP.cons
      all_goals first | exact trivial | exact Nat.le_of_ble_eq_true rfl | exact hmk
    case zk =>
    refine Aw.sm tab_ok mb0 [] rfl rfl ?zo ?zk
    case zo =>
      repeat' apply AllP.cons
      all_goals first | exact trivial | exact Nat.le_of_ble_eq_true rfl | exact (show ∀ z ∈ [] ++ x.l.map Rep.c, z.length = 4 from fun z hz => rep4 x.l z (by simpa using hz)) | exact (show (0 + (x.l.map Rep.c).length) * 32 ≤ 140737488355328 by omega) | exact (show 0 + (x.l.map Rep.c).length ≤ maxLen by unfold maxLen; omega)
    case zk =>
    refine Aw.seq ?_
    refine Aw.sm tab_ok mb0 [] rfl rfl ?zo ?zk
    case zo =>
      repeat' apply AllP.cons
      all_goals first | exact trivial
    case zk =>
    refine Aw.block (Aw.rounds 0 hE [(2, .int k), (3, .pt x.c), (7, outW NM), (9, .int fw)] (fun i : Nat => [(18, .sl false (.own 52) ((x.l ++ List.replicate i r).map Rep.c)), (19, .int i)]) (fun i => []) (fun i => i ≤ w + 1) (fun i => w + 1 - i) 0 ?zg ⟨?zc, ?zv, ?zh, Nat.le_of_ble_eq_true rfl⟩ ?zu (fun i zhk => ?zw) (fun i zhk => ?zx) fun i hk => ?zr)
    case zg =>
      (repeat' (first | exact Nat.zero_le _ | exact Nat.le_refl _ | exact trivial | exact ux | exact uN | exact .of_eq (by rw [List.replicate_zero, List.append_nil]; rfl) | exact .sl _ _ _ fun e he y hy => by obtain ⟨r, _, rfl⟩ := List.mem_map.1 he; exact (r.free y hy).under | (refine And.intro ?_ ?_)))
    case zc =>
      (repeat' (first | (refine And.intro ?_ ?_) | exact trivial | exact A.Le.refl _ | exact rfl | exact ux | exact uN | exact .of_eq (by rw [List.replicate_zero, List.append_nil]; rfl) | exact .sl _ _ _ fun e he y hy => by obtain ⟨r, _, rfl⟩ := List.mem_map.1 he; exact (r.free y hy).under))
    case zv =>
      (repeat' (first | (refine And.intro ?_ ?_) | exact trivial | exact A.Le.refl _ | exact rfl | exact ux | exact uN | exact .of_eq (by rw [List.replicate_zero, List.append_nil]; rfl) | exact .sl _ _ _ fun e he y hy => by obtain ⟨r, _, rfl⟩ := List.mem_map.1 he; exact (r.free y hy).under))
    case zh =>
      (repeat' (first | (refine And.intro ?_ ?_) | exact trivial | exact A.Le.refl _ | exact rfl | exact ux | exact uN | exact .of_eq (by rw [List.replicate_zero, List.append_nil]; rfl) | exact .sl _ _ _ fun e he y hy => by obtain ⟨r, _, rfl⟩ := List.mem_map.1 he; exact (r.free y hy).under))
    case zu =>
      (repeat' (first | exact trivial | exact Under.s _ | exact Under.un | assumption | exact (free_ints _ _ _).under | exact Under.ref _ _ (by decide) | exact Under.ms _ _ _ (by decide) | exact Under.mp _ (by decide) | exact (Free.agg _ (by assumption)).under | exact (Free.pt _ (by assumption)).under | exact grL_under _ | exact outA_under _ | exact Nat.le_of_ble_eq_true rfl | exact (fun _ _ => rfl) | exact ux | exact uN | exact .of_eq (by rw [List.replicate_zero, List.append_nil]; rfl) | exact .sl _ _ _ fun e he y hy => by obtain ⟨r, _, rfl⟩ := List.mem_map.1 he; exact (r.free y hy).under | (refine And.intro ?_ ?_)))
    case zw =>
      (repeat' (first | exact trivial | exact Under.s _ | exact Under.un | assumption | exact (free_ints _ _ _).under | exact Under.ref _ _ (by decide) | exact Under.ms _ _ _ (by decide) | exact Under.mp _ (by decide) | exact (Free.agg _ (by assumption)).under | exact (Free.pt _ (by assumption)).under | exact grL_under _ | exact outA_under _ | exact Nat.le_of_ble_eq_true rfl | exact (fun _ _ => rfl) | exact ux | exact uN | exact .of_eq (by rw [List.replicate_zero, List.append_nil]; rfl) | exact .sl _ _ _ fun e he y hy => by obtain ⟨r, _, rfl⟩ := List.mem_map.1 he; exact (r.free y hy).under | (refine And.intro ?_ ?_)))
    case zx =>
      (repeat' (first | exact trivial | exact Under.s _ | exact Under.un | assumption | exact (free_ints _ _ _).under | exact Under.ref _ _ (by decide) | exact Under.ms _ _ _ (by decide) | exact Under.mp _ (by decide) | exact (Free.agg _ (by assumption)).under | exact (Free.pt _ (by assumption)).under | exact grL_under _ | exact outA_under _ | exact Nat.le_of_ble_eq_true rfl | exact (fun _ _ => rfl) | exact ux | exact uN | exact .of_eq (by rw [List.replicate_zero, List.append_nil]; rfl) | exact .sl _ _ _ fun e he y hy => by obtain ⟨r, _, rfl⟩ := List.mem_map.1 he; exact (r.free y hy).under | (refine And.intro ?_ ?_)))
    case zr =>
    refine Aw.seq ?_
    refine Aw.sm tab_ok mb0 [] rfl rfl ?zo ?zk
    case zo =>
      repeat' apply AllP.cons
      all_goals first | exact trivial
    case zk =>
    refine Aw.cond rfl (fun h2 => Aw.skip ?_) (fun h2 => ?_)
    · have hlt : i ≤ w := by have := of_decide_eq_true (show decide ((i : Int) ≤ fw) = true from h2); omega
      have hml : ((x.l ++ List.replicate i r).map Rep.c).length ≤ 24 := by simp; omega
      have hmo := rep_more x.l i r
      have hr4 := rep4 (x.l ++ List.replicate i r)
      generalize (x.l ++ List.replicate i r).map Rep.c = M at *
      refine Aw.seq (Aw.block ?_)
      refine Aw.em tab_ok mb0 [(4, r.c)] rfl rfl ?zo ?zk
      case zo =>
        repeat' apply AllP.cons
        all_goals first | exact trivial | exact rfl | exact Nat.le_of_ble_eq_true rfl | exact Int.natCast_nonneg _ | exact hgetk | exact (show ∀ z ∈ [r.c], z.length = 4 from fun z hz => by simp at hz; subst hz; rfl) | exact hr4 | exact (show (M.length + 1) * 32 ≤ 140737488355328 by omega) | exact (show M.length + 1 ≤ maxLen by unfold maxLen; omega)
      case zk =>
      refine Aw.em tab_ok mb0 [] rfl rfl ?zo ?zk
      case zo =>
        repeat' apply AllP.cons
        all_goals first | exact trivial | exact (by simp only [Ob.of, inR]; omega)
      case zk =>
      refine ⟨i + 1, ?zg, ?zm, ⟨?zc, ?zv, ?zh, Nat.le_of_ble_eq_true rfl⟩⟩
      case zg =>
        (repeat' (first | assumption | omega | exact .of_eq (by rw [hmo]; rfl) | (refine And.intro ?_ ?_)))
      case zm =>
        (repeat' (first | omega | exact .of_eq (by rw [hmo]; rfl) | (refine And.intro ?_ ?_)))
      case zc =>
        (repeat' (first | (refine And.intro ?_ ?_) | exact trivial | exact A.Le.refl _ | exact rfl | exact .of_eq (by rw [hmo]; rfl)))
      case zv =>
        (repeat' (first | (refine And.intro ?_ ?_) | exact trivial | exact A.Le.refl _ | exact rfl | exact .of_eq (by rw [hmo]; rfl)))
      case zh =>
        (repeat' (first | (refine And.intro ?_ ?_) | exact trivial | exact A.Le.refl _ | exact rfl | exact .of_eq (by rw [hmo]; rfl)))
    have hle3 : i = w + 1 := by have := of_decide_eq_false (show decide ((i : Int) ≤ fw) = false from h2); omega
    subst hle3
    refine Aw.exit2 ?_
    refine Aw.sm tab_ok mb0 [(3, [.tup [.int m, outW (tI T3), .int 0]])] rfl rfl ?zo ?zk
    case zo =>
      repeat' apply AllP.cons
      all_goals first | exact trivial | exact Nat.le_of_ble_eq_true rfl | exact hle2
    case zk =>
    refine Aw.sm tab_ok mb0 [(8, [.int pv]), (13, [.bool true])] rfl rfl ?zo ?zk
    case zo =>
      repeat' apply AllP.cons
      all_goals first | exact trivial | exact id | exact fun _ => rfl | exact fun _ => works_t | exact fun _ => hpl
    case zk =>
    exact Aw.ret ⟨_, .cons (.tmp _) .nil, congrArg A.bool hfin⟩
  · rw [LiarsR_bad he] at hli
    rw [LeastR_bad he] at hle
    simp only at hle hli
    generalize (LeastR x.s x.l).2.2 = e at *
    refine Aw.sm tab_ok mb0 [(4, [.tup [outW [], .int e]])] rfl rfl ?zo ?zk
    case zo =>
      repeat' apply AllP.cons
      all_goals first | exact trivial | exact Nat.le_of_ble_eq_true rfl | exact hli
    case zk =>
    refine Aw.sm tab_ok mb0 [(4, [.tup [.int 0, outW [], .int e]])] rfl rfl ?zo ?zk
    case zo =>
      repeat' apply AllP.cons
      all_goals first | exact trivial | exact Nat.le_of_ble_eq_true rfl | exact hle
    case zk =>
    have he' : (e != 0) = true := by simpa using he
    have hfin : cond (cond (((ints []).length : Int) == 0) (cond (e == e) true (!soundB x)) false) true false = true := by simp [ints]
    refine Aw.seq ?_
    refine Aw.sm tab_ok mb0 [(4, [.bool (soundB x)])] rfl rfl ?zo ?zk
    case zo =>
      repeat' apply AllP.cons
      all_goals first | exact trivial | exact id | exact fun _ => rfl | exact fun _ => Nat.le_of_ble_eq_true rfl | exact gq_f | exact fun _ => hso
    case zk =>
    refine Aw.cond rfl (fun _ => ?_) (fun h => ?_)
    · refine Aw.sm tab_ok mb0 [(9, [.bool (soundB x)]), (14, [.bool true])] rfl rfl ?zo ?zk
      case zo =>
        repeat' apply AllP.cons
        all_goals first | exact trivial | exact id | exact fun _ => rfl | exact fun _ => Nat.le_of_ble_eq_true rfl | exact gq_c | exact fun _ _ => rfl | exact fun _ => works_t | exact fun _ => hso
      case zk =>
      exact Aw.ret ⟨_, .cons (.tmp _) .nil, congrArg A.bool hfin⟩
    · have h : cond (e != 0) true (!soundB x) = false := h
      rw [he'] at h; cases h
theorem accused_l (x : Srch) (bb : Bool) (bits : List Int) (k : Int) (hx : SrFit2 x) (hb : (bits.length : Int) ≤ 9223372036854775806) : Ans Try.prog 11 [.agg x.c, .sl bb .any (ints bits), .int k] (.bool true) := law_accused x hx.fit bb bits hb k
end Go.Proofs.Ytohbjneaaahpcaa

namespace Go.Proofs.Ytohbjneaaahpcaa
open Go Go.AL Go.ChangeShapes Go.WideShapes Go.ChangeAt Go.RowKit
set_option maxRecDepth 100000 in
theorem shoalAccused_lifted (os : Os) (started : os.Started) (H : Type) (enc : TypeId × Value → H) :
    ReturnsInHanded {} Try.checked os 11 .any (Rows.shoalAccusedSpec.pre6 enc Try.prog Try.f11 [] false) (Rows.shoalAccusedSpec.post enc Try.prog Try.f11 false true false false) := by
  refine lifted2 (tb := 4) (C := Try.checked) own started (by kernel_rfl) Try.func11
    (ChangeSpec.witness6 (enc := enc) (C := Try.checked) false ⟨#[], #[.agg #[.int .i64 0, .int .i64 0, .slice none 0 0, .int .i64 0, .slice none 0 0, .int .i64 0, .slice none 0 0], .slice none 0 0, .int .i64 0], []⟩ 8 (by kernel_rfl) (by kernel_rfl) (by kernel_rfl) (by kernel_rfl))
    laidOut ?_ rfl rfl (by kernel_rfl) uBool ?_ ?_
  · rw [Try.params11]; exact all3t (p := fun t => Try.prog.readableRec t = true ∧ t < Try.prog.types.size) t28 t22 t3
  · intro ds hd
    rw [Try.params11] at hd
    match ds, hd with
    | [d0, d1, d2], _ => rfl
  · intro W base args ds p hval hA hwt
    rw [Try.params11] at hA hval
    obtain ⟨v0, v1, v2, d0, d1, d2, p0, p1, p2, rfl, rfl, rfl, h0, h1, h2⟩ := trodAll_three hA
    obtain ⟨y0, q0, s0⟩ := arg_srch (φ := fun _ => none) (hval 0 28 v0 rfl rfl) h0 fun k hk => hwt k (List.mem_append.2 (.inl hk))
    obtain ⟨b1, y1, q1, s1⟩ := arg_ints (φ := fun _ => none) (hval 1 22 v1 rfl rfl) h1 fun k hk => hwt k (List.mem_append.2 (.inr (List.mem_append.2 (.inl hk))))
    obtain ⟨y2, q2⟩ := arg_int (φ := fun _ => none) (hval 2 3 v2 rfl rfl) h2 fun k hk => hwt k (List.mem_append.2 (.inr (List.mem_append.2 (.inr (List.mem_append.2 (.inl hk))))))
    exact ⟨_, _, vrs3 q0 q1 q2, accused_l y0 b1 y1 y2 s0 s1⟩
theorem shoalAccused_holds : Rows.ShoalAccusedSaid :=
  OpenClaim.holds_of_wide 11 Try.f11 rfl rfl rfl rfl rfl rfl rfl ⟨rfl, rfl, rfl, rfl, rfl⟩ rfl rfl rfl rfl rfl (by kernel_rfl) Try.func11 (by kernel_rfl)
    (of_decide_eq_true (by kernel_rfl)) (by unfold Func.isWrapper; first | (rw [if_pos (by decide +kernel)]; kernel_rfl) | (rw [if_neg (by decide +kernel)]; exact ⟨rfl, rfl⟩))
    (fun os started H enc _ => shoalAccused_lifted os started H enc)
end Go.Proofs.Ytohbjneaaahpcaa

