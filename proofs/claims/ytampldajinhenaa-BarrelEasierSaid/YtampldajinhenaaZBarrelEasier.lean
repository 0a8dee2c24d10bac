/- BarrelEasier holds: a plan that keeps, without its last month, keeps; with less leaks, higher levels or lower lines it keeps, too. No condition. -/
import Derived.Test.YtampldajinhenaaK6
set_option linter.all false
namespace Go.AL.Br
open Go Go.AL Go.AL.Q
def fillS (y : List Cask) (lv : List Int) (top : Int) : List Int := if top ≥ 0 then lv.set top.toNat (ck y top.toNat).full else lv
structure LvS (n : Nat) (l : List Int) : Prop where
  n : l.length = n
  b : ∀ x ∈ l, 0 ≤ x ∧ x ≤ 1000
theorem LvS.get {n : Nat} {l : List Int} (h : LvS n l) {i : Nat} (hi : i < n) : 0 ≤ l.getD i 0 ∧ l.getD i 0 ≤ 1000 := by
  have hl : i < l.length := by rw [h.n]; exact hi
  have e : l.getD i 0 = l[i] := by simp [List.getD_eq_getElem?_getD, hl]
  rw [e]; exact h.b _ (List.getElem_mem hl)
theorem LvS.fill {n : Nat} {l : List Int} (h : LvS n l) {y : List Cask} (hy : ∀ c ∈ y, c.Ok) (top : Int) : LvS n (fillS y l top) := by
  unfold fillS
  split
  · exact ⟨by rw [List.length_set]; exact h.n, fun z hz => by
      rcases List.mem_or_eq_of_mem_set hz with h1 | rfl
      · exact h.b z h1
      · have := ck_ok hy top.toNat; omega⟩
  · exact h
theorem fillL_len (y : List Cask) (l : List Int) (top : Int) : (fillL y l top).length = l.length := by unfold fillL; split <;> simp
end Go.AL.Br

namespace Go.AL.Br
open Go Go.AL Go.AL.Q
theorem mx0_mono {x y : Int} (h : x ≤ y) : mx0 x ≤ mx0 y := by unfold mx0; split <;> split <;> omega
theorem dryK_iff {y : List Cask} {of : Nat → Int} {l : List Int} : ∀ k : Nat, dryK y of l k < 0 ↔ ∀ i, i < k → (ck y i).line ≤ mx0 (l.getD i 0 - of i)
  | 0 => ⟨fun _ i h => by omega, fun _ => (show (-1 : Int) < 0 by decide)⟩
  | k + 1 => by
    have ih := dryK_iff (y := y) (of := of) (l := l) k
    rw [dryK]
    by_cases h1 : mx0 (l.getD k 0 - of k) < (ck y k).line
    · rw [decide_eq_true h1]
      by_cases h2 : dryK y of l k < 0
      · rw [decide_eq_true h2, if_pos (show cond true true false = true from rfl)]
        exact ⟨fun h => by omega, fun h => by have := h k (by omega); omega⟩
      · rw [decide_eq_false h2, if_neg (by simp)]
        exact ⟨fun h => absurd h h2, fun h => by have := h k (by omega); omega⟩
    · rw [decide_eq_false h1, if_neg (by simp), ih]
      exact ⟨fun h i hi => by
        rcases Nat.lt_succ_iff_lt_or_eq.1 hi with h3 | rfl
        · exact h i h3
        · omega, fun h i hi => h i (by omega)⟩
theorem dry_iff {y : List Cask} {of : Nat → Int} {l : List Int} : dryF y of l < 0 ↔ ∀ i, i < y.length → (ck y i).line ≤ mx0 (l.getD i 0 - of i) := dryK_iff _
theorem leak_get {y : List Cask} {of : Nat → Int} {l : List Int} (hl : y.length ≤ l.length) {i : Nat} (hi : i < y.length) : (leakL y of l).getD i 0 = mx0 (l.getD i 0 - of i) := by
  unfold leakL
  rw [lkK_get (by omega), if_pos hi]
theorem leak_len (y : List Cask) (of : Nat → Int) (l : List Int) : (leakL y of l).length = l.length := lkK_len ..
theorem fill_get {y : List Cask} {l : List Int} {t : Int} {i : Nat} (hi : i < l.length) : (fillL y l t).getD i 0 = if t = (i : Int) then (ck y i).full else l.getD i 0 := by
  unfold fillL
  by_cases h : 0 ≤ t
  · rw [if_pos h, List.getD_eq_getElem?_getD, List.getElem?_set]
    by_cases e : t.toNat = i
    · subst e
      rw [if_pos rfl, if_pos hi, if_pos (by omega)]; rfl
    · rw [if_neg e, if_neg (by omega), List.getD_eq_getElem?_getD]
  · rw [if_neg h, if_neg (by omega)]
theorem set_fill (y : List Cask) (l : List Int) (k : Nat) : l.set k (ck y k).full = fillL y l k := by
  unfold fillL
  rw [if_pos (Int.natCast_nonneg k), Int.toNat_natCast]
def Dom (n : Nat) (a b : List Int) : Prop := ∀ i, i < n → b.getD i 0 ≤ a.getD i 0
theorem Dom.refl (n : Nat) (a : List Int) : Dom n a a := fun _ _ => Int.le_refl _
theorem Dom.trans {n : Nat} {a b c : List Int} (h : Dom n a b) (k : Dom n b c) : Dom n a c := fun i hi => Int.le_trans (k i hi) (h i hi)
structure Ez (x y : List Cask) : Prop where
  n : x.length = y.length
  l : ∀ i, i < y.length → (ck x i).line ≤ (ck y i).line
  f : ∀ i, i < y.length → (ck x i).full = (ck y i).full
theorem Ez.refl (y : List Cask) : Ez y y := ⟨rfl, fun _ _ => Int.le_refl _, fun _ _ => rfl⟩
theorem Dom.dry {x y : List Cask} (hz : Ez x y) {a b : List Int} (h : Dom y.length a b) {ox oy : Nat → Int} (ho : ∀ i, i < y.length → ox i ≤ oy i) (hd : dryF y oy b < 0) : dryF x ox a < 0 := dry_iff.2 fun i hi => by
  rw [hz.n] at hi
  have h1 := dry_iff.1 hd i hi
  have h2 := hz.l i hi
  have h3 := h i hi
  have h4 := ho i hi
  have h5 : mx0 (b.getD i 0 - oy i) ≤ mx0 (a.getD i 0 - ox i) := mx0_mono (by omega)
  omega
theorem Dom.leak {x y : List Cask} (hz : Ez x y) {a b : List Int} (ha : y.length ≤ a.length) (hb : y.length ≤ b.length) (h : Dom y.length a b) {ox oy : Nat → Int} (ho : ∀ i, i < y.length → ox i ≤ oy i) : Dom y.length (leakL x ox a) (leakL y oy b) := fun i hi => by
  rw [leak_get hb hi, leak_get (by rw [hz.n]; exact ha) (by rw [hz.n]; exact hi)]
  have h3 := h i hi
  have h4 := ho i hi
  exact mx0_mono (by omega)
theorem Dom.fill {x y : List Cask} (hz : Ez x y) {a b : List Int} (ha : y.length ≤ a.length) (hb : y.length ≤ b.length) (h : Dom y.length a b) (t : Int) : Dom y.length (fillL x a t) (fillL y b t) := fun i hi => by
  rw [fill_get (by omega), fill_get (by omega), hz.f i hi]
  have := h i hi
  split <;> omega
theorem run_dom {x y : List Cask} (hz : Ez x y) {ox oy : Nat → Nat → Int} (ho : ∀ m i, i < y.length → ox m i ≤ oy m i) : ∀ (ts : List Int) (m : Nat) (a b : List Int), y.length ≤ a.length → y.length ≤ b.length → Dom y.length a b → (runGo y oy ts m b).2 = -1 →
    (runGo x ox ts m a).2 = -1 ∧ Dom y.length (runGo x ox ts m a).1 (runGo y oy ts m b).1
  | [], m, a, b, ha, hb, h, _ => ⟨rfl, h⟩
  | t :: ts, m, a, b, ha, hb, h, hr => by
    rw [runGo] at hr ⊢
    by_cases hd : dryF y (oy m) b ≥ 0
    · rw [if_pos hd] at hr
      have hr : (m : Int) = -1 := hr
      omega
    · rw [if_neg hd] at hr
      have hd2 := h.dry hz (ho m) (by omega)
      rw [if_neg (by omega), runGo, if_neg hd]
      exact run_dom hz ho ts (m + 1) _ _ (by rw [fillL_len, leak_len]; exact ha) (by rw [fillL_len, leak_len]; exact hb) ((h.leak hz ha hb (ho m)).fill hz (by rw [leak_len]; exact ha) (by rw [leak_len]; exact hb) t) hr
theorem run_ext {y : List Cask} {o1 o2 : Nat → Nat → Int} : ∀ (ts : List Int) (m : Nat) (l : List Int), y.length ≤ l.length → (∀ k i, m ≤ k → k < m + ts.length → i < y.length → o1 k i = o2 k i) → runGo y o1 ts m l = runGo y o2 ts m l
  | [], m, l, _, _ => rfl
  | t :: ts, m, l, hl, h => by
    have h1 : ∀ i, i < y.length → o1 m i = o2 m i := fun i hi => h m i (Nat.le_refl _) (by simp) hi
    have e1 : leakL y (o1 m) l = leakL y (o2 m) l := by
      unfold leakL lkK
      refine List.ext_getElem (by simp) fun i p q => ?_
      simp only [List.getElem_mapIdx]
      split
      · rename_i hi; rw [h1 i hi]
      · rfl
    have e2 : ∀ k, k ≤ y.length → dryK y (o1 m) l k = dryK y (o2 m) l k := fun k => by
      induction k with
      | zero => intro _; rfl
      | succ k ih => intro hk; rw [dryK, dryK, ih (by omega), h1 k (by omega)]
    have e2 : dryF y (o1 m) l = dryF y (o2 m) l := e2 _ (Nat.le_refl _)
    rw [runGo, runGo, e1, e2, run_ext ts (m + 1) _ (by rw [fillL_len, leak_len]; exact hl) (fun k i a b c => h k i (by omega) (by simp only [List.length_cons]; omega) c)]
theorem run_take {y : List Cask} {of : Nat → Nat → Int} : ∀ (ts : List Int) (k : Nat) (m : Nat) (l : List Int), (runGo y of ts m l).2 = -1 → (runGo y of (ts.take k) m l).2 = -1
  | [], k, m, l, _ => by cases k <;> rfl
  | t :: ts, 0, m, l, _ => rfl
  | t :: ts, k + 1, m, l, h => by
    rw [List.take_succ_cons, runGo]
    rw [runGo] at h
    split at h
    · have h : (m : Int) = -1 := h; omega
    · rename_i hd
      rw [if_neg hd]
      exact run_take ts k (m + 1) _ h
structure LvIn (y : List Cask) (l : List Int) : Prop where
  n : y.length ≤ l.length
  b : ∀ i, i < y.length → 0 ≤ l.getD i 0 ∧ l.getD i 0 ≤ (ck y i).full
theorem LvIn.leak {y : List Cask} {l : List Int} (h : LvIn y l) {of : Nat → Int} (ho : ∀ i, i < y.length → 0 ≤ of i) : LvIn y (leakL y of l) :=
  ⟨by rw [leak_len]; exact h.n, fun i hi => by
    rw [leak_get h.n hi]
    have h1 := h.b i hi
    have h2 := ho i hi
    unfold mx0; split <;> omega⟩
theorem LvIn.fill {y : List Cask} (hy : ∀ c ∈ y, c.Ok) {l : List Int} (h : LvIn y l) (t : Int) : LvIn y (fillL y l t) :=
  ⟨by rw [fillL_len]; exact h.n, fun i hi => by
    rw [fill_get (by have := h.n; omega)]
    have h1 := h.b i hi
    have h2 := ck_ok hy i
    split <;> omega⟩
theorem LvIn.start {y : List Cask} (hy : YardOk y) : LvIn y (lev0 y) := ⟨by show y.length ≤ 4; exact hy.n.2, fun i hi => by
  have hn := hy.n.2
  have e : (lev0 y).getD i 0 = (ck y i).level := by
    rcases (show i = 0 ∨ i = 1 ∨ i = 2 ∨ i = 3 by omega) with rfl | rfl | rfl | rfl <;> rfl
  rw [e, ck_get hi]
  exact (hy.c _ (List.getElem_mem hi)).l⟩
theorem findGo_some {rec : List Int → Option (List Int)} {y : List Cask} {l : List Int} : ∀ {ks : List Nat} {o : List Int}, findGo rec y l ks = some o → ∃ k o', k ∈ ks ∧ o = (k : Int) :: o' ∧ rec (l.set k (ck y k).full) = some o'
  | [], o, h => by cases h
  | k :: ks, o, h => by
    rw [findGo] at h
    split at h
    · obtain ⟨k', o', h1, h2⟩ := findGo_some h
      exact ⟨k', o', List.mem_cons_of_mem _ h1, h2⟩
    · split at h
      · rename_i o' ho
        cases h
        exact ⟨k, o', by simp, rfl, ho⟩
      · obtain ⟨k', o', h1, h2⟩ := findGo_some h
        exact ⟨k', o', List.mem_cons_of_mem _ h1, h2⟩
theorem findGo_none {rec : List Int → Option (List Int)} {y : List Cask} {l : List Int} : ∀ {ks : List Nat}, findGo rec y l ks = none → ∀ k ∈ ks, (l.set k (ck y k).full = l ∧ 0 < k) ∨ rec (l.set k (ck y k).full) = none
  | [], h, k, hk => by cases hk
  | k :: ks, h, j, hj => by
    rw [findGo] at h
    split at h
    · rename_i hc
      rcases List.mem_cons.1 hj with rfl | hj
      · rw [c_and, Bool.and_eq_true, beq_iff_eq, decide_eq_true_eq] at hc
        exact .inl hc
      · exact findGo_none h j hj
    · split at h
      · cases h
      · rename_i hn
        rcases List.mem_cons.1 hj with rfl | hj
        · exact .inr hn
        · exact findGo_none h j hj
theorem find_run {y : List Cask} : ∀ (f : Nat) (l o : List Int) (m : Nat), findF y f l = some o → o.length = f ∧ (∀ t ∈ o, 0 ≤ t ∧ t < y.length) ∧ (runGo y (fun _ => mostOf y) o m l).2 = -1
  | 0, l, o, m, h => by cases h; exact ⟨rfl, (fun t h => nomatch h), rfl⟩
  | f + 1, l, o, m, h => by
    rw [findF] at h
    split at h
    · cases h
    · rename_i hd
      obtain ⟨k, o', h1, rfl, h2⟩ := findGo_some h
      obtain ⟨h3, h4, h5⟩ := find_run f _ o' (m + 1) h2
      have hk := List.mem_range.1 h1
      refine ⟨by rw [List.length_cons, h3], fun t ht => ?_, ?_⟩
      · rcases List.mem_cons.1 ht with rfl | ht
        · omega
        · exact h4 t ht
      · rw [runGo, if_neg hd, ← set_fill]; exact h5
theorem find_has {y : List Cask} (hy : YardOk y) : ∀ (ts : List Int) (m : Nat) (a b : List Int), LvIn y a → y.length ≤ b.length → Dom y.length a b → (∀ t ∈ ts, -1 ≤ t ∧ t < y.length) → (runGo y (fun _ => mostOf y) ts m b).2 = -1 → findF y ts.length a ≠ none
  | [], m, a, b, _, _, _, _, _ => fun h => by cases h
  | t :: ts, m, a, b, ha, hb, h, ht, hr => by
    intro hn
    rw [List.length_cons, findF] at hn
    rw [runGo] at hr
    by_cases hd : dryF y (mostOf y) b ≥ 0
    · rw [if_pos hd] at hr
      have hr : (m : Int) = -1 := hr
      omega
    rw [if_neg hd] at hr
    have hd2 := h.dry (Ez.refl y) (ox := mostOf y) (oy := mostOf y) (fun _ _ => Int.le_refl _) (by omega)
    rw [if_neg (by omega)] at hn
    have hno : ∀ i, i < y.length → 0 ≤ mostOf y i := fun i _ => by have := ck_ok hy.c i; unfold mostOf; omega
    have ha' := ha.leak hno
    have hdom := h.leak (Ez.refl y) ha.n hb (ox := mostOf y) (oy := mostOf y) (fun _ _ => Int.le_refl _)
    have hbl : y.length ≤ (leakL y (mostOf y) b).length := by rw [leak_len]; exact hb
    generalize leakL y (mostOf y) a = a' at *
    generalize leakL y (mostOf y) b = b' at *
    have hy1 := hy.n
    have ht0 := ht t (by simp)
    have htr := fun t' h => ht t' (List.mem_cons_of_mem _ h)
    have hlen : ∀ t', y.length ≤ (fillL y b' t').length := fun t' => by rw [fillL_len]; exact hbl
    have key : ∀ k, k < y.length → Dom y.length (a'.set k (ck y k).full) (fillL y b' t) → findF y ts.length (a'.set k (ck y k).full) ≠ none := fun k hk hD =>
      find_has hy ts (m + 1) _ _ (by rw [set_fill]; exact ha'.fill hy.c k) (hlen t) hD htr hr
    have zero : Dom y.length a' (fillL y b' t) → False := fun hD => by
      have h0 : Dom y.length (a'.set 0 (ck y 0).full) (fillL y b' t) := fun i hi => by
        have h1 := hD i hi
        have h2 := ha'.b i hi
        rw [set_fill, fill_get (l := a') (by have := ha'.n; omega)]
        split
        · rename_i e
          have e : i = 0 := by omega
          subst e
          omega
        · exact h1
      rcases findGo_none hn 0 (List.mem_range.2 (by omega)) with h1 | h1
      · omega
      · exact key 0 (by omega) h0 h1
    by_cases ht1 : t < 0
    · refine zero fun i hi => ?_
      rw [fill_get (by omega), if_neg (by omega)]
      exact hdom i hi
    · obtain ⟨k, rfl⟩ : ∃ k : Nat, t = k := ⟨t.toNat, by omega⟩
      have hD : Dom y.length (a'.set k (ck y k).full) (fillL y b' k) := by rw [set_fill]; exact hdom.fill (Ez.refl y) ha'.n hbl k
      rcases findGo_none hn k (List.mem_range.2 (by omega)) with h1 | h1
      · rw [h1.1] at hD; exact zero hD
      · exact key k (by omega) hD h1
end Go.AL.Br

namespace Go.AL.Br
open Go Go.AL Go.AL.Q
def lkv (y : List Cask) (bits : List Int) (k i : Nat) : Int := if bits.length = 0 then (ck y i).hi else chosenF (ck y i).lo (ck y i).hi (pickF bits (3 * k + i))
def rowL (y : List Cask) (bits : List Int) (k n : Nat) : List Int := (List.range n).map (lkv y bits k)
theorem rowL_len (y : List Cask) (bits : List Int) (k n : Nat) : (rowL y bits k n).length = n := by simp [rowL]
theorem rowL_succ (y : List Cask) (bits : List Int) (k n : Nat) : rowL y bits k (n + 1) = rowL y bits k n ++ [lkv y bits k n] := by unfold rowL; rw [List.range_succ, List.map_append]; rfl
theorem rowL_get {y : List Cask} {bits : List Int} {k n i : Nat} (h : i < n) : (rowL y bits k n).getD i 0 = lkv y bits k i := by simp [rowL, List.getD_eq_getElem?_getD, h]
def leaksL (y : List Cask) (bits : List Int) (M : Nat) : List NL := (List.range M).map fun k => ⟨false, rowL y bits k y.length⟩
theorem leaksL_len (y : List Cask) (bits : List Int) (M : Nat) : (leaksL y bits M).length = M := by simp [leaksL]
theorem leaksL_succ (y : List Cask) (bits : List Int) (M : Nat) : leaksL y bits (M + 1) = leaksL y bits M ++ [⟨false, rowL y bits M y.length⟩] := by unfold leaksL; rw [List.range_succ, List.map_append]; rfl
theorem leaksL_get {y : List Cask} {bits : List Int} {M k : Nat} (h : k < M) : (leaksL y bits M).getD k ⟨true, []⟩ = ⟨false, rowL y bits k y.length⟩ := by simp [leaksL, List.getD_eq_getElem?_getD, h]
theorem lkOf_leaks {y : List Cask} {bits : List Int} {M k i : Nat} (h : k < M) (hi : i < y.length) : lkOf (leaksL y bits M) k i = lkv y bits k i := by
  unfold lkOf
  rw [leaksL_get h]
  exact rowL_get hi
theorem lkv_bd {y : List Cask} (hy : YardOk y) (bits : List Int) (k i : Nat) : (ck y i).lo ≤ lkv y bits k i ∧ lkv y bits k i ≤ (ck y i).hi := by
  have := ck_ok hy.c i
  unfold lkv
  split
  · omega
  · exact chosen_in (by omega)
theorem plan_ok {y : List Cask} (hy : YardOk y) {ts : List Int} {M : Nat} (hM : M ≤ 12) (hl : ts.length = M) (ht : ∀ t ∈ ts, -1 ≤ t ∧ t < y.length) (bits : List Int) : planOk y ts (leaksL y bits M) = true := planOk_iff.2
  ⟨by omega, by rw [leaksL_len]; omega, fun m hm => by
    have e : ts.getD m 0 = ts[m] := by simp [List.getD_eq_getElem?_getD, hm]
    rw [e]; exact ht _ (List.getElem_mem hm),
   fun m hm => by rw [leaksL_get (by omega)]; exact rowL_len ..,
   fun m i hm hi => by rw [lkOf_leaks (by omega) hi]; exact lkv_bd hy bits m i⟩
theorem run_R {y : List Cask} (hyo : yardOk y = true) {ts : List Int} {M : Nat} (hM : M ≤ 12) (hl : ts.length = M) (ht : ∀ t ∈ ts, -1 ≤ t ∧ t < y.length) (bits : List Int) :
    RunR y ts (leaksL y bits M) = ((runGo y (fun k => lkv y bits k) ts 0 (lev0 y)).1.take y.length, (runGo y (fun k => lkv y bits k) ts 0 (lev0 y)).2, 0) := by
  have hy := yardOk_iff.1 hyo
  unfold RunR
  rw [if_pos hyo, if_pos (plan_ok hy hM hl ht bits), run_ext ts 0 (lev0 y) (by show y.length ≤ 4; exact hy.n.2) (fun k i _ h2 h3 => lkOf_leaks (by omega) h3)]
theorem keep_R {y : List Cask} (hyo : yardOk y = true) {M : Nat} (hM : M ≤ 12) :
    (∃ o, KeepR y M = (o, 0) ∧ o.length = M ∧ (∀ t ∈ o, 0 ≤ t ∧ t < y.length) ∧ (runGo y (fun _ => mostOf y) o 0 (lev0 y)).2 = -1) ∨
    (KeepR y M = ([], 4) ∧ ∀ ts : List Int, ts.length = M → (∀ t ∈ ts, -1 ≤ t ∧ t < y.length) → (runGo y (fun _ => mostOf y) ts 0 (lev0 y)).2 ≠ -1) := by
  have hy := yardOk_iff.1 hyo
  unfold KeepR
  rw [if_pos hyo, if_pos (wi_iff.2 (by omega)), Int.toNat_natCast]
  cases h : findF y M (lev0 y) with
  | some o =>
    have := find_run M _ o 0 h
    exact .inl ⟨o, rfl, this⟩
  | none =>
    refine .inr ⟨rfl, fun ts hl ht hr => ?_⟩
    have := find_has hy ts 0 (lev0 y) (lev0 y) (LvIn.start hy) (by show y.length ≤ 4; exact hy.n.2) (Dom.refl _ _) ht hr
    rw [hl] at this
    exact this h
end Go.AL.Br

namespace Go.AL
open Go Go.RowKit
theorem rows_of {ys : List (List A)} {sz : Nat} (hs : ∀ y ∈ ys, y.length = sz) (hd : ys.flatten.map A.down = ys.flatten) : RowsAre ys.flatten ys sz := by
  refine ⟨hs, by rw [flat_len hs]; exact Nat.le_refl _, fun i j hi hj => ?_⟩
  have hk : i * sz + j < ys.length * sz := by
    have : (i + 1) * sz ≤ ys.length * sz := Nat.mul_le_mul_right _ hi
    rw [Nat.add_mul, Nat.one_mul] at this; omega
  have h0 : 0 < sz := by omega
  have e1 : (i * sz + j) / sz = i := by rw [Nat.mul_comm, Nat.mul_add_div h0, Nat.div_eq_of_lt hj]; rfl
  have e2 : (i * sz + j) % sz = j := by rw [Nat.mul_comm, Nat.mul_add_mod, Nat.mod_eq_of_lt hj]
  have e3 := flat_get hs (i * sz + j) hk
  rw [e1, e2] at e3
  have hl : i * sz + j < ys.flatten.length := by rw [flat_len hs]; exact hk
  have e4 : (ys.flatten.getD (i * sz + j) .un).down = ys.flatten.getD (i * sz + j) .un := by
    have := congrArg (fun l => l.getD (i * sz + j) .un) hd
    simp only [List.getD_eq_getElem?_getD, List.getElem?_map, List.getElem?_eq_getElem hl] at this ⊢
    exact this
  rw [e4, e3]
section
variable {α : Type} {c : α → List A} {sz : Nat}
theorem flat_down (hd : ∀ a, (c a).map A.down = c a) (l : List α) : (l.map c).flatten.map A.down = (l.map c).flatten := by
  rw [List.map_flatten, List.map_map]
  congr 1
  exact List.map_congr_left fun a _ => hd a
theorem rows_all (hc : ∀ a, (c a).length = sz) (hd : ∀ a, (c a).map A.down = c a) (l : List α) : RowsAre (l.map c).flatten (l.map c) sz := rows_of (fun y hy => by obtain ⟨b, _, rfl⟩ := List.mem_map.1 hy; exact hc b) (flat_down hd l)
end
end Go.AL

namespace Go.AL.Br
open Go Go.AL Go.AL.Q
theorem flat_set1 {α : Type} {c : α → List A} {sz : Nat} (hc : ∀ a, (c a).length = sz) {j : Nat} (hj : j < sz) {v : A} : ∀ {l : List α} {k : Nat} (hk : k < l.length) (a : α), c a = (c l[k]).set j v → (l.map c).flatten.set (k * sz + j) v = ((l.set k a).map c).flatten
  | [], k, hk, _, _ => by cases hk
  | b :: l, 0, _, a, ha => by
    have ha : c a = (c b).set j v := ha
    rw [List.set_cons_zero, List.map_cons, List.flatten_cons, List.map_cons, List.flatten_cons, Nat.zero_mul, Nat.zero_add, List.set_append_left _ _ (by rw [hc]; exact hj), ha]
  | b :: l, k + 1, hk, a, ha => by
    have ih := flat_set1 hc hj (l := l) (k := k) (by simpa using hk) a (by simpa using ha)
    rw [List.set_cons_succ, List.map_cons, List.flatten_cons, List.map_cons, List.flatten_cons, List.set_append_right _ _ (by rw [hc, Nat.add_mul]; omega), hc, show (k + 1) * sz + j - sz = k * sz + j by rw [Nat.add_mul]; omega, ih]
theorem seg_one {l : List A} {i : Nat} {v : A} (h : i < l.length) : setSeg l i [v] = l.set i v := by
  have := setSeg_app (l := []) (r := l) (v := v) (i := i) h
  simp only [List.length_nil, Nat.zero_add, List.nil_append] at this
  exact this
theorem seg_cask {y : List Cask} {k : Nat} (hk : k < y.length) {j : Nat} (hj : j < 5) {v : A} (a : Cask) (ha : a.c = (ck y k).c.set j v) : setSeg (y.map Cask.c).flatten (k * 5 + j) [v] = ((y.set k a).map Cask.c).flatten := by
  have hl : (y.map Cask.c).flatten.length = y.length * 5 := by rw [flat_len (sz := 5) fun w hw => by obtain ⟨m, _, rfl⟩ := List.mem_map.1 hw; rfl, List.length_map]
  rw [seg_one (by rw [hl]; omega)]
  exact flat_set1 (c := Cask.c) (sz := 5) (fun m => rfl) hj hk a (by rw [← ck_get hk]; exact ha)
def mxx (a b : Int) : Int := if b > a then b else a
def easeC (c : Cask) (r n : Int) : Cask :=
  if r = 0 then ⟨chosenF c.level (mxx c.level c.full) n, c.full, c.line, c.lo, c.hi⟩
  else if r = 1 then ⟨c.level, c.full, chosenF 0 (mxx 0 c.line) n, c.lo, c.hi⟩
  else ⟨c.level, c.full, c.line, c.lo, chosenF c.lo (mxx c.lo c.hi) n⟩
def easeY (y : List Cask) (k : Nat) (r n : Int) : List Cask := y.set k (easeC (ck y k) r n)
structure EaseC (a c : Cask) : Prop where
  v : c.level ≤ a.level
  f : a.full = c.full
  n : a.line ≤ c.line
  h : a.hi ≤ c.hi
theorem EaseC.refl (c : Cask) : EaseC c c := ⟨Int.le_refl _, rfl, Int.le_refl _, Int.le_refl _⟩
theorem mxx_bd {a b : Int} (h : a ≤ b) : a ≤ mxx a b ∧ mxx a b ≤ b := by unfold mxx; split <;> omega
theorem easeC_is {c : Cask} (h : c.Ok) (r n : Int) : EaseC (easeC c r n) c ∧ (easeC c r n).Ok := by
  have h1 := h.f
  have h2 := h.l
  have h3 := h.n
  have h4 := h.k
  unfold easeC
  split
  · have b1 := mxx_bd h2.2
    have b2 := chosen_in (n := n) b1.1
    exact ⟨⟨b2.1, rfl, Int.le_refl _, Int.le_refl _⟩, h1, by show 0 ≤ chosenF _ _ _ ∧ chosenF _ _ _ ≤ c.full; omega, h3, h4⟩
  · split
    · have b1 := mxx_bd h3.1
      have b2 := chosen_in (n := n) b1.1
      exact ⟨⟨Int.le_refl _, rfl, by show chosenF _ _ _ ≤ _; omega, Int.le_refl _⟩, h1, h2, by show 0 ≤ chosenF _ _ _ ∧ chosenF _ _ _ ≤ c.full; omega, h4⟩
    · have b1 := mxx_bd h4.2.1
      have b2 := chosen_in (n := n) b1.1
      exact ⟨⟨Int.le_refl _, rfl, Int.le_refl _, by show chosenF _ _ _ ≤ _; omega⟩, h1, h2, h3, by show 0 ≤ c.lo ∧ c.lo ≤ chosenF _ _ _ ∧ chosenF _ _ _ ≤ 1000; omega⟩
theorem easeY_ck {y : List Cask} (hy : YardOk y) {k : Nat} (hk : k < y.length) (r n : Int) (i : Nat) : EaseC (ck (easeY y k r n) i) (ck y i) := by
  unfold ck easeY
  rw [List.getD_eq_getElem?_getD, List.getElem?_set]
  by_cases e : k = i
  · subst e
    rw [if_pos rfl, if_pos hk]
    have := ck_get hk
    exact (easeC_is (by rw [this]; exact hy.c _ (List.getElem_mem hk)) r n).1
  · rw [if_neg e, ← List.getD_eq_getElem?_getD]; exact .refl _
theorem easeY_ok {y : List Cask} (hyo : yardOk y = true) {k : Nat} (hk : k < y.length) (r n : Int) : yardOk (easeY y k r n) = true := by
  have hy := yardOk_iff.1 hyo
  refine yardOk_iff.2 ⟨by unfold easeY; rw [List.length_set]; exact hy.n, fun c hc => ?_⟩
  rcases List.mem_or_eq_of_mem_set hc with h | h
  · exact hy.c c h
  · subst h
    exact (easeC_is (by rw [ck_get hk]; exact hy.c _ (List.getElem_mem hk)) r n).2
theorem easeY_run {y : List Cask} (hyo : yardOk y = true) {k : Nat} (hk : k < y.length) (r n : Int) {o : List Int} (h : (runGo y (fun _ => mostOf y) o 0 (lev0 y)).2 = -1) :
    (runGo (easeY y k r n) (fun _ => mostOf (easeY y k r n)) o 0 (lev0 (easeY y k r n))).2 = -1 := by
  have hy := yardOk_iff.1 hyo
  have hz := easeY_ck hy hk r n
  have hn := hy.n.2
  have hlen : (easeY y k r n).length = y.length := by unfold easeY; rw [List.length_set]
  refine (run_dom (x := easeY y k r n) (y := y) ⟨hlen, fun i _ => (hz i).n, fun i _ => (hz i).f⟩ (fun _ i _ => (hz i).h) o 0 _ _ (by show y.length ≤ 4; exact hn) (by show y.length ≤ 4; exact hn) (fun i hi => ?_) h).1
  have e : ∀ (x : List Cask) (i : Nat), i < 4 → (lev0 x).getD i 0 = (ck x i).level := fun x i hi => by
    rcases (show i = 0 ∨ i = 1 ∨ i = 2 ∨ i = 3 by omega) with rfl | rfl | rfl | rfl <;> rfl
  rw [e _ i (by omega), e _ i (by omega)]
  exact (hz i).v
theorem keep_some {y : List Cask} (hyo : yardOk y = true) {M : Nat} (hM : M ≤ 12) {ts : List Int} (hl : ts.length = M) (ht : ∀ t ∈ ts, -1 ≤ t ∧ t < y.length) (h : (runGo y (fun _ => mostOf y) ts 0 (lev0 y)).2 = -1) : ∃ o, KeepR y M = (o, 0) ∧ o.length = M := by
  rcases keep_R hyo hM with ⟨o, h1, h2, _⟩ | ⟨_, h2⟩
  · exact ⟨o, h1, h2⟩
  · exact absurd h (h2 ts hl ht)
end Go.AL.Br

namespace Go.Proofs.Ytampldajinhenaa
open Go Go.AL Go.AL.Q Go.AL.Br
end Go.Proofs.Ytampldajinhenaa

namespace Go.Proofs.Ytampldajinhenaa
open Go Go.AL Go.AL.Q Go.AL.Br
end Go.Proofs.Ytampldajinhenaa

namespace Go.Proofs.Ytampldajinhenaa
open Go Go.AL Go.AL.Q Go.AL.Br
theorem sound_t (y : List Cask) (b : Bool) (hy : (y.length : Int) ≤ 9223372036854775806) : Ans Try.prog 45 [.sl b .any (y.map Cask.c)] (.bool (yardOk y)) := by
  have ll : ((y.map Cask.c).length : Int) = y.length := by simp
  have c1 := yard_chk y b hy
  have hk : yardChk y = if yardOk y then 0 else 61 := rfl
  have hw : yardOk y = true → wi y.length 1 4 = true := fun h => by
    have := (yardOk_iff.1 h).n
    exact wi_iff.2 (by omega)
  refine told Try.func45 rfl rfl (Pure.of tab_ok Try.func45 rfl Try.ntmps45 rfl (all1 (free_map Cask.free _ _ _)) (all1 (fun _ => rfl)) (by first | exact .s _ | assumption | exact .tup _ (by intro x hx; simp only [List.mem_cons, List.not_mem_nil, or_false] at hx; rcases hx with rfl | rfl | rfl | rfl <;> first | exact .s _ | (simp_all; done))) fun E hE => ?_)
  refine Aw.sm tab_ok mb0 [] rfl rfl ?zo ?zk
  case zo =>
    repeat' apply AllP.cons
    all_goals first | exact trivial
  case zk =>
  refine Aw.sm tab_ok mb0 [(1, [.int (yardChk y)]), (6, [.bool (wi y.length 1 4)])] rfl rfl ?zo ?zk
  case zo =>
    repeat' apply AllP.cons
    all_goals first | exact trivial | exact id | exact fun _ => rfl | exact c1 | exact (by rw [ll]; exact fun _ => in_t _ _ _)
  case zk =>
  refine Aw.ret ⟨_, .cons (.tmp _) .nil, ?_⟩
  show A.bool (cond (yardChk y == 0) (wi y.length 1 4) false) = A.bool (yardOk y)
  rw [hk]
  cases h : yardOk y with
  | true => rw [hw h]; rfl
  | false => rfl
def nlW (L : List NL) : A := .sl L.isEmpty .any (L.map NL.c)
theorem nlW_free (L : List NL) : Free (nlW L) := free_map NL.free _ _ _
def grN : List NL → A
  | [] => .sl true .exact []
  | x :: l => .sl false (.own 22) ((x :: l).map NL.c)
theorem grN_under : ∀ (l : List NL) {n : Nat}, Under n (grN l)
  | [], _ => .sl _ _ _ (fun _ h => nomatch h)
  | x :: l, _ => .sl _ _ _ fun e he v hv => by
    obtain ⟨m, _, rfl⟩ := List.mem_map.1 he
    exact (m.free v hv).under
theorem nl_one (l : List NL) : ∀ z ∈ l.map NL.c, z.length = 1 := fun z hz => by obtain ⟨m, _, rfl⟩ := List.mem_map.1 hz; rfl
set_option maxHeartbeats 1000000 in
theorem leaks_t (y : List Cask) (b : Bool) (hy : YardOk y) (M : Nat) (hM : M ≤ 12) (lb : Bool) (bits : List Int) (hb : (bits.length : Int) ≤ 9223372036854775806) : Ans Try.prog 47 [.sl b .any (y.map Cask.c), .int M, .sl lb .any (ints bits)] (nlW (leaksL y bits M)) := by
  have ll : ((y.map Cask.c).length : Int) = y.length := by simp
  have lbi := ints_lenI bits
  have fy : Free (.sl b .any (y.map Cask.c)) := free_map Cask.free _ _ _
  have fb : Free (.sl lb .any (ints bits)) := free_ints _ _ _
  have uy : ∀ {m : Nat}, Under m (A.sl b .any (y.map Cask.c)) := fy.under
  have ub : ∀ {m : Nat}, Under m (A.sl lb .any (ints bits)) := fb.under
  have hfr : Free (nlW (leaksL y bits M)) := nlW_free _
  have hn := hy.n
  have hS := leaksL_succ y bits
  refine told Try.func47 rfl rfl (Pure.of tab_ok Try.func47 rfl Try.ntmps47 rfl (allC (fy) (allC (.s _) (all1 (fb)))) (allC (fun _ => rfl) (allC (fun _ => rfl) (all1 (fun _ => rfl)))) (by first | exact .s _ | assumption | exact .tup _ (by intro x hx; simp only [List.mem_cons, List.not_mem_nil, or_false] at hx; rcases hx with rfl | rfl | rfl | rfl <;> first | exact .s _ | (simp_all; done))) fun E hE => ?_)
  refine Aw.sm tab_ok mb0 [] rfl rfl ?zo ?zk
  case zo =>
    repeat' apply AllP.cons
    all_goals first | exact trivial
  case zk =>
  refine Aw.sm tab_ok mb0 [] rfl rfl ?zo ?zk
  case zo =>
    repeat' apply AllP.cons
    all_goals first | exact trivial
  case zk =>
  refine Aw.seq ?_
  refine Aw.sm tab_ok mb0 [] rfl rfl ?zo ?zk
  case zo =>
    repeat' apply AllP.cons
    all_goals first | exact trivial
  case zk =>
  refine Aw.block (Aw.rounds 0 hE [(0, .sl b .any (y.map Cask.c)), (1, .int M), (2, .sl lb .any (ints bits))] (fun k : Nat => [(7, grN (leaksL y bits k)), (8, .int k)]) (fun k => []) (fun k => k ≤ M) (fun k => M - k) 0 ?zg ⟨?zc, ?zv, ?zh, Nat.le_of_ble_eq_true rfl⟩ ?zu (fun k zhk => ?zw) (fun k zhk => ?zx) fun k hk => ?zr)
  case zg =>
    (repeat' (first | exact Nat.zero_le _))
  case zc =>
    (repeat' (first | (refine And.intro ?_ ?_) | exact trivial | exact A.Le.refl _))
  case zv =>
    (repeat' (first | (refine And.intro ?_ ?_) | exact trivial | exact A.Le.refl _))
  case zh =>
    (repeat' (first | exact trivial))
  case zu =>
    (repeat' (first | exact trivial | exact Under.s _ | exact (free_ints _ _ _).under | exact uy | (refine And.intro ?_ ?_)))
  case zw =>
    (repeat' (first | exact trivial | exact Under.s _ | exact grN_under _ | (refine And.intro ?_ ?_)))
  case zx =>
    (repeat' (first | exact trivial))
  case zr =>
  refine Aw.seq ?_
  refine Aw.sm tab_ok mb0 [] rfl rfl ?zo ?zk
  case zo =>
    repeat' apply AllP.cons
    all_goals first | exact trivial
  case zk =>
  refine Aw.cond rfl (fun h1 => Aw.skip ?_) (fun h1 => ?_)
  · have hlt : k < M := by have := of_decide_eq_true h1; omega
    have hSk := hS k
    have hlk := leaksL_len y bits k
    generalize hv1 : leaksL y bits (k + 1) = G1 at *
    generalize leaksL y bits k = G at *
    have uG : ∀ {m : Nat}, Under m (grN G) := grN_under G
    refine Aw.seq (Aw.block ?_)
    refine Aw.sm tab_ok mb0 [] rfl rfl ?zo ?zk
    case zo =>
      repeat' apply AllP.cons
      all_goals first | exact trivial
    case zk =>
    refine Aw.seq ?_
    refine Aw.sm tab_ok mb0 [] rfl rfl ?zo ?zk
    case zo =>
      repeat' apply AllP.cons
      all_goals first | exact trivial
    case zk =>
    refine Aw.block (Aw.rounds 0 hE [(0, .sl b .any (y.map Cask.c)), (1, .int M), (2, .sl lb .any (ints bits)), (7, grN G), (8, .int k)] (fun i : Nat => [(9, grL 3 (rowL y bits k i)), (10, .int i)]) (fun i => []) (fun i => i ≤ y.length) (fun i => y.length - i) 0 ?zg ⟨?zc, ?zv, ?zh, Nat.le_of_ble_eq_true rfl⟩ ?zu (fun i zhk => ?zw) (fun i zhk => ?zx) fun i hk => ?zr)
    case zg =>
      (repeat' (first | exact Nat.zero_le _))
    case zc =>
      (repeat' (first | (refine And.intro ?_ ?_) | exact trivial | exact A.Le.refl _))
    case zv =>
      (repeat' (first | (refine And.intro ?_ ?_) | exact trivial | exact A.Le.refl _))
    case zh =>
      (repeat' (first | exact trivial))
    case zu =>
      (repeat' (first | exact trivial | exact Under.s _ | exact (free_ints _ _ _).under | exact uy | exact uG | (refine And.intro ?_ ?_)))
    case zw =>
      (repeat' (first | exact trivial | exact Under.s _ | exact grL_under _ | (refine And.intro ?_ ?_)))
    case zx =>
      (repeat' (first | exact trivial))
    case zr =>
    refine Aw.seq ?_
    refine Aw.sm tab_ok mb0 [] rfl rfl ?zo ?zk
    case zo =>
      repeat' apply AllP.cons
      all_goals first | exact trivial
    case zk =>
    refine Aw.cond rfl (fun h1 => Aw.skip ?_) (fun h1 => ?_)
    · have hli : i < y.length := by have := of_decide_eq_true h1; omega
      have hg := cask_at hli
      have hRi := rowL_succ y bits k i
      have hlr := rowL_len y bits k i
      have hlv : lkv y bits k i = if bits.length = 0 then (ck y i).hi else chosenF (ck y i).lo (ck y i).hi (pickF bits (3 * k + i)) := rfl
      have hck := ck_ok hy.c i
      have hp := pick_t lb bits (3 * (k : Int) + i) (by omega)
      have hc := chosen_t (ck y i).lo (ck y i).hi (pickF bits (3 * (k : Int) + i)) (by omega) (by omega)
      generalize pickF bits (3 * (k : Int) + i) = q at *
      generalize ck y i = c at *
      generalize hw : chosenF c.lo c.hi q = w at *
      generalize lkv y bits k i = v at *
      generalize hr1 : rowL y bits k (i + 1) = R1 at *
      generalize rowL y bits k i = R at *
      refine Aw.seq (Aw.block ?_)
      refine Aw.sm tab_ok mb0 [] rfl rfl ?zo ?zk
      case zo =>
        repeat' apply AllP.cons
        all_goals first | exact trivial
      case zk =>
      refine Aw.cond rfl (fun h2 => ?_) (fun h2 => ?_)
      · have h2 : ((ints bits).length : Int) == 0 := h2
        have h2 : bits.length = 0 := by rw [lbi, beq_iff_eq] at h2; omega
        rw [if_pos h2] at hlv
        have hone : ∀ z ∈ [[A.int c.hi]], z.length = 1 := fun z hz => by simp at hz; subst hz; rfl
        cases R with
        | nil =>
          refine Aw.em tab_ok mb0 [(3, c.c)] rfl rfl ?zo ?zk
          case zo =>
            repeat' apply AllP.cons
            all_goals first | exact trivial | exact rfl | exact Nat.le_of_ble_eq_true rfl | exact Int.natCast_nonneg _ | exact hg | exact hone
          case zk =>
          refine Aw.em tab_ok mb0 [] rfl rfl ?zo ?zk
          case zo =>
            repeat' apply AllP.cons
            all_goals first | exact trivial | exact inrk i (by omega)
          case zk =>
          refine ⟨i + 1, ?zg, ?zm, ⟨?zc, ?zv, ?zh, Nat.le_of_ble_eq_true rfl⟩⟩
          case zg =>
            (repeat' (first | assumption))
          case zm =>
            (repeat' (first | omega))
          case zc =>
            (repeat' (first | (refine And.intro ?_ ?_) | exact trivial | exact A.Le.refl _))
          case zv =>
            (repeat' (first | (refine And.intro ?_ ?_) | exact trivial | exact A.Le.refl _ | exact .of_eq (show grL 3 (rowL y bits k (i + 1)) = A.sl false (.own 3) [[A.int c.hi]] by rw [hr1, hRi, hlv]; rfl)))
          case zh =>
            (repeat' (first | exact trivial))
        | cons x t =>
          have hl1 : (ints (x :: t)).length ≤ 4 := by rw [ints_len]; omega
          have hz := ints_one (x :: t)
          refine Aw.em tab_ok mb0 [(3, c.c)] rfl rfl ?zo ?zk
          case zo =>
            repeat' apply AllP.cons
            all_goals first | exact trivial | exact rfl | exact Nat.le_of_ble_eq_true rfl | exact Int.natCast_nonneg _ | exact hg | exact hone | exact hz | exact (show ((ints (x :: t)).length + 1) * 8 ≤ 140737488355328 by omega) | exact (show (ints (x :: t)).length + 1 ≤ maxLen by unfold maxLen; omega)
          case zk =>
          refine Aw.em tab_ok mb0 [] rfl rfl ?zo ?zk
          case zo =>
            repeat' apply AllP.cons
            all_goals first | exact trivial | exact inrk i (by omega)
          case zk =>
          refine ⟨i + 1, ?zg, ?zm, ⟨?zc, ?zv, ?zh, Nat.le_of_ble_eq_true rfl⟩⟩
          case zg =>
            (repeat' (first | assumption))
          case zm =>
            (repeat' (first | omega))
          case zc =>
            (repeat' (first | (refine And.intro ?_ ?_) | exact trivial | exact A.Le.refl _))
          case zv =>
            (repeat' (first | (refine And.intro ?_ ?_) | exact trivial | exact A.Le.refl _ | exact .of_eq (show grL 3 (rowL y bits k (i + 1)) = A.sl false (.own 3) (ints (x :: t) ++ [[A.int c.hi]]) by rw [hr1, hRi, hlv]; simp [grL, ints])))
          case zh =>
            (repeat' (first | exact trivial))
      · have h2 : (((ints bits).length : Int) == 0) = false := h2
        have h2 : ¬ bits.length = 0 := by rw [lbi, beq_eq_false_iff_ne] at h2; omega
        rw [if_neg h2] at hlv
        have hone : ∀ z ∈ [[A.int w]], z.length = 1 := fun z hz => by simp at hz; subst hz; rfl
        cases R with
        | nil =>
          refine Aw.ed tab_ok mixed mb0 [(3, c.c), (9, c.c), (18, [.int q]), (19, [.int w])] rfl (by kernel_rfl) rfl rfl ?zo ?zk
          case zo =>
            repeat' apply AllP.cons
            all_goals first | exact trivial | exact rfl | exact Nat.le_of_ble_eq_true rfl | exact Int.natCast_nonneg _ | exact hg | exact hp | exact hc | exact hone | exact (show inR (3 * (k : Int)) by simp only [inR]; omega) | exact (show inR (3 * (k : Int) + i) by simp only [inR]; omega)
          case zk =>
          refine Aw.em tab_ok mb0 [] rfl rfl ?zo ?zk
          case zo =>
            repeat' apply AllP.cons
            all_goals first | exact trivial | exact inrk i (by omega)
          case zk =>
          refine ⟨i + 1, ?zg, ?zm, ⟨?zc, ?zv, ?zh, Nat.le_of_ble_eq_true rfl⟩⟩
          case zg =>
            (repeat' (first | assumption))
          case zm =>
            (repeat' (first | omega))
          case zc =>
            (repeat' (first | (refine And.intro ?_ ?_) | exact trivial | exact A.Le.refl _))
          case zv =>
            (repeat' (first | (refine And.intro ?_ ?_) | exact trivial | exact A.Le.refl _ | exact .of_eq (show grL 3 (rowL y bits k (i + 1)) = A.sl false (.own 3) [[A.int w]] by rw [hr1, hRi, hlv]; rfl)))
          case zh =>
            (repeat' (first | exact trivial))
        | cons x t =>
          have hl1 : (ints (x :: t)).length ≤ 4 := by rw [ints_len]; omega
          have hz := ints_one (x :: t)
          refine Aw.ed tab_ok mixed mb0 [(3, c.c), (9, c.c), (18, [.int q]), (19, [.int w])] rfl (by kernel_rfl) rfl rfl ?zo ?zk
          case zo =>
            repeat' apply AllP.cons
            all_goals first | exact trivial | exact rfl | exact Nat.le_of_ble_eq_true rfl | exact Int.natCast_nonneg _ | exact hg | exact hp | exact hc | exact hone | exact hz | exact (show inR (3 * (k : Int)) by simp only [inR]; omega) | exact (show inR (3 * (k : Int) + i) by simp only [inR]; omega) | exact (show ((ints (x :: t)).length + 1) * 8 ≤ 140737488355328 by omega) | exact (show (ints (x :: t)).length + 1 ≤ maxLen by unfold maxLen; omega)
          case zk =>
          refine Aw.em tab_ok mb0 [] rfl rfl ?zo ?zk
          case zo =>
            repeat' apply AllP.cons
            all_goals first | exact trivial | exact inrk i (by omega)
          case zk =>
          refine ⟨i + 1, ?zg, ?zm, ⟨?zc, ?zv, ?zh, Nat.le_of_ble_eq_true rfl⟩⟩
          case zg =>
            (repeat' (first | assumption))
          case zm =>
            (repeat' (first | omega))
          case zc =>
            (repeat' (first | (refine And.intro ?_ ?_) | exact trivial | exact A.Le.refl _))
          case zv =>
            (repeat' (first | (refine And.intro ?_ ?_) | exact trivial | exact A.Le.refl _ | exact .of_eq (show grL 3 (rowL y bits k (i + 1)) = A.sl false (.own 3) (ints (x :: t) ++ [[A.int w]]) by rw [hr1, hRi, hlv]; simp [grL, ints])))
          case zh =>
            (repeat' (first | exact trivial))
    have hle : i = y.length := by have := of_decide_eq_false h1; omega
    subst hle
    refine Aw.exit2 ?_
    have hlr := rowL_len y bits k y.length
    generalize rowL y bits k y.length = R at *
    have hgr : A.Le (.sl false .any (ints R)) (grL 3 R) := by
      cases R with
      | nil => simp at hlr; omega
      | cons x t => exact .any _ _ _
    have uR : ∀ {m : Nat}, Under m (A.sl false .any (ints R)) := (free_ints _ _ _).under
    refine Aw.keep (n := 0) (cst := [(0, .sl b .any (y.map Cask.c)), (1, .int M), (2, .sl lb .any (ints bits)), (7, grN G), (8, .int k), (9, .sl false .any (ints R))]) (v := []) (Hl := []) hE ?zu ?zw ?zx ⟨?zc, ?zv, ?zh, Nat.le_of_ble_eq_true rfl⟩ ?zr
    case zu =>
      (repeat' (first | exact trivial | exact Under.s _ | exact (free_ints _ _ _).under | exact uy | exact uG | (refine And.intro ?_ ?_)))
    case zw =>
      (repeat' (first | exact trivial))
    case zx =>
      (repeat' (first | exact trivial))
    case zc =>
      (repeat' (first | (refine And.intro ?_ ?_) | exact trivial | exact A.Le.refl _ | exact hgr))
    case zv =>
      (repeat' (first | exact trivial))
    case zh =>
      (repeat' (first | exact trivial))
    case zr =>
    have hone : ∀ z ∈ [[A.sl false .any (ints R)]], z.length = 1 := fun z hz => by simp at hz; subst hz; rfl
    cases G with
    | nil =>
      refine Aw.em tab_ok mb0 [] rfl rfl ?zo ?zk
      case zo =>
        repeat' apply AllP.cons
        all_goals first | exact trivial | exact Nat.le_of_ble_eq_true rfl | exact hone
      case zk =>
      refine Aw.em tab_ok mb0 [] rfl rfl ?zo ?zk
      case zo =>
        repeat' apply AllP.cons
        all_goals first | exact trivial | exact inrk k (by omega)
      case zk =>
      refine ⟨k + 1, ?zg, ?zm, ⟨?zc, ?zv, ?zh, Nat.le_of_ble_eq_true rfl⟩⟩
      case zg =>
        (repeat' (first | assumption))
      case zm =>
        (repeat' (first | omega))
      case zc =>
        (repeat' (first | (refine And.intro ?_ ?_) | exact trivial | exact A.Le.refl _))
      case zv =>
        (repeat' (first | (refine And.intro ?_ ?_) | exact trivial | exact A.Le.refl _ | exact .of_eq (show grN (leaksL y bits (k + 1)) = A.sl false (.own 22) [[A.sl false .any (ints R)]] by rw [hv1, hSk]; rfl)))
      case zh =>
        (repeat' (first | exact trivial))
    | cons x t =>
      have hl1 : ((x :: t).map NL.c).length ≤ 12 := by rw [List.length_map]; omega
      have hz := nl_one (x :: t)
      refine Aw.em tab_ok mb0 [] rfl rfl ?zo ?zk
      case zo =>
        repeat' apply AllP.cons
        all_goals first | exact trivial | exact Nat.le_of_ble_eq_true rfl | exact hone | exact hz | exact (show (((x :: t).map NL.c).length + 1) * 24 ≤ 140737488355328 by omega) | exact (show ((x :: t).map NL.c).length + 1 ≤ maxLen by unfold maxLen; omega)
      case zk =>
      refine Aw.em tab_ok mb0 [] rfl rfl ?zo ?zk
      case zo =>
        repeat' apply AllP.cons
        all_goals first | exact trivial | exact inrk k (by omega)
      case zk =>
      refine ⟨k + 1, ?zg, ?zm, ⟨?zc, ?zv, ?zh, Nat.le_of_ble_eq_true rfl⟩⟩
      case zg =>
        (repeat' (first | assumption))
      case zm =>
        (repeat' (first | omega))
      case zc =>
        (repeat' (first | (refine And.intro ?_ ?_) | exact trivial | exact A.Le.refl _))
      case zv =>
        (repeat' (first | (refine And.intro ?_ ?_) | exact trivial | exact A.Le.refl _ | exact .of_eq (show grN (leaksL y bits (k + 1)) = A.sl false (.own 22) ((x :: t).map NL.c ++ [[A.sl false .any (ints R)]]) by rw [hv1, hSk]; simp [grN, NL.c])))
      case zh =>
        (repeat' (first | exact trivial))
  have hle : k = M := by have := of_decide_eq_false h1; omega
  subst hle
  refine Aw.exit2 ?_
  have hgr : A.Le (nlW (leaksL y bits k)) (grN (leaksL y bits k)) := by
    cases hq : leaksL y bits k with
    | nil => exact .any _ _ _
    | cons x t => exact .any _ _ _
  refine Aw.keep (n := 0) (cst := [(7, nlW (leaksL y bits k))]) (v := []) (Hl := []) hE ?zu ?zw ?zx ⟨?zc, ?zv, ?zh, Nat.le_of_ble_eq_true rfl⟩ ?zr
  case zu =>
    (repeat' (first | exact trivial | exact hfr.under | (refine And.intro ?_ ?_)))
  case zw =>
    (repeat' (first | exact trivial))
  case zx =>
    (repeat' (first | exact trivial))
  case zc =>
    (repeat' (first | (refine And.intro ?_ ?_) | exact trivial | exact hgr))
  case zv =>
    (repeat' (first | exact trivial))
  case zh =>
    (repeat' (first | exact trivial))
  case zr =>
  refine Aw.sm tab_ok mb0 [] rfl rfl ?zo ?zk
  case zo =>
    repeat' apply AllP.cons
    all_goals first | exact trivial
  case zk =>
  exact Aw.ret ⟨_, .cons (.tmp _) .nil, rfl⟩
end Go.Proofs.Ytampldajinhenaa

namespace Go.Proofs.Ytampldajinhenaa
open Go Go.AL Go.AL.Q Go.AL.Br
theorem Run_r {y : List Cask} (hyo : yardOk y = true) (b : Bool) {ts : List Int} {M : Nat} (hM : M ≤ 12) (hl : ts.length = M) (ht : ∀ t ∈ ts, -1 ≤ t ∧ t < y.length) (pb : Bool) (bits : List Int) :
    Ans Try.prog 23 [.sl b .any (y.map Cask.c), .sl pb .any (ints ts), nlW (leaksL y bits M)] (.tup [outW ((runGo y (fun k => lkv y bits k) ts 0 (lev0 y)).1.take y.length), .int (runGo y (fun k => lkv y bits k) ts 0 (lev0 y)).2, .int 0]) := by
  have hn := (yardOk_iff.1 hyo).n
  have := Run_w y b (by omega) pb ts (by omega) (leaksL y bits M).isEmpty (leaksL y bits M)
  rw [run_R hyo hM hl ht bits] at this
  exact this
theorem leaks_nil (y : List Cask) (b : Bool) (hy : YardOk y) (M : Nat) (hM : M ≤ 12) : Ans Try.prog 47 [.sl b .any (y.map Cask.c), .int M, .sl true .exact []] (nlW (leaksL y [] M)) :=
  AnsL (leaks_t y b hy M hM true [] (by decide)) (.cons (.refl _) (.cons (.refl _) (.cons (.any _ _ _) .nil)))
end Go.Proofs.Ytampldajinhenaa

namespace Go.Proofs.Ytampldajinhenaa
open Go Go.AL Go.AL.Q Go.AL.Br
theorem casks_underB (l : List Cask) {n : Nat} : UnderB n (.cells (l.map Cask.c).flatten) := .cells _ fun x hx => by
  obtain ⟨z, hz, hx⟩ := List.mem_flatten.1 hx
  obtain ⟨m, _, rfl⟩ := List.mem_map.1 hz
  exact (m.free x hx).under
set_option maxRecDepth 100000 in
set_option maxHeartbeats 4000000 in
theorem easier_l (b : Bool) (y : List Cask) (n0 n1 n2 n3 : Int) (hy : (y.length : Int) ≤ 9223372036854775806) : Ans Try.prog 10 [.sl b .any (y.map Cask.c), .agg [.int n0, .int n1, .int n2, .int n3]] (.bool true) := by
  have ll : ((y.map Cask.c).length : Int) = y.length := by simp
  have fy : Free (.sl b .any (y.map Cask.c)) := free_map Cask.free _ _ _
  have hn4 : ∀ x ∈ [A.int n0, A.int n1, A.int n2, A.int n3], Free x := allC (.s _) (allC (.s _) (allC (.s _) (all1 (.s _))))
  have fn : Free (.agg [.int n0, .int n1, .int n2, .int n3]) := .agg _ hn4
  have uy : ∀ {m : Nat}, Under m (A.sl b .any (y.map Cask.c)) := fy.under
  have un : ∀ {m : Nat}, Under m (A.pt [.int n0, .int n1, .int n2, .int n3]) := (Free.pt _ hn4).under
  have c1 := sound_t y b hy
  refine told Try.func10 rfl rfl (Pure.of tab_ok Try.func10 rfl Try.ntmps10 rfl (allC (fy) (all1 (fn))) (allC (fun _ => rfl) (all1 (fun _ => rfl))) (by first | exact .s _ | assumption | exact .tup _ (by intro x hx; simp only [List.mem_cons, List.not_mem_nil, or_false] at hx; rcases hx with rfl | rfl | rfl | rfl <;> first | exact .s _ | (simp_all; done))) fun E hE => ?_)
  refine Aw.sm tab_ok mb0 [] rfl rfl ?zo ?zk
  case zo =>
    repeat' apply AllP.cons
    all_goals first | exact trivial
  case zk =>
  by_cases hyo : yardOk y = true
  rotate_left
  · have hyo : yardOk y = false := by simpa using hyo
    rw [hyo] at c1
    refine Aw.seq ?_
    refine Aw.sm tab_ok mb0 [(1, [.bool false])] rfl rfl ?zo ?zk
    case zo =>
      repeat' apply AllP.cons
      all_goals first | exact trivial | exact c1
    case zk =>
    refine Aw.cond rfl (fun h => ?_) (fun h => by cases h)
    refine Aw.sm tab_ok mb0 [(0, [.bool true])] rfl rfl ?zo ?zk
    case zo =>
      repeat' apply AllP.cons
      all_goals first | exact trivial | exact works_t
    case zk =>
    exact Aw.ret ⟨_, .cons (.tmp _) .nil, rfl⟩
  rw [hyo] at c1
  have hY := yardOk_iff.1 hyo
  have hn := hY.n
  refine Aw.seq ?_
  refine Aw.sm tab_ok mb0 [(1, [.bool true])] rfl rfl ?zo ?zk
  case zo =>
    repeat' apply AllP.cons
    all_goals first | exact trivial | exact c1
  case zk =>
  refine Aw.cond rfl (fun h => by cases h) (fun h => Aw.skip ?_)
  have hmod := mod_t n0 13 (by decide) (by decide)
  obtain ⟨M, hk⟩ : ∃ M : Nat, n0 % 13 = M := ⟨(n0 % 13).toNat, by omega⟩
  have hM : M ≤ 12 := by omega
  rw [hk] at hmod
  refine Aw.sm tab_ok mb0 [(2, [.int M])] rfl rfl ?zo ?zk
  case zo =>
    repeat' apply AllP.cons
    all_goals first | exact trivial | exact Nat.le_of_ble_eq_true rfl | exact Int.natCast_nonneg _ | exact hmod
  case zk =>
  have c2 := Keep_w y b hy M
  rcases keep_R hyo hM with ⟨o, h1, h2, h3, h4⟩ | ⟨h1, h2⟩
  rotate_left
  · rw [h1] at c2
    refine Aw.sm tab_ok mb0 [(2, [.tup [outW [], .int 4]])] rfl rfl ?zo ?zk
    case zo =>
      repeat' apply AllP.cons
      all_goals first | exact trivial | exact c2
    case zk =>
    refine Aw.seq ?_
    refine Aw.sm tab_ok mb0 [] rfl rfl ?zo ?zk
    case zo =>
      repeat' apply AllP.cons
      all_goals first | exact trivial
    case zk =>
    refine Aw.cond rfl (fun h => ?_) (fun h => by cases h)
    refine Aw.sm tab_ok mb0 [(8, [.bool true])] rfl rfl ?zo ?zk
    case zo =>
      repeat' apply AllP.cons
      all_goals first | exact trivial | exact id | exact fun _ => rfl | exact fun _ => works_t
    case zk =>
    exact Aw.ret ⟨_, .cons (.tmp _) .nil, rfl⟩
  rw [h1] at c2
  have h3' : ∀ t ∈ o, -1 ≤ t ∧ t < y.length := fun t ht => by have := h3 t ht; omega
  have lO := ints_lenI o
  have uo : ∀ {m : Nat}, Under m (outW o) := (outW_free _).under
  refine Aw.sm tab_ok mb0 [(2, [.tup [outW o, .int 0]])] rfl rfl ?zo ?zk
  case zo =>
    repeat' apply AllP.cons
    all_goals first | exact trivial | exact c2
  case zk =>
  refine Aw.seq ?_
  refine Aw.sm tab_ok mb0 [] rfl rfl ?zo ?zk
  case zo =>
    repeat' apply AllP.cons
    all_goals first | exact trivial
  case zk =>
  refine Aw.cond rfl (fun h => by cases h) (fun h => Aw.skip ?_)
  refine Aw.seq ?_
  refine Aw.sm tab_ok mb0 [] rfl rfl ?zo ?zk
  case zo =>
    repeat' apply AllP.cons
    all_goals first | exact trivial
  case zk =>
  refine Aw.cond rfl (fun h => absurd h (by show ¬ (((ints o).length : Int) != (M : Int)) = true; rw [lO, h2]; simp)) (fun h => Aw.skip ?_)
  have hone : ∀ w ∈ y.map Cask.c, w.length = 5 := fun w hw => by obtain ⟨m, _, rfl⟩ := List.mem_map.1 hw; rfl
  have hne : y.map Cask.c ≠ [] := fun h => by have := congrArg List.length h; simp at this; rw [this] at hn; simp at hn
  have hll : (y.map Cask.c).length ≤ 4 := by rw [List.length_map]; exact hn.2
  have hfL : (y.map Cask.c).flatten.length = y.length * 5 := by rw [flat_len hone, List.length_map]
  have hfl : (y.map Cask.c).flatten.map A.down = (y.map Cask.c).flatten := flat_down (fun m => rfl) _
  refine Aw.sm tab_ok mb0 [(2, [.ms 0 0 0])] rfl rfl ?zo ?zk
  case zo =>
    repeat' apply AllP.cons
    all_goals first | exact trivial | exact rfl | exact Nat.le_of_ble_eq_true rfl | exact hone | exact hne | exact (show (y.map Cask.c).length * 40 ≤ 140737488355328 by omega) | exact (show (y.map Cask.c).length ≤ maxLen by unfold maxLen; omega)
  case zk =>
  have h1e : ∀ id, 1 ≤ id → E.φ0 id = none := fun id _ => hE id (by omega)
  refine Aw.keep (n := 1) (cst := [(0, .sl b .any (y.map Cask.c)), (3, .pt [.int n0, .int n1, .int n2, .int n3]), (5, .int M), (6, outW o), (8, .ms 0 0 y.length)]) (v := []) (Hl := [(0, .cells (y.map Cask.c).flatten)]) h1e ?zu ?zw ?zx ⟨?zc, ?zv, ?zh, Nat.le_of_ble_eq_true rfl⟩ ?zr
  case zu =>
    (repeat' (first | exact trivial | exact Under.s _ | exact (free_ints _ _ _).under | exact Under.ms _ _ _ (by decide) | exact (Free.pt _ (by assumption)).under | exact uy | (refine And.intro ?_ ?_)))
  case zw =>
    (repeat' (first | exact trivial))
  case zx =>
    (repeat' (first | exact trivial | exact Nat.le_of_ble_eq_true rfl | exact casks_underB _ | (refine And.intro ?_ ?_)))
  case zc =>
    (repeat' (first | (refine And.intro ?_ ?_) | exact trivial | exact A.Le.refl _ | exact (by rw [← List.length_map (f := Cask.c)]; exact A.Le.refl _)))
  case zv =>
    (repeat' (first | exact trivial))
  case zh =>
    (repeat' (first | (refine And.intro ?_ ?_) | exact trivial | exact congrArg (fun x => some (B.cells x)) hfl))
  case zr =>
  have hmod1 := mod_t n1 y.length (by omega) (by omega)
  obtain ⟨k, hk⟩ : ∃ k : Nat, n1 % (y.length : Int) = k := ⟨(n1 % (y.length : Int)).toNat, by have := Int.emod_nonneg n1 (show (y.length : Int) ≠ 0 by omega); omega⟩
  have hkl : k < y.length := by have := Int.emod_lt_of_pos n1 (show 0 < (y.length : Int) by omega); omega
  rw [hk] at hmod1
  rw [← ll] at hmod1
  refine Aw.sm tab_ok mb0 [(4, [.int k])] rfl rfl ?zo ?zk
  case zo =>
    repeat' apply AllP.cons
    all_goals first | exact trivial | exact Nat.le_of_ble_eq_true rfl | exact Int.natCast_nonneg _ | exact hmod1
  case zk =>
  have hm2 := mod_t n2 3 (by decide) (by decide)
  have a1 := Int.emod_nonneg n2 (show (3 : Int) ≠ 0 by decide)
  have a2 := Int.emod_lt_of_pos n2 (show 0 < (3 : Int) by decide)
  generalize n2 % 3 = r at *
  have hg := cask_at hkl
  have hck := ck_ok hY.c k
  have q2 : (k : Int) < ((y.length : Nat) : Int) := by omega
  have uw : ∀ {m : Nat}, Under m (outW o) := (outW_free _).under
  refine Aw.join1 1 h1e [(0, .sl b .any (y.map Cask.c)), (3, .pt [.int n0, .int n1, .int n2, .int n3]), (5, .int M), (6, outW o), (8, .ms 0 0 y.length)] [] [(0, .cells ((easeY y k r n3).map Cask.c).flatten)] ⟨uy, un, .s _, uo, .ms _ _ _ (by decide), trivial⟩ trivial ⟨⟨by decide, casks_underB _⟩, trivial⟩ ?_ ?_
  · refine Aw.sm tab_ok mb0 [(2, [.int r])] rfl rfl ?zo ?zk
    case zo =>
      repeat' apply AllP.cons
      all_goals first | exact trivial | exact Nat.le_of_ble_eq_true rfl | exact Int.natCast_nonneg _ | exact hm2
    case zk =>
    refine Aw.block ?_
    refine Aw.sm tab_ok mb0 [] rfl rfl ?zo ?zk
    case zo =>
      repeat' apply AllP.cons
      all_goals first | exact trivial
    case zk =>
    rcases (show r = 0 ∨ r = 1 ∨ r = 2 by omega) with rfl | rfl | rfl
    · refine Aw.cond rfl (fun h => ?_) (fun h => absurd h (by decide))
      have c4 : Ans Try.prog 44 [.int (ck y k).level, .int (if (ck y k).full > (ck y k).level then (ck y k).full else (ck y k).level), .int n3] (.int (chosenF (ck y k).level (mxx (ck y k).level (ck y k).full) n3)) := chosen_t _ _ _ (by omega) (by split <;> omega)
      have hs : setSeg (y.map Cask.c).flatten (0 + Int.toNat (k : Int) * 5 + 0) [A.int (chosenF (ck y k).level (mxx (ck y k).level (ck y k).full) n3)] = ((easeY y k 0 n3).map Cask.c).flatten := by
        rw [Nat.zero_add, Int.toNat_natCast]
        exact seg_cask (j := 0) hkl (by decide) (easeC (ck y k) 0 n3) rfl
      have hs := congrArg (fun x => some (B.cells x)) hs
      generalize (chosenF (ck y k).level (mxx (ck y k).level (ck y k).full) n3) = v at *
      generalize ck y k = c at *
      refine Aw.ed tab_ok mixed mb0 [(4, c.c), (9, c.c), (14, c.c), (20, [.int v])] rfl (by kernel_rfl) rfl rfl ?zo ?zk
      case zo =>
        repeat' apply AllP.cons
        all_goals first | exact trivial | exact rfl | exact Nat.le_of_ble_eq_true rfl | exact Int.natCast_nonneg _ | exact hg | exact c4 | exact q2 | exact (show 0 + Int.toNat (k : Int) * 5 + 0 + 1 ≤ _ by rw [Int.toNat_natCast, hfL]; omega)
      case zk =>
      exact ⟨⟨.refl _, .refl _, .refl _, .refl _, .refl _, trivial⟩, trivial, ⟨hs, trivial⟩, Nat.le_of_ble_eq_true rfl⟩
    · refine Aw.cond rfl (fun h => absurd h (by decide)) (fun h => ?_)
      refine Aw.sm tab_ok mb0 [] rfl rfl ?zo ?zk
      case zo =>
        repeat' apply AllP.cons
        all_goals first | exact trivial
      case zk =>
      refine Aw.cond rfl (fun h => ?_) (fun h => absurd h (by decide))
      have c4 : Ans Try.prog 44 [.int 0, .int (if (ck y k).line > 0 then (ck y k).line else 0), .int n3] (.int (chosenF 0 (mxx 0 (ck y k).line) n3)) := chosen_t _ _ _ (by omega) (by split <;> omega)
      have hs : setSeg (y.map Cask.c).flatten (0 + Int.toNat (k : Int) * 5 + 2) [A.int (chosenF 0 (mxx 0 (ck y k).line) n3)] = ((easeY y k 1 n3).map Cask.c).flatten := by
        rw [Nat.zero_add, Int.toNat_natCast]
        exact seg_cask (j := 2) hkl (by decide) (easeC (ck y k) 1 n3) rfl
      have hs := congrArg (fun x => some (B.cells x)) hs
      generalize (chosenF 0 (mxx 0 (ck y k).line) n3) = v at *
      generalize ck y k = c at *
      refine Aw.ed tab_ok mixed mb0 [(4, c.c), (10, [.int v])] rfl (by kernel_rfl) rfl rfl ?zo ?zk
      case zo =>
        repeat' apply AllP.cons
        all_goals first | exact trivial | exact rfl | exact Nat.le_of_ble_eq_true rfl | exact Int.natCast_nonneg _ | exact hg | exact c4 | exact q2 | exact (show 0 + Int.toNat (k : Int) * 5 + 2 + 1 ≤ _ by rw [Int.toNat_natCast, hfL]; omega)
      case zk =>
      exact ⟨⟨.refl _, .refl _, .refl _, .refl _, .refl _, trivial⟩, trivial, ⟨hs, trivial⟩, Nat.le_of_ble_eq_true rfl⟩
    · refine Aw.cond rfl (fun h => absurd h (by decide)) (fun h => ?_)
      refine Aw.sm tab_ok mb0 [] rfl rfl ?zo ?zk
      case zo =>
        repeat' apply AllP.cons
        all_goals first | exact trivial
      case zk =>
      refine Aw.cond rfl (fun h => absurd h (by decide)) (fun h => ?_)
      have c4 : Ans Try.prog 44 [.int (ck y k).lo, .int (if (ck y k).hi > (ck y k).lo then (ck y k).hi else (ck y k).lo), .int n3] (.int (chosenF (ck y k).lo (mxx (ck y k).lo (ck y k).hi) n3)) := chosen_t _ _ _ (by omega) (by split <;> omega)
      have hs : setSeg (y.map Cask.c).flatten (0 + Int.toNat (k : Int) * 5 + 3 + 1) [A.int (chosenF (ck y k).lo (mxx (ck y k).lo (ck y k).hi) n3)] = ((easeY y k 2 n3).map Cask.c).flatten := by
        rw [Nat.zero_add, Int.toNat_natCast]
        exact seg_cask (j := 3 + 1) hkl (by decide) (easeC (ck y k) 2 n3) rfl
      have hs := congrArg (fun x => some (B.cells x)) hs
      generalize (chosenF (ck y k).lo (mxx (ck y k).lo (ck y k).hi) n3) = v at *
      generalize ck y k = c at *
      refine Aw.ed tab_ok mixed mb0 [(4, c.c), (10, c.c), (16, c.c), (23, [.int v])] rfl (by kernel_rfl) rfl rfl ?zo ?zk
      case zo =>
        repeat' apply AllP.cons
        all_goals first | exact trivial | exact rfl | exact Nat.le_of_ble_eq_true rfl | exact Int.natCast_nonneg _ | exact hg | exact c4 | exact q2 | exact (show 0 + Int.toNat (k : Int) * 5 + 3 + 1 + 1 ≤ _ by rw [Int.toNat_natCast, hfL]; omega)
      case zk =>
      exact ⟨⟨.refl _, .refl _, .refl _, .refl _, .refl _, trivial⟩, trivial, ⟨hs, trivial⟩, Nat.le_of_ble_eq_true rfl⟩
  have hXl : (easeY y k r n3).length = y.length := by unfold easeY; rw [List.length_set]
  have hXo := easeY_ok hyo hkl r n3
  have hXr := easeY_run hyo hkl r n3 h4
  generalize easeY y k r n3 = X at *
  have hX := yardOk_iff.1 hXo
  have hXt : ∀ t ∈ o, -1 ≤ t ∧ t < X.length := fun t ht => by rw [hXl]; exact h3' t ht
  refine Aw.freezeS (id := 0) (t := 8) (n := y.length) (sz := 5) (cs := (X.map Cask.c).flatten) (X.map Cask.c) rfl rfl (rows_all (c := Cask.c) (sz := 5) (fun m => rfl) (fun m => rfl) X) (by rw [List.length_map]; exact hXl) ?_
  have uX : ∀ {m : Nat}, Under m (A.sl false .any (X.map Cask.c)) := (free_map Cask.free _ _ _).under
  refine Aw.keep (n := 0) (cst := [(0, .sl b .any (y.map Cask.c)), (5, .int M), (6, outW o), (8, .sl false .any (X.map Cask.c))]) (v := []) (Hl := []) hE ?zu ?zw ?zx ⟨?zc, ?zv, ?zh, Nat.le_of_ble_eq_true rfl⟩ ?zr
  case zu =>
    (repeat' (first | exact trivial | exact Under.s _ | exact (free_ints _ _ _).under | exact uy | exact uX | (refine And.intro ?_ ?_)))
  case zw =>
    (repeat' (first | exact trivial))
  case zx =>
    (repeat' (first | exact trivial))
  case zc =>
    (repeat' (first | (refine And.intro ?_ ?_) | exact trivial | exact A.Le.refl _))
  case zv =>
    (repeat' (first | exact trivial))
  case zh =>
    (repeat' (first | exact trivial))
  case zr =>
  have d1 := leaks_nil X false hX M hM
  have d2 := Run_r hXo false hM h2 hXt o.isEmpty []
  have hXr : (runGo X (fun k => lkv X [] k) o 0 (lev0 X)).2 = -1 := hXr
  rw [hXr] at d2
  have d3 := Keep_w X false (by omega) M
  obtain ⟨o2, e1, e2⟩ := keep_some hXo hM h2 hXt hXr
  rw [e1] at d3
  have lO2 := ints_lenI o2
  refine Aw.sm tab_ok mb0 [(4, [nlW (leaksL X [] M)]), (5, [.tup [outW ((runGo X (fun k => lkv X [] k) o 0 (lev0 X)).1.take X.length), .int (-1), .int 0]])] rfl rfl ?zo ?zk
  case zo =>
    repeat' apply AllP.cons
    all_goals first | exact trivial | exact d1 | exact d2
  case zk =>
  refine Aw.sm tab_ok mb0 [(2, [.tup [outW o2, .int 0]])] rfl rfl ?zo ?zk
  case zo =>
    repeat' apply AllP.cons
    all_goals first | exact trivial | exact d3
  case zk =>
  refine Aw.seq ?_
  refine Aw.sm tab_ok mb0 [] rfl rfl ?zo ?zk
  case zo =>
    repeat' apply AllP.cons
    all_goals first | exact trivial | exact id | exact fun _ => rfl
  case zk =>
  refine Aw.cond rfl (fun h => absurd h (by show ¬ (cond (cond (cond ((0 : Int) != 0) true ((0 : Int) != 0)) true ((-1 : Int) != -1)) true (((ints o2).length : Int) != (M : Int))) = true; rw [lO2, e2]; simp)) (fun h => Aw.skip ?_)
  refine Aw.seq ?_
  refine Aw.sm tab_ok mb0 [] rfl rfl ?zo ?zk
  case zo =>
    repeat' apply AllP.cons
    all_goals first | exact trivial
  case zk =>
  cases M with
  | zero =>
    refine Aw.cond rfl (fun h => ?_) (fun h => absurd h (by decide))
    refine Aw.sm tab_ok mb0 [(0, [.bool true])] rfl rfl ?zo ?zk
    case zo =>
      repeat' apply AllP.cons
      all_goals first | exact trivial | exact works_t
    case zk =>
    exact Aw.ret ⟨_, .cons (.tmp _) .nil, rfl⟩
  | succ m =>
    refine Aw.cond rfl (fun h => absurd h (by show ¬ (((m + 1 : Nat) : Int) == 0) = true; simp; omega)) (fun h => Aw.skip ?_)
    have em : ((m + 1 : Nat) : Int) - 1 = (m : Int) := by omega
    have f1 := leaks_nil y b hY m (by omega)
    have hol : (o.take m).length = m := by rw [List.length_take]; omega
    have hob : ∀ t ∈ o.take m, -1 ≤ t ∧ t < y.length := fun t ht => h3' t (List.mem_of_mem_take ht)
    have hor : (runGo y (fun k => lkv y [] k) (o.take m) 0 (lev0 y)).2 = -1 := run_take o m 0 _ h4
    have f2 := Run_r hyo b (show m ≤ 12 by omega) hol hob o.isEmpty []
    rw [hor] at f2
    have f3 := Keep_w y b hy m
    obtain ⟨o3, g1, g2⟩ := keep_some hyo (show m ≤ 12 by omega) hol hob hor
    rw [g1] at f3
    have lO3 := ints_lenI o3
    rw [← em] at f1 f3
    have ho0 : o.isEmpty = false := by cases o with
      | nil => simp at h2
      | cons x t => rfl
    have hst : (ints o).take (Int.toNat (((m + 1 : Nat) : Int) - 1)) = ints (o.take m) := by rw [em, Int.toNat_natCast]; unfold ints; rw [List.map_take]
    have f2 : Ans Try.prog 23 [.sl b .any (y.map Cask.c), .sl o.isEmpty .any (ints (o.take m)), nlW (leaksL y [] m)] (.tup [outW ((runGo y (fun k => lkv y [] k) (o.take m) 0 (lev0 y)).1.take y.length), .int (-1), .int 0]) := f2
    generalize (runGo y (fun k => lkv y [] k) (o.take m) 0 (lev0 y)).1.take y.length = Lz at *
    have lOn : ((ints o).length : Int) = ((m + 1 : Nat) : Int) := by rw [ints_lenI, h2]
    have i1 : inR (((m + 1 : Nat) : Int) - 1) := by simp only [inR]; omega
    rw [← hst] at f2
    refine Aw.sd tab_ok mixed mb0 [(8, [nlW (leaksL y [] m)]), (9, [.tup [outW Lz, .int (-1), .int 0]])] rfl (by kernel_rfl) rfl rfl ?zo ?zk
    case zo =>
      repeat' apply AllP.cons
      all_goals first | exact trivial | exact f1 | exact f2 | exact i1 | exact (show (0 : Int) ≤ ((m + 1 : Nat) : Int) - 1 by omega) | exact (show ((m + 1 : Nat) : Int) - 1 ≤ ((ints o).length : Int) by omega)
    case zk =>
    refine Aw.sm tab_ok mb0 [(3, [.tup [outW o3, .int 0]])] rfl rfl ?zo ?zk
    case zo =>
      repeat' apply AllP.cons
      all_goals first | exact trivial | exact f3 | exact i1
    case zk =>
    refine Aw.sm tab_ok mb0 [(18, [.bool true])] rfl rfl ?zo ?zk
    case zo =>
      repeat' apply AllP.cons
      all_goals first | exact trivial | exact id | exact fun _ => rfl | exact fun _ => works_t | exact fun _ => i1
    case zk =>
    exact Aw.ret ⟨_, .cons (.tmp _) .nil, by
      show A.bool (cond (((ints o3).length : Int) == ((m + 1 : Nat) : Int) - 1) true false) = A.bool true
      rw [lO3, em, g2]; simp⟩
end Go.Proofs.Ytampldajinhenaa

namespace Go.Proofs.Ytampldajinhenaa
open Go Go.AL Go.ChangeShapes Go.WideShapes Go.ChangeAt Go.RowKit
set_option maxRecDepth 100000 in
theorem barrelEasier_lifted (os : Os) (started : os.Started) (H : Type) (enc : TypeId × Value → H) :
    ReturnsInHanded {} Try.checked os 10 .any (Rows.barrelEasierSpec.pre6 enc Try.prog Try.f10 [] false) (Rows.barrelEasierSpec.post enc Try.prog Try.f10 false true false false) := by
  refine lifted2 (tb := 4) (C := Try.checked) own started (by kernel_rfl) Try.func10
    (ChangeSpec.witness6 (enc := enc) (C := Try.checked) false ⟨#[], #[.slice none 0 0, .agg #[.int .i64 0, .int .i64 0, .int .i64 0, .int .i64 0]], []⟩ 8 (by kernel_rfl) (by kernel_rfl) (by kernel_rfl) (by kernel_rfl))
    laidOut ?_ rfl rfl (by kernel_rfl) uBool ?_ ?_
  · rw [Try.params10]; exact all2t (p := fun t => Try.prog.readableRec t = true ∧ t < Try.prog.types.size) t35 t72
  · intro ds hd
    rw [Try.params10] at hd
    match ds, hd with
    | [d0, d1], _ => rfl
  · intro W base args ds p hval hA hwt
    rw [Try.params10] at hA hval
    obtain ⟨v0, v1, d0, d1, p0, p1, rfl, rfl, rfl, h0, h1⟩ := trodAll_two hA
    obtain ⟨b0, y0, q0, s0⟩ := arg_yard (φ := fun _ => none) (hval 0 35 v0 rfl rfl) h0 fun k hk => hwt k (List.mem_append.2 (.inl hk))
    obtain ⟨y1, q1⟩ := arg_4 (φ := fun _ => none) (hval 1 72 v1 rfl rfl) h1 fun k hk => hwt k (List.mem_append.2 (.inr (List.mem_append.2 (.inl hk))))
    exact ⟨_, _, vrs2 q0 q1, easier_l b0 y0 y1.1 y1.2.1 y1.2.2.1 y1.2.2.2 s0⟩
theorem barrelEasier_holds : Rows.BarrelEasierSaid :=
  OpenClaim.holds_of_wide 10 Try.f10 rfl rfl rfl rfl rfl rfl rfl ⟨rfl, rfl, rfl, rfl, rfl⟩ rfl rfl rfl rfl rfl (by kernel_rfl) Try.func10 (by kernel_rfl)
    (of_decide_eq_true (by kernel_rfl)) (by unfold Func.isWrapper; first | (rw [if_pos (by decide +kernel)]; kernel_rfl) | (rw [if_neg (by decide +kernel)]; exact ⟨rfl, rfl⟩))
    (fun os started H enc _ => barrelEasier_lifted os started H enc)
end Go.Proofs.Ytampldajinhenaa

