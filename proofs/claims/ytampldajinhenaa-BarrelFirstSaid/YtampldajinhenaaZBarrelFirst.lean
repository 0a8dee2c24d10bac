/- BarrelFirst holds: the barrel that is told first can be dry in the month that is told, and none before; each plan that keeps the yard tops it up earlier. No condition. -/
import Derived.Test.YtampldajinhenaaK6
set_option linter.all false
namespace Go.AL.Br
open Go Go.AL Go.AL.Q
def fillS (y : List Cask) (lv : List Int) (top : Int) : List Int := if top ≥ 0 then lv.set top.toNat (ck y top.toNat).full else lv
structure LvS (n : Nat) (l : List Int) : Prop where
  n : l.length = n
  b : ∀ x ∈ l, 0 ≤ x ∧ x ≤ 1000
theorem LvS.get {n : Nat} {l : List Int} (h : LvS n l) {i : Nat} (hi : i < n) : 0 ≤ l.getD i 0 ∧ l.getD i 0 ≤ 1000 := by
  have hl : i < l.length := by rw [h.n]; exact hi
  have e : l.getD i 0 = l[i] := by simp [List.getD_eq_getElem?_getD, hl]
  rw [e]; exact h.b _ (List.getElem_mem hl)
theorem LvS.fill {n : Nat} {l : List Int} (h : LvS n l) {y : List Cask} (hy : ∀ c ∈ y, c.Ok) (top : Int) : LvS n (fillS y l top) := by
  unfold fillS
  split
  · exact ⟨by rw [List.length_set]; exact h.n, fun z hz => by
      rcases List.mem_or_eq_of_mem_set hz with h1 | rfl
      · exact h.b z h1
      · have := ck_ok hy top.toNat; omega⟩
  · exact h
theorem take_getD {l : List Int} {n i : Nat} (h : i < n) : (l.take n).getD i 0 = l.getD i 0 := by
  simp [List.getD_eq_getElem?_getD, List.getElem?_take, h]
theorem fillL_len (y : List Cask) (l : List Int) (top : Int) : (fillL y l top).length = l.length := by unfold fillL; split <;> simp
end Go.AL.Br

namespace Go.AL.Br
open Go Go.AL Go.AL.Q
theorem mx0_mono {x y : Int} (h : x ≤ y) : mx0 x ≤ mx0 y := by unfold mx0; split <;> split <;> omega
theorem dryK_iff {y : List Cask} {of : Nat → Int} {l : List Int} : ∀ k : Nat, dryK y of l k < 0 ↔ ∀ i, i < k → (ck y i).line ≤ mx0 (l.getD i 0 - of i)
  | 0 => ⟨fun _ i h => by omega, fun _ => (show (-1 : Int) < 0 by decide)⟩
  | k + 1 => by
    have ih := dryK_iff (y := y) (of := of) (l := l) k
    rw [dryK]
    by_cases h1 : mx0 (l.getD k 0 - of k) < (ck y k).line
    · rw [decide_eq_true h1]
      by_cases h2 : dryK y of l k < 0
      · rw [decide_eq_true h2, if_pos (show cond true true false = true from rfl)]
        exact ⟨fun h => by omega, fun h => by have := h k (by omega); omega⟩
      · rw [decide_eq_false h2, if_neg (by simp)]
        exact ⟨fun h => absurd h h2, fun h => by have := h k (by omega); omega⟩
    · rw [decide_eq_false h1, if_neg (by simp), ih]
      exact ⟨fun h i hi => by
        rcases Nat.lt_succ_iff_lt_or_eq.1 hi with h3 | rfl
        · exact h i h3
        · omega, fun h i hi => h i (by omega)⟩
theorem dry_iff {y : List Cask} {of : Nat → Int} {l : List Int} : dryF y of l < 0 ↔ ∀ i, i < y.length → (ck y i).line ≤ mx0 (l.getD i 0 - of i) := dryK_iff _
theorem dryK_at {y : List Cask} {of : Nat → Int} {l : List Int} : ∀ {k : Nat} {w : Nat}, dryK y of l k = (w : Int) → w < k ∧ mx0 (l.getD w 0 - of w) < (ck y w).line ∧ ∀ i, i < w → (ck y i).line ≤ mx0 (l.getD i 0 - of i)
  | 0, w, h => by rw [dryK] at h; omega
  | k + 1, w, h => by
    rw [dryK] at h
    by_cases h1 : mx0 (l.getD k 0 - of k) < (ck y k).line
    · rw [decide_eq_true h1] at h
      by_cases h2 : dryK y of l k < 0
      · rw [decide_eq_true h2, if_pos (show cond true true false = true from rfl)] at h
        have e : k = w := by omega
        subst e
        exact ⟨Nat.lt_succ_self _, h1, dryK_iff _ |>.1 h2⟩
      · rw [decide_eq_false h2, if_neg (by simp)] at h
        have := dryK_at h
        exact ⟨by omega, this.2⟩
    · rw [decide_eq_false h1, if_neg (by simp)] at h
      have := dryK_at h
      exact ⟨by omega, this.2⟩
theorem leak_get {y : List Cask} {of : Nat → Int} {l : List Int} (hl : y.length ≤ l.length) {i : Nat} (hi : i < y.length) : (leakL y of l).getD i 0 = mx0 (l.getD i 0 - of i) := by
  unfold leakL
  rw [lkK_get (by omega), if_pos hi]
theorem leak_len (y : List Cask) (of : Nat → Int) (l : List Int) : (leakL y of l).length = l.length := lkK_len ..
theorem fill_get {y : List Cask} {l : List Int} {t : Int} {i : Nat} (hi : i < l.length) : (fillL y l t).getD i 0 = if t = (i : Int) then (ck y i).full else l.getD i 0 := by
  unfold fillL
  by_cases h : 0 ≤ t
  · rw [if_pos h, List.getD_eq_getElem?_getD, List.getElem?_set]
    by_cases e : t.toNat = i
    · subst e
      rw [if_pos rfl, if_pos hi, if_pos (by omega)]; rfl
    · rw [if_neg e, if_neg (by omega), List.getD_eq_getElem?_getD]
  · rw [if_neg h, if_neg (by omega)]
theorem set_fill (y : List Cask) (l : List Int) (k : Nat) : l.set k (ck y k).full = fillL y l k := by
  unfold fillL
  rw [if_pos (Int.natCast_nonneg k), Int.toNat_natCast]
def Dom (n : Nat) (a b : List Int) : Prop := ∀ i, i < n → b.getD i 0 ≤ a.getD i 0
theorem Dom.refl (n : Nat) (a : List Int) : Dom n a a := fun _ _ => Int.le_refl _
theorem Dom.trans {n : Nat} {a b c : List Int} (h : Dom n a b) (k : Dom n b c) : Dom n a c := fun i hi => Int.le_trans (k i hi) (h i hi)
structure Ez (x y : List Cask) : Prop where
  n : x.length = y.length
  l : ∀ i, i < y.length → (ck x i).line ≤ (ck y i).line
  f : ∀ i, i < y.length → (ck x i).full = (ck y i).full
theorem Ez.refl (y : List Cask) : Ez y y := ⟨rfl, fun _ _ => Int.le_refl _, fun _ _ => rfl⟩
theorem Dom.dry {x y : List Cask} (hz : Ez x y) {a b : List Int} (h : Dom y.length a b) {ox oy : Nat → Int} (ho : ∀ i, i < y.length → ox i ≤ oy i) (hd : dryF y oy b < 0) : dryF x ox a < 0 := dry_iff.2 fun i hi => by
  rw [hz.n] at hi
  have h1 := dry_iff.1 hd i hi
  have h2 := hz.l i hi
  have h3 := h i hi
  have h4 := ho i hi
  have h5 : mx0 (b.getD i 0 - oy i) ≤ mx0 (a.getD i 0 - ox i) := mx0_mono (by omega)
  omega
theorem Dom.leak {x y : List Cask} (hz : Ez x y) {a b : List Int} (ha : y.length ≤ a.length) (hb : y.length ≤ b.length) (h : Dom y.length a b) {ox oy : Nat → Int} (ho : ∀ i, i < y.length → ox i ≤ oy i) : Dom y.length (leakL x ox a) (leakL y oy b) := fun i hi => by
  rw [leak_get hb hi, leak_get (by rw [hz.n]; exact ha) (by rw [hz.n]; exact hi)]
  have h3 := h i hi
  have h4 := ho i hi
  exact mx0_mono (by omega)
theorem Dom.fill {x y : List Cask} (hz : Ez x y) {a b : List Int} (ha : y.length ≤ a.length) (hb : y.length ≤ b.length) (h : Dom y.length a b) (t : Int) : Dom y.length (fillL x a t) (fillL y b t) := fun i hi => by
  rw [fill_get (by omega), fill_get (by omega), hz.f i hi]
  have := h i hi
  split <;> omega
theorem run_len {y : List Cask} {of : Nat → Nat → Int} : ∀ (ts : List Int) (m : Nat) (l : List Int), (runGo y of ts m l).1.length = l.length
  | [], m, l => rfl
  | t :: ts, m, l => by
    rw [runGo]
    split
    · exact leak_len _ _ _
    · rw [run_len ts (m + 1), fillL_len, leak_len]
theorem run_ext {y : List Cask} {o1 o2 : Nat → Nat → Int} : ∀ (ts : List Int) (m : Nat) (l : List Int), y.length ≤ l.length → (∀ k i, m ≤ k → k < m + ts.length → i < y.length → o1 k i = o2 k i) → runGo y o1 ts m l = runGo y o2 ts m l
  | [], m, l, _, _ => rfl
  | t :: ts, m, l, hl, h => by
    have h1 : ∀ i, i < y.length → o1 m i = o2 m i := fun i hi => h m i (Nat.le_refl _) (by simp) hi
    have e1 : leakL y (o1 m) l = leakL y (o2 m) l := by
      unfold leakL lkK
      refine List.ext_getElem (by simp) fun i p q => ?_
      simp only [List.getElem_mapIdx]
      split
      · rename_i hi; rw [h1 i hi]
      · rfl
    have e2 : ∀ k, k ≤ y.length → dryK y (o1 m) l k = dryK y (o2 m) l k := fun k => by
      induction k with
      | zero => intro _; rfl
      | succ k ih => intro hk; rw [dryK, dryK, ih (by omega), h1 k (by omega)]
    have e2 : dryF y (o1 m) l = dryF y (o2 m) l := e2 _ (Nat.le_refl _)
    rw [runGo, runGo, e1, e2, run_ext ts (m + 1) _ (by rw [fillL_len, leak_len]; exact hl) (fun k i a b c => h k i (by omega) (by simp only [List.length_cons]; omega) c)]
structure LvIn (y : List Cask) (l : List Int) : Prop where
  n : y.length ≤ l.length
  b : ∀ i, i < y.length → 0 ≤ l.getD i 0 ∧ l.getD i 0 ≤ (ck y i).full
theorem LvIn.leak {y : List Cask} {l : List Int} (h : LvIn y l) {of : Nat → Int} (ho : ∀ i, i < y.length → 0 ≤ of i) : LvIn y (leakL y of l) :=
  ⟨by rw [leak_len]; exact h.n, fun i hi => by
    rw [leak_get h.n hi]
    have h1 := h.b i hi
    have h2 := ho i hi
    unfold mx0; split <;> omega⟩
theorem LvIn.fill {y : List Cask} (hy : ∀ c ∈ y, c.Ok) {l : List Int} (h : LvIn y l) (t : Int) : LvIn y (fillL y l t) :=
  ⟨by rw [fillL_len]; exact h.n, fun i hi => by
    rw [fill_get (by have := h.n; omega)]
    have h1 := h.b i hi
    have h2 := ck_ok hy i
    split <;> omega⟩
theorem LvIn.start {y : List Cask} (hy : YardOk y) : LvIn y (lev0 y) := ⟨by show y.length ≤ 4; exact hy.n.2, fun i hi => by
  have hn := hy.n.2
  have e : (lev0 y).getD i 0 = (ck y i).level := by
    rcases (show i = 0 ∨ i = 1 ∨ i = 2 ∨ i = 3 by omega) with rfl | rfl | rfl | rfl <;> rfl
  rw [e, ck_get hi]
  exact (hy.c _ (List.getElem_mem hi)).l⟩
theorem findGo_some {rec : List Int → Option (List Int)} {y : List Cask} {l : List Int} : ∀ {ks : List Nat} {o : List Int}, findGo rec y l ks = some o → ∃ k o', k ∈ ks ∧ o = (k : Int) :: o' ∧ rec (l.set k (ck y k).full) = some o'
  | [], o, h => by cases h
  | k :: ks, o, h => by
    rw [findGo] at h
    split at h
    · obtain ⟨k', o', h1, h2⟩ := findGo_some h
      exact ⟨k', o', List.mem_cons_of_mem _ h1, h2⟩
    · split at h
      · rename_i o' ho
        cases h
        exact ⟨k, o', by simp, rfl, ho⟩
      · obtain ⟨k', o', h1, h2⟩ := findGo_some h
        exact ⟨k', o', List.mem_cons_of_mem _ h1, h2⟩
theorem findGo_none {rec : List Int → Option (List Int)} {y : List Cask} {l : List Int} : ∀ {ks : List Nat}, findGo rec y l ks = none → ∀ k ∈ ks, (l.set k (ck y k).full = l ∧ 0 < k) ∨ rec (l.set k (ck y k).full) = none
  | [], h, k, hk => by cases hk
  | k :: ks, h, j, hj => by
    rw [findGo] at h
    split at h
    · rename_i hc
      rcases List.mem_cons.1 hj with rfl | hj
      · rw [c_and, Bool.and_eq_true, beq_iff_eq, decide_eq_true_eq] at hc
        exact .inl hc
      · exact findGo_none h j hj
    · split at h
      · cases h
      · rename_i hn
        rcases List.mem_cons.1 hj with rfl | hj
        · exact .inr hn
        · exact findGo_none h j hj
theorem find_run {y : List Cask} : ∀ (f : Nat) (l o : List Int) (m : Nat), findF y f l = some o → o.length = f ∧ (∀ t ∈ o, 0 ≤ t ∧ t < y.length) ∧ (runGo y (fun _ => mostOf y) o m l).2 = -1
  | 0, l, o, m, h => by cases h; exact ⟨rfl, (fun t h => nomatch h), rfl⟩
  | f + 1, l, o, m, h => by
    rw [findF] at h
    split at h
    · cases h
    · rename_i hd
      obtain ⟨k, o', h1, rfl, h2⟩ := findGo_some h
      obtain ⟨h3, h4, h5⟩ := find_run f _ o' (m + 1) h2
      have hk := List.mem_range.1 h1
      refine ⟨by rw [List.length_cons, h3], fun t ht => ?_, ?_⟩
      · rcases List.mem_cons.1 ht with rfl | ht
        · omega
        · exact h4 t ht
      · rw [runGo, if_neg hd, ← set_fill]; exact h5
theorem find_has {y : List Cask} (hy : YardOk y) : ∀ (ts : List Int) (m : Nat) (a b : List Int), LvIn y a → y.length ≤ b.length → Dom y.length a b → (∀ t ∈ ts, -1 ≤ t ∧ t < y.length) → (runGo y (fun _ => mostOf y) ts m b).2 = -1 → findF y ts.length a ≠ none
  | [], m, a, b, _, _, _, _, _ => fun h => by cases h
  | t :: ts, m, a, b, ha, hb, h, ht, hr => by
    intro hn
    rw [List.length_cons, findF] at hn
    rw [runGo] at hr
    by_cases hd : dryF y (mostOf y) b ≥ 0
    · rw [if_pos hd] at hr
      have hr : (m : Int) = -1 := hr
      omega
    rw [if_neg hd] at hr
    have hd2 := h.dry (Ez.refl y) (ox := mostOf y) (oy := mostOf y) (fun _ _ => Int.le_refl _) (by omega)
    rw [if_neg (by omega)] at hn
    have hno : ∀ i, i < y.length → 0 ≤ mostOf y i := fun i _ => by have := ck_ok hy.c i; unfold mostOf; omega
    have ha' := ha.leak hno
    have hdom := h.leak (Ez.refl y) ha.n hb (ox := mostOf y) (oy := mostOf y) (fun _ _ => Int.le_refl _)
    have hbl : y.length ≤ (leakL y (mostOf y) b).length := by rw [leak_len]; exact hb
    generalize leakL y (mostOf y) a = a' at *
    generalize leakL y (mostOf y) b = b' at *
    have hy1 := hy.n
    have ht0 := ht t (by simp)
    have htr := fun t' h => ht t' (List.mem_cons_of_mem _ h)
    have hlen : ∀ t', y.length ≤ (fillL y b' t').length := fun t' => by rw [fillL_len]; exact hbl
    have key : ∀ k, k < y.length → Dom y.length (a'.set k (ck y k).full) (fillL y b' t) → findF y ts.length (a'.set k (ck y k).full) ≠ none := fun k hk hD =>
      find_has hy ts (m + 1) _ _ (by rw [set_fill]; exact ha'.fill hy.c k) (hlen t) hD htr hr
    have zero : Dom y.length a' (fillL y b' t) → False := fun hD => by
      have h0 : Dom y.length (a'.set 0 (ck y 0).full) (fillL y b' t) := fun i hi => by
        have h1 := hD i hi
        have h2 := ha'.b i hi
        rw [set_fill, fill_get (l := a') (by have := ha'.n; omega)]
        split
        · rename_i e
          have e : i = 0 := by omega
          subst e
          omega
        · exact h1
      rcases findGo_none hn 0 (List.mem_range.2 (by omega)) with h1 | h1
      · omega
      · exact key 0 (by omega) h0 h1
    by_cases ht1 : t < 0
    · refine zero fun i hi => ?_
      rw [fill_get (by omega), if_neg (by omega)]
      exact hdom i hi
    · obtain ⟨k, rfl⟩ : ∃ k : Nat, t = k := ⟨t.toNat, by omega⟩
      have hD : Dom y.length (a'.set k (ck y k).full) (fillL y b' k) := by rw [set_fill]; exact hdom.fill (Ez.refl y) ha'.n hbl k
      rcases findGo_none hn k (List.mem_range.2 (by omega)) with h1 | h1
      · rw [h1.1] at hD; exact zero hD
      · exact key k (by omega) hD h1
end Go.AL.Br

namespace Go.AL.Br
open Go Go.AL Go.AL.Q
def planV (y : List Cask) (bits : List Int) (k : Nat) : Int := pickF bits ((k : Int) + 1) % ((y.length : Int) + 1) - 1
def planL (y : List Cask) (bits : List Int) (M : Nat) : List Int := (List.range M).map (planV y bits)
theorem planL_len (y : List Cask) (bits : List Int) (M : Nat) : (planL y bits M).length = M := by simp [planL]
theorem planL_succ (y : List Cask) (bits : List Int) (M : Nat) : planL y bits (M + 1) = planL y bits M ++ [planV y bits M] := by unfold planL; rw [List.range_succ, List.map_append]; rfl
theorem planV_bd {y : List Cask} (hy : YardOk y) (bits : List Int) (k : Nat) : -1 ≤ planV y bits k ∧ planV y bits k < y.length := by
  have h1 := Int.emod_nonneg (pickF bits ((k : Int) + 1)) (show (y.length : Int) + 1 ≠ 0 by omega)
  have h2 := Int.emod_lt_of_pos (pickF bits ((k : Int) + 1)) (show 0 < (y.length : Int) + 1 by omega)
  unfold planV; omega
theorem planL_bd {y : List Cask} (hy : YardOk y) (bits : List Int) (M : Nat) : ∀ t ∈ planL y bits M, -1 ≤ t ∧ t < y.length := fun t ht => by
  obtain ⟨k, _, rfl⟩ := List.mem_map.1 ht
  exact planV_bd hy bits k
def lkv (y : List Cask) (bits : List Int) (k i : Nat) : Int := if bits.length = 0 then (ck y i).hi else chosenF (ck y i).lo (ck y i).hi (pickF bits (3 * k + i))
def rowL (y : List Cask) (bits : List Int) (k n : Nat) : List Int := (List.range n).map (lkv y bits k)
theorem rowL_len (y : List Cask) (bits : List Int) (k n : Nat) : (rowL y bits k n).length = n := by simp [rowL]
theorem rowL_succ (y : List Cask) (bits : List Int) (k n : Nat) : rowL y bits k (n + 1) = rowL y bits k n ++ [lkv y bits k n] := by unfold rowL; rw [List.range_succ, List.map_append]; rfl
theorem rowL_get {y : List Cask} {bits : List Int} {k n i : Nat} (h : i < n) : (rowL y bits k n).getD i 0 = lkv y bits k i := by simp [rowL, List.getD_eq_getElem?_getD, h]
def leaksL (y : List Cask) (bits : List Int) (M : Nat) : List NL := (List.range M).map fun k => ⟨false, rowL y bits k y.length⟩
theorem leaksL_len (y : List Cask) (bits : List Int) (M : Nat) : (leaksL y bits M).length = M := by simp [leaksL]
theorem leaksL_succ (y : List Cask) (bits : List Int) (M : Nat) : leaksL y bits (M + 1) = leaksL y bits M ++ [⟨false, rowL y bits M y.length⟩] := by unfold leaksL; rw [List.range_succ, List.map_append]; rfl
theorem leaksL_get {y : List Cask} {bits : List Int} {M k : Nat} (h : k < M) : (leaksL y bits M).getD k ⟨true, []⟩ = ⟨false, rowL y bits k y.length⟩ := by simp [leaksL, List.getD_eq_getElem?_getD, h]
theorem lkOf_leaks {y : List Cask} {bits : List Int} {M k i : Nat} (h : k < M) (hi : i < y.length) : lkOf (leaksL y bits M) k i = lkv y bits k i := by
  unfold lkOf
  rw [leaksL_get h]
  exact rowL_get hi
theorem lkv_bd {y : List Cask} (hy : YardOk y) (bits : List Int) (k i : Nat) : (ck y i).lo ≤ lkv y bits k i ∧ lkv y bits k i ≤ (ck y i).hi := by
  have := ck_ok hy.c i
  unfold lkv
  split
  · omega
  · exact chosen_in (by omega)
theorem plan_ok {y : List Cask} (hy : YardOk y) {ts : List Int} {M : Nat} (hM : M ≤ 12) (hl : ts.length = M) (ht : ∀ t ∈ ts, -1 ≤ t ∧ t < y.length) (bits : List Int) : planOk y ts (leaksL y bits M) = true := planOk_iff.2
  ⟨by omega, by rw [leaksL_len]; omega, fun m hm => by
    have e : ts.getD m 0 = ts[m] := by simp [List.getD_eq_getElem?_getD, hm]
    rw [e]; exact ht _ (List.getElem_mem hm),
   fun m hm => by rw [leaksL_get (by omega)]; exact rowL_len ..,
   fun m i hm hi => by rw [lkOf_leaks (by omega) hi]; exact lkv_bd hy bits m i⟩
theorem run_R {y : List Cask} (hyo : yardOk y = true) {ts : List Int} {M : Nat} (hM : M ≤ 12) (hl : ts.length = M) (ht : ∀ t ∈ ts, -1 ≤ t ∧ t < y.length) (bits : List Int) :
    RunR y ts (leaksL y bits M) = ((runGo y (fun k => lkv y bits k) ts 0 (lev0 y)).1.take y.length, (runGo y (fun k => lkv y bits k) ts 0 (lev0 y)).2, 0) := by
  have hy := yardOk_iff.1 hyo
  unfold RunR
  rw [if_pos hyo, if_pos (plan_ok hy hM hl ht bits), run_ext ts 0 (lev0 y) (by show y.length ≤ 4; exact hy.n.2) (fun k i _ h2 h3 => lkOf_leaks (by omega) h3)]
theorem keep_R {y : List Cask} (hyo : yardOk y = true) {M : Nat} (hM : M ≤ 12) :
    (∃ o, KeepR y M = (o, 0) ∧ o.length = M ∧ (∀ t ∈ o, 0 ≤ t ∧ t < y.length) ∧ (runGo y (fun _ => mostOf y) o 0 (lev0 y)).2 = -1) ∨
    (KeepR y M = ([], 4) ∧ ∀ ts : List Int, ts.length = M → (∀ t ∈ ts, -1 ≤ t ∧ t < y.length) → (runGo y (fun _ => mostOf y) ts 0 (lev0 y)).2 ≠ -1) := by
  have hy := yardOk_iff.1 hyo
  unfold KeepR
  rw [if_pos hyo, if_pos (wi_iff.2 (by omega)), Int.toNat_natCast]
  cases h : findF y M (lev0 y) with
  | some o =>
    have := find_run M _ o 0 h
    exact .inl ⟨o, rfl, this⟩
  | none =>
    refine .inr ⟨rfl, fun ts hl ht hr => ?_⟩
    have := find_has hy ts 0 (lev0 y) (lev0 y) (LvIn.start hy) (by show y.length ≤ 4; exact hy.n.2) (Dom.refl _ _) ht hr
    rw [hl] at this
    exact this h
end Go.AL.Br

namespace Go.AL.Br
open Go Go.AL Go.AL.Q
theorem fill_idle (y : List Cask) (l : List Int) : fillL y l (-1) = l := by unfold fillL; rw [if_neg (by decide)]
theorem first_run {y : List Cask} : ∀ (f m : Nat) (l : List Int), y.length ≤ l.length →
    ((runGo y (fun _ => mostOf y) (List.replicate f (-1)) m l).2 = -1 ∧ firstGo y f m l = (0, 0, 4)) ∨
    ∃ w d : Nat, firstGo y f m l = ((w : Int), (d : Int), 0) ∧ (runGo y (fun _ => mostOf y) (List.replicate f (-1)) m l).2 = d ∧ m ≤ d ∧ d < m + f ∧ w < y.length ∧ (runGo y (fun _ => mostOf y) (List.replicate f (-1)) m l).1.getD w 0 < (ck y w).line ∧
      ∀ i, i < w → (ck y i).line ≤ (runGo y (fun _ => mostOf y) (List.replicate f (-1)) m l).1.getD i 0
  | 0, m, l, _ => .inl ⟨rfl, rfl⟩
  | f + 1, m, l, hl => by
    rw [List.replicate_succ, runGo, firstGo]
    by_cases hd : dryF y (mostOf y) l ≥ 0
    · rw [if_pos hd, if_pos hd]
      obtain ⟨w, hw⟩ : ∃ w : Nat, dryF y (mostOf y) l = w := ⟨(dryF y (mostOf y) l).toNat, by omega⟩
      obtain ⟨h1, h2, h3⟩ := dryK_at (show dryK y (mostOf y) l y.length = w from hw)
      refine .inr ⟨w, m, by rw [hw], rfl, Nat.le_refl _, by omega, h1, ?_, fun i hi => ?_⟩
      · show (leakL y (mostOf y) l).getD w 0 < _
        rw [leak_get hl h1]; exact h2
      · show _ ≤ (leakL y (mostOf y) l).getD i 0
        rw [leak_get hl (by omega)]; exact h3 i hi
    · rw [if_neg hd, if_neg hd, fill_idle]
      rcases first_run f (m + 1) (leakL y (mostOf y) l) (by rw [leak_len]; exact hl) with h | ⟨w, d, h1, h2, h3, h4, h5⟩
      · exact .inl h
      · exact .inr ⟨w, d, h1, h2, by omega, by omega, h5⟩
theorem top_up {y : List Cask} : ∀ (f m : Nat) (a b ts : List Int) (w d : Nat), y.length ≤ a.length → y.length ≤ b.length → ts.length = f → a.getD w 0 = b.getD w 0 → firstGo y f m b = ((w : Int), (d : Int), 0) → (runGo y (fun _ => mostOf y) ts m a).2 = -1 →
    ∃ k, k < ts.length ∧ ts.getD k 0 = (w : Int) ∧ m + k < d
  | 0, m, a, b, ts, w, d, _, _, _, _, h, _ => by rw [firstGo] at h; cases h
  | f + 1, m, a, b, [], w, d, _, _, hl, _, _, _ => by cases hl
  | f + 1, m, a, b, t :: ts, w, d, ha, hb, hl, he, hf, hr => by
    have hl : ts.length = f := by simpa using hl
    rw [firstGo] at hf
    rw [runGo] at hr
    by_cases hda : dryF y (mostOf y) a ≥ 0
    · rw [if_pos hda] at hr
      have hr : (m : Int) = -1 := hr
      omega
    rw [if_neg hda] at hr
    by_cases hd : dryF y (mostOf y) b ≥ 0
    · rw [if_pos hd] at hf
      have hw : dryF y (mostOf y) b = w := congrArg Prod.fst hf
      obtain ⟨h1, h2, _⟩ := dryK_at (show dryK y (mostOf y) b y.length = w from hw)
      have := dry_iff.1 (show dryF y (mostOf y) a < 0 by omega) w h1
      rw [he] at this
      omega
    rw [if_neg hd] at hf
    have hlb : y.length ≤ (leakL y (mostOf y) b).length := by rw [leak_len]; exact hb
    have hla : y.length ≤ (leakL y (mostOf y) a).length := by rw [leak_len]; exact ha
    have hw : w < y.length ∧ m + 1 ≤ d := by
      rcases first_run f (m + 1) (leakL y (mostOf y) b) hlb with h | ⟨w', d', h1, h2, h3, h4, h5, _⟩
      · rw [h.2] at hf; cases hf
      · rw [h1] at hf
        have e1 : (w' : Int) = w := congrArg Prod.fst hf
        have e2 : (d' : Int) = d := congrArg (fun x => x.2.1) hf
        omega
    by_cases ht : t = (w : Int)
    · exact ⟨0, by simp, by rw [← ht]; rfl, by omega⟩
    · have h1 : (fillL y (leakL y (mostOf y) a) t).getD w 0 = (leakL y (mostOf y) b).getD w 0 := by
        rw [fill_get (by omega), if_neg ht, leak_get ha hw.1, leak_get hb hw.1, he]
      obtain ⟨k, k1, k2, k3⟩ := top_up f (m + 1) _ _ ts w d (by rw [fillL_len]; exact hla) hlb hl h1 hf hr
      exact ⟨k + 1, by rw [List.length_cons]; omega, by rw [List.getD_cons_succ]; exact k2, by omega⟩
theorem first_R {y : List Cask} (hyo : yardOk y = true) {M : Nat} (hM : M ≤ 12) :
    ((runGo y (fun _ => mostOf y) (List.replicate M (-1)) 0 (lev0 y)).2 = -1 ∧ FirstR y M = (0, 0, 4)) ∨
    ∃ w d : Nat, FirstR y M = ((w : Int), (d : Int), 0) ∧ (runGo y (fun _ => mostOf y) (List.replicate M (-1)) 0 (lev0 y)).2 = d ∧ d < M ∧ w < y.length ∧ (runGo y (fun _ => mostOf y) (List.replicate M (-1)) 0 (lev0 y)).1.getD w 0 < (ck y w).line ∧
      (∀ i, i < w → (ck y i).line ≤ (runGo y (fun _ => mostOf y) (List.replicate M (-1)) 0 (lev0 y)).1.getD i 0) ∧
      ∀ ts : List Int, ts.length = M → (runGo y (fun _ => mostOf y) ts 0 (lev0 y)).2 = -1 → ∃ k, k < ts.length ∧ ts.getD k 0 = (w : Int) ∧ k < d := by
  have hy := yardOk_iff.1 hyo
  have hl : y.length ≤ (lev0 y).length := by show y.length ≤ 4; exact hy.n.2
  have e : FirstR y M = firstGo y M 0 (lev0 y) := by
    unfold FirstR
    rw [if_pos hyo, if_pos (wi_iff.2 (by omega)), Int.toNat_natCast]
  rw [e]
  rcases first_run M 0 (lev0 y) hl with h | ⟨w, d, h1, h2, _, h4, h5, h6, h7⟩
  · exact .inl h
  · refine .inr ⟨w, d, h1, h2, by omega, h5, h6, h7, fun ts ht hr => ?_⟩
    obtain ⟨k, k1, k2, k3⟩ := top_up M 0 (lev0 y) (lev0 y) ts w d hl hl ht rfl h1 hr
    exact ⟨k, k1, k2, by omega⟩
end Go.AL.Br

namespace Go.Proofs.Ytampldajinhenaa
open Go Go.AL Go.AL.Q Go.AL.Br
end Go.Proofs.Ytampldajinhenaa

namespace Go.Proofs.Ytampldajinhenaa
open Go Go.AL Go.AL.Q Go.AL.Br
end Go.Proofs.Ytampldajinhenaa

namespace Go.Proofs.Ytampldajinhenaa
open Go Go.AL Go.AL.Q Go.AL.Br
theorem sound_t (y : List Cask) (b : Bool) (hy : (y.length : Int) ≤ 9223372036854775806) : Ans Try.prog 45 [.sl b .any (y.map Cask.c)] (.bool (yardOk y)) := by
  have ll : ((y.map Cask.c).length : Int) = y.length := by simp
  have c1 := yard_chk y b hy
  have hk : yardChk y = if yardOk y then 0 else 61 := rfl
  have hw : yardOk y = true → wi y.length 1 4 = true := fun h => by
    have := (yardOk_iff.1 h).n
    exact wi_iff.2 (by omega)
  refine told Try.func45 rfl rfl (Pure.of tab_ok Try.func45 rfl Try.ntmps45 rfl (all1 (free_map Cask.free _ _ _)) (all1 (fun _ => rfl)) (by first | exact .s _ | assumption | exact .tup _ (by intro x hx; simp only [List.mem_cons, List.not_mem_nil, or_false] at hx; rcases hx with rfl | rfl | rfl | rfl <;> first | exact .s _ | (simp_all; done))) fun E hE => ?_)
  refine Aw.sm tab_ok mb0 [] rfl rfl ?zo ?zk
  case zo =>
    repeat' apply AllP.cons
    all_goals first | exact trivial
  case zk =>
  refine Aw.sm tab_ok mb0 [(1, [.int (yardChk y)]), (6, [.bool (wi y.length 1 4)])] rfl rfl ?zo ?zk
  case zo =>
    repeat' apply AllP.cons
    all_goals first | exact trivial | exact id | exact fun _ => rfl | exact c1 | exact (by rw [ll]; exact fun _ => in_t _ _ _)
  case zk =>
  refine Aw.ret ⟨_, .cons (.tmp _) .nil, ?_⟩
  show A.bool (cond (yardChk y == 0) (wi y.length 1 4) false) = A.bool (yardOk y)
  rw [hk]
  cases h : yardOk y with
  | true => rw [hw h]; rfl
  | false => rfl
theorem plan_t (y : List Cask) (b : Bool) (hy : YardOk y) (M : Nat) (hM : M ≤ 12) (lb : Bool) (bits : List Int) (hb : (bits.length : Int) ≤ 9223372036854775806) : Ans Try.prog 46 [.sl b .any (y.map Cask.c), .int M, .sl lb .any (ints bits)] (outW (planL y bits M)) := by
  have ll : ((y.map Cask.c).length : Int) = y.length := by simp
  have fy : Free (.sl b .any (y.map Cask.c)) := free_map Cask.free _ _ _
  have fb : Free (.sl lb .any (ints bits)) := free_ints _ _ _
  have uy : ∀ {m : Nat}, Under m (A.sl b .any (y.map Cask.c)) := fy.under
  have ub : ∀ {m : Nat}, Under m (A.sl lb .any (ints bits)) := fb.under
  have hfr : Free (outW (planL y bits M)) := outW_free _
  have hn := hy.n
  have hS := planL_succ y bits
  have hpv := planV_bd hy bits
  refine told Try.func46 rfl rfl (Pure.of tab_ok Try.func46 rfl Try.ntmps46 rfl (allC (fy) (allC (.s _) (all1 (fb)))) (allC (fun _ => rfl) (allC (fun _ => rfl) (all1 (fun _ => rfl)))) (by first | exact .s _ | assumption | exact .tup _ (by intro x hx; simp only [List.mem_cons, List.not_mem_nil, or_false] at hx; rcases hx with rfl | rfl | rfl | rfl <;> first | exact .s _ | (simp_all; done))) fun E hE => ?_)
  refine Aw.sm tab_ok mb0 [] rfl rfl ?zo ?zk
  case zo =>
    repeat' apply AllP.cons
    all_goals first | exact trivial
  case zk =>
  refine Aw.sm tab_ok mb0 [] rfl rfl ?zo ?zk
  case zo =>
    repeat' apply AllP.cons
    all_goals first | exact trivial
  case zk =>
  refine Aw.seq ?_
  refine Aw.sm tab_ok mb0 [] rfl rfl ?zo ?zk
  case zo =>
    repeat' apply AllP.cons
    all_goals first | exact trivial
  case zk =>
  refine Aw.block (Aw.rounds 0 hE [(0, .sl b .any (y.map Cask.c)), (1, .int M), (2, .sl lb .any (ints bits))] (fun k : Nat => [(7, grL 3 (planL y bits k)), (8, .int k)]) (fun k => []) (fun k => k ≤ M) (fun k => M - k) 0 ?zg ⟨?zc, ?zv, ?zh, Nat.le_of_ble_eq_true rfl⟩ ?zu (fun k zhk => ?zw) (fun k zhk => ?zx) fun k hk => ?zr)
  case zg =>
    (repeat' (first | exact Nat.zero_le _))
  case zc =>
    (repeat' (first | (refine And.intro ?_ ?_) | exact trivial | exact A.Le.refl _))
  case zv =>
    (repeat' (first | (refine And.intro ?_ ?_) | exact trivial | exact A.Le.refl _))
  case zh =>
    (repeat' (first | exact trivial))
  case zu =>
    (repeat' (first | exact trivial | exact Under.s _ | exact (free_ints _ _ _).under | exact uy | (refine And.intro ?_ ?_)))
  case zw =>
    (repeat' (first | exact trivial | exact Under.s _ | exact grL_under _ | (refine And.intro ?_ ?_)))
  case zx =>
    (repeat' (first | exact trivial))
  case zr =>
  refine Aw.seq ?_
  refine Aw.sm tab_ok mb0 [] rfl rfl ?zo ?zk
  case zo =>
    repeat' apply AllP.cons
    all_goals first | exact trivial
  case zk =>
  refine Aw.cond rfl (fun h1 => Aw.skip ?_) (fun h1 => ?_)
  · have hlt : k < M := by have := of_decide_eq_true h1; omega
    have hSk := hS k
    have hlk := planL_len y bits k
    have hp := pick_t lb bits ((k : Int) + 1) (by omega)
    have hm := mod_t (pickF bits ((k : Int) + 1)) ((y.length : Int) + 1) (by omega) (by omega)
    rw [← ll] at hm
    have hmb := hpv k
    have hv : pickF bits ((k : Int) + 1) % ((y.length : Int) + 1) - 1 = planV y bits k := rfl
    rw [ll] at hm
    generalize pickF bits ((k : Int) + 1) = q at *
    generalize q % ((y.length : Int) + 1) = r at *
    generalize planV y bits k = v at *
    have hm : Ans Try.prog 41 [.int q, .int (((y.map Cask.c).length : Int) + 1)] (.int r) := by rw [ll]; exact hm
    generalize hv1 : planL y bits (k + 1) = G1 at *
    generalize planL y bits k = G at *
    have hone : ∀ z ∈ [[A.int (r - 1)]], z.length = 1 := fun z hz => by simp at hz; subst hz; rfl
    refine Aw.seq (Aw.block ?_)
    cases G with
    | nil =>
      refine Aw.em tab_ok mb0 [(4, [.int q]), (8, [.int r])] rfl rfl ?zo ?zk
      case zo =>
        repeat' apply AllP.cons
        all_goals first | exact trivial | exact Nat.le_of_ble_eq_true rfl | exact hp | exact hm | exact hone | exact inrk k (by omega) | exact (show inR (((y.map Cask.c).length : Int) + 1) by rw [ll]; exact inrk _ (by omega)) | exact (show inR (r - 1) by simp only [inR]; omega)
      case zk =>
      refine Aw.em tab_ok mb0 [] rfl rfl ?zo ?zk
      case zo =>
        repeat' apply AllP.cons
        all_goals first | exact trivial | exact inrk k (by omega)
      case zk =>
      refine ⟨k + 1, ?zg, ?zm, ⟨?zc, ?zv, ?zh, Nat.le_of_ble_eq_true rfl⟩⟩
      case zg =>
        (repeat' (first | assumption))
      case zm =>
        (repeat' (first | omega))
      case zc =>
        (repeat' (first | (refine And.intro ?_ ?_) | exact trivial | exact A.Le.refl _))
      case zv =>
        (repeat' (first | (refine And.intro ?_ ?_) | exact trivial | exact A.Le.refl _ | exact .of_eq (show grL 3 (planL y bits (k + 1)) = A.sl false (.own 3) [[A.int (r - 1)]] by rw [hv1, hSk, hv]; rfl)))
      case zh =>
        (repeat' (first | exact trivial))
    | cons x t =>
      have hl1 : (ints (x :: t)).length ≤ 12 := by rw [ints_len]; omega
      have hz := ints_one (x :: t)
      refine Aw.em tab_ok mb0 [(4, [.int q]), (8, [.int r])] rfl rfl ?zo ?zk
      case zo =>
        repeat' apply AllP.cons
        all_goals first | exact trivial | exact Nat.le_of_ble_eq_true rfl | exact hp | exact hm | exact hone | exact hz | exact inrk k (by omega) | exact (show inR (((y.map Cask.c).length : Int) + 1) by rw [ll]; exact inrk _ (by omega)) | exact (show inR (r - 1) by simp only [inR]; omega) | exact (show ((ints (x :: t)).length + 1) * 8 ≤ 140737488355328 by omega) | exact (show (ints (x :: t)).length + 1 ≤ maxLen by unfold maxLen; omega)
      case zk =>
      refine Aw.em tab_ok mb0 [] rfl rfl ?zo ?zk
      case zo =>
        repeat' apply AllP.cons
        all_goals first | exact trivial | exact inrk k (by omega)
      case zk =>
      refine ⟨k + 1, ?zg, ?zm, ⟨?zc, ?zv, ?zh, Nat.le_of_ble_eq_true rfl⟩⟩
      case zg =>
        (repeat' (first | assumption))
      case zm =>
        (repeat' (first | omega))
      case zc =>
        (repeat' (first | (refine And.intro ?_ ?_) | exact trivial | exact A.Le.refl _))
      case zv =>
        (repeat' (first | (refine And.intro ?_ ?_) | exact trivial | exact A.Le.refl _ | exact .of_eq (show grL 3 (planL y bits (k + 1)) = A.sl false (.own 3) (ints (x :: t) ++ [[A.int (r - 1)]]) by rw [hv1, hSk, hv]; simp [grL, ints])))
      case zh =>
        (repeat' (first | exact trivial))
  have hle : k = M := by have := of_decide_eq_false h1; omega
  subst hle
  refine Aw.exit2 ?_
  have hgr : A.Le (outW (planL y bits k)) (grL 3 (planL y bits k)) := by
    cases hq : planL y bits k with
    | nil => exact .any _ _ _
    | cons x t => exact .any _ _ _
  refine Aw.keep (n := 0) (cst := [(7, outW (planL y bits k))]) (v := []) (Hl := []) hE ?zu ?zw ?zx ⟨?zc, ?zv, ?zh, Nat.le_of_ble_eq_true rfl⟩ ?zr
  case zu =>
    (repeat' (first | exact trivial | exact (free_ints _ _ _).under | (refine And.intro ?_ ?_)))
  case zw =>
    (repeat' (first | exact trivial))
  case zx =>
    (repeat' (first | exact trivial))
  case zc =>
    (repeat' (first | (refine And.intro ?_ ?_) | exact trivial | exact hgr))
  case zv =>
    (repeat' (first | exact trivial))
  case zh =>
    (repeat' (first | exact trivial))
  case zr =>
  refine Aw.sm tab_ok mb0 [] rfl rfl ?zo ?zk
  case zo =>
    repeat' apply AllP.cons
    all_goals first | exact trivial
  case zk =>
  exact Aw.ret ⟨_, .cons (.tmp _) .nil, rfl⟩
def nlW (L : List NL) : A := .sl L.isEmpty .any (L.map NL.c)
theorem nlW_free (L : List NL) : Free (nlW L) := free_map NL.free _ _ _
def grN : List NL → A
  | [] => .sl true .exact []
  | x :: l => .sl false (.own 22) ((x :: l).map NL.c)
theorem grN_under : ∀ (l : List NL) {n : Nat}, Under n (grN l)
  | [], _ => .sl _ _ _ (fun _ h => nomatch h)
  | x :: l, _ => .sl _ _ _ fun e he v hv => by
    obtain ⟨m, _, rfl⟩ := List.mem_map.1 he
    exact (m.free v hv).under
theorem nl_one (l : List NL) : ∀ z ∈ l.map NL.c, z.length = 1 := fun z hz => by obtain ⟨m, _, rfl⟩ := List.mem_map.1 hz; rfl
set_option maxHeartbeats 1000000 in
theorem leaks_t (y : List Cask) (b : Bool) (hy : YardOk y) (M : Nat) (hM : M ≤ 12) (lb : Bool) (bits : List Int) (hb : (bits.length : Int) ≤ 9223372036854775806) : Ans Try.prog 47 [.sl b .any (y.map Cask.c), .int M, .sl lb .any (ints bits)] (nlW (leaksL y bits M)) := by
  have ll : ((y.map Cask.c).length : Int) = y.length := by simp
  have lbi := ints_lenI bits
  have fy : Free (.sl b .any (y.map Cask.c)) := free_map Cask.free _ _ _
  have fb : Free (.sl lb .any (ints bits)) := free_ints _ _ _
  have uy : ∀ {m : Nat}, Under m (A.sl b .any (y.map Cask.c)) := fy.under
  have ub : ∀ {m : Nat}, Under m (A.sl lb .any (ints bits)) := fb.under
  have hfr : Free (nlW (leaksL y bits M)) := nlW_free _
  have hn := hy.n
  have hS := leaksL_succ y bits
  refine told Try.func47 rfl rfl (Pure.of tab_ok Try.func47 rfl Try.ntmps47 rfl (allC (fy) (allC (.s _) (all1 (fb)))) (allC (fun _ => rfl) (allC (fun _ => rfl) (all1 (fun _ => rfl)))) (by first | exact .s _ | assumption | exact .tup _ (by intro x hx; simp only [List.mem_cons, List.not_mem_nil, or_false] at hx; rcases hx with rfl | rfl | rfl | rfl <;> first | exact .s _ | (simp_all; done))) fun E hE => ?_)
  refine Aw.sm tab_ok mb0 [] rfl rfl ?zo ?zk
  case zo =>
    repeat' apply AllP.cons
    all_goals first | exact trivial
  case zk =>
  refine Aw.sm tab_ok mb0 [] rfl rfl ?zo ?zk
  case zo =>
    repeat' apply AllP.cons
    all_goals first | exact trivial
  case zk =>
  refine Aw.seq ?_
  refine Aw.sm tab_ok mb0 [] rfl rfl ?zo ?zk
  case zo =>
    repeat' apply AllP.cons
    all_goals first | exact trivial
  case zk =>
  refine Aw.block (Aw.rounds 0 hE [(0, .sl b .any (y.map Cask.c)), (1, .int M), (2, .sl lb .any (ints bits))] (fun k : Nat => [(7, grN (leaksL y bits k)), (8, .int k)]) (fun k => []) (fun k => k ≤ M) (fun k => M - k) 0 ?zg ⟨?zc, ?zv, ?zh, Nat.le_of_ble_eq_true rfl⟩ ?zu (fun k zhk => ?zw) (fun k zhk => ?zx) fun k hk => ?zr)
  case zg =>
    (repeat' (first | exact Nat.zero_le _))
  case zc =>
    (repeat' (first | (refine And.intro ?_ ?_) | exact trivial | exact A.Le.refl _))
  case zv =>
    (repeat' (first | (refine And.intro ?_ ?_) | exact trivial | exact A.Le.refl _))
  case zh =>
    (repeat' (first | exact trivial))
  case zu =>
    (repeat' (first | exact trivial | exact Under.s _ | exact (free_ints _ _ _).under | exact uy | (refine And.intro ?_ ?_)))
  case zw =>
    (repeat' (first | exact trivial | exact Under.s _ | exact grN_under _ | (refine And.intro ?_ ?_)))
  case zx =>
    (repeat' (first | exact trivial))
  case zr =>
  refine Aw.seq ?_
  refine Aw.sm tab_ok mb0 [] rfl rfl ?zo ?zk
  case zo =>
    repeat' apply AllP.cons
    all_goals first | exact trivial
  case zk =>
  refine Aw.cond rfl (fun h1 => Aw.skip ?_) (fun h1 => ?_)
  · have hlt : k < M := by have := of_decide_eq_true h1; omega
    have hSk := hS k
    have hlk := leaksL_len y bits k
    generalize hv1 : leaksL y bits (k + 1) = G1 at *
    generalize leaksL y bits k = G at *
    have uG : ∀ {m : Nat}, Under m (grN G) := grN_under G
    refine Aw.seq (Aw.block ?_)
    refine Aw.sm tab_ok mb0 [] rfl rfl ?zo ?zk
    case zo =>
      repeat' apply AllP.cons
      all_goals first | exact trivial
    case zk =>
    refine Aw.seq ?_
    refine Aw.sm tab_ok mb0 [] rfl rfl ?zo ?zk
    case zo =>
      repeat' apply AllP.cons
      all_goals first | exact trivial
    case zk =>
    refine Aw.block (Aw.rounds 0 hE [(0, .sl b .any (y.map Cask.c)), (1, .int M), (2, .sl lb .any (ints bits)), (7, grN G), (8, .int k)] (fun i : Nat => [(9, grL 3 (rowL y bits k i)), (10, .int i)]) (fun i => []) (fun i => i ≤ y.length) (fun i => y.length - i) 0 ?zg ⟨?zc, ?zv, ?zh, Nat.le_of_ble_eq_true rfl⟩ ?zu (fun i zhk => ?zw) (fun i zhk => ?zx) fun i hk => ?zr)
    case zg =>
      (repeat' (first | exact Nat.zero_le _))
    case zc =>
      (repeat' (first | (refine And.intro ?_ ?_) | exact trivial | exact A.Le.refl _))
    case zv =>
      (repeat' (first | (refine And.intro ?_ ?_) | exact trivial | exact A.Le.refl _))
    case zh =>
      (repeat' (first | exact trivial))
    case zu =>
      (repeat' (first | exact trivial | exact Under.s _ | exact (free_ints _ _ _).under | exact uy | exact uG | (refine And.intro ?_ ?_)))
    case zw =>
      (repeat' (first | exact trivial | exact Under.s _ | exact grL_under _ | (refine And.intro ?_ ?_)))
    case zx =>
      (repeat' (first | exact trivial))
    case zr =>
    refine Aw.seq ?_
    refine Aw.sm tab_ok mb0 [] rfl rfl ?zo ?zk
    case zo =>
      repeat' apply AllP.cons
      all_goals first | exact trivial
    case zk =>
    refine Aw.cond rfl (fun h1 => Aw.skip ?_) (fun h1 => ?_)
    · have hli : i < y.length := by have := of_decide_eq_true h1; omega
      have hg := cask_at hli
      have hRi := rowL_succ y bits k i
      have hlr := rowL_len y bits k i
      have hlv : lkv y bits k i = if bits.length = 0 then (ck y i).hi else chosenF (ck y i).lo (ck y i).hi (pickF bits (3 * k + i)) := rfl
      have hck := ck_ok hy.c i
      have hp := pick_t lb bits (3 * (k : Int) + i) (by omega)
      have hc := chosen_t (ck y i).lo (ck y i).hi (pickF bits (3 * (k : Int) + i)) (by omega) (by omega)
      generalize pickF bits (3 * (k : Int) + i) = q at *
      generalize ck y i = c at *
      generalize hw : chosenF c.lo c.hi q = w at *
      generalize lkv y bits k i = v at *
      generalize hr1 : rowL y bits k (i + 1) = R1 at *
      generalize rowL y bits k i = R at *
      refine Aw.seq (Aw.block ?_)
      refine Aw.sm tab_ok mb0 [] rfl rfl ?zo ?zk
      case zo =>
        repeat' apply AllP.cons
        all_goals first | exact trivial
      case zk =>
      refine Aw.cond rfl (fun h2 => ?_) (fun h2 => ?_)
      · have h2 : ((ints bits).length : Int) == 0 := h2
        have h2 : bits.length = 0 := by rw [lbi, beq_iff_eq] at h2; omega
        rw [if_pos h2] at hlv
        have hone : ∀ z ∈ [[A.int c.hi]], z.length = 1 := fun z hz => by simp at hz; subst hz; rfl
        cases R with
        | nil =>
          refine Aw.em tab_ok mb0 [(3, c.c)] rfl rfl ?zo ?zk
          case zo =>
            repeat' apply AllP.cons
            all_goals first | exact trivial | exact rfl | exact Nat.le_of_ble_eq_true rfl | exact Int.natCast_nonneg _ | exact hg | exact hone
          case zk =>
          refine Aw.em tab_ok mb0 [] rfl rfl ?zo ?zk
          case zo =>
            repeat' apply AllP.cons
            all_goals first | exact trivial | exact inrk i (by omega)
          case zk =>
          refine ⟨i + 1, ?zg, ?zm, ⟨?zc, ?zv, ?zh, Nat.le_of_ble_eq_true rfl⟩⟩
          case zg =>
            (repeat' (first | assumption))
          case zm =>
            (repeat' (first | omega))
          case zc =>
            (repeat' (first | (refine And.intro ?_ ?_) | exact trivial | exact A.Le.refl _))
          case zv =>
            (repeat' (first | (refine And.intro ?_ ?_) | exact trivial | exact A.Le.refl _ | exact .of_eq (show grL 3 (rowL y bits k (i + 1)) = A.sl false (.own 3) [[A.int c.hi]] by rw [hr1, hRi, hlv]; rfl)))
          case zh =>
            (repeat' (first | exact trivial))
        | cons x t =>
          have hl1 : (ints (x :: t)).length ≤ 4 := by rw [ints_len]; omega
          have hz := ints_one (x :: t)
          refine Aw.em tab_ok mb0 [(3, c.c)] rfl rfl ?zo ?zk
          case zo =>
            repeat' apply AllP.cons
            all_goals first | exact trivial | exact rfl | exact Nat.le_of_ble_eq_true rfl | exact Int.natCast_nonneg _ | exact hg | exact hone | exact hz | exact (show ((ints (x :: t)).length + 1) * 8 ≤ 140737488355328 by omega) | exact (show (ints (x :: t)).length + 1 ≤ maxLen by unfold maxLen; omega)
          case zk =>
          refine Aw.em tab_ok mb0 [] rfl rfl ?zo ?zk
          case zo =>
            repeat' apply AllP.cons
            all_goals first | exact trivial | exact inrk i (by omega)
          case zk =>
          refine ⟨i + 1, ?zg, ?zm, ⟨?zc, ?zv, ?zh, Nat.le_of_ble_eq_true rfl⟩⟩
          case zg =>
            (repeat' (first | assumption))
          case zm =>
            (repeat' (first | omega))
          case zc =>
            (repeat' (first | (refine And.intro ?_ ?_) | exact trivial | exact A.Le.refl _))
          case zv =>
            (repeat' (first | (refine And.intro ?_ ?_) | exact trivial | exact A.Le.refl _ | exact .of_eq (show grL 3 (rowL y bits k (i + 1)) = A.sl false (.own 3) (ints (x :: t) ++ [[A.int c.hi]]) by rw [hr1, hRi, hlv]; simp [grL, ints])))
          case zh =>
            (repeat' (first | exact trivial))
      · have h2 : (((ints bits).length : Int) == 0) = false := h2
        have h2 : ¬ bits.length = 0 := by rw [lbi, beq_eq_false_iff_ne] at h2; omega
        rw [if_neg h2] at hlv
        have hone : ∀ z ∈ [[A.int w]], z.length = 1 := fun z hz => by simp at hz; subst hz; rfl
        cases R with
        | nil =>
          refine Aw.ed tab_ok mixed mb0 [(3, c.c), (9, c.c), (18, [.int q]), (19, [.int w])] rfl (by kernel_rfl) rfl rfl ?zo ?zk
          case zo =>
            repeat' apply AllP.cons
            all_goals first | exact trivial | exact rfl | exact Nat.le_of_ble_eq_true rfl | exact Int.natCast_nonneg _ | exact hg | exact hp | exact hc | exact hone | exact (show inR (3 * (k : Int)) by simp only [inR]; omega) | exact (show inR (3 * (k : Int) + i) by simp only [inR]; omega)
          case zk =>
          refine Aw.em tab_ok mb0 [] rfl rfl ?zo ?zk
          case zo =>
            repeat' apply AllP.cons
            all_goals first | exact trivial | exact inrk i (by omega)
          case zk =>
          refine ⟨i + 1, ?zg, ?zm, ⟨?zc, ?zv, ?zh, Nat.le_of_ble_eq_true rfl⟩⟩
          case zg =>
            (repeat' (first | assumption))
          case zm =>
            (repeat' (first | omega))
          case zc =>
            (repeat' (first | (refine And.intro ?_ ?_) | exact trivial | exact A.Le.refl _))
          case zv =>
            (repeat' (first | (refine And.intro ?_ ?_) | exact trivial | exact A.Le.refl _ | exact .of_eq (show grL 3 (rowL y bits k (i + 1)) = A.sl false (.own 3) [[A.int w]] by rw [hr1, hRi, hlv]; rfl)))
          case zh =>
            (repeat' (first | exact trivial))
        | cons x t =>
          have hl1 : (ints (x :: t)).length ≤ 4 := by rw [ints_len]; omega
          have hz := ints_one (x :: t)
          refine Aw.ed tab_ok mixed mb0 [(3, c.c), (9, c.c), (18, [.int q]), (19, [.int w])] rfl (by kernel_rfl) rfl rfl ?zo ?zk
          case zo =>
            repeat' apply AllP.cons
            all_goals first | exact trivial | exact rfl | exact Nat.le_of_ble_eq_true rfl | exact Int.natCast_nonneg _ | exact hg | exact hp | exact hc | exact hone | exact hz | exact (show inR (3 * (k : Int)) by simp only [inR]; omega) | exact (show inR (3 * (k : Int) + i) by simp only [inR]; omega) | exact (show ((ints (x :: t)).length + 1) * 8 ≤ 140737488355328 by omega) | exact (show (ints (x :: t)).length + 1 ≤ maxLen by unfold maxLen; omega)
          case zk =>
          refine Aw.em tab_ok mb0 [] rfl rfl ?zo ?zk
          case zo =>
            repeat' apply AllP.cons
            all_goals first | exact trivial | exact inrk i (by omega)
          case zk =>
          refine ⟨i + 1, ?zg, ?zm, ⟨?zc, ?zv, ?zh, Nat.le_of_ble_eq_true rfl⟩⟩
          case zg =>
            (repeat' (first | assumption))
          case zm =>
            (repeat' (first | omega))
          case zc =>
            (repeat' (first | (refine And.intro ?_ ?_) | exact trivial | exact A.Le.refl _))
          case zv =>
            (repeat' (first | (refine And.intro ?_ ?_) | exact trivial | exact A.Le.refl _ | exact .of_eq (show grL 3 (rowL y bits k (i + 1)) = A.sl false (.own 3) (ints (x :: t) ++ [[A.int w]]) by rw [hr1, hRi, hlv]; simp [grL, ints])))
          case zh =>
            (repeat' (first | exact trivial))
    have hle : i = y.length := by have := of_decide_eq_false h1; omega
    subst hle
    refine Aw.exit2 ?_
    have hlr := rowL_len y bits k y.length
    generalize rowL y bits k y.length = R at *
    have hgr : A.Le (.sl false .any (ints R)) (grL 3 R) := by
      cases R with
      | nil => simp at hlr; omega
      | cons x t => exact .any _ _ _
    have uR : ∀ {m : Nat}, Under m (A.sl false .any (ints R)) := (free_ints _ _ _).under
    refine Aw.keep (n := 0) (cst := [(0, .sl b .any (y.map Cask.c)), (1, .int M), (2, .sl lb .any (ints bits)), (7, grN G), (8, .int k), (9, .sl false .any (ints R))]) (v := []) (Hl := []) hE ?zu ?zw ?zx ⟨?zc, ?zv, ?zh, Nat.le_of_ble_eq_true rfl⟩ ?zr
    case zu =>
      (repeat' (first | exact trivial | exact Under.s _ | exact (free_ints _ _ _).under | exact uy | exact uG | (refine And.intro ?_ ?_)))
    case zw =>
      (repeat' (first | exact trivial))
    case zx =>
      (repeat' (first | exact trivial))
    case zc =>
      (repeat' (first | (refine And.intro ?_ ?_) | exact trivial | exact A.Le.refl _ | exact hgr))
    case zv =>
      (repeat' (first | exact trivial))
    case zh =>
      (repeat' (first | exact trivial))
    case zr =>
    have hone : ∀ z ∈ [[A.sl false .any (ints R)]], z.length = 1 := fun z hz => by simp at hz; subst hz; rfl
    cases G with
    | nil =>
      refine Aw.em tab_ok mb0 [] rfl rfl ?zo ?zk
      case zo =>
        repeat' apply AllP.cons
        all_goals first | exact trivial | exact Nat.le_of_ble_eq_true rfl | exact hone
      case zk =>
      refine Aw.em tab_ok mb0 [] rfl rfl ?zo ?zk
      case zo =>
        repeat' apply AllP.cons
        all_goals first | exact trivial | exact inrk k (by omega)
      case zk =>
      refine ⟨k + 1, ?zg, ?zm, ⟨?zc, ?zv, ?zh, Nat.le_of_ble_eq_true rfl⟩⟩
      case zg =>
        (repeat' (first | assumption))
      case zm =>
        (repeat' (first | omega))
      case zc =>
        (repeat' (first | (refine And.intro ?_ ?_) | exact trivial | exact A.Le.refl _))
      case zv =>
        (repeat' (first | (refine And.intro ?_ ?_) | exact trivial | exact A.Le.refl _ | exact .of_eq (show grN (leaksL y bits (k + 1)) = A.sl false (.own 22) [[A.sl false .any (ints R)]] by rw [hv1, hSk]; rfl)))
      case zh =>
        (repeat' (first | exact trivial))
    | cons x t =>
      have hl1 : ((x :: t).map NL.c).length ≤ 12 := by rw [List.length_map]; omega
      have hz := nl_one (x :: t)
      refine Aw.em tab_ok mb0 [] rfl rfl ?zo ?zk
      case zo =>
        repeat' apply AllP.cons
        all_goals first | exact trivial | exact Nat.le_of_ble_eq_true rfl | exact hone | exact hz | exact (show (((x :: t).map NL.c).length + 1) * 24 ≤ 140737488355328 by omega) | exact (show ((x :: t).map NL.c).length + 1 ≤ maxLen by unfold maxLen; omega)
      case zk =>
      refine Aw.em tab_ok mb0 [] rfl rfl ?zo ?zk
      case zo =>
        repeat' apply AllP.cons
        all_goals first | exact trivial | exact inrk k (by omega)
      case zk =>
      refine ⟨k + 1, ?zg, ?zm, ⟨?zc, ?zv, ?zh, Nat.le_of_ble_eq_true rfl⟩⟩
      case zg =>
        (repeat' (first | assumption))
      case zm =>
        (repeat' (first | omega))
      case zc =>
        (repeat' (first | (refine And.intro ?_ ?_) | exact trivial | exact A.Le.refl _))
      case zv =>
        (repeat' (first | (refine And.intro ?_ ?_) | exact trivial | exact A.Le.refl _ | exact .of_eq (show grN (leaksL y bits (k + 1)) = A.sl false (.own 22) ((x :: t).map NL.c ++ [[A.sl false .any (ints R)]]) by rw [hv1, hSk]; simp [grN, NL.c])))
      case zh =>
        (repeat' (first | exact trivial))
  have hle : k = M := by have := of_decide_eq_false h1; omega
  subst hle
  refine Aw.exit2 ?_
  have hgr : A.Le (nlW (leaksL y bits k)) (grN (leaksL y bits k)) := by
    cases hq : leaksL y bits k with
    | nil => exact .any _ _ _
    | cons x t => exact .any _ _ _
  refine Aw.keep (n := 0) (cst := [(7, nlW (leaksL y bits k))]) (v := []) (Hl := []) hE ?zu ?zw ?zx ⟨?zc, ?zv, ?zh, Nat.le_of_ble_eq_true rfl⟩ ?zr
  case zu =>
    (repeat' (first | exact trivial | exact hfr.under | (refine And.intro ?_ ?_)))
  case zw =>
    (repeat' (first | exact trivial))
  case zx =>
    (repeat' (first | exact trivial))
  case zc =>
    (repeat' (first | (refine And.intro ?_ ?_) | exact trivial | exact hgr))
  case zv =>
    (repeat' (first | exact trivial))
  case zh =>
    (repeat' (first | exact trivial))
  case zr =>
  refine Aw.sm tab_ok mb0 [] rfl rfl ?zo ?zk
  case zo =>
    repeat' apply AllP.cons
    all_goals first | exact trivial
  case zk =>
  exact Aw.ret ⟨_, .cons (.tmp _) .nil, rfl⟩
end Go.Proofs.Ytampldajinhenaa

namespace Go.Proofs.Ytampldajinhenaa
open Go Go.AL Go.AL.Q Go.AL.Br
theorem take_len {l : List Int} {n : Nat} (h : n ≤ l.length) : (l.take n).length = n := by rw [List.length_take]; omega
theorem Run_r {y : List Cask} (hyo : yardOk y = true) (b : Bool) {ts : List Int} {M : Nat} (hM : M ≤ 12) (hl : ts.length = M) (ht : ∀ t ∈ ts, -1 ≤ t ∧ t < y.length) (pb : Bool) (bits : List Int) :
    Ans Try.prog 23 [.sl b .any (y.map Cask.c), .sl pb .any (ints ts), nlW (leaksL y bits M)] (.tup [outW ((runGo y (fun k => lkv y bits k) ts 0 (lev0 y)).1.take y.length), .int (runGo y (fun k => lkv y bits k) ts 0 (lev0 y)).2, .int 0]) := by
  have hn := (yardOk_iff.1 hyo).n
  have := Run_w y b (by omega) pb ts (by omega) (leaksL y bits M).isEmpty (leaksL y bits M)
  rw [run_R hyo hM hl ht bits] at this
  exact this
theorem leaks_nil (y : List Cask) (b : Bool) (hy : YardOk y) (M : Nat) (hM : M ≤ 12) : Ans Try.prog 47 [.sl b .any (y.map Cask.c), .int M, .sl true .exact []] (nlW (leaksL y [] M)) :=
  AnsL (leaks_t y b hy M hM true [] (by decide)) (.cons (.refl _) (.cons (.refl _) (.cons (.any _ _ _) .nil)))
end Go.Proofs.Ytampldajinhenaa

namespace Go.Proofs.Ytampldajinhenaa
open Go Go.AL Go.AL.Q Go.AL.Br
theorem place_le {x : Int} : ∀ {l : List Int} (j : Nat) {k : Nat}, k < l.length → l.getD k 0 = x → 0 ≤ placeF x j l ∧ placeF x j l ≤ j + k
  | [], j, k, h, _ => by cases h
  | n :: l, j, 0, _, h => by
    have h : n = x := h
    rw [placeF, if_pos h]; omega
  | n :: l, j, k + 1, h, h2 => by
    rw [placeF]
    split
    · omega
    · have := place_le (l := l) (j + 1) (k := k) (by simpa using h) (by simpa using h2)
      omega
def idleL (M k : Nat) : List Int := List.replicate k (-1) ++ List.replicate (M - k) 0
theorem idle_len {M k : Nat} (h : k ≤ M) : (idleL M k).length = M := by simp [idleL]; omega
theorem idle_set {M k : Nat} (h : k < M) : (idleL M k).set k (-1) = idleL M (k + 1) := by
  unfold idleL
  obtain ⟨q, hq⟩ : ∃ q, M - k = q + 1 := ⟨M - k - 1, by omega⟩
  rw [List.set_append_right _ _ (by simp), hq, show M - (k + 1) = q by omega, List.length_replicate, Nat.sub_self, List.replicate_succ, List.set_cons_zero, List.replicate_succ', List.append_assoc]; rfl
theorem idle_end (M : Nat) : idleL M M = List.replicate M (-1) := by unfold idleL; simp
set_option maxHeartbeats 2000000 in
theorem first_l (b : Bool) (y : List Cask) (n : Int) (lb : Bool) (bits : List Int) (hy : (y.length : Int) ≤ 9223372036854775806) (hb : (bits.length : Int) ≤ 9223372036854775806) : Ans Try.prog 9 [.sl b .any (y.map Cask.c), .int n, .sl lb .any (ints bits)] (.bool true) := by
  have ll : ((y.map Cask.c).length : Int) = y.length := by simp
  have fy : Free (.sl b .any (y.map Cask.c)) := free_map Cask.free _ _ _
  have fb : Free (.sl lb .any (ints bits)) := free_ints _ _ _
  have uy : ∀ {m : Nat}, Under m (A.sl b .any (y.map Cask.c)) := fy.under
  have ub : ∀ {m : Nat}, Under m (A.sl lb .any (ints bits)) := fb.under
  have c1 := sound_t y b hy
  refine told Try.func9 rfl rfl (Pure.of tab_ok Try.func9 rfl Try.ntmps9 rfl (allC (fy) (allC (.s _) (all1 (fb)))) (allC (fun _ => rfl) (allC (fun _ => rfl) (all1 (fun _ => rfl)))) (by first | exact .s _ | assumption | exact .tup _ (by intro x hx; simp only [List.mem_cons, List.not_mem_nil, or_false] at hx; rcases hx with rfl | rfl | rfl | rfl <;> first | exact .s _ | (simp_all; done))) fun E hE => ?_)
  refine Aw.sm tab_ok mb0 [] rfl rfl ?zo ?zk
  case zo =>
    repeat' apply AllP.cons
    all_goals first | exact trivial
  case zk =>
  by_cases hyo : yardOk y = true
  rotate_left
  · have hyo : yardOk y = false := by simpa using hyo
    rw [hyo] at c1
    refine Aw.seq ?_
    refine Aw.sm tab_ok mb0 [(1, [.bool false])] rfl rfl ?zo ?zk
    case zo =>
      repeat' apply AllP.cons
      all_goals first | exact trivial | exact c1
    case zk =>
    refine Aw.cond rfl (fun h => ?_) (fun h => by cases h)
    refine Aw.sm tab_ok mb0 [(0, [.bool true])] rfl rfl ?zo ?zk
    case zo =>
      repeat' apply AllP.cons
      all_goals first | exact trivial | exact works_t
    case zk =>
    exact Aw.ret ⟨_, .cons (.tmp _) .nil, rfl⟩
  rw [hyo] at c1
  have hY := yardOk_iff.1 hyo
  have hn := hY.n
  refine Aw.seq ?_
  refine Aw.sm tab_ok mb0 [(1, [.bool true])] rfl rfl ?zo ?zk
  case zo =>
    repeat' apply AllP.cons
    all_goals first | exact trivial | exact c1
  case zk =>
  refine Aw.cond rfl (fun h => by cases h) (fun h => Aw.skip ?_)
  have hmod := mod_t n 13 (by decide) (by decide)
  obtain ⟨M, hk⟩ : ∃ M : Nat, n % 13 = M := ⟨(n % 13).toNat, by omega⟩
  have hM : M ≤ 12 := by omega
  rw [hk] at hmod
  refine Aw.sm tab_ok mb0 [(1, [.int M])] rfl rfl ?zo ?zk
  case zo =>
    repeat' apply AllP.cons
    all_goals first | exact trivial | exact hmod
  case zk =>
  have c2 : Ans Try.prog 28 [.sl b .any (y.map Cask.c), .int M] (.tup [.int (FirstR y M).1, .int (FirstR y M).2.1, .int (FirstR y M).2.2]) := first_t y b hy M
  have hfc := first_R hyo hM
  generalize FirstR y M = F at *
  obtain ⟨who, wh, er⟩ := F
  simp only at c2
  refine Aw.sm tab_ok mb0 [(2, [.tup [.int who, .int wh, .int er]])] rfl rfl ?zo ?zk
  case zo =>
    repeat' apply AllP.cons
    all_goals first | exact trivial | exact c2
  case zk =>
  have h1e : ∀ id, 1 ≤ id → E.φ0 id = none := fun id _ => hE id (by omega)
  have hz : B.cells (((List.range (Int.toNat (M : Int) * 1)).map fun j => (tab.zr 3).getD (j % 1) .un).map A.down) = iB (idleL M 0) := by
    unfold iB idleL; congr 1
    rw [Nat.mul_one, Int.toNat_natCast, List.map_map]
    refine List.ext_getElem (by simp) fun i p q => ?_
    simp only [List.getElem_map, List.getElem_range, List.replicate_zero, List.nil_append, Nat.sub_zero, List.getElem_replicate]
    show ((tab.zr 3).getD (i % 1) .un).down = A.int 0
    rw [Nat.mod_one]; rfl
  refine Aw.sm tab_ok mb0 [] rfl rfl ?zo ?zk
  case zo =>
    repeat' apply AllP.cons
    all_goals first | exact trivial | exact rfl | exact Int.natCast_nonneg _ | exact (by simp only [Ob.of, maxLen]; omega) | exact (show ((8 : Nat) : Int) * (M : Int) ≤ 140737488355328 by omega)
  case zk =>
  refine Aw.keep (n := 1) (cst := [(0, .sl b .any (y.map Cask.c)), (2, .sl lb .any (ints bits)), (7, .int M), (8, .int who), (9, .int wh), (10, .int er), (11, .ms 0 0 M)]) (v := []) (Hl := [(0, iB (idleL M 0))]) h1e ?zu ?zw ?zx ⟨?zc, ?zv, ?zh, Nat.le_of_ble_eq_true rfl⟩ ?zr
  case zu =>
    (repeat' (first | exact trivial | exact Under.s _ | exact (free_ints _ _ _).under | exact Under.ms _ _ _ (by decide) | exact uy | (refine And.intro ?_ ?_)))
  case zw =>
    (repeat' (first | exact trivial))
  case zx =>
    (repeat' (first | exact trivial | exact Nat.le_of_ble_eq_true rfl | exact iB_under _ | (refine And.intro ?_ ?_)))
  case zc =>
    (repeat' (first | (refine And.intro ?_ ?_) | exact trivial | exact A.Le.refl _))
  case zv =>
    (repeat' (first | exact trivial))
  case zh =>
    (repeat' (first | (refine And.intro ?_ ?_) | exact trivial | exact congrArg some hz))
  case zr =>
  refine Aw.seq ?_
  refine Aw.sm tab_ok mb0 [] rfl rfl ?zo ?zk
  case zo =>
    repeat' apply AllP.cons
    all_goals first | exact trivial
  case zk =>
  refine Aw.block (Aw.rounds 1 h1e [(0, .sl b .any (y.map Cask.c)), (2, .sl lb .any (ints bits)), (7, .int M), (8, .int who), (9, .int wh), (10, .int er), (11, .ms 0 0 M)] (fun k : Nat => [(12, .int k)]) (fun k => [(0, iB (idleL M k))]) (fun k => k ≤ M) (fun k => M - k) 0 ?zg ⟨?zc, ?zv, ?zh, Nat.le_of_ble_eq_true rfl⟩ ?zu (fun k zhk => ?zw) (fun k zhk => ?zx) fun k hk => ?zr)
  case zg =>
    (repeat' (first | exact Nat.zero_le _))
  case zc =>
    (repeat' (first | (refine And.intro ?_ ?_) | exact trivial | exact A.Le.refl _))
  case zv =>
    (repeat' (first | (refine And.intro ?_ ?_) | exact trivial | exact A.Le.refl _))
  case zh =>
    (repeat' (first | (refine And.intro ?_ ?_) | exact trivial | exact rfl))
  case zu =>
    (repeat' (first | exact trivial | exact Under.s _ | exact (free_ints _ _ _).under | exact Under.ms _ _ _ (by decide) | exact uy | (refine And.intro ?_ ?_)))
  case zw =>
    (repeat' (first | exact trivial | exact Under.s _ | (refine And.intro ?_ ?_)))
  case zx =>
    (repeat' (first | exact trivial | exact Nat.le_of_ble_eq_true rfl | exact iB_under _ | (refine And.intro ?_ ?_)))
  case zr =>
  refine Aw.seq ?_
  refine Aw.sm tab_ok mb0 [] rfl rfl ?zo ?zk
  case zo =>
    repeat' apply AllP.cons
    all_goals first | exact trivial
  case zk =>
  refine Aw.cond rfl (fun h1 => Aw.skip ?_) (fun h1 => ?_)
  · have hlt : k < M := by have := of_decide_eq_true h1; omega
    have hlen := idle_len (M := M) (k := k) hk
    have hset := idle_set hlt
    generalize idleL M k = I at *
    have q2 : 0 + Int.toNat (k : Int) * 1 + 1 ≤ (I.map A.int).length := by rw [List.length_map, hlen, Int.toNat_natCast]; omega
    have q4 : (k : Int) < ((M : Nat) : Int) := by omega
    have hs := congrArg (fun x => some (B.cells x)) (set_cellsI (l := I) (k := Int.toNat (k : Int)) (v := -1) (by rw [Int.toNat_natCast]; omega))
    rw [Int.toNat_natCast, hset] at hs
    refine Aw.seq (Aw.block ?_)
    refine Aw.em tab_ok mb0 [] rfl rfl ?zo ?zk
    case zo =>
      repeat' apply AllP.cons
      all_goals first | exact trivial | exact rfl | exact Int.natCast_nonneg _ | exact q2 | exact q4
    case zk =>
    refine Aw.em tab_ok mb0 [] rfl rfl ?zo ?zk
    case zo =>
      repeat' apply AllP.cons
      all_goals first | exact trivial | exact inrk k (by omega)
    case zk =>
    refine ⟨k + 1, ?zg, ?zm, ⟨?zc, ?zv, ?zh, Nat.le_of_ble_eq_true rfl⟩⟩
    case zg =>
      (repeat' (first | assumption))
    case zm =>
      (repeat' (first | omega))
    case zc =>
      (repeat' (first | (refine And.intro ?_ ?_) | exact trivial | exact A.Le.refl _))
    case zv =>
      (repeat' (first | (refine And.intro ?_ ?_) | exact trivial | exact A.Le.refl _))
    case zh =>
      (repeat' (first | (refine And.intro ?_ ?_) | exact trivial | exact hs))
  have hle : M = k := by have := of_decide_eq_false h1; omega
  subst hle
  refine Aw.exit2 ?_
  rw [idle_end]
  have hrl : (List.replicate M (-1 : Int)).length = M := List.length_replicate
  have hrb : ∀ t ∈ List.replicate M (-1 : Int), -1 ≤ t ∧ t < y.length := fun t ht => by
    have := List.eq_of_mem_replicate ht
    omega
  refine Aw.freezeS (id := 0) (t := 11) (n := M) (sz := 1) (cs := (List.replicate M (-1)).map A.int) (ints (List.replicate M (-1))) rfl rfl (rowsI _) (by rw [ints_len]; exact hrl) ?_
  have d1 := leaks_nil y b hY M hM
  have d2 := Run_r hyo b hM hrl hrb false []
  have hRl := run_len (y := y) (of := fun k => lkv y [] k) (List.replicate M (-1)) 0 (lev0 y)
  have hRn : y.length ≤ (lev0 y).length := by show y.length ≤ 4; omega
  have hfc : ((runGo y (fun k => lkv y [] k) (List.replicate M (-1)) 0 (lev0 y)).2 = -1 ∧ _) ∨ ∃ w d : Nat, _ ∧ (runGo y (fun k => lkv y [] k) (List.replicate M (-1)) 0 (lev0 y)).2 = d ∧ d < M ∧ w < y.length ∧ (runGo y (fun k => lkv y [] k) (List.replicate M (-1)) 0 (lev0 y)).1.getD w 0 < (ck y w).line ∧
      (∀ i, i < w → (ck y i).line ≤ (runGo y (fun k => lkv y [] k) (List.replicate M (-1)) 0 (lev0 y)).1.getD i 0) ∧ ∀ ts : List Int, ts.length = M → (runGo y (fun k => lkv y [] k) ts 0 (lev0 y)).2 = -1 → ∃ k, k < ts.length ∧ ts.getD k 0 = (w : Int) ∧ k < d := hfc
  generalize runGo y (fun k => lkv y [] k) (List.replicate M (-1)) 0 (lev0 y) = R at *
  obtain ⟨Rl, dx⟩ := R
  simp only at hRl hfc
  have lR : y.length ≤ Rl.length := by omega
  have eR := take_len lR
  have gR : ∀ i, i < y.length → (Rl.take y.length).getD i 0 = Rl.getD i 0 := fun i hi => take_getD hi
  have hgR := fun i (hi : i < y.length) => ints_getD (l := Rl.take y.length) (k := i) (by rw [eR]; exact hi)
  have uR : ∀ {m : Nat}, Under m (outW (Rl.take y.length)) := (outW_free _).under
  refine Aw.sm tab_ok mb0 [(4, [nlW (leaksL y [] M)]), (5, [.tup [outW (Rl.take y.length), .int dx, .int 0]])] rfl rfl ?zo ?zk
  case zo =>
    repeat' apply AllP.cons
    all_goals first | exact trivial | exact d1 | exact d2
  case zk =>
  generalize Rl.take y.length = RT at *
  have lT := ints_lenI RT
  refine Aw.seq ?_
  refine Aw.sm tab_ok mb0 [] rfl rfl ?zo ?zk
  case zo =>
    repeat' apply AllP.cons
    all_goals first | exact trivial
  case zk =>
  refine Aw.cond rfl (fun h => by cases h) (fun h => Aw.skip ?_)
  rcases hfc with ⟨hr, hf⟩ | ⟨w, d, hf, hr, hdM, hwl, hlw, hli, htop⟩
  · cases hf
    subst hr
    refine Aw.seq ?_
    refine Aw.sm tab_ok mb0 [] rfl rfl ?zo ?zk
    case zo =>
      repeat' apply AllP.cons
      all_goals first | exact trivial
    case zk =>
    refine Aw.cond rfl (fun h => ?_) (fun h => by cases h)
    refine Aw.sm tab_ok mb0 [(15, [.bool true])] rfl rfl ?zo ?zk
    case zo =>
      repeat' apply AllP.cons
      all_goals first | exact trivial | exact id | exact fun _ => rfl | exact fun _ => works_t
    case zk =>
    exact Aw.ret ⟨_, .cons (.tmp _) .nil, rfl⟩
  cases hf
  subst hr
  refine Aw.seq ?_
  refine Aw.sm tab_ok mb0 [] rfl rfl ?zo ?zk
  case zo =>
    repeat' apply AllP.cons
    all_goals first | exact trivial
  case zk =>
  refine Aw.cond rfl (fun h => by cases h) (fun h => Aw.skip ?_)
  have e1 := in_t (d : Int) 0 ((M : Int) - 1)
  rw [wi_iff.2 (show 0 ≤ (d : Int) ∧ (d : Int) ≤ (M : Int) - 1 by omega)] at e1
  have e2 := in_t (w : Int) 0 ((((y.map Cask.c).length : Nat) : Int) - 1)
  rw [wi_iff.2 (show 0 ≤ (w : Int) ∧ (w : Int) ≤ (((y.map Cask.c).length : Nat) : Int) - 1 by omega)] at e2
  have g1 := hgR w hwl
  rw [gR w hwl] at g1
  have g2 := cask_at hwl
  generalize Rl.getD w 0 = v at *
  generalize ck y w = c at *
  refine Aw.seq ?_
  refine Aw.sd tab_ok mixed mb0 [(7, [.bool true]), (15, [.bool true]), (28, [.int v]), (32, c.c)] rfl (by kernel_rfl) rfl rfl ?zo ?zk
  case zo =>
    repeat' apply AllP.cons
    all_goals first | exact trivial | exact id | exact fun _ => rfl | exact fun _ => Nat.le_of_ble_eq_true rfl | exact fun _ => Int.natCast_nonneg _ | exact gq_f | exact fun _ => e1 | exact fun _ => e2 | exact fun _ => g1 | exact fun _ => g2 | exact fun _ => (show inR ((M : Int) - 1) by simp only [inR]; omega) | exact fun _ => (show inR ((((y.map Cask.c).length : Nat) : Int) - 1) by simp only [inR]; omega)
  case zk =>
  refine Aw.cond rfl (fun h => absurd h (by
    show ¬ (cond (cond (cond (cond ((d : Int) != (d : Int)) true (!true)) true (!true)) true (((ints RT).length : Int) != ((y.map Cask.c).length : Int))) true (decide (v ≥ c.line))) = true
    rw [lT, ll, eR, decide_eq_false (by omega)]; simp)) (fun h => Aw.skip ?_)
  refine Aw.keep (n := 0) (cst := [(0, .sl b .any (y.map Cask.c)), (2, .sl lb .any (ints bits)), (7, .int M), (8, .int w), (9, .int d), (13, outW RT)]) (v := []) (Hl := []) hE ?zu ?zw ?zx ⟨?zc, ?zv, ?zh, Nat.le_of_ble_eq_true rfl⟩ ?zr
  case zu =>
    (repeat' (first | exact trivial | exact Under.s _ | exact (free_ints _ _ _).under | exact uy | (refine And.intro ?_ ?_)))
  case zw =>
    (repeat' (first | exact trivial))
  case zx =>
    (repeat' (first | exact trivial))
  case zc =>
    (repeat' (first | (refine And.intro ?_ ?_) | exact trivial | exact A.Le.refl _))
  case zv =>
    (repeat' (first | exact trivial))
  case zh =>
    (repeat' (first | exact trivial))
  case zr =>
  refine Aw.seq ?_
  refine Aw.sm tab_ok mb0 [] rfl rfl ?zo ?zk
  case zo =>
    repeat' apply AllP.cons
    all_goals first | exact trivial
  case zk =>
  refine Aw.block (Aw.rounds 0 hE [(0, .sl b .any (y.map Cask.c)), (2, .sl lb .any (ints bits)), (7, .int M), (8, .int w), (9, .int d), (13, outW RT)] (fun i : Nat => [(16, .int i)]) (fun i => []) (fun i => i ≤ w) (fun i => w - i) 0 ?zg ⟨?zc, ?zv, ?zh, Nat.le_of_ble_eq_true rfl⟩ ?zu (fun i zhk => ?zw) (fun i zhk => ?zx) fun i hk => ?zr)
  case zg =>
    (repeat' (first | exact Nat.zero_le _))
  case zc =>
    (repeat' (first | (refine And.intro ?_ ?_) | exact trivial | exact A.Le.refl _))
  case zv =>
    (repeat' (first | (refine And.intro ?_ ?_) | exact trivial | exact A.Le.refl _))
  case zh =>
    (repeat' (first | exact trivial))
  case zu =>
    (repeat' (first | exact trivial | exact Under.s _ | exact (free_ints _ _ _).under | exact uy | (refine And.intro ?_ ?_)))
  case zw =>
    (repeat' (first | exact trivial | exact Under.s _ | (refine And.intro ?_ ?_)))
  case zx =>
    (repeat' (first | exact trivial))
  case zr =>
  refine Aw.seq ?_
  refine Aw.sm tab_ok mb0 [] rfl rfl ?zo ?zk
  case zo =>
    repeat' apply AllP.cons
    all_goals first | exact trivial
  case zk =>
  refine Aw.cond rfl (fun h1 => Aw.skip ?_) (fun h1 => ?_)
  · have hlt : i < w := by have := of_decide_eq_true h1; omega
    have g1 := hgR i (by omega)
    rw [gR i (by omega)] at g1
    have g2 := cask_at (show i < y.length by omega)
    have g3 := hli i hlt
    generalize Rl.getD i 0 = v1 at *
    generalize ck y i = cc at *
    refine Aw.seq (Aw.block ?_)
    refine Aw.sd tab_ok mixed mb0 [(2, [.int v1]), (6, cc.c)] rfl (by kernel_rfl) rfl rfl ?zo ?zk
    case zo =>
      repeat' apply AllP.cons
      all_goals first | exact trivial | exact rfl | exact Nat.le_of_ble_eq_true rfl | exact Int.natCast_nonneg _ | exact g1 | exact g2
    case zk =>
    refine Aw.cond rfl (fun h => absurd h (by show ¬ decide (v1 < cc.line) = true; rw [decide_eq_false (by omega)]; decide)) (fun h => Aw.skip ?_)
    refine Aw.em tab_ok mb0 [] rfl rfl ?zo ?zk
    case zo =>
      repeat' apply AllP.cons
      all_goals first | exact trivial | exact inrk i (by omega)
    case zk =>
    refine ⟨i + 1, ?zg, ?zm, ⟨?zc, ?zv, ?zh, Nat.le_of_ble_eq_true rfl⟩⟩
    case zg =>
      (repeat' (first | assumption))
    case zm =>
      (repeat' (first | omega))
    case zc =>
      (repeat' (first | (refine And.intro ?_ ?_) | exact trivial | exact A.Le.refl _))
    case zv =>
      (repeat' (first | (refine And.intro ?_ ?_) | exact trivial | exact A.Le.refl _))
    case zh =>
      (repeat' (first | exact trivial))
  refine Aw.exit2 ?_
  refine Aw.keep (n := 0) (cst := [(0, .sl b .any (y.map Cask.c)), (2, .sl lb .any (ints bits)), (7, .int M), (8, .int w), (9, .int d)]) (v := []) (Hl := []) hE ?zu ?zw ?zx ⟨?zc, ?zv, ?zh, Nat.le_of_ble_eq_true rfl⟩ ?zr
  case zu =>
    (repeat' (first | exact trivial | exact Under.s _ | exact (free_ints _ _ _).under | exact uy | (refine And.intro ?_ ?_)))
  case zw =>
    (repeat' (first | exact trivial))
  case zx =>
    (repeat' (first | exact trivial))
  case zc =>
    (repeat' (first | (refine And.intro ?_ ?_) | exact trivial | exact A.Le.refl _))
  case zv =>
    (repeat' (first | exact trivial))
  case zh =>
    (repeat' (first | exact trivial))
  case zr =>
  have c3 := plan_t y b hY M hM lb bits (by omega)
  have hpl := planL_len y bits M
  have hpb := planL_bd hY bits M
  refine Aw.seq ?_
  refine Aw.sm tab_ok mb0 [] rfl rfl ?zo ?zk
  case zo =>
    repeat' apply AllP.cons
    all_goals first | exact trivial
  case zk =>
  refine Aw.block (Aw.rounds 0 hE [(0, .sl b .any (y.map Cask.c)), (2, .sl lb .any (ints bits)), (7, .int M), (8, .int w), (9, .int d)] (fun k : Nat => [(17, .int k)]) (fun k => []) (fun k => k ≤ 2) (fun k => 2 - k) 0 ?zg ⟨?zc, ?zv, ?zh, Nat.le_of_ble_eq_true rfl⟩ ?zu (fun k zhk => ?zw) (fun k zhk => ?zx) fun k hk => ?zr)
  case zg =>
    (repeat' (first | exact Nat.zero_le _))
  case zc =>
    (repeat' (first | (refine And.intro ?_ ?_) | exact trivial | exact A.Le.refl _))
  case zv =>
    (repeat' (first | (refine And.intro ?_ ?_) | exact trivial | exact A.Le.refl _))
  case zh =>
    (repeat' (first | exact trivial))
  case zu =>
    (repeat' (first | exact trivial | exact Under.s _ | exact (free_ints _ _ _).under | exact uy | (refine And.intro ?_ ?_)))
  case zw =>
    (repeat' (first | exact trivial | exact Under.s _ | (refine And.intro ?_ ?_)))
  case zx =>
    (repeat' (first | exact trivial))
  case zr =>
  refine Aw.seq ?_
  refine Aw.sm tab_ok mb0 [] rfl rfl ?zo ?zk
  case zo =>
    repeat' apply AllP.cons
    all_goals first | exact trivial
  case zk =>
  refine Aw.cond rfl (fun h1 => Aw.skip ?_) (fun h1 => ?_)
  rotate_left
  · refine Aw.exit2 ?_
    refine Aw.sm tab_ok mb0 [(0, [.bool true])] rfl rfl ?zo ?zk
    case zo =>
      repeat' apply AllP.cons
      all_goals first | exact trivial | exact works_t
    case zk =>
    exact Aw.ret ⟨_, .cons (.tmp _) .nil, rfl⟩
  have hlt : k < 2 := by have := of_decide_eq_true h1; omega
  rcases (show k = 0 ∨ k = 1 by omega) with rfl | rfl
  · refine Aw.seq (Aw.block ?_)
    refine Aw.sm tab_ok mb0 [(3, [outW (planL y bits M)])] rfl rfl ?zo ?zk
    case zo =>
      repeat' apply AllP.cons
      all_goals first | exact trivial | exact c3
    case zk =>
    generalize planL y bits M = ts at *
    refine Aw.seq ?_
    refine Aw.sm tab_ok mb0 [] rfl rfl ?zo ?zk
    case zo =>
      repeat' apply AllP.cons
      all_goals first | exact trivial
    case zk =>
    refine Aw.cond rfl (fun h => absurd h (by decide)) (fun h => Aw.skip ?_)
    have d1 := leaks_nil y b hY M hM
    have d2 := Run_r hyo b hM hpl hpb ts.isEmpty []
    have d3 := place_t ts ts.isEmpty w (by rw [hpl]; omega)
    have hp : (runGo y (fun k => lkv y [] k) ts 0 (lev0 y)).2 = -1 → 0 ≤ placeF w 0 ts ∧ placeF w 0 ts < d := fun hr => by
      obtain ⟨k, k1, k2, k3⟩ := htop ts hpl hr
      have := place_le (x := w) 0 k1 k2
      omega
    generalize runGo y (fun k => lkv y [] k) ts 0 (lev0 y) = R at *
    obtain ⟨Rl, dx⟩ := R
    simp only at hp
    generalize placeF w 0 ts = p at *
    refine Aw.sm tab_ok mb0 [(4, [nlW (leaksL y [] M)]), (5, [.tup [outW (Rl.take y.length), .int dx, .int 0]])] rfl rfl ?zo ?zk
    case zo =>
      repeat' apply AllP.cons
      all_goals first | exact trivial | exact d1 | exact d2
    case zk =>
    refine Aw.seq ?_
    refine Aw.sm tab_ok mb0 [] rfl rfl ?zo ?zk
    case zo =>
      repeat' apply AllP.cons
      all_goals first | exact trivial
    case zk =>
    refine Aw.cond rfl (fun h => by cases h) (fun h => Aw.skip ?_)
    refine Aw.sm tab_ok mb0 [(2, [.int p])] rfl rfl ?zo ?zk
    case zo =>
      repeat' apply AllP.cons
      all_goals first | exact trivial | exact d3
    case zk =>
    refine Aw.sm tab_ok mb0 [] rfl rfl ?zo ?zk
    case zo =>
      repeat' apply AllP.cons
      all_goals first | exact trivial | exact id | exact fun _ => rfl | exact gq_c | exact fun _ _ => rfl
    case zk =>
    refine Aw.cond rfl (fun h => absurd h (by
      show ¬ (cond (dx == -1) (cond (decide (p < 0)) true (decide (p ≥ d))) false) = true
      by_cases hr : dx = -1
      · have := hp hr
        rw [decide_eq_false (show ¬ p < 0 by omega), decide_eq_false (show ¬ p ≥ d by omega)]; cases dx == -1 <;> decide
      · rw [show (dx == -1) = false by simpa using hr]; exact fun h => Bool.noConfusion h)) (fun h => Aw.skip ?_)
    refine Aw.em tab_ok mb0 [] rfl rfl ?zo ?zk
    case zo =>
      repeat' apply AllP.cons
      all_goals first | exact trivial | exact inrk 0 (by omega)
    case zk =>
    refine ⟨0 + 1, ?zg, ?zm, ⟨?zc, ?zv, ?zh, Nat.le_of_ble_eq_true rfl⟩⟩
    case zg =>
      (repeat' (first | assumption))
    case zm =>
      (repeat' (first | omega))
    case zc =>
      (repeat' (first | (refine And.intro ?_ ?_) | exact trivial | exact A.Le.refl _))
    case zv =>
      (repeat' (first | (refine And.intro ?_ ?_) | exact trivial | exact A.Le.refl _))
    case zh =>
      (repeat' (first | exact trivial))
  · refine Aw.seq (Aw.block ?_)
    refine Aw.sm tab_ok mb0 [(3, [outW (planL y bits M)])] rfl rfl ?zo ?zk
    case zo =>
      repeat' apply AllP.cons
      all_goals first | exact trivial | exact c3
    case zk =>
    refine Aw.seq ?_
    refine Aw.sm tab_ok mb0 [] rfl rfl ?zo ?zk
    case zo =>
      repeat' apply AllP.cons
      all_goals first | exact trivial
    case zk =>
    have c4 := Keep_w y b hy M
    refine Aw.cond rfl (fun h => ?_) (fun h => absurd h (by decide))
    rcases keep_R hyo hM with ⟨o, h1, h2, h3, h4⟩ | ⟨h1, h2⟩
    rotate_left
    · rw [h1] at c4
      refine Aw.sm tab_ok mb0 [(2, [.tup [outW [], .int 4]])] rfl rfl ?zo ?zk
      case zo =>
        repeat' apply AllP.cons
        all_goals first | exact trivial | exact c4
      case zk =>
      refine Aw.seq ?_
      refine Aw.sm tab_ok mb0 [] rfl rfl ?zo ?zk
      case zo =>
        repeat' apply AllP.cons
        all_goals first | exact trivial
      case zk =>
      refine Aw.cond rfl (fun h => ?_) (fun h => by cases h)
      refine Aw.sm tab_ok mb0 [(3, [.bool true])] rfl rfl ?zo ?zk
      case zo =>
        repeat' apply AllP.cons
        all_goals first | exact trivial | exact id | exact fun _ => rfl | exact fun _ => works_t
      case zk =>
      exact Aw.ret ⟨_, .cons (.tmp _) .nil, rfl⟩
    rw [h1] at c4
    have h3' : ∀ t ∈ o, -1 ≤ t ∧ t < y.length := fun t ht => by have := h3 t ht; omega
    refine Aw.sm tab_ok mb0 [(2, [.tup [outW o, .int 0]])] rfl rfl ?zo ?zk
    case zo =>
      repeat' apply AllP.cons
      all_goals first | exact trivial | exact c4
    case zk =>
    refine Aw.seq ?_
    refine Aw.sm tab_ok mb0 [] rfl rfl ?zo ?zk
    case zo =>
      repeat' apply AllP.cons
      all_goals first | exact trivial
    case zk =>
    refine Aw.cond rfl (fun h => by cases h) (fun h => Aw.skip ?_)
    refine Aw.em tab_ok mb0 [] rfl rfl ?zo ?zk
    case zo =>
      repeat' apply AllP.cons
      all_goals first | exact trivial
    case zk =>
    have d1 := leaks_nil y b hY M hM
    have d2 := Run_r hyo b hM h2 h3' o.isEmpty []
    have d3 := place_t o o.isEmpty w (by rw [h2]; omega)
    have hp : (runGo y (fun k => lkv y [] k) o 0 (lev0 y)).2 = -1 → 0 ≤ placeF w 0 o ∧ placeF w 0 o < d := fun hr => by
      obtain ⟨k, k1, k2, k3⟩ := htop o h2 hr
      have := place_le (x := w) 0 k1 k2
      omega
    generalize runGo y (fun k => lkv y [] k) o 0 (lev0 y) = R at *
    obtain ⟨Rl, dx⟩ := R
    simp only at hp
    generalize placeF w 0 o = p at *
    refine Aw.sm tab_ok mb0 [(4, [nlW (leaksL y [] M)]), (5, [.tup [outW (Rl.take y.length), .int dx, .int 0]])] rfl rfl ?zo ?zk
    case zo =>
      repeat' apply AllP.cons
      all_goals first | exact trivial | exact d1 | exact d2
    case zk =>
    refine Aw.seq ?_
    refine Aw.sm tab_ok mb0 [] rfl rfl ?zo ?zk
    case zo =>
      repeat' apply AllP.cons
      all_goals first | exact trivial
    case zk =>
    refine Aw.cond rfl (fun h => by cases h) (fun h => Aw.skip ?_)
    refine Aw.sm tab_ok mb0 [(2, [.int p])] rfl rfl ?zo ?zk
    case zo =>
      repeat' apply AllP.cons
      all_goals first | exact trivial | exact d3
    case zk =>
    refine Aw.sm tab_ok mb0 [] rfl rfl ?zo ?zk
    case zo =>
      repeat' apply AllP.cons
      all_goals first | exact trivial | exact id | exact fun _ => rfl | exact gq_c | exact fun _ _ => rfl
    case zk =>
    refine Aw.cond rfl (fun h => absurd h (by
      show ¬ (cond (dx == -1) (cond (decide (p < 0)) true (decide (p ≥ d))) false) = true
      by_cases hr : dx = -1
      · have := hp hr
        rw [decide_eq_false (show ¬ p < 0 by omega), decide_eq_false (show ¬ p ≥ d by omega)]; cases dx == -1 <;> decide
      · rw [show (dx == -1) = false by simpa using hr]; exact fun h => Bool.noConfusion h)) (fun h => Aw.skip ?_)
    refine Aw.em tab_ok mb0 [] rfl rfl ?zo ?zk
    case zo =>
      repeat' apply AllP.cons
      all_goals first | exact trivial | exact inrk 1 (by omega)
    case zk =>
    refine ⟨1 + 1, ?zg, ?zm, ⟨?zc, ?zv, ?zh, Nat.le_of_ble_eq_true rfl⟩⟩
    case zg =>
      (repeat' (first | assumption))
    case zm =>
      (repeat' (first | omega))
    case zc =>
      (repeat' (first | (refine And.intro ?_ ?_) | exact trivial | exact A.Le.refl _))
    case zv =>
      (repeat' (first | (refine And.intro ?_ ?_) | exact trivial | exact A.Le.refl _))
    case zh =>
      (repeat' (first | exact trivial))
end Go.Proofs.Ytampldajinhenaa

namespace Go.Proofs.Ytampldajinhenaa
open Go Go.AL Go.ChangeShapes Go.WideShapes Go.ChangeAt Go.RowKit
set_option maxRecDepth 100000 in
theorem barrelFirst_lifted (os : Os) (started : os.Started) (H : Type) (enc : TypeId × Value → H) :
    ReturnsInHanded {} Try.checked os 9 .any (Rows.barrelFirstSpec.pre6 enc Try.prog Try.f9 [] false) (Rows.barrelFirstSpec.post enc Try.prog Try.f9 false true false false) := by
  refine lifted2 (tb := 4) (C := Try.checked) own started (by kernel_rfl) Try.func9
    (ChangeSpec.witness6 (enc := enc) (C := Try.checked) false ⟨#[], #[.slice none 0 0, .int .i64 0, .slice none 0 0], []⟩ 8 (by kernel_rfl) (by kernel_rfl) (by kernel_rfl) (by kernel_rfl))
    laidOut ?_ rfl rfl (by kernel_rfl) uBool ?_ ?_
  · rw [Try.params9]; exact all3t (p := fun t => Try.prog.readableRec t = true ∧ t < Try.prog.types.size) t35 t3 t22
  · intro ds hd
    rw [Try.params9] at hd
    match ds, hd with
    | [d0, d1, d2], _ => rfl
  · intro W base args ds p hval hA hwt
    rw [Try.params9] at hA hval
    obtain ⟨v0, v1, v2, d0, d1, d2, p0, p1, p2, rfl, rfl, rfl, h0, h1, h2⟩ := trodAll_three hA
    obtain ⟨b0, y0, q0, s0⟩ := arg_yard (φ := fun _ => none) (hval 0 35 v0 rfl rfl) h0 fun k hk => hwt k (List.mem_append.2 (.inl hk))
    obtain ⟨y1, q1⟩ := arg_int (φ := fun _ => none) (hval 1 3 v1 rfl rfl) h1 fun k hk => hwt k (List.mem_append.2 (.inr (List.mem_append.2 (.inl hk))))
    obtain ⟨b2, y2, q2, s2⟩ := arg_ints (φ := fun _ => none) (hval 2 22 v2 rfl rfl) h2 fun k hk => hwt k (List.mem_append.2 (.inr (List.mem_append.2 (.inr (List.mem_append.2 (.inl hk))))))
    exact ⟨_, _, vrs3 q0 q1 q2, first_l b0 y0 y1 b2 y2 s0 s2⟩
theorem barrelFirst_holds : Rows.BarrelFirstSaid :=
  OpenClaim.holds_of_wide 9 Try.f9 rfl rfl rfl rfl rfl rfl rfl ⟨rfl, rfl, rfl, rfl, rfl⟩ rfl rfl rfl rfl rfl (by kernel_rfl) Try.func9 (by kernel_rfl)
    (of_decide_eq_true (by kernel_rfl)) (by unfold Func.isWrapper; first | (rw [if_pos (by decide +kernel)]; kernel_rfl) | (rw [if_neg (by decide +kernel)]; exact ⟨rfl, rfl⟩))
    (fun os started H enc _ => barrelFirst_lifted os started H enc)
end Go.Proofs.Ytampldajinhenaa

