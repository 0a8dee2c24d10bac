/- BarrelKeeps holds: First returns what the chapter says, and Keep a plan that keeps, if there is one. No condition. -/
import Derived.Test.YtampldajinhenaaK6
set_option linter.all false
namespace Go.AL.Br
open Go Go.AL Go.AL.Q
def monL (of : Nat → Int) (lv : List Int) (k : Nat) : List Int := (List.range k).map fun i => mx0 (lv.getD i 0 - of i)
theorem monL_len (of : Nat → Int) (lv : List Int) (k : Nat) : (monL of lv k).length = k := by simp [monL]
theorem monL_succ (of : Nat → Int) (lv : List Int) (k : Nat) : monL of lv (k + 1) = monL of lv k ++ [mx0 (lv.getD k 0 - of k)] := by unfold monL; rw [List.range_succ, List.map_append]; rfl
theorem monL_take (of : Nat → Int) (lv : List Int) {k n : Nat} (h : k ≤ n) : (monL of lv n).take k = monL of lv k := by
  unfold monL
  rw [← List.map_take, List.take_range, Nat.min_eq_left h]
theorem monL_get {of : Nat → Int} {lv : List Int} {k i : Nat} (h : i < k) : (monL of lv k).getD i 0 = mx0 (lv.getD i 0 - of i) := by
  simp [monL, List.getD_eq_getElem?_getD, h]
def okM (y : List Cask) (of : Nat → Int) (lv : List Int) (k : Nat) : Bool := (List.range k).all fun i => decide (mx0 (lv.getD i 0 - of i) ≥ (ck y i).line)
theorem okM_succ (y : List Cask) (of : Nat → Int) (lv : List Int) (k : Nat) : okM y of lv (k + 1) = cond (okM y of lv k) (decide (mx0 (lv.getD k 0 - of k) ≥ (ck y k).line)) false := by
  unfold okM
  rw [List.range_succ, List.all_append]
  cases (List.range k).all fun i => decide (mx0 (lv.getD i 0 - of i) ≥ (ck y i).line) <;> simp
def fillS (y : List Cask) (lv : List Int) (top : Int) : List Int := if top ≥ 0 then lv.set top.toNat (ck y top.toNat).full else lv
structure LvS (n : Nat) (l : List Int) : Prop where
  n : l.length = n
  b : ∀ x ∈ l, 0 ≤ x ∧ x ≤ 1000
theorem LvS.get {n : Nat} {l : List Int} (h : LvS n l) {i : Nat} (hi : i < n) : 0 ≤ l.getD i 0 ∧ l.getD i 0 ≤ 1000 := by
  have hl : i < l.length := by rw [h.n]; exact hi
  have e : l.getD i 0 = l[i] := by simp [List.getD_eq_getElem?_getD, hl]
  rw [e]; exact h.b _ (List.getElem_mem hl)
theorem LvS.month {n : Nat} {l : List Int} (h : LvS n l) {of : Nat → Int} (ho : ∀ i, i < n → 0 ≤ of i) : LvS n (monL of l n) := ⟨monL_len _ _ _, fun x hx => by
  obtain ⟨i, hi, rfl⟩ := List.mem_map.1 hx
  have hi := List.mem_range.1 hi
  have := h.get hi
  have := ho i hi
  exact mx0_bd (by omega)⟩
theorem LvS.fill {n : Nat} {l : List Int} (h : LvS n l) {y : List Cask} (hy : ∀ c ∈ y, c.Ok) (top : Int) : LvS n (fillS y l top) := by
  unfold fillS
  split
  · exact ⟨by rw [List.length_set]; exact h.n, fun z hz => by
      rcases List.mem_or_eq_of_mem_set hz with h1 | rfl
      · exact h.b z h1
      · have := ck_ok hy top.toNat; omega⟩
  · exact h
def nowL (y : List Cask) : List Int := y.map (·.level)
theorem now_ok {y : List Cask} (hy : ∀ c ∈ y, c.Ok) : LvS y.length (nowL y) := ⟨by simp [nowL], fun x hx => by
  obtain ⟨c, hc, rfl⟩ := List.mem_map.1 hx
  have h1 := (hy c hc).l
  have h2 := (hy c hc).f
  omega⟩
def runSp (y : List Cask) (of : Nat → Nat → Int) : List Int → Nat → List Int → List Int × Int
  | [], _, l => (l, -1)
  | top :: ts, m, l => if okM y (of m) l y.length then runSp y of ts (m + 1) (fillS y (monL (of m) l y.length) top) else (monL (of m) l y.length, m)
theorem take_getD {l : List Int} {n i : Nat} (h : i < n) : (l.take n).getD i 0 = l.getD i 0 := by
  simp [List.getD_eq_getElem?_getD, List.getElem?_take, h]
theorem okM_dry {y : List Cask} {of : Nat → Int} {l : List Int} : ∀ k : Nat, k ≤ y.length → (okM y of (l.take y.length) k = true ↔ dryK y of l k < 0)
  | 0, _ => ⟨fun _ => (show (-1 : Int) < 0 by decide), fun _ => rfl⟩
  | k + 1, hk => by
    have ih := okM_dry (y := y) (of := of) (l := l) k (by omega)
    rw [okM_succ, take_getD (by omega), dryK]
    by_cases h1 : okM y of (l.take y.length) k = true
    · have h2 := ih.1 h1
      rw [h1]
      by_cases h3 : mx0 (l.getD k 0 - of k) < (ck y k).line
      · rw [decide_eq_true h3, decide_eq_true h2, decide_eq_false (show ¬ mx0 (l.getD k 0 - of k) ≥ (ck y k).line by omega)]
        simp
      · rw [decide_eq_false h3, decide_eq_true (show mx0 (l.getD k 0 - of k) ≥ (ck y k).line by omega)]
        simpa using h2
    · have h2 : ¬ dryK y of l k < 0 := fun h => h1 (ih.2 h)
      have h1 : okM y of (l.take y.length) k = false := by simpa using h1
      rw [h1, decide_eq_false h2]
      have : cond (decide (mx0 (l.getD k 0 - of k) < (ck y k).line)) false false = false := by cases decide (mx0 (l.getD k 0 - of k) < (ck y k).line) <;> rfl
      rw [show (bif decide (mx0 (l.getD k 0 - of k) < (ck y k).line) then false else false) = false from this]
      simpa using h2
theorem mon_take {y : List Cask} {of : Nat → Int} {l : List Int} (hl : y.length ≤ l.length) : monL of (l.take y.length) y.length = (leakL y of l).take y.length := by
  refine List.ext_getElem (by rw [monL_len, List.length_take]; unfold leakL; rw [lkK_len]; omega) fun i h1 h2 => ?_
  rw [monL_len] at h1
  have e1 : (monL of (l.take y.length) y.length)[i] = mx0 ((l.take y.length).getD i 0 - of i) := by simp [monL]
  rw [e1, take_getD h1, List.getElem_take]
  have h3 : i < l.length := by omega
  simp [leakL, lkK, h1, List.getD_eq_getElem?_getD, h3]
theorem fill_take {y : List Cask} {l : List Int} {top : Int} (ht : top < y.length) : fillS y (l.take y.length) top = (fillL y l top).take y.length := by
  unfold fillS fillL
  by_cases h : 0 ≤ top
  · rw [if_pos h, if_pos h, List.take_set]
  · rw [if_neg h, if_neg h]
theorem fillL_len (y : List Cask) (l : List Int) (top : Int) : (fillL y l top).length = l.length := by unfold fillL; split <;> simp
theorem runSp_is {y : List Cask} {of : Nat → Nat → Int} : ∀ (ts : List Int) (m : Nat) (l : List Int), y.length ≤ l.length → (∀ t ∈ ts, t < y.length) →
    runSp y of ts m (l.take y.length) = ((runGo y of ts m l).1.take y.length, (runGo y of ts m l).2)
  | [], m, l, _, _ => rfl
  | top :: ts, m, l, hl, ht => by
    rw [runSp, runGo]
    have h1 := okM_dry (y := y) (of := of m) (l := l) y.length (Nat.le_refl _)
    have hlen : y.length ≤ (leakL y (of m) l).length := by unfold leakL; rw [lkK_len]; exact hl
    by_cases h : okM y (of m) (l.take y.length) y.length = true
    · have h2 := h1.1 h
      rw [if_pos h, if_neg (by unfold dryF; omega), mon_take hl, fill_take (ht top (by simp)), runSp_is ts (m + 1) _ (by rw [fillL_len]; exact hlen) (fun t h => ht t (List.mem_cons_of_mem _ h))]
    · have h2 : ¬ dryK y (of m) l y.length < 0 := fun x => h (h1.2 x)
      rw [if_neg h, if_pos (by unfold dryF; omega), mon_take hl]
theorem now_take {y : List Cask} (h : y.length ≤ 4) : nowL y = (lev0 y).take y.length := by
  refine List.ext_getElem (by simp [nowL, lev0]; omega) fun i h1 h2 => ?_
  have hi : i < y.length := by simpa [nowL] using h1
  rw [List.getElem_take]
  have e : (nowL y)[i] = (ck y i).level := by rw [ck_get hi]; simp [nowL]
  rw [e]
  rcases (show i = 0 ∨ i = 1 ∨ i = 2 ∨ i = 3 by omega) with rfl | rfl | rfl | rfl <;> rfl
end Go.AL.Br

namespace Go.AL.Br
open Go Go.AL Go.AL.Q
theorem mx0_mono {x y : Int} (h : x ≤ y) : mx0 x ≤ mx0 y := by unfold mx0; split <;> split <;> omega
theorem dryK_iff {y : List Cask} {of : Nat → Int} {l : List Int} : ∀ k : Nat, dryK y of l k < 0 ↔ ∀ i, i < k → (ck y i).line ≤ mx0 (l.getD i 0 - of i)
  | 0 => ⟨fun _ i h => by omega, fun _ => (show (-1 : Int) < 0 by decide)⟩
  | k + 1 => by
    have ih := dryK_iff (y := y) (of := of) (l := l) k
    rw [dryK]
    by_cases h1 : mx0 (l.getD k 0 - of k) < (ck y k).line
    · rw [decide_eq_true h1]
      by_cases h2 : dryK y of l k < 0
      · rw [decide_eq_true h2, if_pos (show cond true true false = true from rfl)]
        exact ⟨fun h => by omega, fun h => by have := h k (by omega); omega⟩
      · rw [decide_eq_false h2, if_neg (by simp)]
        exact ⟨fun h => absurd h h2, fun h => by have := h k (by omega); omega⟩
    · rw [decide_eq_false h1, if_neg (by simp), ih]
      exact ⟨fun h i hi => by
        rcases Nat.lt_succ_iff_lt_or_eq.1 hi with h3 | rfl
        · exact h i h3
        · omega, fun h i hi => h i (by omega)⟩
theorem dry_iff {y : List Cask} {of : Nat → Int} {l : List Int} : dryF y of l < 0 ↔ ∀ i, i < y.length → (ck y i).line ≤ mx0 (l.getD i 0 - of i) := dryK_iff _
theorem dryK_at {y : List Cask} {of : Nat → Int} {l : List Int} : ∀ {k : Nat} {w : Nat}, dryK y of l k = (w : Int) → w < k ∧ mx0 (l.getD w 0 - of w) < (ck y w).line ∧ ∀ i, i < w → (ck y i).line ≤ mx0 (l.getD i 0 - of i)
  | 0, w, h => by rw [dryK] at h; omega
  | k + 1, w, h => by
    rw [dryK] at h
    by_cases h1 : mx0 (l.getD k 0 - of k) < (ck y k).line
    · rw [decide_eq_true h1] at h
      by_cases h2 : dryK y of l k < 0
      · rw [decide_eq_true h2, if_pos (show cond true true false = true from rfl)] at h
        have e : k = w := by omega
        subst e
        exact ⟨Nat.lt_succ_self _, h1, dryK_iff _ |>.1 h2⟩
      · rw [decide_eq_false h2, if_neg (by simp)] at h
        have := dryK_at h
        exact ⟨by omega, this.2⟩
    · rw [decide_eq_false h1, if_neg (by simp)] at h
      have := dryK_at h
      exact ⟨by omega, this.2⟩
theorem leak_get {y : List Cask} {of : Nat → Int} {l : List Int} (hl : y.length ≤ l.length) {i : Nat} (hi : i < y.length) : (leakL y of l).getD i 0 = mx0 (l.getD i 0 - of i) := by
  unfold leakL
  rw [lkK_get (by omega), if_pos hi]
theorem leak_len (y : List Cask) (of : Nat → Int) (l : List Int) : (leakL y of l).length = l.length := lkK_len ..
theorem fill_get {y : List Cask} {l : List Int} {t : Int} {i : Nat} (hi : i < l.length) : (fillL y l t).getD i 0 = if t = (i : Int) then (ck y i).full else l.getD i 0 := by
  unfold fillL
  by_cases h : 0 ≤ t
  · rw [if_pos h, List.getD_eq_getElem?_getD, List.getElem?_set]
    by_cases e : t.toNat = i
    · subst e
      rw [if_pos rfl, if_pos hi, if_pos (by omega)]; rfl
    · rw [if_neg e, if_neg (by omega), List.getD_eq_getElem?_getD]
  · rw [if_neg h, if_neg (by omega)]
theorem set_fill (y : List Cask) (l : List Int) (k : Nat) : l.set k (ck y k).full = fillL y l k := by
  unfold fillL
  rw [if_pos (Int.natCast_nonneg k), Int.toNat_natCast]
def Dom (n : Nat) (a b : List Int) : Prop := ∀ i, i < n → b.getD i 0 ≤ a.getD i 0
theorem Dom.refl (n : Nat) (a : List Int) : Dom n a a := fun _ _ => Int.le_refl _
theorem Dom.trans {n : Nat} {a b c : List Int} (h : Dom n a b) (k : Dom n b c) : Dom n a c := fun i hi => Int.le_trans (k i hi) (h i hi)
structure Ez (x y : List Cask) : Prop where
  n : x.length = y.length
  l : ∀ i, i < y.length → (ck x i).line ≤ (ck y i).line
  f : ∀ i, i < y.length → (ck x i).full = (ck y i).full
theorem Ez.refl (y : List Cask) : Ez y y := ⟨rfl, fun _ _ => Int.le_refl _, fun _ _ => rfl⟩
theorem Dom.dry {x y : List Cask} (hz : Ez x y) {a b : List Int} (h : Dom y.length a b) {ox oy : Nat → Int} (ho : ∀ i, i < y.length → ox i ≤ oy i) (hd : dryF y oy b < 0) : dryF x ox a < 0 := dry_iff.2 fun i hi => by
  rw [hz.n] at hi
  have h1 := dry_iff.1 hd i hi
  have h2 := hz.l i hi
  have h3 := h i hi
  have h4 := ho i hi
  have h5 : mx0 (b.getD i 0 - oy i) ≤ mx0 (a.getD i 0 - ox i) := mx0_mono (by omega)
  omega
theorem Dom.leak {x y : List Cask} (hz : Ez x y) {a b : List Int} (ha : y.length ≤ a.length) (hb : y.length ≤ b.length) (h : Dom y.length a b) {ox oy : Nat → Int} (ho : ∀ i, i < y.length → ox i ≤ oy i) : Dom y.length (leakL x ox a) (leakL y oy b) := fun i hi => by
  rw [leak_get hb hi, leak_get (by rw [hz.n]; exact ha) (by rw [hz.n]; exact hi)]
  have h3 := h i hi
  have h4 := ho i hi
  exact mx0_mono (by omega)
theorem Dom.fill {x y : List Cask} (hz : Ez x y) {a b : List Int} (ha : y.length ≤ a.length) (hb : y.length ≤ b.length) (h : Dom y.length a b) (t : Int) : Dom y.length (fillL x a t) (fillL y b t) := fun i hi => by
  rw [fill_get (by omega), fill_get (by omega), hz.f i hi]
  have := h i hi
  split <;> omega
structure LvIn (y : List Cask) (l : List Int) : Prop where
  n : y.length ≤ l.length
  b : ∀ i, i < y.length → 0 ≤ l.getD i 0 ∧ l.getD i 0 ≤ (ck y i).full
theorem LvIn.leak {y : List Cask} {l : List Int} (h : LvIn y l) {of : Nat → Int} (ho : ∀ i, i < y.length → 0 ≤ of i) : LvIn y (leakL y of l) :=
  ⟨by rw [leak_len]; exact h.n, fun i hi => by
    rw [leak_get h.n hi]
    have h1 := h.b i hi
    have h2 := ho i hi
    unfold mx0; split <;> omega⟩
theorem LvIn.fill {y : List Cask} (hy : ∀ c ∈ y, c.Ok) {l : List Int} (h : LvIn y l) (t : Int) : LvIn y (fillL y l t) :=
  ⟨by rw [fillL_len]; exact h.n, fun i hi => by
    rw [fill_get (by have := h.n; omega)]
    have h1 := h.b i hi
    have h2 := ck_ok hy i
    split <;> omega⟩
theorem LvIn.start {y : List Cask} (hy : YardOk y) : LvIn y (lev0 y) := ⟨by show y.length ≤ 4; exact hy.n.2, fun i hi => by
  have hn := hy.n.2
  have e : (lev0 y).getD i 0 = (ck y i).level := by
    rcases (show i = 0 ∨ i = 1 ∨ i = 2 ∨ i = 3 by omega) with rfl | rfl | rfl | rfl <;> rfl
  rw [e, ck_get hi]
  exact (hy.c _ (List.getElem_mem hi)).l⟩
theorem findGo_some {rec : List Int → Option (List Int)} {y : List Cask} {l : List Int} : ∀ {ks : List Nat} {o : List Int}, findGo rec y l ks = some o → ∃ k o', k ∈ ks ∧ o = (k : Int) :: o' ∧ rec (l.set k (ck y k).full) = some o'
  | [], o, h => by cases h
  | k :: ks, o, h => by
    rw [findGo] at h
    split at h
    · obtain ⟨k', o', h1, h2⟩ := findGo_some h
      exact ⟨k', o', List.mem_cons_of_mem _ h1, h2⟩
    · split at h
      · rename_i o' ho
        cases h
        exact ⟨k, o', by simp, rfl, ho⟩
      · obtain ⟨k', o', h1, h2⟩ := findGo_some h
        exact ⟨k', o', List.mem_cons_of_mem _ h1, h2⟩
theorem findGo_none {rec : List Int → Option (List Int)} {y : List Cask} {l : List Int} : ∀ {ks : List Nat}, findGo rec y l ks = none → ∀ k ∈ ks, (l.set k (ck y k).full = l ∧ 0 < k) ∨ rec (l.set k (ck y k).full) = none
  | [], h, k, hk => by cases hk
  | k :: ks, h, j, hj => by
    rw [findGo] at h
    split at h
    · rename_i hc
      rcases List.mem_cons.1 hj with rfl | hj
      · rw [c_and, Bool.and_eq_true, beq_iff_eq, decide_eq_true_eq] at hc
        exact .inl hc
      · exact findGo_none h j hj
    · split at h
      · cases h
      · rename_i hn
        rcases List.mem_cons.1 hj with rfl | hj
        · exact .inr hn
        · exact findGo_none h j hj
theorem find_run {y : List Cask} : ∀ (f : Nat) (l o : List Int) (m : Nat), findF y f l = some o → o.length = f ∧ (∀ t ∈ o, 0 ≤ t ∧ t < y.length) ∧ (runGo y (fun _ => mostOf y) o m l).2 = -1
  | 0, l, o, m, h => by cases h; exact ⟨rfl, (fun t h => nomatch h), rfl⟩
  | f + 1, l, o, m, h => by
    rw [findF] at h
    split at h
    · cases h
    · rename_i hd
      obtain ⟨k, o', h1, rfl, h2⟩ := findGo_some h
      obtain ⟨h3, h4, h5⟩ := find_run f _ o' (m + 1) h2
      have hk := List.mem_range.1 h1
      refine ⟨by rw [List.length_cons, h3], fun t ht => ?_, ?_⟩
      · rcases List.mem_cons.1 ht with rfl | ht
        · omega
        · exact h4 t ht
      · rw [runGo, if_neg hd, ← set_fill]; exact h5
theorem find_has {y : List Cask} (hy : YardOk y) : ∀ (ts : List Int) (m : Nat) (a b : List Int), LvIn y a → y.length ≤ b.length → Dom y.length a b → (∀ t ∈ ts, -1 ≤ t ∧ t < y.length) → (runGo y (fun _ => mostOf y) ts m b).2 = -1 → findF y ts.length a ≠ none
  | [], m, a, b, _, _, _, _, _ => fun h => by cases h
  | t :: ts, m, a, b, ha, hb, h, ht, hr => by
    intro hn
    rw [List.length_cons, findF] at hn
    rw [runGo] at hr
    by_cases hd : dryF y (mostOf y) b ≥ 0
    · rw [if_pos hd] at hr
      have hr : (m : Int) = -1 := hr
      omega
    rw [if_neg hd] at hr
    have hd2 := h.dry (Ez.refl y) (ox := mostOf y) (oy := mostOf y) (fun _ _ => Int.le_refl _) (by omega)
    rw [if_neg (by omega)] at hn
    have hno : ∀ i, i < y.length → 0 ≤ mostOf y i := fun i _ => by have := ck_ok hy.c i; unfold mostOf; omega
    have ha' := ha.leak hno
    have hdom := h.leak (Ez.refl y) ha.n hb (ox := mostOf y) (oy := mostOf y) (fun _ _ => Int.le_refl _)
    have hbl : y.length ≤ (leakL y (mostOf y) b).length := by rw [leak_len]; exact hb
    generalize leakL y (mostOf y) a = a' at *
    generalize leakL y (mostOf y) b = b' at *
    have hy1 := hy.n
    have ht0 := ht t (by simp)
    have htr := fun t' h => ht t' (List.mem_cons_of_mem _ h)
    have hlen : ∀ t', y.length ≤ (fillL y b' t').length := fun t' => by rw [fillL_len]; exact hbl
    have key : ∀ k, k < y.length → Dom y.length (a'.set k (ck y k).full) (fillL y b' t) → findF y ts.length (a'.set k (ck y k).full) ≠ none := fun k hk hD =>
      find_has hy ts (m + 1) _ _ (by rw [set_fill]; exact ha'.fill hy.c k) (hlen t) hD htr hr
    have zero : Dom y.length a' (fillL y b' t) → False := fun hD => by
      have h0 : Dom y.length (a'.set 0 (ck y 0).full) (fillL y b' t) := fun i hi => by
        have h1 := hD i hi
        have h2 := ha'.b i hi
        rw [set_fill, fill_get (l := a') (by have := ha'.n; omega)]
        split
        · rename_i e
          have e : i = 0 := by omega
          subst e
          omega
        · exact h1
      rcases findGo_none hn 0 (List.mem_range.2 (by omega)) with h1 | h1
      · omega
      · exact key 0 (by omega) h0 h1
    by_cases ht1 : t < 0
    · refine zero fun i hi => ?_
      rw [fill_get (by omega), if_neg (by omega)]
      exact hdom i hi
    · obtain ⟨k, rfl⟩ : ∃ k : Nat, t = k := ⟨t.toNat, by omega⟩
      have hD : Dom y.length (a'.set k (ck y k).full) (fillL y b' k) := by rw [set_fill]; exact hdom.fill (Ez.refl y) ha'.n hbl k
      rcases findGo_none hn k (List.mem_range.2 (by omega)) with h1 | h1
      · rw [h1.1] at hD; exact zero hD
      · exact key k (by omega) hD h1
end Go.AL.Br

namespace Go.AL.Br
open Go Go.AL Go.AL.Q
theorem keep_R {y : List Cask} (hyo : yardOk y = true) {M : Nat} (hM : M ≤ 12) :
    (∃ o, KeepR y M = (o, 0) ∧ o.length = M ∧ (∀ t ∈ o, 0 ≤ t ∧ t < y.length) ∧ (runGo y (fun _ => mostOf y) o 0 (lev0 y)).2 = -1) ∨
    (KeepR y M = ([], 4) ∧ ∀ ts : List Int, ts.length = M → (∀ t ∈ ts, -1 ≤ t ∧ t < y.length) → (runGo y (fun _ => mostOf y) ts 0 (lev0 y)).2 ≠ -1) := by
  have hy := yardOk_iff.1 hyo
  unfold KeepR
  rw [if_pos hyo, if_pos (wi_iff.2 (by omega)), Int.toNat_natCast]
  cases h : findF y M (lev0 y) with
  | some o =>
    have := find_run M _ o 0 h
    exact .inl ⟨o, rfl, this⟩
  | none =>
    refine .inr ⟨rfl, fun ts hl ht hr => ?_⟩
    have := find_has hy ts 0 (lev0 y) (lev0 y) (LvIn.start hy) (by show y.length ≤ 4; exact hy.n.2) (Dom.refl _ _) ht hr
    rw [hl] at this
    exact this h
end Go.AL.Br

namespace Go.AL.Br
open Go Go.AL Go.AL.Q
def higherF (a b : List Int) : Bool := (List.range a.length).all fun i => decide (¬ a.getD i 0 < b.getD i 0)
theorem higher_iff {a b : List Int} : higherF a b = true ↔ Dom a.length a b := by
  unfold higherF Dom
  rw [List.all_eq_true]
  constructor
  · intro h i hi
    have := of_decide_eq_true (h i (List.mem_range.2 hi))
    omega
  · intro h i hi
    have := h i (List.mem_range.1 hi)
    exact decide_eq_true (by omega)
def putF (L : List (List Int)) (one : List Int) : List (List Int) :=
  if (L.any fun r => higherF r one) = true then L else L.filter (fun r => !higherF one r) ++ [one]
theorem put_len (L : List (List Int)) (one : List Int) : (putF L one).length ≤ L.length + 1 := by
  unfold putF
  split
  · omega
  · have := List.length_filter_le (fun r => !higherF one r) L
    rw [List.length_append, List.length_singleton]; omega
theorem put_mem {L : List (List Int)} {one r : List Int} (h : r ∈ putF L one) : r ∈ L ∨ r = one := by
  unfold putF at h
  split at h
  · exact .inl h
  · rcases List.mem_append.1 h with h | h
    · exact .inl (List.mem_filter.1 h).1
    · exact .inr (by simpa using h)
def canS (y : List Cask) : Nat → List Int → Prop
  | 0, _ => True
  | f + 1, l => okM y (mostOf y) l y.length = true ∧ ∃ k, k < y.length ∧ canS y f ((monL (mostOf y) l y.length).set k (ck y k).full)
theorem okM_iff {y : List Cask} {of : Nat → Int} {l : List Int} {n : Nat} : okM y of l n = true ↔ ∀ i, i < n → (ck y i).line ≤ mx0 (l.getD i 0 - of i) := by
  unfold okM
  rw [List.all_eq_true]
  exact ⟨fun h i hi => of_decide_eq_true (h i (List.mem_range.2 hi)), fun h i hi => decide_eq_true (h i (List.mem_range.1 hi))⟩
theorem set_getD {l : List Int} {k i : Nat} {v : Int} (hi : i < l.length) : (l.set k v).getD i 0 = if k = i then v else l.getD i 0 := by
  rw [List.getD_eq_getElem?_getD, List.getElem?_set]
  by_cases e : k = i
  · subst e; rw [if_pos rfl, if_pos hi, if_pos rfl]; rfl
  · rw [if_neg e, if_neg e, List.getD_eq_getElem?_getD]
theorem canS_mono {y : List Cask} : ∀ (f : Nat) {a b : List Int}, Dom y.length a b → canS y f b → canS y f a
  | 0, _, _, _, _ => trivial
  | f + 1, a, b, h, ⟨h1, k, h2, h3⟩ => by
    have hm : Dom y.length (monL (mostOf y) a y.length) (monL (mostOf y) b y.length) := fun i hi => by
      rw [monL_get hi, monL_get hi]
      have := h i hi
      exact mx0_mono (by omega)
    refine ⟨okM_iff.2 fun i hi => ?_, k, h2, canS_mono f (fun i hi => ?_) h3⟩
    · have q1 := okM_iff.1 h1 i hi
      have q2 := hm i hi
      rw [monL_get hi, monL_get hi] at q2
      omega
    · rw [set_getD (by rw [monL_len]; exact hi), set_getD (by rw [monL_len]; exact hi)]
      have := hm i hi
      split <;> omega
def HasS (y : List Cask) (f : Nat) (L : List (List Int)) : Prop := ∃ r ∈ L, canS y f r
theorem put_has {y : List Cask} {f : Nat} {L : List (List Int)} {one : List Int} (hL : ∀ r ∈ L, r.length = y.length) (ho : one.length = y.length) : HasS y f (putF L one) ↔ HasS y f L ∨ canS y f one := by
  constructor
  · rintro ⟨r, h1, h2⟩
    rcases put_mem h1 with h | h
    · exact .inl ⟨r, h, h2⟩
    · subst h; exact .inr h2
  · intro h
    unfold putF
    by_cases ha : (L.any fun r => higherF r one) = true
    · rw [if_pos ha]
      rcases h with h | h
      · exact h
      · obtain ⟨r, h1, h2⟩ := List.any_eq_true.1 ha
        have := higher_iff.1 h2
        rw [hL r h1] at this
        exact ⟨r, h1, canS_mono f this h⟩
    · rw [if_neg ha]
      have h1 : canS y f one → HasS y f (L.filter (fun r => !higherF one r) ++ [one]) := fun h => ⟨one, by simp, h⟩
      rcases h with ⟨r, h2, h3⟩ | h
      · by_cases h4 : higherF one r = true
        · have := higher_iff.1 h4
          rw [ho] at this
          exact h1 (canS_mono f this h3)
        · exact ⟨r, List.mem_append.2 (.inl (List.mem_filter.2 ⟨h2, by simpa using h4⟩)), h3⟩
      · exact h1 h
def putK (y : List Cask) (lv : List Int) (N : List (List Int)) : Nat → List (List Int)
  | 0 => N
  | k + 1 => putF (putK y lv N k) (lv.set k (ck y k).full)
def stepR (y : List Cask) (N : List (List Int)) (r : List Int) : List (List Int) :=
  if okM y (mostOf y) r y.length = true then putK y (monL (mostOf y) r y.length) N y.length else N
def nextF (y : List Cask) (L : List (List Int)) : List (List Int) := L.foldl (stepR y) []
def allF (y : List Cask) : Nat → List (List Int)
  | 0 => [nowL y]
  | m + 1 => nextF y (allF y m)
def LenS (y : List Cask) (L : List (List Int)) : Prop := ∀ r ∈ L, LvS y.length r
theorem putF_lenS {y : List Cask} {L : List (List Int)} {one : List Int} (h : LenS y L) (ho : LvS y.length one) : LenS y (putF L one) := fun r hr => by
  rcases put_mem hr with h1 | h1
  · exact h r h1
  · subst h1; exact ho
theorem fill_lvS {y : List Cask} (hy : ∀ c ∈ y, c.Ok) {lv : List Int} (h : LvS y.length lv) (k : Nat) : LvS y.length (lv.set k (ck y k).full) := ⟨by rw [List.length_set]; exact h.n, fun z hz => by
  rcases List.mem_or_eq_of_mem_set hz with h1 | rfl
  · exact h.b z h1
  · have := ck_ok hy k; omega⟩
theorem putK_lenS {y : List Cask} (hy : ∀ c ∈ y, c.Ok) {lv : List Int} (h : LvS y.length lv) {N : List (List Int)} (hN : LenS y N) : ∀ k, LenS y (putK y lv N k)
  | 0 => hN
  | k + 1 => putF_lenS (putK_lenS hy h hN k) (fill_lvS hy h k)
theorem putK_len {y : List Cask} {lv : List Int} {N : List (List Int)} : ∀ k, (putK y lv N k).length ≤ N.length + k
  | 0 => Nat.le_refl _
  | k + 1 => by
    have := putK_len (y := y) (lv := lv) (N := N) k
    have := put_len (putK y lv N k) (lv.set k (ck y k).full)
    rw [putK]; omega
theorem putK_has {y : List Cask} (hy : ∀ c ∈ y, c.Ok) {f : Nat} {lv : List Int} (h : LvS y.length lv) {N : List (List Int)} (hN : LenS y N) : ∀ k, HasS y f (putK y lv N k) ↔ HasS y f N ∨ ∃ j, j < k ∧ canS y f (lv.set j (ck y j).full)
  | 0 => ⟨.inl, fun h => by
    rcases h with h | ⟨j, h, _⟩
    · exact h
    · omega⟩
  | k + 1 => by
    rw [putK, put_has (fun r hr => (putK_lenS hy h hN k r hr).n) (fill_lvS hy h k).n, putK_has hy h hN k]
    constructor
    · rintro ((h | ⟨j, h1, h2⟩) | h)
      · exact .inl h
      · exact .inr ⟨j, by omega, h2⟩
      · exact .inr ⟨k, by omega, h⟩
    · rintro (h | ⟨j, h1, h2⟩)
      · exact .inl (.inl h)
      · rcases Nat.lt_succ_iff_lt_or_eq.1 h1 with h3 | rfl
        · exact .inl (.inr ⟨j, h3, h2⟩)
        · exact .inr h2
theorem most_nn {y : List Cask} (hy : ∀ c ∈ y, c.Ok) (i : Nat) : 0 ≤ mostOf y i := by have := ck_ok hy i; unfold mostOf; omega
theorem stepR_lenS {y : List Cask} (hy : ∀ c ∈ y, c.Ok) {N : List (List Int)} {r : List Int} (hN : LenS y N) (hr : LvS y.length r) : LenS y (stepR y N r) := by
  unfold stepR
  split
  · exact putK_lenS hy (hr.month fun i _ => most_nn hy i) hN _
  · exact hN
theorem stepR_len (y : List Cask) (N : List (List Int)) (r : List Int) : (stepR y N r).length ≤ N.length + y.length := by
  unfold stepR
  split
  · exact putK_len _
  · omega
theorem stepR_has {y : List Cask} (hy : ∀ c ∈ y, c.Ok) {f : Nat} {N : List (List Int)} {r : List Int} (hN : LenS y N) (hr : LvS y.length r) : HasS y f (stepR y N r) ↔ HasS y f N ∨ canS y (f + 1) r := by
  unfold stepR
  by_cases h : okM y (mostOf y) r y.length = true
  · rw [if_pos h, putK_has hy (hr.month fun i _ => most_nn hy i) hN]
    exact ⟨fun h1 => h1.imp id fun ⟨j, h2, h3⟩ => ⟨h, j, h2, h3⟩, fun h1 => h1.imp id fun ⟨_, j, h2, h3⟩ => ⟨j, h2, h3⟩⟩
  · rw [if_neg h]
    exact ⟨.inl, fun h1 => h1.elim id fun h2 => absurd h2.1 h⟩
theorem nextGo_has {y : List Cask} (hy : ∀ c ∈ y, c.Ok) {f : Nat} : ∀ (L N : List (List Int)), LenS y L → LenS y N → LenS y (L.foldl (stepR y) N) ∧ (L.foldl (stepR y) N).length ≤ N.length + L.length * y.length ∧ (HasS y f (L.foldl (stepR y) N) ↔ HasS y f N ∨ HasS y (f + 1) L)
  | [], N, _, hN => ⟨hN, by simp, ⟨.inl, fun h => h.elim id fun ⟨r, h, _⟩ => nomatch h⟩⟩
  | r :: L, N, hL, hN => by
    have h1 := hL r (by simp)
    have h2 : LenS y L := fun x hx => hL x (List.mem_cons_of_mem _ hx)
    obtain ⟨i1, i2, i3⟩ := nextGo_has hy (f := f) L (stepR y N r) h2 (stepR_lenS hy hN h1)
    have := stepR_len y N r
    refine ⟨i1, ?_, ?_⟩
    · rw [List.foldl_cons, List.length_cons, Nat.add_mul]; omega
    · rw [List.foldl_cons, i3, stepR_has hy hN h1]
      constructor
      · rintro ((h | h) | ⟨x, h, h'⟩)
        · exact .inl h
        · exact .inr ⟨r, by simp, h⟩
        · exact .inr ⟨x, List.mem_cons_of_mem _ h, h'⟩
      · rintro (h | ⟨x, h, h'⟩)
        · exact .inl (.inl h)
        · rcases List.mem_cons.1 h with rfl | h
          · exact .inl (.inr h')
          · exact .inr ⟨x, h, h'⟩
theorem allF_ok {y : List Cask} (hy : YardOk y) : ∀ m, LenS y (allF y m) ∧ (allF y m).length ≤ 4 ^ m
  | 0 => ⟨fun r hr => by
      have : r = nowL y := by simpa [allF] using hr
      subst this; exact now_ok hy.c, by simp [allF]⟩
  | m + 1 => by
    obtain ⟨h1, h2⟩ := allF_ok hy m
    obtain ⟨i1, i2, _⟩ := nextGo_has hy.c (f := 0) (allF y m) [] h1 (fun r h => nomatch h)
    refine ⟨i1, ?_⟩
    have h3 : (allF y m).length * y.length ≤ 4 ^ m * 4 := Nat.mul_le_mul h2 hy.n.2
    have i2 : (nextF y (allF y m)).length ≤ 0 + (allF y m).length * y.length := i2
    show (nextF y (allF y m)).length ≤ 4 ^ (m + 1)
    rw [Nat.pow_succ]; omega
theorem allF_has {y : List Cask} (hy : YardOk y) : ∀ (m f : Nat), HasS y f (allF y m) ↔ canS y (m + f) (nowL y)
  | 0, f => by
    rw [Nat.zero_add]
    exact ⟨fun ⟨r, h1, h2⟩ => by
      have : r = nowL y := by simpa [allF] using h1
      subst this; exact h2, fun h => ⟨nowL y, by simp [allF], h⟩⟩
  | m + 1, f => by
    obtain ⟨h1, _⟩ := allF_ok hy m
    obtain ⟨_, _, i3⟩ := nextGo_has hy.c (f := f) (allF y m) [] h1 (fun r h => nomatch h)
    show HasS y f (nextF y (allF y m)) ↔ _
    unfold nextF
    rw [i3, show m + 1 + f = m + (f + 1) by omega, ← allF_has hy m (f + 1)]
    exact ⟨fun h => h.elim (fun ⟨r, h, _⟩ => nomatch h) id, .inr⟩
theorem canS_run {y : List Cask} : ∀ (f : Nat) (m : Nat) (l : List Int), canS y f l ↔ ∃ ts : List Int, ts.length = f ∧ (∀ t ∈ ts, 0 ≤ t ∧ t < y.length) ∧ (runSp y (fun _ => mostOf y) ts m l).2 = -1
  | 0, m, l => ⟨fun _ => ⟨[], rfl, (fun t h => nomatch h), rfl⟩, fun _ => trivial⟩
  | f + 1, m, l => by
    constructor
    · rintro ⟨h1, k, h2, h3⟩
      obtain ⟨ts, t1, t2, t3⟩ := (canS_run f (m + 1) _).1 h3
      refine ⟨(k : Int) :: ts, by rw [List.length_cons, t1], fun t ht => ?_, ?_⟩
      · rcases List.mem_cons.1 ht with rfl | ht
        · omega
        · exact t2 t ht
      · rw [runSp, if_pos h1]
        have e : fillS y (monL (mostOf y) l y.length) k = (monL (mostOf y) l y.length).set k (ck y k).full := by unfold fillS; rw [if_pos (Int.natCast_nonneg k), Int.toNat_natCast]
        rw [e]; exact t3
    · rintro ⟨ts, t1, t2, t3⟩
      cases ts with
      | nil => cases t1
      | cons t ts =>
        rw [runSp] at t3
        have ht := t2 t (by simp)
        by_cases h1 : okM y (mostOf y) l y.length = true
        · rw [if_pos h1] at t3
          refine ⟨h1, t.toNat, by omega, (canS_run f (m + 1) _).2 ⟨ts, by simpa using t1, fun x hx => t2 x (List.mem_cons_of_mem _ hx), ?_⟩⟩
          have e : fillS y (monL (mostOf y) l y.length) t = (monL (mostOf y) l y.length).set t.toNat (ck y t.toNat).full := by unfold fillS; rw [if_pos ht.1]
          rwa [e] at t3
        · rw [if_neg h1] at t3
          have t3 : (m : Int) = -1 := t3
          omega
theorem kept_is {y : List Cask} (hyo : yardOk y = true) {M : Nat} (hM : M ≤ 12) : (allF y M ≠ [] ∧ ∃ o, KeepR y M = (o, 0) ∧ o.length = M ∧ (∀ t ∈ o, 0 ≤ t ∧ t < y.length) ∧ (runGo y (fun _ => mostOf y) o 0 (lev0 y)).2 = -1) ∨ (allF y M = [] ∧ KeepR y M = ([], 4)) := by
  have hy := yardOk_iff.1 hyo
  have h1 := allF_has hy M 0
  have h2 : allF y M ≠ [] ↔ HasS y 0 (allF y M) := by
    constructor
    · intro h
      cases hq : allF y M with
      | nil => exact absurd hq h
      | cons r L => exact ⟨r, by simp, trivial⟩
    · rintro ⟨r, h, _⟩ h3
      rw [h3] at h; cases h
  rw [h1, Nat.add_zero, canS_run M 0, now_take hy.n.2] at h2
  rcases keep_R hyo hM with ⟨o, k1, k2, k3, k4⟩ | ⟨k1, k2⟩
  · refine .inl ⟨h2.2 ⟨o, k2, k3, ?_⟩, o, k1, k2, k3, k4⟩
    rw [runSp_is o 0 (lev0 y) (by show y.length ≤ 4; exact hy.n.2) (fun t ht => (k3 t ht).2)]
    exact k4
  · refine .inr ⟨?_, k1⟩
    refine Classical.byContradiction fun h => ?_
    obtain ⟨ts, t1, t2, t3⟩ := h2.1 h
    rw [runSp_is ts 0 (lev0 y) (by show y.length ≤ 4; exact hy.n.2) (fun t ht => (t2 t ht).2)] at t3
    exact k2 ts t1 (fun t ht => by have := t2 t ht; omega) t3
theorem dry_first {y : List Cask} {of : Nat → Int} {l : List Int} : ∀ {k i : Nat}, i < k → mx0 (l.getD i 0 - of i) < (ck y i).line → (∀ j, j < i → (ck y j).line ≤ mx0 (l.getD j 0 - of j)) → dryK y of l k = (i : Int)
  | 0, i, h, _, _ => by omega
  | k + 1, i, h, h1, h2 => by
    rw [dryK]
    rcases Nat.lt_succ_iff_lt_or_eq.1 h with h3 | rfl
    · have ih := dry_first h3 h1 h2
      rw [ih, decide_eq_false (show ¬ (i : Int) < 0 by omega)]
      rw [if_neg]
      cases decide (mx0 (l.getD k 0 - of k) < (ck y k).line) <;> simp
    · rw [decide_eq_true h1, decide_eq_true ((dryK_iff i).2 h2), if_pos (show cond true true false = true from rfl)]
end Go.AL.Br

namespace Go.AL.Br
open Go Go.AL Go.AL.Q
theorem fill_idle (y : List Cask) (l : List Int) : fillL y l (-1) = l := by unfold fillL; rw [if_neg (by decide)]
theorem first_run {y : List Cask} : ∀ (f m : Nat) (l : List Int), y.length ≤ l.length →
    ((runGo y (fun _ => mostOf y) (List.replicate f (-1)) m l).2 = -1 ∧ firstGo y f m l = (0, 0, 4)) ∨
    ∃ w d : Nat, firstGo y f m l = ((w : Int), (d : Int), 0) ∧ (runGo y (fun _ => mostOf y) (List.replicate f (-1)) m l).2 = d ∧ m ≤ d ∧ d < m + f ∧ w < y.length ∧ (runGo y (fun _ => mostOf y) (List.replicate f (-1)) m l).1.getD w 0 < (ck y w).line ∧
      ∀ i, i < w → (ck y i).line ≤ (runGo y (fun _ => mostOf y) (List.replicate f (-1)) m l).1.getD i 0
  | 0, m, l, _ => .inl ⟨rfl, rfl⟩
  | f + 1, m, l, hl => by
    rw [List.replicate_succ, runGo, firstGo]
    by_cases hd : dryF y (mostOf y) l ≥ 0
    · rw [if_pos hd, if_pos hd]
      obtain ⟨w, hw⟩ : ∃ w : Nat, dryF y (mostOf y) l = w := ⟨(dryF y (mostOf y) l).toNat, by omega⟩
      obtain ⟨h1, h2, h3⟩ := dryK_at (show dryK y (mostOf y) l y.length = w from hw)
      refine .inr ⟨w, m, by rw [hw], rfl, Nat.le_refl _, by omega, h1, ?_, fun i hi => ?_⟩
      · show (leakL y (mostOf y) l).getD w 0 < _
        rw [leak_get hl h1]; exact h2
      · show _ ≤ (leakL y (mostOf y) l).getD i 0
        rw [leak_get hl (by omega)]; exact h3 i hi
    · rw [if_neg hd, if_neg hd, fill_idle]
      rcases first_run f (m + 1) (leakL y (mostOf y) l) (by rw [leak_len]; exact hl) with h | ⟨w, d, h1, h2, h3, h4, h5⟩
      · exact .inl h
      · exact .inr ⟨w, d, h1, h2, by omega, by omega, h5⟩
end Go.AL.Br

namespace Go.Proofs.Ytampldajinhenaa
open Go Go.AL Go.AL.Q Go.AL.Br
theorem yard_raB (y : List Cask) : raB (wi y.length 1 4) (fun i => (ck y i).ok) y.length = yardOk y := by
  rw [Bool.eq_iff_iff, raB_iff, yardOk_iff, wi_iff]
  constructor
  · rintro ⟨h1, h2⟩
    refine ⟨by omega, fun c hc => ?_⟩
    obtain ⟨i, hi, rfl⟩ := List.getElem_of_mem hc
    have := h2 i hi
    rw [ck_get hi] at this
    exact Cask.ok_iff.1 this
  · rintro ⟨h1, h2⟩
    exact ⟨by omega, fun i hi => by rw [ck_get hi]; exact Cask.ok_iff.2 (h2 _ (List.getElem_mem hi))⟩
theorem ryard_t (y : List Cask) (b : Bool) (hl : (y.length : Int) ≤ 9223372036854775806) : Ans Try.prog 27 [.sl b .any (y.map Cask.c)] (.int (yardChk y)) := by
  have ll : ((y.map Cask.c).length : Int) = y.length := by simp
  have fy : Free (.sl b .any (y.map Cask.c)) := free_map Cask.free _ _ _
  have uy : ∀ {m : Nat}, Under m (A.sl b .any (y.map Cask.c)) := fy.under
  refine told Try.func27 rfl rfl (Pure.of tab_ok Try.func27 rfl Try.ntmps27 rfl (all1 (fy)) (all1 (fun _ => rfl)) (by first | exact .s _ | assumption | exact .tup _ (by intro x hx; simp only [List.mem_cons, List.not_mem_nil, or_false] at hx; rcases hx with rfl | rfl | rfl | rfl <;> first | exact .s _ | (simp_all; done))) fun E hE => ?_)
  refine Aw.sm tab_ok mb0 [] rfl rfl ?zo ?zk
  case zo =>
    repeat' apply AllP.cons
    all_goals first | exact trivial
  case zk =>
  refine Aw.sm tab_ok mb0 [(2, [.bool (wi y.length 1 4)])] rfl rfl ?zo ?zk
  case zo =>
    repeat' apply AllP.cons
    all_goals first | exact trivial | exact (by rw [ll]; exact in_t _ _ _)
  case zk =>
  refine Aw.seq ?_
  refine Aw.sm tab_ok mb0 [] rfl rfl ?zo ?zk
  case zo =>
    repeat' apply AllP.cons
    all_goals first | exact trivial
  case zk =>
  refine Aw.block (Aw.rounds 0 hE [(0, .sl b .any (y.map Cask.c))] (fun k : Nat => [(3, .bool (raB (wi y.length 1 4) (fun i => (ck y i).ok) k)), (4, .int k)]) (fun k => []) (fun k => k ≤ y.length) (fun k => y.length - k) 0 ?zg ⟨?zc, ?zv, ?zh, Nat.le_of_ble_eq_true rfl⟩ ?zu (fun k zhk => ?zw) (fun k zhk => ?zx) fun k hk => ?zr)
  case zg =>
    (repeat' (first | exact Nat.zero_le _))
  case zc =>
    (repeat' (first | (refine And.intro ?_ ?_) | exact trivial | exact A.Le.refl _))
  case zv =>
    (repeat' (first | (refine And.intro ?_ ?_) | exact trivial | exact A.Le.refl _ | exact .of_eq (by rw [raB_zero]; rfl)))
  case zh =>
    (repeat' (first | exact trivial))
  case zu =>
    (repeat' (first | exact trivial | exact uy | (refine And.intro ?_ ?_)))
  case zw =>
    (repeat' (first | exact trivial | exact Under.s _ | (refine And.intro ?_ ?_)))
  case zx =>
    (repeat' (first | exact trivial))
  case zr =>
  refine Aw.seq ?_
  refine Aw.sm tab_ok mb0 [] rfl rfl ?zo ?zk
  case zo =>
    repeat' apply AllP.cons
    all_goals first | exact trivial | exact id | exact fun _ => rfl
  case zk =>
  refine Aw.cond rfl (fun h1 => Aw.skip ?_) (fun h1 => ?_)
  · have h1 : cond (raB (wi y.length 1 4) (fun i => (ck y i).ok) k) (decide ((k : Int) < ((y.map Cask.c).length : Int))) false = true := h1
    have hb := ac1 h1
    have hlt : k < y.length := by have := of_decide_eq_true (ac2 h1); omega
    have hst := raB_step hb
    have hg := cask_at hlt
    generalize ck y k = c at *
    generalize hv1 : raB (wi y.length 1 4) (fun i => (ck y i).ok) (k + 1) = v1 at *
    refine Aw.seq (Aw.block ?_)
    refine Aw.sm tab_ok mb0 [(2, c.c)] rfl rfl ?zo ?zk
    case zo =>
      repeat' apply AllP.cons
      all_goals first | exact trivial | exact rfl | exact Nat.le_of_ble_eq_true rfl | exact Int.natCast_nonneg _ | exact hg
    case zk =>
    refine Aw.em tab_ok mb0 [(2, [.bool (wi c.full 1 1000)]), (8, [.bool (wi c.level 0 c.full)]), (15, [.bool (wi c.line 0 c.full)]), (20, [.bool (spannedF c.lo c.hi 0 1000)])] rfl rfl ?zo ?zk
    case zo =>
      repeat' apply AllP.cons
      all_goals first | exact trivial | exact id | exact fun _ => rfl | exact Nat.le_of_ble_eq_true rfl | exact fun _ => Nat.le_of_ble_eq_true rfl | exact in_t _ _ _ | exact (in_t _ _ _).un | exact fun _ => rspanned_t ⟨c.lo, c.hi⟩ _ _
    case zk =>
    refine Aw.em tab_ok mb0 [] rfl rfl ?zo ?zk
    case zo =>
      repeat' apply AllP.cons
      all_goals first | exact trivial | exact inrk k (by omega)
    case zk =>
    refine ⟨k + 1, ?zg, ?zm, ⟨?zc, ?zv, ?zh, Nat.le_of_ble_eq_true rfl⟩⟩
    case zg =>
      (repeat' (first | assumption))
    case zm =>
      (repeat' (first | omega))
    case zc =>
      (repeat' (first | (refine And.intro ?_ ?_) | exact trivial | exact A.Le.refl _))
    case zv =>
      (repeat' (first | (refine And.intro ?_ ?_) | exact trivial | exact A.Le.refl _ | exact .of_eq (congrArg A.bool (hv1.trans (hst.trans rfl)))))
    case zh =>
      (repeat' (first | exact trivial))
  have h1 : cond (raB (wi y.length 1 4) (fun i => (ck y i).ok) k) (decide ((k : Int) < ((y.map Cask.c).length : Int))) false = false := h1
  have hend : raB (wi y.length 1 4) (fun i => (ck y i).ok) k = false ∨ k = y.length := by
    by_cases h3 : raB (wi y.length 1 4) (fun i => (ck y i).ok) k = true
    · rw [h3] at h1
      have h1 : decide ((k : Int) < ((y.map Cask.c).length : Int)) = false := h1
      have := of_decide_eq_false h1
      exact .inr (by omega)
    · exact .inl (by simpa using h3)
  have he := raB_end hk hend
  rw [yard_raB] at he
  rw [he]
  refine Aw.exit2 ?_
  refine Aw.seq ?_
  refine Aw.sm tab_ok mb0 [] rfl rfl ?zo ?zk
  case zo =>
    repeat' apply AllP.cons
    all_goals first | exact trivial
  case zk =>
  refine Aw.cond rfl (fun h1 => ?_) (fun h1 => Aw.skip ?_)
  · have hno : yardOk y = false := by simpa using h1
    refine Aw.sm tab_ok mb0 [] rfl rfl ?zo ?zk
    case zo =>
      repeat' apply AllP.cons
      all_goals first | exact trivial
    case zk =>
    exact Aw.ret ⟨_, .cons (.tmp _) .nil, by unfold yardChk; rw [hno]; rfl⟩
  · have hyes : yardOk y = true := by simpa using h1
    refine Aw.sm tab_ok mb0 [] rfl rfl ?zo ?zk
    case zo =>
      repeat' apply AllP.cons
      all_goals first | exact trivial
    case zk =>
    exact Aw.ret ⟨_, .cons (.tmp _) .nil, by unfold yardChk; rw [if_pos hyes]; rfl⟩
theorem now_t (y : List Cask) (b : Bool) (hyo : YardOk y) : Ans Try.prog 74 [.sl b .any (y.map Cask.c)] (.sl false .any (ints (nowL y))) := by
  have ll : ((y.map Cask.c).length : Int) = y.length := by simp
  have fy : Free (.sl b .any (y.map Cask.c)) := free_map Cask.free _ _ _
  have uy : ∀ {m : Nat}, Under m (A.sl b .any (y.map Cask.c)) := fy.under
  have hfr : Free (.sl false .any (ints (nowL y))) := free_ints _ _ _
  have hn := hyo.n
  have hS : ∀ k, k < y.length → nowL (y.take (k + 1)) = nowL (y.take k) ++ [(ck y k).level] := fun k hk => by
    rw [List.take_succ_eq_append_getElem hk, ck_get hk]; unfold nowL; rw [List.map_append]; rfl
  refine told Try.func74 rfl rfl (Pure.of tab_ok Try.func74 rfl Try.ntmps74 rfl (all1 (fy)) (all1 (fun _ => rfl)) (by first | exact .s _ | assumption | exact .tup _ (by intro x hx; simp only [List.mem_cons, List.not_mem_nil, or_false] at hx; rcases hx with rfl | rfl | rfl | rfl <;> first | exact .s _ | (simp_all; done))) fun E hE => ?_)
  refine Aw.sm tab_ok mb0 [] rfl rfl ?zo ?zk
  case zo =>
    repeat' apply AllP.cons
    all_goals first | exact trivial
  case zk =>
  refine Aw.sm tab_ok mb0 [] rfl rfl ?zo ?zk
  case zo =>
    repeat' apply AllP.cons
    all_goals first | exact trivial
  case zk =>
  refine Aw.seq ?_
  refine Aw.sm tab_ok mb0 [] rfl rfl ?zo ?zk
  case zo =>
    repeat' apply AllP.cons
    all_goals first | exact trivial
  case zk =>
  refine Aw.block (Aw.rounds 0 hE [(0, .sl b .any (y.map Cask.c))] (fun k : Nat => [(3, grL 3 (nowL (y.take k))), (4, .int k)]) (fun k => []) (fun k => k ≤ y.length) (fun k => y.length - k) 0 ?zg ⟨?zc, ?zv, ?zh, Nat.le_of_ble_eq_true rfl⟩ ?zu (fun k zhk => ?zw) (fun k zhk => ?zx) fun k hk => ?zr)
  case zg =>
    (repeat' (first | exact Nat.zero_le _))
  case zc =>
    (repeat' (first | (refine And.intro ?_ ?_) | exact trivial | exact A.Le.refl _))
  case zv =>
    (repeat' (first | (refine And.intro ?_ ?_) | exact trivial | exact A.Le.refl _))
  case zh =>
    (repeat' (first | exact trivial))
  case zu =>
    (repeat' (first | exact trivial | exact uy | (refine And.intro ?_ ?_)))
  case zw =>
    (repeat' (first | exact trivial | exact Under.s _ | exact grL_under _ | (refine And.intro ?_ ?_)))
  case zx =>
    (repeat' (first | exact trivial))
  case zr =>
  refine Aw.seq ?_
  refine Aw.sm tab_ok mb0 [] rfl rfl ?zo ?zk
  case zo =>
    repeat' apply AllP.cons
    all_goals first | exact trivial
  case zk =>
  refine Aw.cond rfl (fun h1 => Aw.skip ?_) (fun h1 => ?_)
  · have hlt : k < y.length := by have := of_decide_eq_true h1; omega
    have hSk := hS k hlt
    have hg := cask_at hlt
    have hlk : (nowL (y.take k)).length = k := by simp [nowL]; omega
    generalize ck y k = c at *
    generalize hv1 : nowL (y.take (k + 1)) = G1 at *
    generalize nowL (y.take k) = G at *
    have hone : ∀ z ∈ [[A.int c.level]], z.length = 1 := fun z hz => by simp at hz; subst hz; rfl
    refine Aw.seq (Aw.block ?_)
    cases G with
    | nil =>
      refine Aw.em tab_ok mb0 [(3, c.c)] rfl rfl ?zo ?zk
      case zo =>
        repeat' apply AllP.cons
        all_goals first | exact trivial | exact rfl | exact Nat.le_of_ble_eq_true rfl | exact Int.natCast_nonneg _ | exact hg | exact hone
      case zk =>
      refine Aw.em tab_ok mb0 [] rfl rfl ?zo ?zk
      case zo =>
        repeat' apply AllP.cons
        all_goals first | exact trivial | exact inrk k (by omega)
      case zk =>
      refine ⟨k + 1, ?zg, ?zm, ⟨?zc, ?zv, ?zh, Nat.le_of_ble_eq_true rfl⟩⟩
      case zg =>
        (repeat' (first | assumption))
      case zm =>
        (repeat' (first | omega))
      case zc =>
        (repeat' (first | (refine And.intro ?_ ?_) | exact trivial | exact A.Le.refl _))
      case zv =>
        (repeat' (first | (refine And.intro ?_ ?_) | exact trivial | exact A.Le.refl _ | exact .of_eq (by rw [hv1, hSk]; rfl)))
      case zh =>
        (repeat' (first | exact trivial))
    | cons x t =>
      have hl1 : (ints (x :: t)).length ≤ 4 := by rw [ints_len]; omega
      have hz := ints_one (x :: t)
      refine Aw.em tab_ok mb0 [(3, c.c)] rfl rfl ?zo ?zk
      case zo =>
        repeat' apply AllP.cons
        all_goals first | exact trivial | exact rfl | exact Nat.le_of_ble_eq_true rfl | exact Int.natCast_nonneg _ | exact hg | exact hone | exact hz | exact (show ((ints (x :: t)).length + 1) * 8 ≤ 140737488355328 by omega) | exact (show (ints (x :: t)).length + 1 ≤ maxLen by unfold maxLen; omega)
      case zk =>
      refine Aw.em tab_ok mb0 [] rfl rfl ?zo ?zk
      case zo =>
        repeat' apply AllP.cons
        all_goals first | exact trivial | exact inrk k (by omega)
      case zk =>
      refine ⟨k + 1, ?zg, ?zm, ⟨?zc, ?zv, ?zh, Nat.le_of_ble_eq_true rfl⟩⟩
      case zg =>
        (repeat' (first | assumption))
      case zm =>
        (repeat' (first | omega))
      case zc =>
        (repeat' (first | (refine And.intro ?_ ?_) | exact trivial | exact A.Le.refl _))
      case zv =>
        (repeat' (first | (refine And.intro ?_ ?_) | exact trivial | exact A.Le.refl _ | exact .of_eq (show grL 3 (nowL (y.take (k + 1))) = A.sl false (.own 3) (ints (x :: t) ++ [[A.int c.level]]) by rw [hv1, hSk]; simp [grL, ints])))
      case zh =>
        (repeat' (first | exact trivial))
  have hle : k = y.length := by have := of_decide_eq_false h1; omega
  subst hle
  rw [List.take_length]
  refine Aw.exit2 ?_
  have hgr : A.Le (.sl false .any (ints (nowL y))) (grL 3 (nowL y)) := by
    have hne : nowL y ≠ [] := fun h => by have := congrArg List.length h; simp [nowL] at this; rw [this] at hn; simp at hn
    cases hq : nowL y with
    | nil => exact absurd hq hne
    | cons x t => exact .any _ _ _
  refine Aw.keep (n := 0) (cst := [(3, .sl false .any (ints (nowL y)))]) (v := []) (Hl := []) hE ?zu ?zw ?zx ⟨?zc, ?zv, ?zh, Nat.le_of_ble_eq_true rfl⟩ ?zr
  case zu =>
    (repeat' (first | exact trivial | exact (free_ints _ _ _).under | (refine And.intro ?_ ?_)))
  case zw =>
    (repeat' (first | exact trivial))
  case zx =>
    (repeat' (first | exact trivial))
  case zc =>
    (repeat' (first | (refine And.intro ?_ ?_) | exact trivial | exact hgr))
  case zv =>
    (repeat' (first | exact trivial))
  case zh =>
    (repeat' (first | exact trivial))
  case zr =>
  refine Aw.sm tab_ok mb0 [] rfl rfl ?zo ?zk
  case zo =>
    repeat' apply AllP.cons
    all_goals first | exact trivial
  case zk =>
  exact Aw.ret ⟨_, .cons (.tmp _) .nil, rfl⟩
end Go.Proofs.Ytampldajinhenaa

namespace Go.Proofs.Ytampldajinhenaa
open Go Go.AL Go.AL.Q Go.AL.Br
def monH (M : List Int) : Nat → Nat → List (Nat × B)
  | 0, _ => []
  | k + 1, cap => [(0, .cells ((M.take (k + 1)).map A.int ++ List.replicate (cap - (k + 1)) A.un))]
theorem monH_under (M : List Int) (k cap : Nat) : UnderH 1 (monH M k cap) := by
  cases k with
  | zero => trivial
  | succ k => exact ⟨⟨by decide, jB_under _ _⟩, trivial⟩
theorem jB_nms (l : List Int) (m : Nat) {D : Nat → Prop} : NmsB D (.cells (l.map A.int ++ List.replicate m A.un)) := .cells _ fun x hx => by
  rcases List.mem_append.1 hx with h | h
  · obtain ⟨v, _, rfl⟩ := List.mem_map.1 h; exact .s _
  · rw [List.mem_replicate] at h; rw [h.2]; exact .un
theorem jB_down (l : List Int) (m : Nat) : ∀ v ∈ l.map A.int ++ List.replicate m A.un, ∀ u, spareOf v u = none := fun v hv u => by
  rcases List.mem_append.1 hv with h | h
  · obtain ⟨v, _, rfl⟩ := List.mem_map.1 h; rfl
  · rw [List.mem_replicate] at h; rw [h.2]; rfl
set_option maxHeartbeats 4000000 in
theorem month_s (y : List Cask) (b : Bool) (hyo : YardOk y) (lb : Bool) (lv : List Int) (hlv : LvS y.length lv) (kb : Bool) (lk : List Int) (hlk : lk.length = y.length) (hkb : ∀ i, i < y.length → 0 ≤ lk.getD i 0 ∧ lk.getD i 0 ≤ 1000) :
    SCall Try.prog 75 [.sl b .any (y.map Cask.c), .sl lb .any (ints lv), .sl kb .any (ints lk)] (ofH []) 0 (fun v H' c' => 1 ≤ c' ∧ ∃ cap m, v = .tup [.gs 0 y.length cap, .bool (okM y (fun i => lk.getD i 0) lv y.length)] ∧
      H' 0 = some (.cells ((monL (fun i => lk.getD i 0) lv y.length).map A.int ++ List.replicate m A.un)) ∧ ((monL (fun i => lk.getD i 0) lv y.length).map A.int ++ List.replicate m A.un).length = cap) := by
  have ll : ((y.map Cask.c).length : Int) = y.length := by simp
  have uy : ∀ {m : Nat}, Under m (A.sl b .any (y.map Cask.c)) := (free_map Cask.free _ _ _).under
  have uv : ∀ {m : Nat}, Under m (A.sl lb .any (ints lv)) := (free_ints _ _ _).under
  have uk : ∀ {m : Nat}, Under m (A.sl kb .any (ints lk)) := (free_ints _ _ _).under
  have hn := hyo.n
  have hvl := hlv.n
  have hMs := monL_succ (fun i => lk.getD i 0) lv
  have hOs := okM_succ y (fun i => lk.getD i 0) lv
  have hMl := monL_len (fun i => lk.getD i 0) lv y.length
  have hMt := fun k h => monL_take (fun i => lk.getD i 0) lv (k := k) (n := y.length) h
  have hO0 : okM y (fun i => lk.getD i 0) lv 0 = true := rfl
  generalize okM y (fun i => lk.getD i 0) lv = O at *
  generalize hM : monL (fun i => lk.getD i 0) lv y.length = M at *
  have hMs2 : ∀ k, k < y.length → M.take (k + 1) = M.take k ++ [mx0 (lv.getD k 0 - lk.getD k 0)] := fun k hk => by rw [hMt _ hk, hMt _ (Nat.le_of_lt hk), hMs]
  clear hMs hMt
  refine SCall.of_bodyN tab_ok Try.func75 rfl Try.ntmps75 (Nat.le_of_ble_eq_true rfl) (allC (fun _ => rfl) (allC (fun _ => rfl) (all1 fun _ => rfl))) fun E hE => ?_
  have h1e : ∀ id, 1 ≤ id → E.φ0 id = none := fun id _ => hE id (by omega)
  have h2e : ∀ id, 2 ≤ id → E.φ0 id = none := fun id _ => hE id (by omega)
  have e0 : E.φ0 0 = none := hE 0 (Nat.le_refl _)
  have hnil : ∀ {n : Nat}, Under n (A.sl true .exact []) := (Free.sl _ _ _ (fun _ h => by cases h)).under
  refine Aw.sm tab_ok mb0 [] rfl rfl ?zo ?zk
  case zo =>
    repeat' apply AllP.cons
    all_goals first | exact trivial
  case zk =>
  refine Aw.sm tab_ok mb0 [] rfl rfl ?zo ?zk
  case zo =>
    repeat' apply AllP.cons
    all_goals first | exact trivial
  case zk =>
  refine Aw.sm tab_ok mb0 [] rfl rfl ?zo ?zk
  case zo =>
    repeat' apply AllP.cons
    all_goals first | exact trivial
  case zk =>
  refine Aw.seq ?_
  refine Aw.sm tab_ok mb0 [] rfl rfl ?zo ?zk
  case zo =>
    repeat' apply AllP.cons
    all_goals first | exact trivial
  case zk =>
  refine Aw.raise (c' := 1) (Nat.le_of_ble_eq_true rfl) ?_
  refine Aw.block (Aw.rounds 1 h1e [(0, .sl b .any (y.map Cask.c)), (1, .sl lb .any (ints lv)), (2, .sl kb .any (ints lk))] (fun i : (Nat×Nat) => [(8, grV i.1 i.2), (9, .bool (O i.1)), (10, .int i.1)]) (fun i => monH M i.1 i.2) (fun i => i.1 ≤ y.length ∧ (i.1 ≠ 0 → i.1 ≤ i.2)) (fun i => y.length - i.1) (0, 0) ?zg ⟨?zc, ?zv, ?zh, Nat.le_of_ble_eq_true rfl⟩ ?zu (fun i zhk => ?zw) (fun i zhk => ?zx) fun i hk => ?zr)
  case zg =>
    (repeat' (first | exact ⟨Nat.zero_le _, fun h => absurd rfl h⟩))
  case zc =>
    (repeat' (first | (refine And.intro ?_ ?_) | exact trivial | exact A.Le.refl _))
  case zv =>
    (repeat' (first | (refine And.intro ?_ ?_) | exact trivial | exact A.Le.refl _ | exact .of_eq (congrArg A.bool hO0)))
  case zh =>
    (repeat' (first | exact trivial))
  case zu =>
    (repeat' (first | exact trivial | exact (free_ints _ _ _).under | exact uy | (refine And.intro ?_ ?_)))
  case zw =>
    (repeat' (first | exact trivial | exact Under.s _ | exact grV_under _ _ | (refine And.intro ?_ ?_)))
  case zx =>
    (repeat' (first | exact monH_under _ _ _))
  case zr =>
  obtain ⟨k, cap⟩ := i
  obtain ⟨hk, hcap⟩ := hk
  simp only at hk hcap
  refine Aw.seq ?_
  refine Aw.sm tab_ok mb0 [] rfl rfl ?zo ?zk
  case zo =>
    repeat' apply AllP.cons
    all_goals first | exact trivial
  case zk =>
  refine Aw.cond rfl (fun h1 => Aw.skip ?_) (fun h1 => ?_)
  · have hlt : k < y.length := by have := of_decide_eq_true h1; omega
    have hgc := cask_at hlt
    have hg1 := ints_getD (l := lv) (k := k) (by omega)
    have hg2 := ints_getD (l := lk) (k := k) (by omega)
    have hb1 := hlv.get hlt
    have hb2 := hkb k hlt
    have hSk := hMs2 k hlt
    have hOk := hOs k
    have hMk : (M.take k).length = k := by rw [List.length_take]; omega
    generalize ck y k = c at *
    generalize lv.getD k 0 = x at *
    generalize lk.getD k 0 = z at *
    refine Aw.seq (Aw.block ?_)
    refine Aw.sd tab_ok mixed mb0 [(2, [.int x]), (6, [.int z])] rfl (by kernel_rfl) rfl rfl ?zo ?zk
    case zo =>
      repeat' apply AllP.cons
      all_goals first | exact trivial | exact rfl | exact Nat.le_of_ble_eq_true rfl | exact Int.natCast_nonneg _ | exact hg1 | exact hg2 | exact (show inR (x - z) by simp only [inR]; omega)
    case zk =>
    generalize hw : mx0 (x - z) = w at *
    have hone : ∀ v ∈ [[A.int w]], v.length = 1 := fun v hv => by simp at hv; subst hv; rfl
    cases k with
    | zero =>
      refine Aw.keep (n := 1) (cst := [(0, .sl b .any (y.map Cask.c)), (1, .sl lb .any (ints lv)), (2, .sl kb .any (ints lk)), (9, .bool (O 0)), (10, .int ((0 : Nat) : Int)), (11, .int w), (8, .sl true .exact [])]) (v := []) (Hl := []) h1e ?zu ?zw ?zx ⟨?zc, ?zv, ?zh, Nat.le_of_ble_eq_true rfl⟩ ?zr
      case zu =>
        (repeat' (first | exact trivial | exact Under.s _ | exact (free_ints _ _ _).under | exact uy | exact hnil | (refine And.intro ?_ ?_)))
      case zw =>
        (repeat' (first | exact trivial))
      case zx =>
        (repeat' (first | exact trivial))
      case zc =>
        (repeat' (first | (refine And.intro ?_ ?_) | exact trivial | exact A.Le.refl _ | exact .of_eq (congrArg A.int hw.symm)))
      case zv =>
        (repeat' (first | exact trivial))
      case zh =>
        (repeat' (first | exact trivial))
      case zr =>
      refine Aw.ss rfl ?_
      refine RegL.partE tab_ok mb0 false 3 0 [] ?_
      conv => arg 5; whnf
      refine PartK.mk ?zo ?zk
      case zo =>
        repeat' apply AllP.cons
        all_goals first | exact trivial | exact Nat.le_of_ble_eq_true rfl
      case zk =>
      refine Does.raw rfl (DoesR.appNil tab_ok (ys := [[A.int w]]) rfl rfl rfl (fun h => by cases h) (by decide) rfl rfl (by simp) hone (Nat.le_of_ble_eq_true rfl) (Nat.le_of_ble_eq_true rfl) (fun cap1 hcap1 => ?_))
      have hc1 : 0 + 1 ≤ cap1 := hcap1
      have hcell : B.cells (([[A.int w]] : List (List A)).flatten.map A.down ++ List.replicate ((cap1 - 1) * 1) A.un) = .cells ((M.take (0 + 1)).map A.int ++ List.replicate (cap1 - (0 + 1)) A.un) := by
        rw [hSk, Nat.mul_one]; rfl
      refine RegL.partE tab_ok mb0 false 1 4 [] ?_
      conv => arg 5; whnf
      refine PartK.mk ?zo ?zk
      case zo =>
        repeat' apply AllP.cons
        all_goals first | exact trivial
      case zk =>
      refine Aw.keep (n := 2) (cst := [(0, .sl b .any (y.map Cask.c)), (1, .sl lb .any (ints lv)), (2, .sl kb .any (ints lk)), (9, .bool (O (0))), (10, .int (((0 : Nat)) : Int)), (11, .int w), (8, .gs 1 (0 + 1) cap1)]) (v := []) (Hl := [(1, .cells ((M.take (0 + 1)).map A.int ++ List.replicate (cap1 - (0 + 1)) A.un))]) h2e ?zu ?zw ?zx ⟨?zc, ?zv, ?zh, Nat.le_of_ble_eq_true rfl⟩ ?zr
      case zu =>
        (repeat' (first | exact trivial | exact Under.s _ | exact (free_ints _ _ _).under | exact uy | exact .gs _ _ _ (by decide) | (refine And.intro ?_ ?_)))
      case zw =>
        (repeat' (first | exact trivial))
      case zx =>
        (repeat' (first | exact trivial | exact Nat.le_of_ble_eq_true rfl | exact jB_under _ _ | (refine And.intro ?_ ?_)))
      case zc =>
        (repeat' (first | (refine And.intro ?_ ?_) | exact trivial | exact A.Le.refl _))
      case zv =>
        (repeat' (first | exact trivial))
      case zh =>
        (repeat' (first | (refine And.intro ?_ ?_) | exact trivial | exact congrArg some hcell))
      case zr =>
      refine Aw.renameS (id1 := 1) (id2 := 0) (j := 8) rfl rfl (by decide) rfl e0 (Nat.le_of_ble_eq_true rfl) (nms_ofLB (fun p hp => ?_)) (fun id bx hb => ?_) (fun v hv u => jB_down _ _ v hv u) ?_
      · simp only [List.nil_append, List.mem_cons, List.not_mem_nil, or_false] at hp
        rcases hp with rfl | rfl | rfl | rfl | rfl | rfl | rfl
        · exact (free_map Cask.free _ _ _).nms
        · exact (free_ints _ _ _).nms
        · exact (free_ints _ _ _).nms
        · exact .s _
        · exact .s _
        · exact .s _
        · exact .gs _ _ _ (by decide)
      · simp only [ofH, updH_apply] at hb
        split at hb
        · cases hb; exact jB_nms _ _
        · cases hb
      refine Aw.em tab_ok mb0 [(5, c.c)] rfl rfl ?zo ?zk
      case zo =>
        repeat' apply AllP.cons
        all_goals first | exact trivial | exact id | exact fun _ => rfl | exact fun _ => Nat.le_of_ble_eq_true rfl | exact fun _ => Int.natCast_nonneg _ | exact fun _ => hgc
      case zk =>
      refine Aw.em tab_ok mb0 [] rfl rfl ?zo ?zk
      case zo =>
        repeat' apply AllP.cons
        all_goals first | exact trivial | exact inrk 0 (by decide)
      case zk =>
      refine ⟨(0 + 1, cap1), ?zg, ?zm, ⟨?zc, ?zv, ?zh, Nat.le_of_ble_eq_true rfl⟩⟩
      case zg =>
        (repeat' (first | omega))
      case zm =>
        (repeat' (first | omega))
      case zc =>
        (repeat' (first | (refine And.intro ?_ ?_) | exact trivial | exact A.Le.refl _))
      case zv =>
        (repeat' (first | (refine And.intro ?_ ?_) | exact trivial | exact A.Le.refl _ | exact .of_eq (congrArg A.bool hOk)))
      case zh =>
        (repeat' (first | (refine And.intro ?_ ?_) | exact trivial | exact rfl))
    | succ k =>
      have hcap := hcap (by omega)
      refine Aw.keep (n := 1) (cst := [(0, .sl b .any (y.map Cask.c)), (1, .sl lb .any (ints lv)), (2, .sl kb .any (ints lk)), (9, .bool (O (k + 1))), (10, .int (((k + 1 : Nat)) : Int)), (11, .int w), (8, .gs 0 (k + 1) cap)]) (v := []) (Hl := [(0, .cells ((M.take (k + 1)).map A.int ++ List.replicate (cap - (k + 1)) A.un))]) h1e ?zu ?zw ?zx ⟨?zc, ?zv, ?zh, Nat.le_of_ble_eq_true rfl⟩ ?zr
      case zu =>
        (repeat' (first | exact trivial | exact Under.s _ | exact (free_ints _ _ _).under | exact uy | exact .gs _ _ _ (by decide) | (refine And.intro ?_ ?_)))
      case zw =>
        (repeat' (first | exact trivial))
      case zx =>
        (repeat' (first | exact trivial | exact Nat.le_of_ble_eq_true rfl | exact jB_under _ _ | (refine And.intro ?_ ?_)))
      case zc =>
        (repeat' (first | (refine And.intro ?_ ?_) | exact trivial | exact A.Le.refl _ | exact .of_eq (congrArg A.int hw.symm)))
      case zv =>
        (repeat' (first | exact trivial))
      case zh =>
        (repeat' (first | (refine And.intro ?_ ?_) | exact trivial | exact rfl))
      case zr =>
      have hcl : ((M.take (k + 1)).map A.int ++ List.replicate (cap - (k + 1)) A.un).length = cap * 1 := by
        rw [List.length_append, List.length_map, List.length_replicate, hMk]; omega
      have hml : ((M.take (k + 1)).map A.int).length = k + 1 := by rw [List.length_map]; exact hMk
      have hdn : ∀ l : List Int, (l.map A.int).map A.down = l.map A.int := fun l => map_down_int l
      refine Aw.ss rfl ?_
      refine RegL.partE tab_ok mb0 false 3 0 [] ?_
      conv => arg 5; whnf
      refine PartK.mk ?zo ?zk
      case zo =>
        repeat' apply AllP.cons
        all_goals first | exact trivial | exact Nat.le_of_ble_eq_true rfl
      case zk =>
      refine Does.raw rfl (DoesR.appGs tab_ok (ys := [[A.int w]]) (id := 0) (n := k + 1) (cap := cap) rfl rfl rfl (fun h => by cases h) (by decide) rfl rfl hcl rfl (by simp) hone (show (k + 1 + 1) * 8 ≤ 140737488355328 by omega) (show k + 1 + 1 ≤ maxLen by unfold maxLen; omega) (fun hroom => ?_) (fun cap1 hcap1 => ?_))
      · have hc1 : k + 1 + 1 ≤ cap := hroom
        have hcell : B.cells (setSeg ((M.take (k + 1)).map A.int ++ List.replicate (cap - (k + 1)) A.un) ((k + 1) * 1) (([[A.int w]] : List (List A)).flatten.map A.down)) = .cells ((M.take (k + 1 + 1)).map A.int ++ List.replicate (cap - (k + 1 + 1)) A.un) := by
          have e1 : setSeg ((M.take (k + 1)).map A.int ++ List.replicate (cap - (k + 1)) A.un) ((k + 1) * 1) [A.int w] = (M.take (k + 1)).map A.int ++ ((List.replicate (cap - (k + 1)) A.un).set 0 (A.int w)) := by
            have := setSeg_app (l := (M.take (k + 1)).map A.int) (r := List.replicate (cap - (k + 1)) A.un) (v := A.int w) (i := 0) (by rw [List.length_replicate]; omega)
            rw [hml, Nat.add_zero] at this
            rw [Nat.mul_one]; exact this
          show B.cells (setSeg _ _ [A.int w]) = _
          rw [e1, hSk, List.map_append, List.append_assoc]
          congr 2
          obtain ⟨q, hq⟩ : ∃ q, cap - (k + 1) = q + 1 := ⟨cap - (k + 1) - 1, by omega⟩
          rw [hq, show cap - (k + 1 + 1) = q by omega]; rfl
        refine RegL.partE tab_ok mb0 false 1 4 [] ?_
        conv => arg 5; whnf
        refine PartK.mk ?zo ?zk
        case zo =>
          repeat' apply AllP.cons
          all_goals first | exact trivial
        case zk =>
        refine Aw.em tab_ok mb0 [(5, c.c)] rfl rfl ?zo ?zk
        case zo =>
          repeat' apply AllP.cons
          all_goals first | exact trivial | exact id | exact fun _ => rfl | exact fun _ => Nat.le_of_ble_eq_true rfl | exact fun _ => Int.natCast_nonneg _ | exact fun _ => hgc
        case zk =>
        refine Aw.em tab_ok mb0 [] rfl rfl ?zo ?zk
        case zo =>
          repeat' apply AllP.cons
          all_goals first | exact trivial | exact inrk (k + 1) (by omega)
        case zk =>
        refine ⟨(k + 1 + 1, cap), ?zg, ?zm, ⟨?zc, ?zv, ?zh, Nat.le_of_ble_eq_true rfl⟩⟩
        case zg =>
          (repeat' (first | omega))
        case zm =>
          (repeat' (first | omega))
        case zc =>
          (repeat' (first | (refine And.intro ?_ ?_) | exact trivial | exact A.Le.refl _))
        case zv =>
          (repeat' (first | (refine And.intro ?_ ?_) | exact trivial | exact A.Le.refl _ | exact .of_eq (congrArg A.bool hOk)))
        case zh =>
          (repeat' (first | (refine And.intro ?_ ?_) | exact trivial | exact congrArg some hcell))
      · have hc1 : k + 1 + 1 ≤ cap1 := hcap1
        have hcell : B.cells (((((M.take (k + 1)).map A.int ++ List.replicate (cap - (k + 1)) A.un).take ((k + 1) * 1)).map A.down ++ ([[A.int w]] : List (List A)).flatten.map A.down ++ List.replicate ((cap1 - (k + 1 + 1)) * 1) A.un)) = .cells ((M.take (k + 1 + 1)).map A.int ++ List.replicate (cap1 - (k + 1 + 1)) A.un) := by
          show B.cells ((((M.take (k + 1)).map A.int ++ List.replicate (cap - (k + 1)) A.un).take ((k + 1) * 1)).map A.down ++ [A.int w] ++ List.replicate ((cap1 - (k + 1 + 1)) * 1) A.un) = _
          rw [Nat.mul_one, Nat.mul_one, take_app _ hml, hdn, hSk, List.map_append]; rfl
        refine RegL.partE tab_ok mb0 false 1 4 [] ?_
        conv => arg 5; whnf
        refine PartK.mk ?zo ?zk
        case zo =>
          repeat' apply AllP.cons
          all_goals first | exact trivial
        case zk =>
        refine Aw.keep (n := 2) (cst := [(0, .sl b .any (y.map Cask.c)), (1, .sl lb .any (ints lv)), (2, .sl kb .any (ints lk)), (9, .bool (O (k + 1))), (10, .int (((k + 1 : Nat)) : Int)), (11, .int w), (8, .gs 1 (k + 1 + 1) cap1)]) (v := []) (Hl := [(1, .cells ((M.take (k + 1 + 1)).map A.int ++ List.replicate (cap1 - (k + 1 + 1)) A.un))]) h2e ?zu ?zw ?zx ⟨?zc, ?zv, ?zh, Nat.le_of_ble_eq_true rfl⟩ ?zr
        case zu =>
          (repeat' (first | exact trivial | exact Under.s _ | exact (free_ints _ _ _).under | exact uy | exact .gs _ _ _ (by decide) | (refine And.intro ?_ ?_)))
        case zw =>
          (repeat' (first | exact trivial))
        case zx =>
          (repeat' (first | exact trivial | exact Nat.le_of_ble_eq_true rfl | exact jB_under _ _ | (refine And.intro ?_ ?_)))
        case zc =>
          (repeat' (first | (refine And.intro ?_ ?_) | exact trivial | exact A.Le.refl _))
        case zv =>
          (repeat' (first | exact trivial))
        case zh =>
          (repeat' (first | (refine And.intro ?_ ?_) | exact trivial | exact congrArg some hcell))
        case zr =>
        refine Aw.renameS (id1 := 1) (id2 := 0) (j := 8) rfl rfl (by decide) rfl e0 (Nat.le_of_ble_eq_true rfl) (nms_ofLB (fun p hp => ?_)) (fun id bx hb => ?_) (fun v hv u => jB_down _ _ v hv u) ?_
        · simp only [List.nil_append, List.mem_cons, List.not_mem_nil, or_false] at hp
          rcases hp with rfl | rfl | rfl | rfl | rfl | rfl | rfl
          · exact (free_map Cask.free _ _ _).nms
          · exact (free_ints _ _ _).nms
          · exact (free_ints _ _ _).nms
          · exact .s _
          · exact .s _
          · exact .s _
          · exact .gs _ _ _ (by decide)
        · simp only [ofH, updH_apply] at hb
          split at hb
          · cases hb; exact jB_nms _ _
          · cases hb
        refine Aw.em tab_ok mb0 [(5, c.c)] rfl rfl ?zo ?zk
        case zo =>
          repeat' apply AllP.cons
          all_goals first | exact trivial | exact id | exact fun _ => rfl | exact fun _ => Nat.le_of_ble_eq_true rfl | exact fun _ => Int.natCast_nonneg _ | exact fun _ => hgc
        case zk =>
        refine Aw.em tab_ok mb0 [] rfl rfl ?zo ?zk
        case zo =>
          repeat' apply AllP.cons
          all_goals first | exact trivial | exact inrk (k + 1) (by omega)
        case zk =>
        refine ⟨(k + 1 + 1, cap1), ?zg, ?zm, ⟨?zc, ?zv, ?zh, Nat.le_of_ble_eq_true rfl⟩⟩
        case zg =>
          (repeat' (first | omega))
        case zm =>
          (repeat' (first | omega))
        case zc =>
          (repeat' (first | (refine And.intro ?_ ?_) | exact trivial | exact A.Le.refl _))
        case zv =>
          (repeat' (first | (refine And.intro ?_ ?_) | exact trivial | exact A.Le.refl _ | exact .of_eq (congrArg A.bool hOk)))
        case zh =>
          (repeat' (first | (refine And.intro ?_ ?_) | exact trivial | exact rfl))
  · have hle : k = y.length := by have := of_decide_eq_false h1; omega
    subst hle
    refine Aw.exit2 ?_
    cases hkz : y.length with
    | zero => omega
    | succ k =>
    refine Aw.sm tab_ok mb0 [] rfl rfl ?zo ?zk
    case zo =>
      repeat' apply AllP.cons
      all_goals first | exact trivial
    case zk =>
    have hcap := hcap (by omega)
    have hMa : M.take (k + 1) = M := by rw [← hkz, ← hMl, List.take_length]
    refine Aw.ret ⟨_, .cons (.tmp _) (.cons (.tmp _) .nil), Nat.le_of_ble_eq_true rfl, cap, cap - (k + 1), rfl, ?_, ?_⟩
    · show some (B.cells ((M.take (k + 1)).map A.int ++ List.replicate (cap - (k + 1)) A.un)) = _
      rw [hMa]
    · rw [List.length_append, List.length_map, List.length_replicate, hMl]; omega
end Go.Proofs.Ytampldajinhenaa

namespace Go.Proofs.Ytampldajinhenaa
open Go Go.AL Go.AL.Q Go.AL.Br
end Go.Proofs.Ytampldajinhenaa

namespace Go.Proofs.Ytampldajinhenaa
open Go Go.AL Go.AL.Q Go.AL.Br
def grtL (y : List Cask) : List Int := y.map (·.hi)
theorem grtL_get {y : List Cask} {i : Nat} (h : i < y.length) : (grtL y).getD i 0 = mostOf y i := by
  unfold grtL mostOf
  rw [ck_get h]
  simp [List.getD_eq_getElem?_getD, h]
theorem grt_t (y : List Cask) (b : Bool) (hyo : YardOk y) : Ans Try.prog 79 [.sl b .any (y.map Cask.c)] (.sl false .any (ints (grtL y))) := by
  have ll : ((y.map Cask.c).length : Int) = y.length := by simp
  have fy : Free (.sl b .any (y.map Cask.c)) := free_map Cask.free _ _ _
  have uy : ∀ {m : Nat}, Under m (A.sl b .any (y.map Cask.c)) := fy.under
  have hfr : Free (.sl false .any (ints (grtL y))) := free_ints _ _ _
  have hn := hyo.n
  have hS : ∀ k, k < y.length → grtL (y.take (k + 1)) = grtL (y.take k) ++ [(ck y k).hi] := fun k hk => by
    rw [List.take_succ_eq_append_getElem hk, ck_get hk]; unfold grtL; rw [List.map_append]; rfl
  refine told Try.func79 rfl rfl (Pure.of tab_ok Try.func79 rfl Try.ntmps79 rfl (all1 (fy)) (all1 (fun _ => rfl)) (by first | exact .s _ | assumption | exact .tup _ (by intro x hx; simp only [List.mem_cons, List.not_mem_nil, or_false] at hx; rcases hx with rfl | rfl | rfl | rfl <;> first | exact .s _ | (simp_all; done))) fun E hE => ?_)
  refine Aw.sm tab_ok mb0 [] rfl rfl ?zo ?zk
  case zo =>
    repeat' apply AllP.cons
    all_goals first | exact trivial
  case zk =>
  refine Aw.sm tab_ok mb0 [] rfl rfl ?zo ?zk
  case zo =>
    repeat' apply AllP.cons
    all_goals first | exact trivial
  case zk =>
  refine Aw.seq ?_
  refine Aw.sm tab_ok mb0 [] rfl rfl ?zo ?zk
  case zo =>
    repeat' apply AllP.cons
    all_goals first | exact trivial
  case zk =>
  refine Aw.block (Aw.rounds 0 hE [(0, .sl b .any (y.map Cask.c))] (fun k : Nat => [(3, grL 3 (grtL (y.take k))), (4, .int k)]) (fun k => []) (fun k => k ≤ y.length) (fun k => y.length - k) 0 ?zg ⟨?zc, ?zv, ?zh, Nat.le_of_ble_eq_true rfl⟩ ?zu (fun k zhk => ?zw) (fun k zhk => ?zx) fun k hk => ?zr)
  case zg =>
    (repeat' (first | exact Nat.zero_le _))
  case zc =>
    (repeat' (first | (refine And.intro ?_ ?_) | exact trivial | exact A.Le.refl _))
  case zv =>
    (repeat' (first | (refine And.intro ?_ ?_) | exact trivial | exact A.Le.refl _))
  case zh =>
    (repeat' (first | exact trivial))
  case zu =>
    (repeat' (first | exact trivial | exact uy | (refine And.intro ?_ ?_)))
  case zw =>
    (repeat' (first | exact trivial | exact Under.s _ | exact grL_under _ | (refine And.intro ?_ ?_)))
  case zx =>
    (repeat' (first | exact trivial))
  case zr =>
  refine Aw.seq ?_
  refine Aw.sm tab_ok mb0 [] rfl rfl ?zo ?zk
  case zo =>
    repeat' apply AllP.cons
    all_goals first | exact trivial
  case zk =>
  refine Aw.cond rfl (fun h1 => Aw.skip ?_) (fun h1 => ?_)
  · have hlt : k < y.length := by have := of_decide_eq_true h1; omega
    have hSk := hS k hlt
    have hg := cask_at hlt
    have hlk : (grtL (y.take k)).length = k := by simp [grtL]; omega
    generalize ck y k = c at *
    generalize hv1 : grtL (y.take (k + 1)) = G1 at *
    generalize grtL (y.take k) = G at *
    have hone : ∀ z ∈ [[A.int c.hi]], z.length = 1 := fun z hz => by simp at hz; subst hz; rfl
    refine Aw.seq (Aw.block ?_)
    cases G with
    | nil =>
      refine Aw.em tab_ok mb0 [(3, c.c)] rfl rfl ?zo ?zk
      case zo =>
        repeat' apply AllP.cons
        all_goals first | exact trivial | exact rfl | exact Nat.le_of_ble_eq_true rfl | exact Int.natCast_nonneg _ | exact hg | exact hone
      case zk =>
      refine Aw.em tab_ok mb0 [] rfl rfl ?zo ?zk
      case zo =>
        repeat' apply AllP.cons
        all_goals first | exact trivial | exact inrk k (by omega)
      case zk =>
      refine ⟨k + 1, ?zg, ?zm, ⟨?zc, ?zv, ?zh, Nat.le_of_ble_eq_true rfl⟩⟩
      case zg =>
        (repeat' (first | assumption))
      case zm =>
        (repeat' (first | omega))
      case zc =>
        (repeat' (first | (refine And.intro ?_ ?_) | exact trivial | exact A.Le.refl _))
      case zv =>
        (repeat' (first | (refine And.intro ?_ ?_) | exact trivial | exact A.Le.refl _ | exact .of_eq (by rw [hv1, hSk]; rfl)))
      case zh =>
        (repeat' (first | exact trivial))
    | cons x t =>
      have hl1 : (ints (x :: t)).length ≤ 4 := by rw [ints_len]; omega
      have hz := ints_one (x :: t)
      refine Aw.em tab_ok mb0 [(3, c.c)] rfl rfl ?zo ?zk
      case zo =>
        repeat' apply AllP.cons
        all_goals first | exact trivial | exact rfl | exact Nat.le_of_ble_eq_true rfl | exact Int.natCast_nonneg _ | exact hg | exact hone | exact hz | exact (show ((ints (x :: t)).length + 1) * 8 ≤ 140737488355328 by omega) | exact (show (ints (x :: t)).length + 1 ≤ maxLen by unfold maxLen; omega)
      case zk =>
      refine Aw.em tab_ok mb0 [] rfl rfl ?zo ?zk
      case zo =>
        repeat' apply AllP.cons
        all_goals first | exact trivial | exact inrk k (by omega)
      case zk =>
      refine ⟨k + 1, ?zg, ?zm, ⟨?zc, ?zv, ?zh, Nat.le_of_ble_eq_true rfl⟩⟩
      case zg =>
        (repeat' (first | assumption))
      case zm =>
        (repeat' (first | omega))
      case zc =>
        (repeat' (first | (refine And.intro ?_ ?_) | exact trivial | exact A.Le.refl _))
      case zv =>
        (repeat' (first | (refine And.intro ?_ ?_) | exact trivial | exact A.Le.refl _ | exact .of_eq (show grL 3 (grtL (y.take (k + 1))) = A.sl false (.own 3) (ints (x :: t) ++ [[A.int c.hi]]) by rw [hv1, hSk]; simp [grL, ints])))
      case zh =>
        (repeat' (first | exact trivial))
  have hle : k = y.length := by have := of_decide_eq_false h1; omega
  subst hle
  rw [List.take_length]
  refine Aw.exit2 ?_
  have hgr : A.Le (.sl false .any (ints (grtL y))) (grL 3 (grtL y)) := by
    have hne : grtL y ≠ [] := fun h => by have := congrArg List.length h; simp [grtL] at this; rw [this] at hn; simp at hn
    cases hq : grtL y with
    | nil => exact absurd hq hne
    | cons x t => exact .any _ _ _
  refine Aw.keep (n := 0) (cst := [(3, .sl false .any (ints (grtL y)))]) (v := []) (Hl := []) hE ?zu ?zw ?zx ⟨?zc, ?zv, ?zh, Nat.le_of_ble_eq_true rfl⟩ ?zr
  case zu =>
    (repeat' (first | exact trivial | exact (free_ints _ _ _).under | (refine And.intro ?_ ?_)))
  case zw =>
    (repeat' (first | exact trivial))
  case zx =>
    (repeat' (first | exact trivial))
  case zc =>
    (repeat' (first | (refine And.intro ?_ ?_) | exact trivial | exact hgr))
  case zv =>
    (repeat' (first | exact trivial))
  case zh =>
    (repeat' (first | exact trivial))
  case zr =>
  refine Aw.sm tab_ok mb0 [] rfl rfl ?zo ?zk
  case zo =>
    repeat' apply AllP.cons
    all_goals first | exact trivial
  case zk =>
  exact Aw.ret ⟨_, .cons (.tmp _) .nil, rfl⟩
theorem month_p (y : List Cask) (b : Bool) (hyo : YardOk y) (lb : Bool) (lv : List Int) (hlv : LvS y.length lv) :
    Ans Try.prog 75 [.sl b .any (y.map Cask.c), .sl lb .any (ints lv), .sl false .any (ints (grtL y))] (.tup [.sl false .any (ints (monL (mostOf y) lv y.length)), .bool (okM y (mostOf y) lv y.length)]) := by
  have ll : ((y.map Cask.c).length : Int) = y.length := by simp
  have fy : Free (.sl b .any (y.map Cask.c)) := free_map Cask.free _ _ _
  have fv : Free (.sl lb .any (ints lv)) := free_ints _ _ _
  have fk : Free (.sl false .any (ints (grtL y))) := free_ints _ _ _
  have uy : ∀ {m : Nat}, Under m (A.sl b .any (y.map Cask.c)) := fy.under
  have uv : ∀ {m : Nat}, Under m (A.sl lb .any (ints lv)) := fv.under
  have uk : ∀ {m : Nat}, Under m (A.sl false .any (ints (grtL y))) := fk.under
  have hn := hyo.n
  have hvl := hlv.n
  have hMs := monL_succ (mostOf y) lv
  have hOs := okM_succ y (mostOf y) lv
  have hMl := monL_len (mostOf y) lv
  have hO0 : okM y (mostOf y) lv 0 = true := rfl
  have hM0 : monL (mostOf y) lv 0 = [] := rfl
  have hgl : (grtL y).length = y.length := by simp [grtL]
  have hno := most_nn hyo.c
  have hfr : Free (.tup [.sl false .any (ints (monL (mostOf y) lv y.length)), .bool (okM y (mostOf y) lv y.length)]) := .tup _ (allC (free_ints _ _ _) (all1 (.s _)))
  generalize okM y (mostOf y) lv = O at *
  generalize monL (mostOf y) lv = G at *
  refine told Try.func75 rfl rfl (Pure.of tab_ok Try.func75 rfl Try.ntmps75 rfl (allC (fy) (allC (fv) (all1 (fk)))) (allC (fun _ => rfl) (allC (fun _ => rfl) (all1 (fun _ => rfl)))) (by first | exact .s _ | assumption | exact .tup _ (by intro x hx; simp only [List.mem_cons, List.not_mem_nil, or_false] at hx; rcases hx with rfl | rfl | rfl | rfl <;> first | exact .s _ | (simp_all; done))) fun E hE => ?_)
  refine Aw.sm tab_ok mb0 [] rfl rfl ?zo ?zk
  case zo =>
    repeat' apply AllP.cons
    all_goals first | exact trivial
  case zk =>
  refine Aw.sm tab_ok mb0 [] rfl rfl ?zo ?zk
  case zo =>
    repeat' apply AllP.cons
    all_goals first | exact trivial
  case zk =>
  refine Aw.sm tab_ok mb0 [] rfl rfl ?zo ?zk
  case zo =>
    repeat' apply AllP.cons
    all_goals first | exact trivial
  case zk =>
  refine Aw.seq ?_
  refine Aw.sm tab_ok mb0 [] rfl rfl ?zo ?zk
  case zo =>
    repeat' apply AllP.cons
    all_goals first | exact trivial
  case zk =>
  refine Aw.block (Aw.rounds 0 hE [(0, .sl b .any (y.map Cask.c)), (1, .sl lb .any (ints lv)), (2, .sl false .any (ints (grtL y)))] (fun k : Nat => [(8, grL 3 (G k)), (9, .bool (O k)), (10, .int k)]) (fun k => []) (fun k => k ≤ y.length) (fun k => y.length - k) 0 ?zg ⟨?zc, ?zv, ?zh, Nat.le_of_ble_eq_true rfl⟩ ?zu (fun k zhk => ?zw) (fun k zhk => ?zx) fun k hk => ?zr)
  case zg =>
    (repeat' (first | exact Nat.zero_le _))
  case zc =>
    (repeat' (first | (refine And.intro ?_ ?_) | exact trivial | exact A.Le.refl _))
  case zv =>
    (repeat' (first | (refine And.intro ?_ ?_) | exact trivial | exact A.Le.refl _ | exact .of_eq (congrArg A.bool hO0) | exact .of_eq (by rw [hM0]; rfl)))
  case zh =>
    (repeat' (first | exact trivial))
  case zu =>
    (repeat' (first | exact trivial | exact (free_ints _ _ _).under | exact uy | (refine And.intro ?_ ?_)))
  case zw =>
    (repeat' (first | exact trivial | exact Under.s _ | exact grL_under _ | (refine And.intro ?_ ?_)))
  case zx =>
    (repeat' (first | exact trivial))
  case zr =>
  refine Aw.seq ?_
  refine Aw.sm tab_ok mb0 [] rfl rfl ?zo ?zk
  case zo =>
    repeat' apply AllP.cons
    all_goals first | exact trivial
  case zk =>
  refine Aw.cond rfl (fun h1 => Aw.skip ?_) (fun h1 => ?_)
  · have hlt : k < y.length := by have := of_decide_eq_true h1; omega
    have hgc := cask_at hlt
    have hg1 := ints_getD (l := lv) (k := k) (by omega)
    have hg2 := ints_getD (l := grtL y) (k := k) (by omega)
    rw [grtL_get hlt] at hg2
    have hb1 := hlv.get hlt
    have hb2 := hno k
    have hb3 : mostOf y k ≤ 1000 := by have := ck_ok hyo.c k; unfold mostOf; omega
    have hSk := hMs k
    have hOk := hOs k
    have hlG := hMl k
    generalize hv1 : G (k + 1) = G1 at *
    generalize G k = GG at *
    generalize hO1 : O (k + 1) = O1 at *
    generalize O k = OO at *
    generalize ck y k = c at *
    generalize lv.getD k 0 = x at *
    generalize mostOf y k = z at *
    refine Aw.seq (Aw.block ?_)
    refine Aw.sd tab_ok mixed mb0 [(2, [.int x]), (6, [.int z])] rfl (by kernel_rfl) rfl rfl ?zo ?zk
    case zo =>
      repeat' apply AllP.cons
      all_goals first | exact trivial | exact rfl | exact Nat.le_of_ble_eq_true rfl | exact Int.natCast_nonneg _ | exact hg1 | exact hg2 | exact (show inR (x - z) by simp only [inR]; omega)
    case zk =>
    generalize hw : mx0 (x - z) = w at *
    have hw' : (if x - z > 0 then x - z else 0) = w := hw
    refine Aw.keep (n := 0) (cst := [(0, .sl b .any (y.map Cask.c)), (1, .sl lb .any (ints lv)), (2, .sl false .any (ints (grtL y))), (8, grL 3 GG), (9, .bool OO), (10, .int k), (11, .int w)]) (v := []) (Hl := []) hE ?zu ?zw ?zx ⟨?zc, ?zv, ?zh, Nat.le_of_ble_eq_true rfl⟩ ?zr
    case zu =>
      (repeat' (first | exact trivial | exact Under.s _ | exact (free_ints _ _ _).under | exact grL_under _ | exact uy | (refine And.intro ?_ ?_)))
    case zw =>
      (repeat' (first | exact trivial))
    case zx =>
      (repeat' (first | exact trivial))
    case zc =>
      (repeat' (first | (refine And.intro ?_ ?_) | exact trivial | exact A.Le.refl _ | exact .of_eq (congrArg A.int hw'.symm)))
    case zv =>
      (repeat' (first | exact trivial))
    case zh =>
      (repeat' (first | exact trivial))
    case zr =>
    have hone : ∀ v ∈ [[A.int w]], v.length = 1 := fun v hv => by simp at hv; subst hv; rfl
    cases GG with
    | nil =>
      refine Aw.sm tab_ok mb0 [] rfl rfl ?zo ?zk
      case zo =>
        repeat' apply AllP.cons
        all_goals first | exact trivial | exact Nat.le_of_ble_eq_true rfl | exact hone
      case zk =>
      refine Aw.em tab_ok mb0 [(5, c.c)] rfl rfl ?zo ?zk
      case zo =>
        repeat' apply AllP.cons
        all_goals first | exact trivial | exact id | exact fun _ => rfl | exact fun _ => Nat.le_of_ble_eq_true rfl | exact fun _ => Int.natCast_nonneg _ | exact fun _ => hgc
      case zk =>
      refine Aw.em tab_ok mb0 [] rfl rfl ?zo ?zk
      case zo =>
        repeat' apply AllP.cons
        all_goals first | exact trivial | exact inrk k (by omega)
      case zk =>
      refine ⟨k + 1, ?zg, ?zm, ⟨?zc, ?zv, ?zh, Nat.le_of_ble_eq_true rfl⟩⟩
      case zg =>
        (repeat' (first | assumption))
      case zm =>
        (repeat' (first | omega))
      case zc =>
        (repeat' (first | (refine And.intro ?_ ?_) | exact trivial | exact A.Le.refl _))
      case zv =>
        (repeat' (first | (refine And.intro ?_ ?_) | exact trivial | exact A.Le.refl _ | exact .of_eq (show grL 3 (G (k + 1)) = A.sl false (.own 3) [[A.int w]] by rw [hv1, hSk]; rfl) | exact .of_eq (congrArg A.bool (hO1.trans hOk))))
      case zh =>
        (repeat' (first | exact trivial))
    | cons q t =>
      have hl1 : (ints (q :: t)).length ≤ 4 := by rw [ints_len]; omega
      have hz := ints_one (q :: t)
      refine Aw.sm tab_ok mb0 [] rfl rfl ?zo ?zk
      case zo =>
        repeat' apply AllP.cons
        all_goals first | exact trivial | exact Nat.le_of_ble_eq_true rfl | exact hone | exact hz | exact (show ((ints (q :: t)).length + 1) * 8 ≤ 140737488355328 by omega) | exact (show (ints (q :: t)).length + 1 ≤ maxLen by unfold maxLen; omega)
      case zk =>
      refine Aw.em tab_ok mb0 [(5, c.c)] rfl rfl ?zo ?zk
      case zo =>
        repeat' apply AllP.cons
        all_goals first | exact trivial | exact id | exact fun _ => rfl | exact fun _ => Nat.le_of_ble_eq_true rfl | exact fun _ => Int.natCast_nonneg _ | exact fun _ => hgc
      case zk =>
      refine Aw.em tab_ok mb0 [] rfl rfl ?zo ?zk
      case zo =>
        repeat' apply AllP.cons
        all_goals first | exact trivial | exact inrk k (by omega)
      case zk =>
      refine ⟨k + 1, ?zg, ?zm, ⟨?zc, ?zv, ?zh, Nat.le_of_ble_eq_true rfl⟩⟩
      case zg =>
        (repeat' (first | assumption))
      case zm =>
        (repeat' (first | omega))
      case zc =>
        (repeat' (first | (refine And.intro ?_ ?_) | exact trivial | exact A.Le.refl _))
      case zv =>
        (repeat' (first | (refine And.intro ?_ ?_) | exact trivial | exact A.Le.refl _ | exact .of_eq (show grL 3 (G (k + 1)) = A.sl false (.own 3) (ints (q :: t) ++ [[A.int w]]) by rw [hv1, hSk]; simp [grL, ints]) | exact .of_eq (congrArg A.bool (hO1.trans hOk))))
      case zh =>
        (repeat' (first | exact trivial))
  have hle : k = y.length := by have := of_decide_eq_false h1; omega
  subst hle
  refine Aw.exit2 ?_
  have hlG := hMl y.length
  generalize G y.length = GG at *
  have hgr : A.Le (.sl false .any (ints GG)) (grL 3 GG) := by
    cases GG with
    | nil => simp at hlG; omega
    | cons x t => exact .any _ _ _
  refine Aw.keep (n := 0) (cst := [(8, .sl false .any (ints GG)), (9, .bool (O y.length))]) (v := []) (Hl := []) hE ?zu ?zw ?zx ⟨?zc, ?zv, ?zh, Nat.le_of_ble_eq_true rfl⟩ ?zr
  case zu =>
    (repeat' (first | exact trivial | exact Under.s _ | exact (free_ints _ _ _).under | (refine And.intro ?_ ?_)))
  case zw =>
    (repeat' (first | exact trivial))
  case zx =>
    (repeat' (first | exact trivial))
  case zc =>
    (repeat' (first | (refine And.intro ?_ ?_) | exact trivial | exact A.Le.refl _ | exact hgr))
  case zv =>
    (repeat' (first | exact trivial))
  case zh =>
    (repeat' (first | exact trivial))
  case zr =>
  refine Aw.sm tab_ok mb0 [] rfl rfl ?zo ?zk
  case zo =>
    repeat' apply AllP.cons
    all_goals first | exact trivial
  case zk =>
  exact Aw.ret ⟨_, .cons (.tmp _) (.cons (.tmp _) .nil), rfl⟩
theorem higher_t (pa pb : Bool) (a b' : List Int) (hl : a.length ≤ b'.length) (hn : a.length ≤ 4) : Ans Try.prog 96 [.sl pa .any (ints a), .sl pb .any (ints b')] (.bool (higherF a b')) := by
  have la := ints_lenI a
  have ua : ∀ {m : Nat}, Under m (A.sl pa .any (ints a)) := (free_ints _ _ _).under
  have ub : ∀ {m : Nat}, Under m (A.sl pb .any (ints b')) := (free_ints _ _ _).under
  refine told Try.func96 rfl rfl (Pure.of tab_ok Try.func96 rfl Try.ntmps96 rfl (allC (free_ints _ _ _) (all1 (free_ints _ _ _))) (allC (fun _ => rfl) (all1 (fun _ => rfl))) (by first | exact .s _ | assumption | exact .tup _ (by intro x hx; simp only [List.mem_cons, List.not_mem_nil, or_false] at hx; rcases hx with rfl | rfl | rfl | rfl <;> first | exact .s _ | (simp_all; done))) fun E hE => ?_)
  refine Aw.sm tab_ok mb0 [] rfl rfl ?zo ?zk
  case zo =>
    repeat' apply AllP.cons
    all_goals first | exact trivial
  case zk =>
  refine Aw.seq ?_
  refine Aw.sm tab_ok mb0 [] rfl rfl ?zo ?zk
  case zo =>
    repeat' apply AllP.cons
    all_goals first | exact trivial
  case zk =>
  refine Aw.block (Aw.rounds 0 hE [(0, .sl pa .any (ints a)), (1, .sl pb .any (ints b'))] (fun k : Nat => [(5, .int k)]) (fun k => []) (fun k => k ≤ a.length ∧ ∀ i, i < k → b'.getD i 0 ≤ a.getD i 0) (fun k => a.length - k) 0 ?zg ⟨?zc, ?zv, ?zh, Nat.le_of_ble_eq_true rfl⟩ ?zu (fun k zhk => ?zw) (fun k zhk => ?zx) fun k hk => ?zr)
  case zg =>
    (repeat' (first | exact ⟨Nat.zero_le _, fun i h => by omega⟩))
  case zc =>
    (repeat' (first | (refine And.intro ?_ ?_) | exact trivial | exact A.Le.refl _))
  case zv =>
    (repeat' (first | (refine And.intro ?_ ?_) | exact trivial | exact A.Le.refl _))
  case zh =>
    (repeat' (first | exact trivial))
  case zu =>
    (repeat' (first | exact trivial | exact (free_ints _ _ _).under | (refine And.intro ?_ ?_)))
  case zw =>
    (repeat' (first | exact trivial | exact Under.s _ | (refine And.intro ?_ ?_)))
  case zx =>
    (repeat' (first | exact trivial))
  case zr =>
  obtain ⟨hk, hi⟩ := hk
  refine Aw.seq ?_
  refine Aw.sm tab_ok mb0 [] rfl rfl ?zo ?zk
  case zo =>
    repeat' apply AllP.cons
    all_goals first | exact trivial
  case zk =>
  refine Aw.cond rfl (fun h1 => Aw.skip ?_) (fun h1 => ?_)
  · have hlt : k < a.length := by have := of_decide_eq_true h1; omega
    have g1 := ints_getD hlt
    have g2 := ints_getD (l := b') (k := k) (by omega)
    refine Aw.seq (Aw.block ?_)
    generalize hx : a.getD k 0 = x at *
    generalize hy : b'.getD k 0 = z at *
    refine Aw.sd tab_ok mixed mb0 [(2, [.int x]), (6, [.int z])] rfl (by kernel_rfl) rfl rfl ?zo ?zk
    case zo =>
      repeat' apply AllP.cons
      all_goals first | exact trivial | exact rfl | exact Nat.le_of_ble_eq_true rfl | exact Int.natCast_nonneg _ | exact g1 | exact g2
    case zk =>
    refine Aw.cond rfl (fun h2 => ?_) (fun h2 => Aw.skip ?_)
    · have h2 : x < z := of_decide_eq_true h2
      refine Aw.sm tab_ok mb0 [] rfl rfl ?zo ?zk
      case zo =>
        repeat' apply AllP.cons
        all_goals first | exact trivial
      case zk =>
      have e : higherF a b' = false := by
        rw [← Bool.not_eq_true, higher_iff]
        intro h
        have := h k hlt
        omega
      exact Aw.ret ⟨_, .cons (.tmp _) .nil, by rw [e]; rfl⟩
    · have h2 : ¬ x < z := of_decide_eq_false h2
      have hnx : ∀ i, i < k + 1 → b'.getD i 0 ≤ a.getD i 0 := fun i hi2 => by
        rcases Nat.lt_succ_iff_lt_or_eq.1 hi2 with h3 | rfl
        · exact hi i h3
        · omega
      refine Aw.em tab_ok mb0 [] rfl rfl ?zo ?zk
      case zo =>
        repeat' apply AllP.cons
        all_goals first | exact trivial | exact inrk k (by omega)
      case zk =>
      refine ⟨k + 1, ?zg, ?zm, ⟨?zc, ?zv, ?zh, Nat.le_of_ble_eq_true rfl⟩⟩
      case zg =>
        (repeat' (first | exact ⟨hlt, hnx⟩))
      case zm =>
        (repeat' (first | omega))
      case zc =>
        (repeat' (first | (refine And.intro ?_ ?_) | exact trivial | exact A.Le.refl _))
      case zv =>
        (repeat' (first | (refine And.intro ?_ ?_) | exact trivial | exact A.Le.refl _))
      case zh =>
        (repeat' (first | exact trivial))
  have hle : k = a.length := by have := of_decide_eq_false h1; omega
  subst hle
  refine Aw.exit2 ?_
  refine Aw.sm tab_ok mb0 [] rfl rfl ?zo ?zk
  case zo =>
    repeat' apply AllP.cons
    all_goals first | exact trivial
  case zk =>
  exact Aw.ret ⟨_, .cons (.tmp _) .nil, by rw [higher_iff.2 hi]; rfl⟩
def grY : List (List Int) → A
  | [] => .sl true .exact []
  | x :: l => .sl false (.own 22) ((x :: l).map yS)
theorem grY_under : ∀ (l : List (List Int)) {n : Nat}, Under n (grY l)
  | [], _ => .sl _ _ _ (fun _ h => nomatch h)
  | x :: l, _ => .sl _ _ _ fun e he v hv => by
    obtain ⟨m, _, rfl⟩ := List.mem_map.1 he
    exact (yS_free m v hv).under
theorem yS_one (l : List (List Int)) : ∀ z ∈ l.map yS, z.length = 1 := fun z hz => by obtain ⟨m, _, rfl⟩ := List.mem_map.1 hz; rfl
set_option maxHeartbeats 1000000 in
theorem put_t (L : List (List Int)) (one : List Int) (hL : ∀ r ∈ L, r.length = one.length) (hn : one.length ≤ 4) (hsz : L.length ≤ 100000000) : Ans Try.prog 81 [setW L, .sl false .any (ints one)] (setW (putF L one)) := by
  have ll := setW_len L
  have fL : Free (setW L) := setW_free L
  have uL : ∀ {m : Nat}, Under m (setW L) := fL.under
  have uo : ∀ {m : Nat}, Under m (A.sl false .any (ints one)) := (free_ints _ _ _).under
  have hfr : Free (setW (putF L one)) := setW_free _
  refine told Try.func81 rfl rfl (Pure.of tab_ok Try.func81 rfl Try.ntmps81 rfl (allC (fL) (all1 (free_ints _ _ _))) (allC (fun _ => rfl) (all1 (fun _ => rfl))) (by first | exact .s _ | assumption | exact .tup _ (by intro x hx; simp only [List.mem_cons, List.not_mem_nil, or_false] at hx; rcases hx with rfl | rfl | rfl | rfl <;> first | exact .s _ | (simp_all; done))) fun E hE => ?_)
  refine Aw.sm tab_ok mb0 [] rfl rfl ?zo ?zk
  case zo =>
    repeat' apply AllP.cons
    all_goals first | exact trivial
  case zk =>
  refine Aw.sm tab_ok mb0 [] rfl rfl ?zo ?zk
  case zo =>
    repeat' apply AllP.cons
    all_goals first | exact trivial
  case zk =>
  refine Aw.seq ?_
  refine Aw.sm tab_ok mb0 [] rfl rfl ?zo ?zk
  case zo =>
    repeat' apply AllP.cons
    all_goals first | exact trivial
  case zk =>
  refine Aw.block (Aw.rounds 0 hE [(0, setW L), (1, .sl false .any (ints one))] (fun k : Nat => [(5, grY ((L.take k).filter fun r => !higherF one r)), (6, .int k)]) (fun k => []) (fun k => k ≤ L.length ∧ ∀ i, i < k → higherF (L.getD i []) one = false) (fun k => L.length - k) 0 ?zg ⟨?zc, ?zv, ?zh, Nat.le_of_ble_eq_true rfl⟩ ?zu (fun k zhk => ?zw) (fun k zhk => ?zx) fun k hk => ?zr)
  case zg =>
    (repeat' (first | exact ⟨Nat.zero_le _, fun i h => by omega⟩))
  case zc =>
    (repeat' (first | (refine And.intro ?_ ?_) | exact trivial | exact A.Le.refl _))
  case zv =>
    (repeat' (first | (refine And.intro ?_ ?_) | exact trivial | exact A.Le.refl _))
  case zh =>
    (repeat' (first | exact trivial))
  case zu =>
    (repeat' (first | exact trivial | exact (free_ints _ _ _).under | exact uL | (refine And.intro ?_ ?_)))
  case zw =>
    (repeat' (first | exact trivial | exact Under.s _ | exact grY_under _ | (refine And.intro ?_ ?_)))
  case zx =>
    (repeat' (first | exact trivial))
  case zr =>
  obtain ⟨hk, hi⟩ := hk
  refine Aw.seq ?_
  refine Aw.sm tab_ok mb0 [] rfl rfl ?zo ?zk
  case zo =>
    repeat' apply AllP.cons
    all_goals first | exact trivial
  case zk =>
  have hfl := List.length_filter_le (fun r => !higherF one r) (L.take k)
  have htl : (L.take k).length ≤ L.length := by rw [List.length_take]; omega
  refine Aw.cond rfl (fun h1 => Aw.skip ?_) (fun h1 => ?_)
  · have hlt : k < L.length := by have := of_decide_eq_true h1; omega
    have hgk : L.getD k [] = L[k] := by simp [List.getD_eq_getElem?_getD, hlt]
    have g1 : (L.map yS)[k]? = some (yS (L.getD k [])) := by rw [hgk]; exact get_map hlt
    have hrl := hL _ (List.getElem_mem hlt)
    rw [← hgk] at hrl
    have hany : higherF (L.getD k []) one = true → putF L one = L := fun h => by
      unfold putF
      rw [if_pos (List.any_eq_true.2 ⟨L[k], List.getElem_mem hlt, by rw [← hgk]; exact h⟩)]
    have hst : (L.take (k + 1)).filter (fun r => !higherF one r) = (L.take k).filter (fun r => !higherF one r) ++ (if higherF one (L.getD k []) then [] else [L.getD k []]) := by
      rw [List.take_succ_eq_append_getElem hlt, List.filter_append, hgk]
      cases h : higherF one L[k] <;> simp [h]
    generalize hr : L.getD k [] = r at *
    have c1 := higher_t false false r one (by omega) (by omega)
    have c2 := higher_t false false one r (by omega) (by omega)
    refine Aw.seq (Aw.block ?_)
    refine Aw.seq ?_
    refine Aw.sm tab_ok mb0 [(2, yS r), (5, [.bool (higherF r one)])] rfl rfl ?zo ?zk
    case zo =>
      repeat' apply AllP.cons
      all_goals first | exact trivial | exact rfl | exact Nat.le_of_ble_eq_true rfl | exact Int.natCast_nonneg _ | exact g1 | exact c1
    case zk =>
    refine Aw.cond rfl (fun h2 => ?_) (fun h2 => Aw.skip ?_)
    · have h2 : higherF r one = true := h2
      refine Aw.sm tab_ok mb0 [] rfl rfl ?zo ?zk
      case zo =>
        repeat' apply AllP.cons
        all_goals first | exact trivial
      case zk =>
      exact Aw.ret ⟨_, .cons (.tmp _) .nil, by rw [hany h2]; rfl⟩
    have h2 : higherF r one = false := h2
    have hnx : ∀ i, i < k + 1 → higherF (L.getD i []) one = false := fun i hi2 => by
      rcases Nat.lt_succ_iff_lt_or_eq.1 hi2 with h3 | rfl
      · exact hi i h3
      · rw [hr]; exact h2
    generalize hG1 : (L.take (k + 1)).filter (fun r => !higherF one r) = G1 at *
    generalize (L.take k).filter (fun r => !higherF one r) = G at *
    refine Aw.sm tab_ok mb0 [(3, yS r), (5, [.bool (higherF one r)])] rfl rfl ?zo ?zk
    case zo =>
      repeat' apply AllP.cons
      all_goals first | exact trivial | exact rfl | exact Nat.le_of_ble_eq_true rfl | exact Int.natCast_nonneg _ | exact g1 | exact c2
    case zk =>
    refine Aw.cond rfl (fun h3 => ?_) (fun h3 => Aw.skip ?_)
    · have h3 : higherF one r = false := by simpa using h3
      rw [h3] at hst
      have hst : G1 = G ++ [r] := hst
      have hone : ∀ z ∈ [[A.sl false .any (ints r)]], z.length = 1 := fun z hz => by simp at hz; subst hz; rfl
      cases G with
      | nil =>
        refine Aw.em tab_ok mb0 [(3, yS r)] rfl rfl ?zo ?zk
        case zo =>
          repeat' apply AllP.cons
          all_goals first | exact trivial | exact rfl | exact Nat.le_of_ble_eq_true rfl | exact Int.natCast_nonneg _ | exact g1 | exact hone
        case zk =>
        refine Aw.em tab_ok mb0 [] rfl rfl ?zo ?zk
        case zo =>
          repeat' apply AllP.cons
          all_goals first | exact trivial | exact inrk k (by omega)
        case zk =>
        refine ⟨k + 1, ?zg, ?zm, ⟨?zc, ?zv, ?zh, Nat.le_of_ble_eq_true rfl⟩⟩
        case zg =>
          (repeat' (first | exact ⟨hlt, hnx⟩))
        case zm =>
          (repeat' (first | omega))
        case zc =>
          (repeat' (first | (refine And.intro ?_ ?_) | exact trivial | exact A.Le.refl _))
        case zv =>
          (repeat' (first | (refine And.intro ?_ ?_) | exact trivial | exact A.Le.refl _ | exact .of_eq (show grY ((L.take (k + 1)).filter fun r => !higherF one r) = A.sl false (.own 22) [[A.sl false .any (ints r)]] by rw [hG1, hst]; rfl)))
        case zh =>
          (repeat' (first | exact trivial))
      | cons x t =>
        have hl1 : ((x :: t).map yS).length ≤ 100000000 := by rw [List.length_map]; omega
        have hz := yS_one (x :: t)
        refine Aw.em tab_ok mb0 [(3, yS r)] rfl rfl ?zo ?zk
        case zo =>
          repeat' apply AllP.cons
          all_goals first | exact trivial | exact rfl | exact Nat.le_of_ble_eq_true rfl | exact Int.natCast_nonneg _ | exact g1 | exact hone | exact hz | exact (show (((x :: t).map yS).length + 1) * 24 ≤ 140737488355328 by omega) | exact (show ((x :: t).map yS).length + 1 ≤ maxLen by unfold maxLen; omega)
        case zk =>
        refine Aw.em tab_ok mb0 [] rfl rfl ?zo ?zk
        case zo =>
          repeat' apply AllP.cons
          all_goals first | exact trivial | exact inrk k (by omega)
        case zk =>
        refine ⟨k + 1, ?zg, ?zm, ⟨?zc, ?zv, ?zh, Nat.le_of_ble_eq_true rfl⟩⟩
        case zg =>
          (repeat' (first | exact ⟨hlt, hnx⟩))
        case zm =>
          (repeat' (first | omega))
        case zc =>
          (repeat' (first | (refine And.intro ?_ ?_) | exact trivial | exact A.Le.refl _))
        case zv =>
          (repeat' (first | (refine And.intro ?_ ?_) | exact trivial | exact A.Le.refl _ | exact .of_eq (show grY ((L.take (k + 1)).filter fun r => !higherF one r) = A.sl false (.own 22) ((x :: t).map yS ++ [[A.sl false .any (ints r)]]) by rw [hG1, hst]; simp [grY, yS])))
        case zh =>
          (repeat' (first | exact trivial))
    · have h3 : higherF one r = true := by simpa using h3
      rw [h3] at hst
      have hst : G1 = G ++ [] := hst
      rw [List.append_nil] at hst
      refine Aw.em tab_ok mb0 [] rfl rfl ?zo ?zk
      case zo =>
        repeat' apply AllP.cons
        all_goals first | exact trivial | exact inrk k (by omega)
      case zk =>
      refine ⟨k + 1, ?zg, ?zm, ⟨?zc, ?zv, ?zh, Nat.le_of_ble_eq_true rfl⟩⟩
      case zg =>
        (repeat' (first | exact ⟨hlt, hnx⟩))
      case zm =>
        (repeat' (first | omega))
      case zc =>
        (repeat' (first | (refine And.intro ?_ ?_) | exact trivial | exact A.Le.refl _))
      case zv =>
        (repeat' (first | (refine And.intro ?_ ?_) | exact trivial | exact A.Le.refl _ | exact .of_eq (congrArg grY (hG1.trans hst))))
      case zh =>
        (repeat' (first | exact trivial))
  have hle : k = L.length := by have := of_decide_eq_false h1; omega
  subst hle
  refine Aw.exit2 ?_
  rw [List.take_length]
  have hno : putF L one = L.filter (fun r => !higherF one r) ++ [one] := by
    unfold putF
    rw [if_neg]
    intro h
    obtain ⟨r, h2, h3⟩ := List.any_eq_true.1 h
    obtain ⟨i, h4, rfl⟩ := List.getElem_of_mem h2
    have := hi i h4
    rw [show L.getD i [] = L[i] by simp [List.getD_eq_getElem?_getD, h4]] at this
    rw [this] at h3; cases h3
  have hfl := List.length_filter_le (fun r => !higherF one r) L
  rw [hno]
  generalize L.filter (fun r => !higherF one r) = G at *
  have hone : ∀ z ∈ [[A.sl false .any (ints one)]], z.length = 1 := fun z hz => by simp at hz; subst hz; rfl
  have hw : ∀ cap, A.Le (setW (G ++ [one])) (.sl false cap (G.map yS ++ [[A.sl false .any (ints one)]])) := fun cap => by
    have e : setW (G ++ [one]) = .sl false .any (G.map yS ++ [[A.sl false .any (ints one)]]) := by
      unfold setW; rw [List.map_append, show (G ++ [one]).isEmpty = false by simp]; rfl
    rw [e]; exact .any _ _ _
  have uw : ∀ {m : Nat}, Under m (setW (G ++ [one])) := (setW_free _).under
  cases G with
  | nil =>
    refine Aw.sm tab_ok mb0 [] rfl rfl ?zo ?zk
    case zo =>
      repeat' apply AllP.cons
      all_goals first | exact trivial | exact Nat.le_of_ble_eq_true rfl | exact hone
    case zk =>
    refine Aw.keep (n := 0) (cst := [(4, setW ([] ++ [one]))]) (v := []) (Hl := []) hE ?zu ?zw ?zx ⟨?zc, ?zv, ?zh, Nat.le_of_ble_eq_true rfl⟩ ?zr
    case zu =>
      (repeat' (first | exact trivial | exact uw | (refine And.intro ?_ ?_)))
    case zw =>
      (repeat' (first | exact trivial))
    case zx =>
      (repeat' (first | exact trivial))
    case zc =>
      (repeat' (first | (refine And.intro ?_ ?_) | exact trivial | exact hw _))
    case zv =>
      (repeat' (first | exact trivial))
    case zh =>
      (repeat' (first | exact trivial))
    case zr =>
    exact Aw.ret ⟨_, .cons (.tmp _) .nil, rfl⟩
  | cons x t =>
    have hl1 : ((x :: t).map yS).length ≤ 100000000 := by rw [List.length_map]; omega
    have hz := yS_one (x :: t)
    refine Aw.sm tab_ok mb0 [] rfl rfl ?zo ?zk
    case zo =>
      repeat' apply AllP.cons
      all_goals first | exact trivial | exact Nat.le_of_ble_eq_true rfl | exact hone | exact hz | exact (show (((x :: t).map yS).length + 1) * 24 ≤ 140737488355328 by omega) | exact (show ((x :: t).map yS).length + 1 ≤ maxLen by unfold maxLen; omega)
    case zk =>
    refine Aw.keep (n := 0) (cst := [(4, setW ((x :: t) ++ [one]))]) (v := []) (Hl := []) hE ?zu ?zw ?zx ⟨?zc, ?zv, ?zh, Nat.le_of_ble_eq_true rfl⟩ ?zr
    case zu =>
      (repeat' (first | exact trivial | exact uw | (refine And.intro ?_ ?_)))
    case zw =>
      (repeat' (first | exact trivial))
    case zx =>
      (repeat' (first | exact trivial))
    case zc =>
      (repeat' (first | (refine And.intro ?_ ?_) | exact trivial | exact hw _))
    case zv =>
      (repeat' (first | exact trivial))
    case zh =>
      (repeat' (first | exact trivial))
    case zr =>
    exact Aw.ret ⟨_, .cons (.tmp _) .nil, rfl⟩
theorem rfirst_t (y : List Cask) (b : Bool) (hy : (y.length : Int) ≤ 9223372036854775806) (months : Int) : Ans Try.prog 29 [.sl b .any (y.map Cask.c), .int months] (.tup [.int (FirstR y months).1, .int (FirstR y months).2.1, .int (FirstR y months).2.2]) := by
  have ll : ((y.map Cask.c).length : Int) = y.length := by simp
  have fy : Free (.sl b .any (y.map Cask.c)) := free_map Cask.free _ _ _
  have uy : ∀ {m : Nat}, Under m (A.sl b .any (y.map Cask.c)) := fy.under
  have hfr : Free (.tup [.int (FirstR y months).1, .int (FirstR y months).2.1, .int (FirstR y months).2.2]) := .tup _ (allC (.s _) (allC (.s _) (all1 (.s _))))
  have hchk := ryard_t y b hy
  refine told Try.func29 rfl rfl (Pure.of tab_ok Try.func29 rfl Try.ntmps29 rfl (allC (fy) (all1 (.s _))) (allC (fun _ => rfl) (all1 (fun _ => rfl))) (by first | exact .s _ | assumption | exact .tup _ (by intro x hx; simp only [List.mem_cons, List.not_mem_nil, or_false] at hx; rcases hx with rfl | rfl | rfl | rfl <;> first | exact .s _ | (simp_all; done))) fun E hE => ?_)
  clear hfr
  refine Aw.sm tab_ok mb0 [] rfl rfl ?zo ?zk
  case zo =>
    repeat' apply AllP.cons
    all_goals first | exact trivial
  case zk =>
  by_cases hyo : yardOk y = true
  rotate_left
  · have e : FirstR y months = (0, 0, 61) := by unfold FirstR; rw [if_neg hyo]
    have e2 : yardChk y = 61 := by unfold yardChk; rw [if_neg hyo]
    rw [e2] at hchk
    rw [e]
    refine Aw.seq ?_
    refine Aw.sm tab_ok mb0 [(1, [.int 61])] rfl rfl ?zo ?zk
    case zo =>
      repeat' apply AllP.cons
      all_goals first | exact trivial | exact hchk
    case zk =>
    refine Aw.sm tab_ok mb0 [] rfl rfl ?zo ?zk
    case zo =>
      repeat' apply AllP.cons
      all_goals first | exact trivial
    case zk =>
    refine Aw.cond rfl (fun h => ?_) (fun h => by cases h)
    refine Aw.sm tab_ok mb0 [] rfl rfl ?zo ?zk
    case zo =>
      repeat' apply AllP.cons
      all_goals first | exact trivial
    case zk =>
    exact Aw.ret ⟨_, .cons (.tmp _) (.cons (.tmp _) (.cons (.tmp _) .nil)), rfl⟩
  have e2 : yardChk y = 0 := by unfold yardChk; rw [if_pos hyo]
  rw [e2] at hchk
  have hY := yardOk_iff.1 hyo
  have hn := hY.n
  refine Aw.seq ?_
  refine Aw.sm tab_ok mb0 [(1, [.int 0])] rfl rfl ?zo ?zk
  case zo =>
    repeat' apply AllP.cons
    all_goals first | exact trivial | exact hchk
  case zk =>
  refine Aw.sm tab_ok mb0 [] rfl rfl ?zo ?zk
  case zo =>
    repeat' apply AllP.cons
    all_goals first | exact trivial
  case zk =>
  refine Aw.cond rfl (fun h => by cases h) (fun h => Aw.skip ?_)
  have c1 := in_t months 0 12
  by_cases hm : wi months 0 12 = true
  rotate_left
  · have e : FirstR y months = (0, 0, 62) := by unfold FirstR; rw [if_pos hyo, if_neg hm]
    have hm : wi months 0 12 = false := by simpa using hm
    rw [hm] at c1
    rw [e]
    refine Aw.seq ?_
    refine Aw.sm tab_ok mb0 [(1, [.bool false])] rfl rfl ?zo ?zk
    case zo =>
      repeat' apply AllP.cons
      all_goals first | exact trivial | exact c1
    case zk =>
    refine Aw.cond rfl (fun h => ?_) (fun h => by cases h)
    refine Aw.sm tab_ok mb0 [] rfl rfl ?zo ?zk
    case zo =>
      repeat' apply AllP.cons
      all_goals first | exact trivial
    case zk =>
    exact Aw.ret ⟨_, .cons (.tmp _) (.cons (.tmp _) (.cons (.tmp _) .nil)), rfl⟩
  have e : FirstR y months = firstGo y months.toNat 0 (lev0 y) := by unfold FirstR; rw [if_pos hyo, if_pos hm]
  have hm2 := wi_iff.1 hm
  rw [hm] at c1
  rw [e]
  obtain ⟨M, rfl⟩ : ∃ M : Nat, months = M := ⟨months.toNat, by omega⟩
  rw [Int.toNat_natCast] at *
  refine Aw.seq ?_
  refine Aw.sm tab_ok mb0 [(1, [.bool true])] rfl rfl ?zo ?zk
  case zo =>
    repeat' apply AllP.cons
    all_goals first | exact trivial | exact c1
  case zk =>
  refine Aw.cond rfl (fun h => by cases h) (fun h => Aw.skip ?_)
  have c2 := now_t y b hY
  rw [now_take hn.2] at c2
  refine Aw.sm tab_ok mb0 [(1, [.sl false .any (ints ((lev0 y).take y.length))])] rfl rfl ?zo ?zk
  case zo =>
    repeat' apply AllP.cons
    all_goals first | exact trivial | exact c2
  case zk =>
  generalize hR : firstGo y M 0 (lev0 y) = R at *
  obtain ⟨r1, r2, r3⟩ := R
  have hl0 : (lev0 y).length = 4 := rfl
  have c3 := grt_t y b hY
  have hl0s : LvS y.length ((lev0 y).take y.length) := by rw [← now_take hn.2]; exact now_ok hY.c
  refine Aw.seq ?_
  refine Aw.sm tab_ok mb0 [] rfl rfl ?zo ?zk
  case zo =>
    repeat' apply AllP.cons
    all_goals first | exact trivial
  case zk =>
  refine Aw.block (Aw.rounds 0 hE [(0, .sl b .any (y.map Cask.c)), (1, .int M)] (fun i : (Nat×List Int) => [(8, .sl false .any (ints (i.2.take y.length))), (9, .int i.1)]) (fun i => []) (fun i => i.1 ≤ M ∧ y.length ≤ i.2.length ∧ LvS y.length (i.2.take y.length) ∧ firstGo y (M - i.1) i.1 i.2 = (r1, r2, r3)) (fun i => M - i.1) (0, lev0 y) ?zg ⟨?zc, ?zv, ?zh, Nat.le_of_ble_eq_true rfl⟩ ?zu (fun i zhk => ?zw) (fun i zhk => ?zx) fun i hk => ?zr)
  case zg =>
    (repeat' (first | exact ⟨Nat.zero_le _, by show y.length ≤ 4; omega, hl0s, hR⟩))
  case zc =>
    (repeat' (first | (refine And.intro ?_ ?_) | exact trivial | exact A.Le.refl _))
  case zv =>
    (repeat' (first | (refine And.intro ?_ ?_) | exact trivial | exact A.Le.refl _))
  case zh =>
    (repeat' (first | exact trivial))
  case zu =>
    (repeat' (first | exact trivial | exact Under.s _ | exact uy | (refine And.intro ?_ ?_)))
  case zw =>
    (repeat' (first | exact trivial | exact Under.s _ | exact (free_ints _ _ _).under | (refine And.intro ?_ ?_)))
  case zx =>
    (repeat' (first | exact trivial))
  case zr =>
  obtain ⟨m, l⟩ := i
  obtain ⟨hk, hl, hlv, hgo⟩ := hk
  simp only at hk hl hlv hgo
  refine Aw.seq ?_
  refine Aw.sm tab_ok mb0 [] rfl rfl ?zo ?zk
  case zo =>
    repeat' apply AllP.cons
    all_goals first | exact trivial
  case zk =>
  refine Aw.cond rfl (fun h1 => Aw.skip ?_) (fun h1 => ?_)
  · have hlt : m < M := by have := of_decide_eq_true h1; omega
    have c4 := month_p y b hY false (l.take y.length) hlv
    rw [mon_take hl] at c4
    have hlk : y.length ≤ (leakL y (mostOf y) l).length := by rw [leak_len]; exact hl
    have hls : LvS y.length ((leakL y (mostOf y) l).take y.length) := by rw [← mon_take hl]; exact hlv.month fun i _ => most_nn hY.c i
    obtain ⟨f, hf⟩ : ∃ f, M - m = f + 1 := ⟨M - m - 1, by omega⟩
    rw [hf, firstGo] at hgo
    have hget : ∀ i, i < y.length → (leakL y (mostOf y) l).getD i 0 = mx0 (l.getD i 0 - mostOf y i) := fun i hi => leak_get hl hi
    have hdn := dry_iff (y := y) (of := mostOf y) (l := l)
    have hdf := fun i => dry_first (y := y) (of := mostOf y) (l := l) (k := y.length) (i := i)
    have hdF : dryF y (mostOf y) l = dryK y (mostOf y) l y.length := rfl
    rw [← hdF] at hdf
    generalize dryF y (mostOf y) l = d at *
    generalize okM y (mostOf y) (l.take y.length) y.length = ok at *
    generalize leakL y (mostOf y) l = L2 at *
    have hLl : (L2.take y.length).length = y.length := by rw [List.length_take]; omega
    have g1 := fun i (hi : i < y.length) => ints_getD (l := L2.take y.length) (k := i) (by rw [hLl]; exact hi)
    have g2 : ∀ i, i < y.length → (L2.take y.length).getD i 0 = L2.getD i 0 := fun i hi => take_getD hi
    refine Aw.seq (Aw.block ?_)
    refine Aw.sm tab_ok mb0 [(3, [.sl false .any (ints (grtL y))]), (4, [.tup [.sl false .any (ints (L2.take y.length)), .bool ok]])] rfl rfl ?zo ?zk
    case zo =>
      repeat' apply AllP.cons
      all_goals first | exact trivial | exact c3 | exact c4
    case zk =>
    refine Aw.sm tab_ok mb0 [] rfl rfl ?zo ?zk
    case zo =>
      repeat' apply AllP.cons
      all_goals first | exact trivial
    case zk =>
    refine Aw.keep (n := 0) (cst := [(0, .sl b .any (y.map Cask.c)), (1, .int M), (8, .sl false .any (ints (L2.take y.length))), (9, .int m)]) (v := []) (Hl := []) hE ?zu ?zw ?zx ⟨?zc, ?zv, ?zh, Nat.le_of_ble_eq_true rfl⟩ ?zr
    case zu =>
      (repeat' (first | exact trivial | exact Under.s _ | exact (free_ints _ _ _).under | exact uy | (refine And.intro ?_ ?_)))
    case zw =>
      (repeat' (first | exact trivial))
    case zx =>
      (repeat' (first | exact trivial))
    case zc =>
      (repeat' (first | (refine And.intro ?_ ?_) | exact trivial | exact A.Le.refl _))
    case zv =>
      (repeat' (first | exact trivial))
    case zh =>
      (repeat' (first | exact trivial))
    case zr =>
    refine Aw.sm tab_ok mb0 [] rfl rfl ?zo ?zk
    case zo =>
      repeat' apply AllP.cons
      all_goals first | exact trivial
    case zk =>
    refine Aw.block (Aw.rounds 0 hE [(0, .sl b .any (y.map Cask.c)), (1, .int M), (8, .sl false .any (ints (L2.take y.length))), (9, .int m)] (fun i : Nat => [(12, .int i)]) (fun i => []) (fun i => i ≤ y.length ∧ ∀ j, j < i → (ck y j).line ≤ L2.getD j 0) (fun i => y.length - i) 0 ?zg ⟨?zc, ?zv, ?zh, Nat.le_of_ble_eq_true rfl⟩ ?zu (fun i zhk => ?zw) (fun i zhk => ?zx) fun i hk => ?zr)
    case zg =>
      (repeat' (first | exact ⟨Nat.zero_le _, fun j h => by omega⟩))
    case zc =>
      (repeat' (first | (refine And.intro ?_ ?_) | exact trivial | exact A.Le.refl _))
    case zv =>
      (repeat' (first | (refine And.intro ?_ ?_) | exact trivial | exact A.Le.refl _))
    case zh =>
      (repeat' (first | exact trivial))
    case zu =>
      (repeat' (first | exact trivial | exact Under.s _ | exact (free_ints _ _ _).under | exact uy | (refine And.intro ?_ ?_)))
    case zw =>
      (repeat' (first | exact trivial | exact Under.s _ | (refine And.intro ?_ ?_)))
    case zx =>
      (repeat' (first | exact trivial))
    case zr =>
    obtain ⟨hi, hj⟩ := hk
    refine Aw.seq ?_
    refine Aw.sm tab_ok mb0 [] rfl rfl ?zo ?zk
    case zo =>
      repeat' apply AllP.cons
      all_goals first | exact trivial
    case zk =>
    refine Aw.cond rfl (fun h2 => Aw.skip ?_) (fun h2 => ?_)
    · have hil : i < y.length := by have := of_decide_eq_true h2; omega
      have q1 := g1 i hil
      rw [g2 i hil] at q1
      have q2 := cask_at hil
      have q3 := hget i hil
      generalize hx : L2.getD i 0 = x at *
      generalize hc : ck y i = c at *
      refine Aw.seq (Aw.block ?_)
      refine Aw.sd tab_ok mixed mb0 [(2, [.int x]), (6, c.c)] rfl (by kernel_rfl) rfl rfl ?zo ?zk
      case zo =>
        repeat' apply AllP.cons
        all_goals first | exact trivial | exact rfl | exact Nat.le_of_ble_eq_true rfl | exact Int.natCast_nonneg _ | exact q1 | exact q2
      case zk =>
      refine Aw.cond rfl (fun h3 => ?_) (fun h3 => Aw.skip ?_)
      · have h3 : x < c.line := of_decide_eq_true h3
        have hd : d = (i : Int) := hdf i hil (by rw [← q3, hc]; exact h3) (fun j hj2 => by rw [← hget j (by omega)]; exact hj j hj2)
        rw [if_pos (by omega), hd] at hgo
        cases hgo
        refine Aw.sm tab_ok mb0 [] rfl rfl ?zo ?zk
        case zo =>
          repeat' apply AllP.cons
          all_goals first | exact trivial
        case zk =>
        exact Aw.ret ⟨_, .cons (.tmp _) (.cons (.tmp _) (.cons (.tmp _) .nil)), rfl⟩
      · have h3 : ¬ x < c.line := of_decide_eq_false h3
        have hnx : ∀ j, j < i + 1 → (ck y j).line ≤ L2.getD j 0 := fun j hj2 => by
          rcases Nat.lt_succ_iff_lt_or_eq.1 hj2 with h4 | rfl
          · exact hj j h4
          · rw [hc, hx]; omega
        refine Aw.em tab_ok mb0 [] rfl rfl ?zo ?zk
        case zo =>
          repeat' apply AllP.cons
          all_goals first | exact trivial | exact inrk i (by omega)
        case zk =>
        refine ⟨i + 1, ?zg, ?zm, ⟨?zc, ?zv, ?zh, Nat.le_of_ble_eq_true rfl⟩⟩
        case zg =>
          (repeat' (first | exact ⟨hil, hnx⟩))
        case zm =>
          (repeat' (first | omega))
        case zc =>
          (repeat' (first | (refine And.intro ?_ ?_) | exact trivial | exact A.Le.refl _))
        case zv =>
          (repeat' (first | (refine And.intro ?_ ?_) | exact trivial | exact A.Le.refl _))
        case zh =>
          (repeat' (first | exact trivial))
    have hie : i = y.length := by have := of_decide_eq_false h2; omega
    subst hie
    have hd : d < 0 := hdn.2 fun j hj2 => by rw [← hget j hj2]; exact hj j hj2
    rw [if_neg (by omega)] at hgo
    have hgo : firstGo y (M - (m + 1)) (m + 1) L2 = (r1, r2, r3) := by rw [show M - (m + 1) = f by omega]; exact hgo
    refine Aw.exit2 ?_
    refine Aw.em tab_ok mb0 [] rfl rfl ?zo ?zk
    case zo =>
      repeat' apply AllP.cons
      all_goals first | exact trivial | exact inrk m (by omega)
    case zk =>
    refine ⟨(m + 1, L2), ?zg, ?zm, ⟨?zc, ?zv, ?zh, Nat.le_of_ble_eq_true rfl⟩⟩
    case zg =>
      (repeat' (first | exact ⟨hlt, hlk, hls, hgo⟩))
    case zm =>
      (repeat' (first | omega))
    case zc =>
      (repeat' (first | (refine And.intro ?_ ?_) | exact trivial | exact A.Le.refl _))
    case zv =>
      (repeat' (first | (refine And.intro ?_ ?_) | exact trivial | exact A.Le.refl _))
    case zh =>
      (repeat' (first | exact trivial))
  · have h1 : decide ((m : Int) < (M : Int)) = false := h1
    have hle : M - m = 0 := by have := of_decide_eq_false h1; omega
    rw [hle] at hgo
    cases hgo
    refine Aw.exit2 ?_
    refine Aw.sm tab_ok mb0 [] rfl rfl ?zo ?zk
    case zo =>
      repeat' apply AllP.cons
      all_goals first | exact trivial
    case zk =>
    exact Aw.ret ⟨_, .cons (.tmp _) (.cons (.tmp _) (.cons (.tmp _) .nil)), rfl⟩
end Go.Proofs.Ytampldajinhenaa

namespace Go.Proofs.Ytampldajinhenaa
open Go Go.AL Go.AL.Q Go.AL.Br
theorem foldl_take {α β : Type} (f : β → α → β) (b : β) {l : List α} {i : Nat} (h : i < l.length) : (l.take (i + 1)).foldl f b = f ((l.take i).foldl f b) l[i] := by
  rw [List.take_succ_eq_append_getElem h, List.foldl_append]; rfl
theorem pow4 {m : Nat} (h : m ≤ 12) : 4 ^ m ≤ 16777216 := by
  have : (4 : Nat) ^ m ≤ 4 ^ 12 := Nat.pow_le_pow_right (by decide) h
  have e : (4 : Nat) ^ 12 = 16777216 := by decide
  omega
set_option maxHeartbeats 2000000 in
theorem kept_t (y : List Cask) (b : Bool) (hyo : yardOk y = true) (M : Nat) (hM : M ≤ 12) : Ans Try.prog 31 [.sl b .any (y.map Cask.c), .int M] (.bool (decide (((allF y M).length : Int) > 0))) := by
  have ll : ((y.map Cask.c).length : Int) = y.length := by simp
  have fy : Free (.sl b .any (y.map Cask.c)) := free_map Cask.free _ _ _
  have uy : ∀ {m : Nat}, Under m (A.sl b .any (y.map Cask.c)) := fy.under
  have uW : ∀ {m : Nat} (L : List (List Int)), Under m (setW L) := fun L => (setW_free L).under
  have hY := yardOk_iff.1 hyo
  have hn := hY.n
  have c1 := now_t y b hY
  have c2 := grt_t y b hY
  refine told Try.func31 rfl rfl (Pure.of tab_ok Try.func31 rfl Try.ntmps31 rfl (allC (fy) (all1 (.s _))) (allC (fun _ => rfl) (all1 (fun _ => rfl))) (by first | exact .s _ | assumption | exact .tup _ (by intro x hx; simp only [List.mem_cons, List.not_mem_nil, or_false] at hx; rcases hx with rfl | rfl | rfl | rfl <;> first | exact .s _ | (simp_all; done))) fun E hE => ?_)
  refine Aw.sm tab_ok mb0 [] rfl rfl ?zo ?zk
  case zo =>
    repeat' apply AllP.cons
    all_goals first | exact trivial
  case zk =>
  have hone : ∀ z ∈ [[A.sl false .any (ints (nowL y))]], z.length = 1 := fun z hz => by simp at hz; subst hz; rfl
  refine Aw.sm tab_ok mb0 [(1, [.sl false .any (ints (nowL y))])] rfl rfl ?zo ?zk
  case zo =>
    repeat' apply AllP.cons
    all_goals first | exact trivial | exact Nat.le_of_ble_eq_true rfl | exact c1
  case zk =>
  have hw0 : ∀ cap, A.Le (setW (allF y 0)) (.sl false cap [[A.sl false .any (ints (nowL y))]]) := fun cap => .any _ _ _
  refine Aw.keep (n := 0) (cst := [(0, .sl b .any (y.map Cask.c)), (1, .int M), (5, setW (allF y 0))]) (v := []) (Hl := []) hE ?zu ?zw ?zx ⟨?zc, ?zv, ?zh, Nat.le_of_ble_eq_true rfl⟩ ?zr
  case zu =>
    (repeat' (first | exact trivial | exact Under.s _ | exact uy | exact uW _ | (refine And.intro ?_ ?_)))
  case zw =>
    (repeat' (first | exact trivial))
  case zx =>
    (repeat' (first | exact trivial))
  case zc =>
    (repeat' (first | (refine And.intro ?_ ?_) | exact trivial | exact A.Le.refl _ | exact hw0 _))
  case zv =>
    (repeat' (first | exact trivial))
  case zh =>
    (repeat' (first | exact trivial))
  case zr =>
  refine Aw.seq ?_
  refine Aw.sm tab_ok mb0 [] rfl rfl ?zo ?zk
  case zo =>
    repeat' apply AllP.cons
    all_goals first | exact trivial
  case zk =>
  refine Aw.block (Aw.rounds 0 hE [(0, .sl b .any (y.map Cask.c)), (1, .int M)] (fun m : Nat => [(5, setW (allF y m)), (6, .int m)]) (fun m => []) (fun m => m ≤ M) (fun m => M - m) 0 ?zg ⟨?zc, ?zv, ?zh, Nat.le_of_ble_eq_true rfl⟩ ?zu (fun m zhk => ?zw) (fun m zhk => ?zx) fun m hk => ?zr)
  case zg =>
    (repeat' (first | exact Nat.zero_le _))
  case zc =>
    (repeat' (first | (refine And.intro ?_ ?_) | exact trivial | exact A.Le.refl _))
  case zv =>
    (repeat' (first | (refine And.intro ?_ ?_) | exact trivial | exact A.Le.refl _))
  case zh =>
    (repeat' (first | exact trivial))
  case zu =>
    (repeat' (first | exact trivial | exact Under.s _ | exact uy | (refine And.intro ?_ ?_)))
  case zw =>
    (repeat' (first | exact trivial | exact Under.s _ | exact uW _ | (refine And.intro ?_ ?_)))
  case zx =>
    (repeat' (first | exact trivial))
  case zr =>
  refine Aw.seq ?_
  refine Aw.sm tab_ok mb0 [] rfl rfl ?zo ?zk
  case zo =>
    repeat' apply AllP.cons
    all_goals first | exact trivial
  case zk =>
  refine Aw.cond rfl (fun h1 => Aw.skip ?_) (fun h1 => ?_)
  rotate_left
  · have hle : m = M := by have := of_decide_eq_false h1; omega
    subst hle
    refine Aw.exit2 ?_
    refine Aw.sm tab_ok mb0 [] rfl rfl ?zo ?zk
    case zo =>
      repeat' apply AllP.cons
      all_goals first | exact trivial
    case zk =>
    exact Aw.ret ⟨_, .cons (.tmp _) .nil, by show A.bool (decide (((((allF y m).map yS).length : Nat) : Int) > 0)) = _; rw [setW_len]⟩
  have hlt : m < M := by have := of_decide_eq_true h1; omega
  obtain ⟨hLs, hLl⟩ := allF_ok hY m
  have hp4 := pow4 (show m ≤ 12 by omega)
  have hN : allF y (m + 1) = (allF y m).foldl (stepR y) [] := rfl
  generalize hA1 : allF y (m + 1) = A1 at *
  generalize allF y m = L at *
  have hLw := setW_len L
  refine Aw.seq (Aw.block ?_)
  refine Aw.sm tab_ok mb0 [] rfl rfl ?zo ?zk
  case zo =>
    repeat' apply AllP.cons
    all_goals first | exact trivial
  case zk =>
  refine Aw.seq ?_
  refine Aw.sm tab_ok mb0 [] rfl rfl ?zo ?zk
  case zo =>
    repeat' apply AllP.cons
    all_goals first | exact trivial
  case zk =>
  refine Aw.block (Aw.rounds 0 hE [(0, .sl b .any (y.map Cask.c)), (1, .int M), (5, setW L), (6, .int m)] (fun i : Nat => [(7, setW ((L.take i).foldl (stepR y) [])), (8, .int i)]) (fun i => []) (fun i => i ≤ L.length) (fun i => L.length - i) 0 ?zg ⟨?zc, ?zv, ?zh, Nat.le_of_ble_eq_true rfl⟩ ?zu (fun i zhk => ?zw) (fun i zhk => ?zx) fun i hk => ?zr)
  case zg =>
    (repeat' (first | exact Nat.zero_le _))
  case zc =>
    (repeat' (first | (refine And.intro ?_ ?_) | exact trivial | exact A.Le.refl _))
  case zv =>
    (repeat' (first | (refine And.intro ?_ ?_) | exact trivial | exact A.Le.refl _ | exact (show A.Le (setW []) (.sl true .exact []) from .any _ _ _)))
  case zh =>
    (repeat' (first | exact trivial))
  case zu =>
    (repeat' (first | exact trivial | exact Under.s _ | exact uy | exact uW _ | (refine And.intro ?_ ?_)))
  case zw =>
    (repeat' (first | exact trivial | exact Under.s _ | exact uW _ | (refine And.intro ?_ ?_)))
  case zx =>
    (repeat' (first | exact trivial))
  case zr =>
  refine Aw.seq ?_
  refine Aw.sm tab_ok mb0 [] rfl rfl ?zo ?zk
  case zo =>
    repeat' apply AllP.cons
    all_goals first | exact trivial
  case zk =>
  refine Aw.cond rfl (fun h2 => Aw.skip ?_) (fun h2 => ?_)
  rotate_left
  · have hle : i = L.length := by have := of_decide_eq_false h2; omega
    subst hle
    rw [List.take_length, ← hN]
    refine Aw.exit2 ?_
    refine Aw.em tab_ok mb0 [] rfl rfl ?zo ?zk
    case zo =>
      repeat' apply AllP.cons
      all_goals first | exact trivial
    case zk =>
    refine Aw.em tab_ok mb0 [] rfl rfl ?zo ?zk
    case zo =>
      repeat' apply AllP.cons
      all_goals first | exact trivial | exact inrk m (by omega)
    case zk =>
    refine ⟨m + 1, ?zg, ?zm, ⟨?zc, ?zv, ?zh, Nat.le_of_ble_eq_true rfl⟩⟩
    case zg =>
      (repeat' (first | assumption))
    case zm =>
      (repeat' (first | omega))
    case zc =>
      (repeat' (first | (refine And.intro ?_ ?_) | exact trivial | exact A.Le.refl _))
    case zv =>
      (repeat' (first | (refine And.intro ?_ ?_) | exact trivial | exact A.Le.refl _ | exact .of_eq (congrArg setW hA1)))
    case zh =>
      (repeat' (first | exact trivial))
  have hil : i < L.length := by have := of_decide_eq_true h2; omega
  have hst := foldl_take (stepR y) [] hil
  have hri := hLs _ (List.getElem_mem hil)
  have g1 : (L.map yS)[i]? = some (yS L[i]) := get_map hil
  have hnf := nextGo_has hY.c (f := 0) (L.take i) [] (fun r hr => hLs r (List.mem_of_mem_take hr)) (fun r h => nomatch h)
  have hNs := hnf.1
  have hNl := hnf.2.1
  have htl : (L.take i).length ≤ L.length := by rw [List.length_take]; omega
  have hNl : ((L.take i).foldl (stepR y) []).length ≤ 67108864 := by
    have : (L.take i).length * y.length ≤ 16777216 * 4 := Nat.mul_le_mul (by omega) hn.2
    simp only [List.length_nil] at hNl
    omega
  clear hnf
  generalize hr : L[i] = r at *
  generalize hN1 : (L.take (i + 1)).foldl (stepR y) [] = N1 at *
  generalize (L.take i).foldl (stepR y) [] = N at *
  have c3 := month_p y b hY false r hri
  have hml := monL_len (mostOf y) r y.length
  have hms := hri.month (of := mostOf y) (fun i _ => most_nn hY.c i)
  have hst : N1 = if okM y (mostOf y) r y.length = true then putK y (monL (mostOf y) r y.length) N y.length else N := hst
  have hPs := putK_lenS hY.c hms hNs
  have hPl := putK_len (y := y) (lv := monL (mostOf y) r y.length) (N := N)
  have hP0 : putK y (monL (mostOf y) r y.length) N 0 = N := rfl
  have hPS : ∀ k, putK y (monL (mostOf y) r y.length) N (k + 1) = putF (putK y (monL (mostOf y) r y.length) N k) ((monL (mostOf y) r y.length).set k (ck y k).full) := fun k => rfl
  generalize okM y (mostOf y) r y.length = ok at *
  generalize hPK : putK y (monL (mostOf y) r y.length) N = P at *
  generalize monL (mostOf y) r y.length = V at *
  have uV : ∀ {m : Nat}, Under m (A.sl false .any (ints V)) := (free_ints _ _ _).under
  refine Aw.seq (Aw.block ?_)
  refine Aw.sd tab_ok mixed mb0 [(3, yS r), (6, [.sl false .any (ints (grtL y))]), (7, [.tup [.sl false .any (ints V), .bool ok]])] rfl (by kernel_rfl) rfl rfl ?zo ?zk
  case zo =>
    repeat' apply AllP.cons
    all_goals first | exact trivial | exact rfl | exact Nat.le_of_ble_eq_true rfl | exact Int.natCast_nonneg _ | exact g1 | exact c2 | exact c3
  case zk =>
  refine Aw.sm tab_ok mb0 [] rfl rfl ?zo ?zk
  case zo =>
    repeat' apply AllP.cons
    all_goals first | exact trivial
  case zk =>
  refine Aw.block (Aw.rounds 0 hE [(0, .sl b .any (y.map Cask.c)), (1, .int M), (5, setW L), (6, .int m), (8, .int i), (9, .sl false .any (ints V)), (10, .bool ok)] (fun k : Nat => [(7, setW (P k)), (11, .int k)]) (fun k => []) (fun k => k ≤ y.length ∧ (k = 0 ∨ ok = true)) (fun k => y.length - k) 0 ?zg ⟨?zc, ?zv, ?zh, Nat.le_of_ble_eq_true rfl⟩ ?zu (fun k zhk => ?zw) (fun k zhk => ?zx) fun k hk => ?zr)
  case zg =>
    (repeat' (first | exact ⟨Nat.zero_le _, .inl rfl⟩))
  case zc =>
    (repeat' (first | (refine And.intro ?_ ?_) | exact trivial | exact A.Le.refl _))
  case zv =>
    (repeat' (first | (refine And.intro ?_ ?_) | exact trivial | exact A.Le.refl _ | exact .of_eq (congrArg setW hP0)))
  case zh =>
    (repeat' (first | exact trivial))
  case zu =>
    (repeat' (first | exact trivial | exact Under.s _ | exact (free_ints _ _ _).under | exact uy | exact uW _ | (refine And.intro ?_ ?_)))
  case zw =>
    (repeat' (first | exact trivial | exact Under.s _ | exact uW _ | (refine And.intro ?_ ?_)))
  case zx =>
    (repeat' (first | exact trivial))
  case zr =>
  obtain ⟨hk, hk2⟩ := hk
  refine Aw.seq ?_
  refine Aw.sm tab_ok mb0 [] rfl rfl ?zo ?zk
  case zo =>
    repeat' apply AllP.cons
    all_goals first | exact trivial | exact id | exact fun _ => rfl
  case zk =>
  refine Aw.cond rfl (fun h3 => Aw.skip ?_) (fun h3 => ?_)
  · have h3 : cond ok (decide ((k : Int) < ((y.map Cask.c).length : Int))) false = true := h3
    have hok := ac1 h3
    have hkl : k < y.length := by have := of_decide_eq_true (ac2 h3); omega
    have hV1 : ∀ z ∈ ints V, z.length = 1 := ints_one V
    have hVl : (ints V).length = y.length := by rw [ints_len, hml]
    have hVne : ints V ≠ [] := fun h => by have := congrArg List.length h; rw [hVl] at this; have : y.length = 0 := this; omega
    have h1e : ∀ id, 1 ≤ id → E.φ0 id = none := fun id _ => hE id (by omega)
    refine Aw.seq (Aw.block ?_)
    refine Aw.sm tab_ok mb0 [(2, [.ms 0 0 0])] rfl rfl ?zo ?zk
    case zo =>
      repeat' apply AllP.cons
      all_goals first | exact trivial | exact rfl | exact Nat.le_of_ble_eq_true rfl | exact hV1 | exact hVne | exact (show (ints V).length * 8 ≤ 140737488355328 by omega) | exact (show (ints V).length ≤ maxLen by unfold maxLen; omega)
    case zk =>
    have hfl := ints_flatten V
    have hkV : Int.toNat (k : Int) < V.length := by rw [hml, Int.toNat_natCast]; exact hkl
    refine Aw.keep (n := 1) (cst := [(0, .sl b .any (y.map Cask.c)), (1, .int M), (5, setW L), (6, .int m), (8, .int i), (9, .sl false .any (ints V)), (10, .bool ok), (7, setW (P k)), (11, .int k), (12, .ms 0 0 y.length)]) (v := []) (Hl := [(0, iB V)]) h1e ?zu ?zw ?zx ⟨?zc, ?zv, ?zh, Nat.le_of_ble_eq_true rfl⟩ ?zr
    case zu =>
      (repeat' (first | exact trivial | exact Under.s _ | exact (free_ints _ _ _).under | exact Under.ms _ _ _ (by decide) | exact uy | exact uW _ | (refine And.intro ?_ ?_)))
    case zw =>
      (repeat' (first | exact trivial))
    case zx =>
      (repeat' (first | exact trivial | exact Nat.le_of_ble_eq_true rfl | exact iB_under _ | (refine And.intro ?_ ?_)))
    case zc =>
      (repeat' (first | (refine And.intro ?_ ?_) | exact trivial | exact A.Le.refl _ | exact (by rw [← hVl]; exact A.Le.refl _)))
    case zv =>
      (repeat' (first | exact trivial))
    case zh =>
      (repeat' (first | (refine And.intro ?_ ?_) | exact trivial | exact congrArg (fun x => some (B.cells x)) hfl))
    case zr =>
    have g2 := cask_at hkl
    have hs := congrArg (fun x => some (B.cells x)) (set_cellsI (l := V) (k := Int.toNat (k : Int)) (v := (ck y k).full) hkV)
    rw [Int.toNat_natCast] at hs
    have hPk := hPS k
    have hlen := hPl k
    have hrow : ∀ r ∈ P k, r.length = (V.set k (ck y k).full).length := fun r hr => by rw [List.length_set, hml]; exact (hPs k r hr).n
    have c4 := put_t (P k) (V.set k (ck y k).full) hrow (by rw [List.length_set, hml]; exact hn.2) (by omega)
    have hVs : (V.set k (ck y k).full).length = y.length := by rw [List.length_set, hml]
    rw [← hPk] at c4
    generalize ck y k = c at *
    have q2 : (k : Int) < ((y.length : Nat) : Int) := by omega
    refine Aw.sm tab_ok mb0 [(4, c.c)] rfl rfl ?zo ?zk
    case zo =>
      repeat' apply AllP.cons
      all_goals first | exact trivial | exact rfl | exact Nat.le_of_ble_eq_true rfl | exact Int.natCast_nonneg _ | exact g2 | exact q2 | exact (show 0 + Int.toNat (k : Int) * 1 + 1 ≤ _ by rw [List.length_map, hml, Int.toNat_natCast]; omega)
    case zk =>
    refine Aw.freezeS (id := 0) (t := 12) (n := y.length) (sz := 1) (cs := (V.set k c.full).map A.int) (ints (V.set k c.full)) hs rfl (rowsI _) (by rw [ints_len]; exact hVs) ?_
    refine Aw.em tab_ok mb0 [(2, [setW (P (k + 1))])] rfl rfl ?zo ?zk
    case zo =>
      repeat' apply AllP.cons
      all_goals first | exact trivial | exact c4
    case zk =>
    refine Aw.em tab_ok mb0 [] rfl rfl ?zo ?zk
    case zo =>
      repeat' apply AllP.cons
      all_goals first | exact trivial | exact inrk k (by omega)
    case zk =>
    refine ⟨k + 1, ?zg, ?zm, ⟨?zc, ?zv, ?zh, Nat.le_of_ble_eq_true rfl⟩⟩
    case zg =>
      (repeat' (first | exact ⟨hkl, .inr hok⟩))
    case zm =>
      (repeat' (first | omega))
    case zc =>
      (repeat' (first | (refine And.intro ?_ ?_) | exact trivial | exact A.Le.refl _))
    case zv =>
      (repeat' (first | (refine And.intro ?_ ?_) | exact trivial | exact A.Le.refl _))
    case zh =>
      (repeat' (first | exact trivial))
  have h3 : cond ok (decide ((k : Int) < ((y.map Cask.c).length : Int))) false = false := h3
  have hfin : P k = N1 := by
    rw [hst]
    cases ok with
    | false =>
      rcases hk2 with rfl | h
      · rw [hP0, if_neg (by decide)]
      · cases h
    | true =>
      have h3 : decide ((k : Int) < ((y.map Cask.c).length : Int)) = false := h3
      have : k = y.length := by have := of_decide_eq_false h3; omega
      rw [this, if_pos rfl]
  refine Aw.exit2 ?_
  refine Aw.em tab_ok mb0 [] rfl rfl ?zo ?zk
  case zo =>
    repeat' apply AllP.cons
    all_goals first | exact trivial | exact inrk i (by omega)
  case zk =>
  refine ⟨i + 1, ?zg, ?zm, ⟨?zc, ?zv, ?zh, Nat.le_of_ble_eq_true rfl⟩⟩
  case zg =>
    (repeat' (first | assumption))
  case zm =>
    (repeat' (first | omega))
  case zc =>
    (repeat' (first | (refine And.intro ?_ ?_) | exact trivial | exact A.Le.refl _))
  case zv =>
    (repeat' (first | (refine And.intro ?_ ?_) | exact trivial | exact A.Le.refl _ | exact .of_eq (congrArg setW (hN1.trans hfin.symm))))
  case zh =>
    (repeat' (first | exact trivial))
theorem monL_congr {o1 o2 : Nat → Int} {lv : List Int} {n : Nat} (h : ∀ i, i < n → o1 i = o2 i) : monL o1 lv n = monL o2 lv n := by
  unfold monL
  exact List.map_congr_left fun i hi => by rw [h i (List.mem_range.1 hi)]
theorem okM_congr {y : List Cask} {o1 o2 : Nat → Int} {lv : List Int} {n : Nat} (h : ∀ i, i < n → o1 i = o2 i) : okM y o1 lv n = okM y o2 lv n := by
  rw [Bool.eq_iff_iff, okM_iff, okM_iff]
  exact forall_congr' fun i => forall_congr' fun hi => by rw [h i hi]
set_option maxHeartbeats 2000000 in
theorem keeps_yes (y : List Cask) (b : Bool) (hyo : yardOk y = true) (pb : Bool) (plan : List Int) (hpl : plan.length ≤ 12) (hpt : ∀ t ∈ plan, 0 ≤ t ∧ t < y.length) (hrun : (runGo y (fun _ => mostOf y) plan 0 (lev0 y)).2 = -1) : Ans Try.prog 32 [.sl b .any (y.map Cask.c), .sl pb .any (ints plan)] (.bool true) := by
  have hY := yardOk_iff.1 hyo
  have hn := hY.n
  have hrun : (runSp y (fun _ => mostOf y) plan 0 (nowL y)).2 = -1 := by
    rw [now_take hn.2, runSp_is plan 0 (lev0 y) (by show y.length ≤ 4; exact hn.2) (fun t ht => (hpt t ht).2)]
    exact hrun
  have ll : ((y.map Cask.c).length : Int) = y.length := by simp
  have lp := ints_lenI plan
  have fy : Free (.sl b .any (y.map Cask.c)) := free_map Cask.free _ _ _
  have fp : Free (.sl pb .any (ints plan)) := free_ints _ _ _
  have uy : ∀ {m : Nat}, Under m (A.sl b .any (y.map Cask.c)) := fy.under
  have up : ∀ {m : Nat}, Under m (A.sl pb .any (ints plan)) := fp.under
  have c2 := grt_t y b hY
  refine told Try.func32 rfl rfl (Pure.of tab_ok Try.func32 rfl Try.ntmps32 rfl (allC (fy) (all1 (fp))) (allC (fun _ => rfl) (all1 (fun _ => rfl))) (by first | exact .s _ | assumption | exact .tup _ (by intro x hx; simp only [List.mem_cons, List.not_mem_nil, or_false] at hx; rcases hx with rfl | rfl | rfl | rfl <;> first | exact .s _ | (simp_all; done))) fun E hE => ?_)
  have h1e : ∀ id, 1 ≤ id → E.φ0 id = none := fun id _ => hE id (by omega)
  refine Aw.sm tab_ok mb0 [] rfl rfl ?zo ?zk
  case zo =>
    repeat' apply AllP.cons
    all_goals first | exact trivial
  case zk =>
  refine Aw.sm tab_ok mb0 [(1, [.sl false .any (ints (nowL y))])] rfl rfl ?zo ?zk
  case zo =>
    repeat' apply AllP.cons
    all_goals first | exact trivial | exact now_t y b hY
  case zk =>
  refine Aw.seq ?_
  refine Aw.sm tab_ok mb0 [] rfl rfl ?zo ?zk
  case zo =>
    repeat' apply AllP.cons
    all_goals first | exact trivial
  case zk =>
  refine Aw.block (Aw.rounds 0 hE [(0, .sl b .any (y.map Cask.c)), (1, .sl pb .any (ints plan))] (fun i : (Nat×List Int) => [(5, .sl false .any (ints i.2)), (6, .int i.1)]) (fun i => []) (fun i => i.1 ≤ plan.length ∧ LvS y.length i.2 ∧ (runSp y (fun _ => mostOf y) (plan.drop i.1) i.1 i.2).2 = -1) (fun i => plan.length - i.1) (0, nowL y) ?zg ⟨?zc, ?zv, ?zh, Nat.le_of_ble_eq_true rfl⟩ ?zu (fun i zhk => ?zw) (fun i zhk => ?zx) fun i hk => ?zr)
  case zg =>
    (repeat' (first | exact ⟨Nat.zero_le _, now_ok hY.c, hrun⟩))
  case zc =>
    (repeat' (first | (refine And.intro ?_ ?_) | exact trivial | exact A.Le.refl _))
  case zv =>
    (repeat' (first | (refine And.intro ?_ ?_) | exact trivial | exact A.Le.refl _))
  case zh =>
    (repeat' (first | exact trivial))
  case zu =>
    (repeat' (first | exact trivial | exact (free_ints _ _ _).under | exact uy | (refine And.intro ?_ ?_)))
  case zw =>
    (repeat' (first | exact trivial | exact Under.s _ | exact (free_ints _ _ _).under | (refine And.intro ?_ ?_)))
  case zx =>
    (repeat' (first | exact trivial))
  case zr =>
  obtain ⟨m, lv⟩ := i
  obtain ⟨hk, hlv, hrun⟩ := hk
  simp only at hk hlv hrun
  have uv : ∀ {m : Nat}, Under m (A.sl false .any (ints lv)) := (free_ints _ _ _).under
  refine Aw.seq ?_
  refine Aw.sm tab_ok mb0 [] rfl rfl ?zo ?zk
  case zo =>
    repeat' apply AllP.cons
    all_goals first | exact trivial
  case zk =>
  refine Aw.cond rfl (fun h1 => Aw.skip ?_) (fun h1 => ?_)
  rotate_left
  · refine Aw.exit2 ?_
    refine Aw.sm tab_ok mb0 [] rfl rfl ?zo ?zk
    case zo =>
      repeat' apply AllP.cons
      all_goals first | exact trivial
    case zk =>
    exact Aw.ret ⟨_, .cons (.tmp _) .nil, rfl⟩
  have h1 : decide ((m : Int) < ((ints plan).length : Int)) = true := h1
  have hlt : m < plan.length := by have := of_decide_eq_true h1; omega
  have hgp := ints_getD hlt
  have hdr : plan.drop m = plan.getD m 0 :: plan.drop (m + 1) := by rw [List.drop_eq_getElem_cons hlt]; simp [List.getD_eq_getElem?_getD, hlt]
  rw [hdr, runSp] at hrun
  have hpm := hpt _ (show plan.getD m 0 ∈ plan by simp [List.getD_eq_getElem?_getD, hlt])
  have hgg : ∀ i, i < y.length → (grtL y).getD i 0 = mostOf y i := fun i hi => grtL_get hi
  have hcall := month_s y b hY false lv hlv false (grtL y) (by simp [grtL]) (fun i hi => by rw [hgg i hi]; have := ck_ok hY.c i; unfold mostOf; omega)
  rw [monL_congr hgg, okM_congr hgg] at hcall
  have hmon := hlv.month (of := mostOf y) (fun i hi => most_nn hY.c i)
  have hml := monL_len (mostOf y) lv y.length
  have hfull := ck_ok hY.c (plan.getD m 0).toNat
  generalize plan.getD m 0 = top at *
  have hok : okM y (mostOf y) lv y.length = true := by
    cases h : okM y (mostOf y) lv y.length with
    | true => rfl
    | false =>
      rw [h, if_neg (by decide)] at hrun
      have hrun : (m : Int) = -1 := hrun
      omega
  rw [hok] at hcall
  rw [if_pos hok] at hrun
  generalize monL (mostOf y) lv y.length = V at *
  have hrun : (runSp y (fun _ => mostOf y) (plan.drop (m + 1)) (m + 1) (fillS y V top)).2 = -1 := hrun
  have hfill := hmon.fill hY.c top
  have ef : fillS y V top = V.set top.toNat (ck y top.toNat).full := by unfold fillS; rw [if_pos hpm.1]
  rw [ef] at hrun hfill
  have hfl := hfill.n
  have hgc := cask_at (show top.toNat < y.length by omega)
  generalize ck y top.toNat = c at *
  refine Aw.seq (Aw.block ?_)
  refine Aw.keep (n := 0) (cst := [(0, .sl b .any (y.map Cask.c)), (1, .sl pb .any (ints plan)), (5, .sl false .any (ints lv)), (6, .int m)]) (v := []) (Hl := []) hE ?zu ?zw ?zx ⟨?zc, ?zv, ?zh, Nat.le_of_ble_eq_true rfl⟩ ?zr
  case zu =>
    (repeat' (first | exact trivial | exact Under.s _ | exact (free_ints _ _ _).under | exact uy | (refine And.intro ?_ ?_)))
  case zw =>
    (repeat' (first | exact trivial))
  case zx =>
    (repeat' (first | exact trivial))
  case zc =>
    (repeat' (first | (refine And.intro ?_ ?_) | exact trivial | exact A.Le.refl _))
  case zv =>
    (repeat' (first | exact trivial))
  case zh =>
    (repeat' (first | exact trivial))
  case zr =>
  refine Aw.ss rfl ?_
  refine RegL.partE tab_ok mb0 false 4 0 [(3, [.sl false .any (ints (grtL y))])] ?_
  conv => arg 5; whnf
  refine PartK.mk ?zo ?zk
  case zo =>
    repeat' apply AllP.cons
    all_goals first | exact trivial | exact c2
  case zk =>
  refine Does.raw rfl (DoesR.call (fst := []) (cap := []) rfl rfl (enters_of Try.func75 rfl rfl) hcall ?_)
  rintro v' H' c' ⟨hc, cap, mj, rfl, hj, hjl⟩
  refine RegL.partE tab_ok mb0 false 5 5 [] ?_
  conv => arg 5; whnf
  refine PartK.mk ?zo ?zk
  case zo =>
    repeat' apply AllP.cons
    all_goals first | exact trivial
  case zk =>
  refine Aw.keep (n := 1) (cst := [(0, .sl b .any (y.map Cask.c)), (1, .sl pb .any (ints plan)), (6, .int m), (7, .gs 0 y.length cap), (8, .bool true)]) (v := []) (Hl := [(0, .cells (V.map A.int ++ List.replicate mj A.un))]) h1e ?zu ?zw ?zx ⟨?zc, ?zv, ?zh, hc⟩ ?zr
  case zu =>
    (repeat' (first | exact trivial | exact Under.s _ | exact (free_ints _ _ _).under | exact uy | exact .gs _ _ _ (by decide) | (refine And.intro ?_ ?_)))
  case zw =>
    (repeat' (first | exact trivial))
  case zx =>
    (repeat' (first | exact trivial | exact Nat.le_of_ble_eq_true rfl | exact jB_under _ _ | (refine And.intro ?_ ?_)))
  case zc =>
    (repeat' (first | (refine And.intro ?_ ?_) | exact trivial | exact A.Le.refl _))
  case zv =>
    (repeat' (first | exact trivial))
  case zh =>
    (repeat' (first | (refine And.intro ?_ ?_) | exact trivial | exact hj))
  case zr =>
  have c3 := in_t top (-1) ((((y.map Cask.c).length : Nat) : Int) - 1)
  rw [wi_iff.2 (show -1 ≤ top ∧ top ≤ (((y.map Cask.c).length : Nat) : Int) - 1 by omega)] at c3
  refine Aw.seq ?_
  refine Aw.sm tab_ok mb0 [(5, [.int top]), (10, [.bool true])] rfl rfl ?zo ?zk
  case zo =>
    repeat' apply AllP.cons
    all_goals first | exact trivial | exact id | exact fun _ => rfl | exact fun _ => Nat.le_of_ble_eq_true rfl | exact fun _ => Int.natCast_nonneg _ | exact fun _ => hgp | exact fun _ => c3 | exact fun _ => (show inR ((((y.map Cask.c).length : Nat) : Int) - 1) by simp only [inR]; omega)
  case zk =>
  refine Aw.cond rfl (fun h => by cases h) (fun _ => Aw.skip ?_)
  refine Aw.sm tab_ok mb0 [] rfl rfl ?zo ?zk
  case zo =>
    repeat' apply AllP.cons
    all_goals first | exact trivial
  case zk =>
  refine Aw.sm tab_ok mb0 [(2, [.int top])] rfl rfl ?zo ?zk
  case zo =>
    repeat' apply AllP.cons
    all_goals first | exact trivial | exact rfl | exact Nat.le_of_ble_eq_true rfl | exact Int.natCast_nonneg _ | exact hgp
  case zk =>
  refine Aw.cond rfl (fun h2 => ?_) (fun h2 => absurd hpm.1 (of_decide_eq_false h2))
  refine Aw.keep (n := 1) (cst := [(0, .sl b .any (y.map Cask.c)), (1, .sl pb .any (ints plan)), (6, .int m), (5, .ms 0 0 y.length)]) (v := []) (Hl := [(0, .cells (V.map A.int ++ List.replicate mj A.un))]) h1e ?zu ?zw ?zx ⟨?zc, ?zv, ?zh, Nat.le_of_ble_eq_true rfl⟩ ?zr
  case zu =>
    (repeat' (first | exact trivial | exact Under.s _ | exact (free_ints _ _ _).under | exact Under.ms _ _ _ (by decide) | exact uy | (refine And.intro ?_ ?_)))
  case zw =>
    (repeat' (first | exact trivial))
  case zx =>
    (repeat' (first | exact trivial | exact Nat.le_of_ble_eq_true rfl | exact jB_under _ _ | (refine And.intro ?_ ?_)))
  case zc =>
    (repeat' (first | (refine And.intro ?_ ?_) | exact trivial | exact A.Le.refl _ | exact A.Le.ms _ _ _))
  case zv =>
    (repeat' (first | exact trivial))
  case zh =>
    (repeat' (first | (refine And.intro ?_ ?_) | exact trivial | exact rfl))
  case zr =>
  refine Aw.weaken (S' := _) (H' := ofH [(0, iB V)]) (c' := 1) (fun _ => .refl _) (fun id bx hb => ?_) (Nat.le_refl _) ?_
  · simp only [ofH, updH_apply] at hb ⊢
    split at hb
    · rename_i e
      cases hb
      rw [if_pos e]
      exact ⟨_, rfl, B.Le.front⟩
    · cases hb
  have hs1 := congrArg (fun x => some (B.cells x)) (set_cellsI (l := V) (k := top.toNat) (v := c.full) (by omega))
  have r2 : 0 + top.toNat * 1 + 1 ≤ (V.map A.int).length := by rw [List.length_map, hml]; omega
  have r3 : 0 + top.toNat * 1 < (V.map A.int).length := by omega
  have r4 : top < ((y.length : Nat) : Int) := by omega
  refine Aw.ed tab_ok mixed mb0 [(3, [.int top]), (8, [.int top]), (10, c.c)] rfl (by kernel_rfl) rfl rfl ?zo ?zk
  case zo =>
    repeat' apply AllP.cons
    all_goals first | exact trivial | exact rfl | exact Nat.le_of_ble_eq_true rfl | exact Int.natCast_nonneg _ | exact hgp | exact hgc | exact r2 | exact r4 | exact hpm.1
  case zk =>
  refine Aw.freezeS (id := 0) (t := 5) (n := y.length) (sz := 1) (cs := (V.set top.toNat c.full).map A.int) (ints (V.set top.toNat c.full)) hs1 rfl (rowsI _) (by rw [ints_len]; exact hfl) ?_
  refine Aw.em tab_ok mb0 [] rfl rfl ?zo ?zk
  case zo =>
    repeat' apply AllP.cons
    all_goals first | exact trivial | exact inrk m (by omega)
  case zk =>
  refine ⟨(m + 1, V.set top.toNat c.full), ?zg, ?zm, ⟨?zc, ?zv, ?zh, Nat.le_of_ble_eq_true rfl⟩⟩
  case zg =>
    (repeat' (first | exact ⟨hlt, hfill, hrun⟩))
  case zm =>
    (repeat' (first | omega))
  case zc =>
    (repeat' (first | (refine And.intro ?_ ?_) | exact trivial | exact A.Le.refl _))
  case zv =>
    (repeat' (first | (refine And.intro ?_ ?_) | exact trivial | exact A.Le.refl _))
  case zh =>
    (repeat' (first | exact trivial))
theorem keeps_l (b : Bool) (y : List Cask) (months : Int) (hy : (y.length : Int) ≤ 9223372036854775806) : Ans Try.prog 5 [.sl b .any (y.map Cask.c), .int months] (.bool true) := by
  have fy : Free (.sl b .any (y.map Cask.c)) := free_map Cask.free _ _ _
  have c1 : Ans Try.prog 28 [.sl b .any (y.map Cask.c), .int months] (.tup [.int (FirstR y months).1, .int (FirstR y months).2.1, .int (FirstR y months).2.2]) := first_t y b hy months
  have c2 := rfirst_t y b hy months
  have c3 := Keep_w y b hy months
  have hF : (FirstR y months).2.2 = 61 ∧ KeepR y months = ([], 61) ∨ (FirstR y months).2.2 = 62 ∧ KeepR y months = ([], 62) ∨ (yardOk y = true ∧ (∃ M : Nat, months = M ∧ M ≤ 12) ∧ ((FirstR y months).2.2 = 0 ∨ (FirstR y months).2.2 = 4)) := by
    by_cases hyo : yardOk y = true
    · by_cases hm : wi months 0 12 = true
      · have hm2 := wi_iff.1 hm
        obtain ⟨M, rfl⟩ : ∃ M : Nat, months = M := ⟨months.toNat, by omega⟩
        refine .inr (.inr ⟨hyo, ⟨M, rfl, by omega⟩, ?_⟩)
        have e : FirstR y M = firstGo y M 0 (lev0 y) := by unfold FirstR; rw [if_pos hyo, if_pos hm, Int.toNat_natCast]
        rw [e]
        rcases first_run M 0 (lev0 y) (by show y.length ≤ 4; exact (yardOk_iff.1 hyo).n.2) with ⟨_, h⟩ | ⟨w, d, h, _⟩
        · rw [h]; exact .inr rfl
        · rw [h]; exact .inl rfl
      · refine .inr (.inl ⟨?_, ?_⟩)
        · unfold FirstR; rw [if_pos hyo, if_neg hm]
        · unfold KeepR; rw [if_pos hyo, if_neg hm]
    · refine .inl ⟨?_, ?_⟩
      · unfold FirstR; rw [if_neg hyo]
      · unfold KeepR; rw [if_neg hyo]
  generalize FirstR y months = F at *
  obtain ⟨f1, f2, f3⟩ := F
  simp only at c1 c2 hF
  refine told Try.func5 rfl rfl (Pure.of tab_ok Try.func5 rfl Try.ntmps5 rfl (allC (fy) (all1 (.s _))) (allC (fun _ => rfl) (all1 (fun _ => rfl))) (by first | exact .s _ | assumption | exact .tup _ (by intro x hx; simp only [List.mem_cons, List.not_mem_nil, or_false] at hx; rcases hx with rfl | rfl | rfl | rfl <;> first | exact .s _ | (simp_all; done))) fun E hE => ?_)
  refine Aw.sm tab_ok mb0 [] rfl rfl ?zo ?zk
  case zo =>
    repeat' apply AllP.cons
    all_goals first | exact trivial
  case zk =>
  refine Aw.sm tab_ok mb0 [(2, [.tup [.int f1, .int f2, .int f3]])] rfl rfl ?zo ?zk
  case zo =>
    repeat' apply AllP.cons
    all_goals first | exact trivial | exact c1
  case zk =>
  refine Aw.sm tab_ok mb0 [(2, [.tup [.int f1, .int f2, .int f3]])] rfl rfl ?zo ?zk
  case zo =>
    repeat' apply AllP.cons
    all_goals first | exact trivial | exact c2
  case zk =>
  rcases hF with ⟨rfl, h⟩ | ⟨rfl, h⟩ | ⟨hyo, ⟨M, rfl, hM⟩, hf⟩
  · rw [h] at c3
    refine Aw.sm tab_ok mb0 [(2, [.tup [outW [], .int 61]])] rfl rfl ?zo ?zk
    case zo =>
      repeat' apply AllP.cons
      all_goals first | exact trivial | exact c3
    case zk =>
    refine Aw.seq ?_
    refine Aw.sm tab_ok mb0 [] rfl rfl ?zo ?zk
    case zo =>
      repeat' apply AllP.cons
      all_goals first | exact trivial | exact id | exact fun _ => rfl | exact gq_f
    case zk =>
    refine Aw.cond rfl (fun h => absurd h (by show ¬ (cond (cond (f1 != f1) true (f2 != f2)) true ((61 : Int) != 61)) = true; simp)) (fun h => Aw.skip ?_)
    refine Aw.seq ?_
    refine Aw.sm tab_ok mb0 [] rfl rfl ?zo ?zk
    case zo =>
      repeat' apply AllP.cons
      all_goals first | exact trivial | exact id | exact fun _ => rfl
    case zk =>
    refine Aw.cond rfl (fun h => ?_) (fun h => by cases h)
    refine Aw.sm tab_ok mb0 [(9, [.bool true])] rfl rfl ?zo ?zk
    case zo =>
      repeat' apply AllP.cons
      all_goals first | exact trivial | exact id | exact fun _ => rfl | exact fun _ => works_t
    case zk =>
    exact Aw.ret ⟨_, .cons (.tmp _) .nil, rfl⟩
  · rw [h] at c3
    refine Aw.sm tab_ok mb0 [(2, [.tup [outW [], .int 62]])] rfl rfl ?zo ?zk
    case zo =>
      repeat' apply AllP.cons
      all_goals first | exact trivial | exact c3
    case zk =>
    refine Aw.seq ?_
    refine Aw.sm tab_ok mb0 [] rfl rfl ?zo ?zk
    case zo =>
      repeat' apply AllP.cons
      all_goals first | exact trivial | exact id | exact fun _ => rfl | exact gq_f
    case zk =>
    refine Aw.cond rfl (fun h => absurd h (by show ¬ (cond (cond (f1 != f1) true (f2 != f2)) true ((62 : Int) != 62)) = true; simp)) (fun h => Aw.skip ?_)
    refine Aw.seq ?_
    refine Aw.sm tab_ok mb0 [] rfl rfl ?zo ?zk
    case zo =>
      repeat' apply AllP.cons
      all_goals first | exact trivial | exact id | exact fun _ => rfl
    case zk =>
    refine Aw.cond rfl (fun h => ?_) (fun h => by cases h)
    refine Aw.sm tab_ok mb0 [(9, [.bool true])] rfl rfl ?zo ?zk
    case zo =>
      repeat' apply AllP.cons
      all_goals first | exact trivial | exact id | exact fun _ => rfl | exact fun _ => works_t
    case zk =>
    exact Aw.ret ⟨_, .cons (.tmp _) .nil, rfl⟩
  have c4 := kept_t y b hyo M hM
  rcases kept_is hyo hM with ⟨hne, o, h1, h2, h3, h4⟩ | ⟨he, h1⟩
  · rw [h1] at c3
    have hp : ((allF y M).length : Int) > 0 := by
      cases hq : allF y M with
      | nil => exact absurd hq hne
      | cons x t => simp only [List.length_cons]; omega
    rw [decide_eq_true hp] at c4
    have c5 := keeps_yes y b hyo o.isEmpty o (by omega) h3 h4
    have lO := ints_lenI o
    refine Aw.sm tab_ok mb0 [(2, [.tup [outW o, .int 0]])] rfl rfl ?zo ?zk
    case zo =>
      repeat' apply AllP.cons
      all_goals first | exact trivial | exact c3
    case zk =>
    refine Aw.seq ?_
    refine Aw.sm tab_ok mb0 [] rfl rfl ?zo ?zk
    case zo =>
      repeat' apply AllP.cons
      all_goals first | exact trivial | exact id | exact fun _ => rfl | exact gq_f
    case zk =>
    refine Aw.cond rfl (fun h => absurd h (by show ¬ (cond (cond (f1 != f1) true (f2 != f2)) true (f3 != f3)) = true; simp)) (fun h => Aw.skip ?_)
    refine Aw.seq ?_
    refine Aw.sm tab_ok mb0 [] rfl rfl ?zo ?zk
    case zo =>
      repeat' apply AllP.cons
      all_goals first | exact trivial | exact id | exact fun _ => rfl
    case zk =>
    refine Aw.cond rfl (fun h => absurd h (by show ¬ (cond (f3 != 0) (f3 != 4) false) = true; rcases hf with rfl | rfl <;> decide)) (fun h => Aw.skip ?_)
    refine Aw.seq ?_
    refine Aw.sm tab_ok mb0 [(2, [.bool true])] rfl rfl ?zo ?zk
    case zo =>
      repeat' apply AllP.cons
      all_goals first | exact trivial | exact c4
    case zk =>
    refine Aw.cond rfl (fun h => by cases h) (fun h => Aw.skip ?_)
    refine Aw.sm tab_ok mb0 [(11, [.bool true]), (14, [.bool true])] rfl rfl ?zo ?zk
    case zo =>
      repeat' apply AllP.cons
      all_goals first | exact trivial | exact id | exact fun _ => rfl | exact fun _ => works_t | exact fun _ => c5
    case zk =>
    exact Aw.ret ⟨_, .cons (.tmp _) .nil, by
      show A.bool (cond (cond (((ints o).length : Int) == (M : Int)) true false) true false) = A.bool true
      rw [lO, h2]; simp⟩
  · rw [h1] at c3
    rw [he] at c4
    refine Aw.sm tab_ok mb0 [(2, [.tup [outW [], .int 4]])] rfl rfl ?zo ?zk
    case zo =>
      repeat' apply AllP.cons
      all_goals first | exact trivial | exact c3
    case zk =>
    refine Aw.seq ?_
    refine Aw.sm tab_ok mb0 [] rfl rfl ?zo ?zk
    case zo =>
      repeat' apply AllP.cons
      all_goals first | exact trivial | exact id | exact fun _ => rfl | exact gq_f
    case zk =>
    refine Aw.cond rfl (fun h => absurd h (by show ¬ (cond (cond (f1 != f1) true (f2 != f2)) true (f3 != f3)) = true; simp)) (fun h => Aw.skip ?_)
    refine Aw.seq ?_
    refine Aw.sm tab_ok mb0 [] rfl rfl ?zo ?zk
    case zo =>
      repeat' apply AllP.cons
      all_goals first | exact trivial | exact id | exact fun _ => rfl
    case zk =>
    refine Aw.cond rfl (fun h => absurd h (by show ¬ (cond (f3 != 0) (f3 != 4) false) = true; rcases hf with rfl | rfl <;> decide)) (fun h => Aw.skip ?_)
    refine Aw.seq ?_
    refine Aw.sm tab_ok mb0 [(2, [.bool false])] rfl rfl ?zo ?zk
    case zo =>
      repeat' apply AllP.cons
      all_goals first | exact trivial | exact c4
    case zk =>
    refine Aw.cond rfl (fun h => ?_) (fun h => by cases h)
    refine Aw.sm tab_ok mb0 [(8, [.bool true])] rfl rfl ?zo ?zk
    case zo =>
      repeat' apply AllP.cons
      all_goals first | exact trivial | exact id | exact fun _ => rfl | exact fun _ => works_t
    case zk =>
    exact Aw.ret ⟨_, .cons (.tmp _) .nil, rfl⟩
end Go.Proofs.Ytampldajinhenaa

namespace Go.Proofs.Ytampldajinhenaa
open Go Go.AL Go.ChangeShapes Go.WideShapes Go.ChangeAt Go.RowKit
set_option maxRecDepth 100000 in
theorem barrelKeeps_lifted (os : Os) (started : os.Started) (H : Type) (enc : TypeId × Value → H) :
    ReturnsInHanded {} Try.checked os 5 .any (Rows.barrelKeepsSpec.pre6 enc Try.prog Try.f5 [] false) (Rows.barrelKeepsSpec.post enc Try.prog Try.f5 false true false false) := by
  refine lifted2 (tb := 4) (C := Try.checked) own started (by kernel_rfl) Try.func5
    (ChangeSpec.witness6 (enc := enc) (C := Try.checked) false ⟨#[], #[.slice none 0 0, .int .i64 0], []⟩ 8 (by kernel_rfl) (by kernel_rfl) (by kernel_rfl) (by kernel_rfl))
    laidOut ?_ rfl rfl (by kernel_rfl) uBool ?_ ?_
  · rw [Try.params5]; exact all2t (p := fun t => Try.prog.readableRec t = true ∧ t < Try.prog.types.size) t35 t3
  · intro ds hd
    rw [Try.params5] at hd
    match ds, hd with
    | [d0, d1], _ => rfl
  · intro W base args ds p hval hA hwt
    rw [Try.params5] at hA hval
    obtain ⟨v0, v1, d0, d1, p0, p1, rfl, rfl, rfl, h0, h1⟩ := trodAll_two hA
    obtain ⟨b0, y0, q0, s0⟩ := arg_yard (φ := fun _ => none) (hval 0 35 v0 rfl rfl) h0 fun k hk => hwt k (List.mem_append.2 (.inl hk))
    obtain ⟨y1, q1⟩ := arg_int (φ := fun _ => none) (hval 1 3 v1 rfl rfl) h1 fun k hk => hwt k (List.mem_append.2 (.inr (List.mem_append.2 (.inl hk))))
    exact ⟨_, _, vrs2 q0 q1, keeps_l b0 y0 y1 s0⟩
theorem barrelKeeps_holds : Rows.BarrelKeepsSaid :=
  OpenClaim.holds_of_wide 5 Try.f5 rfl rfl rfl rfl rfl rfl rfl ⟨rfl, rfl, rfl, rfl, rfl⟩ rfl rfl rfl rfl rfl (by kernel_rfl) Try.func5 (by kernel_rfl)
    (of_decide_eq_true (by kernel_rfl)) (by unfold Func.isWrapper; first | (rw [if_pos (by decide +kernel)]; kernel_rfl) | (rw [if_neg (by decide +kernel)]; exact ⟨rfl, rfl⟩))
    (fun os started H enc _ => barrelKeeps_lifted os started H enc)
end Go.Proofs.Ytampldajinhenaa

