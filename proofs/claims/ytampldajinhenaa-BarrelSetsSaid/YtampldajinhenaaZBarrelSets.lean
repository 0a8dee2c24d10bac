/- BarrelSets holds: CheckPile and AreBarrels return what the chapter says, and Set as many barrels as there can be. No condition. -/
import Derived.Test.YtampldajinhenaaK6
set_option linter.all false
namespace Go.AL.Br
open Go Go.AL Go.AL.Q
def fillS (y : List Cask) (lv : List Int) (top : Int) : List Int := if top ≥ 0 then lv.set top.toNat (ck y top.toNat).full else lv
structure LvS (n : Nat) (l : List Int) : Prop where
  n : l.length = n
  b : ∀ x ∈ l, 0 ≤ x ∧ x ≤ 1000
theorem LvS.get {n : Nat} {l : List Int} (h : LvS n l) {i : Nat} (hi : i < n) : 0 ≤ l.getD i 0 ∧ l.getD i 0 ≤ 1000 := by
  have hl : i < l.length := by rw [h.n]; exact hi
  have e : l.getD i 0 = l[i] := by simp [List.getD_eq_getElem?_getD, hl]
  rw [e]; exact h.b _ (List.getElem_mem hl)
theorem LvS.fill {n : Nat} {l : List Int} (h : LvS n l) {y : List Cask} (hy : ∀ c ∈ y, c.Ok) (top : Int) : LvS n (fillS y l top) := by
  unfold fillS
  split
  · exact ⟨by rw [List.length_set]; exact h.n, fun z hz => by
      rcases List.mem_or_eq_of_mem_set hz with h1 | rfl
      · exact h.b z h1
      · have := ck_ok hy top.toNat; omega⟩
  · exact h
end Go.AL.Br

namespace Go.AL.Br
open Go Go.AL Go.AL.Q
structure Ris (p : Pile) (s : List Int) : Prop where
  r : s.Pairwise (· < ·)
  i : StIn p s
theorem lt_len {n : Int} : ∀ {s : List Int} (lo : Int), (∀ x ∈ s, lo < x ∧ x < n) → s.Pairwise (· < ·) → (s.length : Int) ≤ max 0 (n - 1 - lo)
  | [], lo, _, _ => by simp; omega
  | k :: ks, lo, h, hp => by
    rw [List.pairwise_cons] at hp
    have h1 := h k (by simp)
    have := lt_len k (fun x hx => ⟨hp.1 x hx, (h x (by simp [hx])).2⟩) hp.2
    simp only [List.length_cons]
    push_cast
    omega
theorem Ris.len {p : Pile} {s : List Int} (h : Ris p s) : s.length ≤ p.st.length := by
  have := lt_len (n := p.st.length) (-1) (fun x hx => by have := h.i x hx; omega) h.r
  omega
structure Pack (p : Pile) (g : List Bool) (L : List (List Int)) : Prop where
  r : ∀ s ∈ L, Ris p s
  b : ∀ s ∈ L, isB p s = true
  f : ∀ s ∈ L, ∀ k ∈ s, gn g k = false
  d : L.Pairwise fun s t => ∀ k ∈ s, k ∉ t
theorem isB_ne {p : Pile} {s : List Int} (h : isB p s = true) : s ≠ [] := fun e => by subst e; unfold isB at h; simp at h
theorem Pack.nil (p : Pile) (g : List Bool) : Pack p g [] := ⟨(fun _ h => nomatch h), (fun _ h => nomatch h), (fun _ h => nomatch h), List.Pairwise.nil⟩
theorem in_ten {p : Pile} (hp : p.Ok) {g : List Bool} (h : g.length = 10) {s : List Int} (hs : StIn p s) : ∀ k ∈ s, 0 ≤ k ∧ k < (g.length : Int) := fun k hk => by
  have := hs k hk
  have := hp.n
  omega
theorem Pack.cons {p : Pile} (hp : p.Ok) {g : List Bool} (hg : g.length = 10) {s : List Int} {L : List (List Int)} : Pack p g (s :: L) ↔ Ris p s ∧ isB p s = true ∧ (∀ k ∈ s, gn g k = false) ∧ Pack p (markG g s) L := by
  constructor
  · intro h
    have hr := h.r s (by simp)
    have hd := List.pairwise_cons.1 h.d
    refine ⟨hr, h.b s (by simp), h.f s (by simp), fun t ht => h.r t (by simp [ht]), fun t ht => h.b t (by simp [ht]), fun t ht k hk => ?_, hd.2⟩
    have h0 := (h.r t (by simp [ht])).i k hk
    rw [markG_gn (in_ten hp hg hr.i) h0.1, h.f t (by simp [ht]) k hk, Bool.or_false, decide_eq_false]
    exact fun hks => hd.1 t ht k hks hk
  · rintro ⟨hr, hb, hf, h⟩
    have key : ∀ t ∈ L, ∀ k ∈ t, k ∉ s ∧ gn g k = false := fun t ht k hk => by
      have h0 := (h.r t ht).i k hk
      have := h.f t ht k hk
      rw [markG_gn (in_ten hp hg hr.i) h0.1, Bool.or_eq_false_iff, decide_eq_false_iff_not] at this
      exact this
    refine ⟨fun t ht => ?_, fun t ht => ?_, fun t ht => ?_, List.pairwise_cons.2 ⟨fun t ht k hks hkt => (key t ht k hkt).1 hks, h.d⟩⟩
    · rcases List.mem_cons.1 ht with rfl | ht
      · exact hr
      · exact h.r t ht
    · rcases List.mem_cons.1 ht with rfl | ht
      · exact hb
      · exact h.b t ht
    · rcases List.mem_cons.1 ht with rfl | ht
      · exact hf
      · exact fun k hk => (key t ht k hk).2
theorem areRow_iff {n : Int} (hn : n ≤ 10) : ∀ (ks : List Int) (g : List Bool) (last : Int) (g' : List Bool), g.length = 10 → -1 ≤ last →
    (areRow n g last ks = some g' ↔ (ks.Pairwise (· < ·) ∧ (∀ k ∈ ks, last < k ∧ k < n) ∧ (∀ k ∈ ks, gn g k = false)) ∧ g' = markG g ks)
  | [], g, last, g', _, _ => by
    rw [areRow]
    exact ⟨fun h => ⟨⟨.nil, (fun _ h => nomatch h), (fun _ h => nomatch h)⟩, by cases h; rfl⟩, fun h => by rw [h.2]; rfl⟩
  | k :: ks, g, last, g', hg, hl => by
    rw [areRow]
    by_cases h1 : wi k (last + 1) (n - 1) = true
    · have h1' := wi_iff.1 h1
      rw [h1]
      by_cases h2 : gn g k = true
      · rw [h2, if_pos (show cond (!true) true true = true from rfl)]
        exact ⟨(fun h => by cases h), fun h => by
          have := h.1.2.2 k (by simp)
          rw [h2] at this; cases this⟩
      · have h2 : gn g k = false := by simpa using h2
        rw [h2, if_neg (by decide), areRow_iff hn ks _ k g' (by rw [List.length_set]; exact hg) (by omega), List.pairwise_cons]
        have hgn : ∀ x ∈ ks, k < x → gn (g.set k.toNat true) x = gn g x := fun x _ hx => by
          rw [gn_set (by omega) (by omega), decide_eq_false (by omega), Bool.false_or]
        constructor
        · rintro ⟨⟨a1, a2, a3⟩, a4⟩
          refine ⟨⟨⟨fun x hx => (a2 x hx).1, a1⟩, fun x hx => ?_, fun x hx => ?_⟩, a4⟩
          · rcases List.mem_cons.1 hx with rfl | hx
            · omega
            · have := a2 x hx; omega
          · rcases List.mem_cons.1 hx with rfl | hx
            · exact h2
            · rw [← hgn x hx (a2 x hx).1]; exact a3 x hx
        · rintro ⟨⟨⟨a0, a1⟩, a2, a3⟩, a4⟩
          exact ⟨⟨a1, fun x hx => ⟨a0 x hx, (a2 x (by simp [hx])).2⟩, fun x hx => by rw [hgn x hx (a0 x hx)]; exact a3 x (by simp [hx])⟩, a4⟩
    · have h1f : wi k (last + 1) (n - 1) = false := by simpa using h1
      rw [h1f, if_pos (show cond (!false) true (gn g k) = true from rfl)]
      refine ⟨(fun h => by cases h), fun h => ?_⟩
      have := h.1.2.1 k (by simp)
      exact absurd (wi_iff.2 (by omega)) h1
theorem areRow_ris {p : Pile} (hp : p.Ok) {g g' : List Bool} (hg : g.length = 10) {ks : List Int} : areRow p.st.length g (-1) ks = some g' ↔ (Ris p ks ∧ ∀ k ∈ ks, gn g k = false) ∧ g' = markG g ks := by
  have hn := hp.n
  rw [areRow_iff (by omega) ks g (-1) g' hg (by omega)]
  exact ⟨fun ⟨⟨a, b, c⟩, d⟩ => ⟨⟨⟨a, fun k hk => by have := b k hk; omega⟩, c⟩, d⟩, fun ⟨⟨a, c⟩, d⟩ => ⟨⟨a.r, fun k hk => by have := a.i k hk; omega, c⟩, d⟩⟩
theorem areGo_iff {p : Pile} (hp : p.Ok) : ∀ (l : List NL) (g : List Bool), g.length = 10 → (areGo p g l = true ↔ Pack p g (l.map NL.l))
  | [], g, _ => ⟨fun _ => .nil p g, fun _ => rfl⟩
  | s :: ss, g, hg => by
    rw [areGo, List.map_cons, Pack.cons hp hg]
    cases h : areRow p.st.length g (-1) s.l with
    | none =>
      refine ⟨(fun h => by cases h), fun ⟨a, _, c, _⟩ => ?_⟩
      rw [(areRow_ris hp hg).2 ⟨⟨a, c⟩, rfl⟩] at h
      cases h
    | some g' =>
      obtain ⟨⟨a, c⟩, rfl⟩ := (areRow_ris hp hg).1 h
      simp only
      by_cases hb : isB p s.l = true
      · rw [if_pos hb, areGo_iff hp ss _ (by rw [markG_len]; exact hg)]
        exact ⟨fun h => ⟨a, hb, c, h⟩, fun h => h.2.2.2⟩
      · rw [if_neg hb]
        exact ⟨(fun h => by cases h), fun h => absurd h.2.1 hb⟩
theorem ris_snoc {p : Pile} {s : List Int} {k : Int} : Ris p (s ++ [k]) ↔ Ris p s ∧ (0 ≤ k ∧ k < p.st.length) ∧ ∀ x ∈ s, x < k := by
  constructor
  · intro h
    have := List.pairwise_append.1 h.r
    exact ⟨⟨this.1, fun x hx => h.i x (by simp [hx])⟩, h.i k (by simp), fun x hx => this.2.2 x hx k (by simp)⟩
  · rintro ⟨h1, h2, h3⟩
    refine ⟨List.pairwise_append.2 ⟨h1.r, by simp, fun x hx y hy => ?_⟩, fun x hx => ?_⟩
    · have : y = k := by simpa using hy
      subst this; exact h3 x hx
    · rcases List.mem_append.1 hx with hx | hx
      · exact h1.i x hx
      · have : x = k := by simpa using hx
        subst this; exact h2
theorem last_max {s : List Int} (h : s.Pairwise (· < ·)) (hne : s ≠ []) : s.getLast?.getD 0 ∈ s ∧ ∀ x ∈ s, x ≤ s.getLast?.getD 0 := by
  obtain ⟨u, v, e⟩ : ∃ u v, s = u ++ [v] := ⟨s.dropLast, s.getLast hne, (List.dropLast_concat_getLast hne).symm⟩
  subst e
  rw [List.getLast?_concat, Option.getD_some]
  refine ⟨by simp, fun x hx => ?_⟩
  rcases List.mem_append.1 hx with hx | hx
  · have := (List.pairwise_append.1 h).2.2 x hx v (by simp); omega
  · have : x = v := by simpa using hx
    omega
theorem longF_ris {p : Pile} {g : List Bool} : ∀ (f : Nat) (s t : List Int), t ∈ longF p g f s → Ris p s → s ≠ [] → Ris p t
  | 0, s, t, h, hs, _ => by
    rw [longF] at h
    split at h
    · simp at h; subst h; exact hs
    · cases h
  | f + 1, s, t, h, hs, hne => by
    rw [longF, List.mem_append] at h
    rcases h with h | h
    · split at h
      · simp at h; subst h; exact hs
      · cases h
    · rw [List.mem_flatMap] at h
      obtain ⟨k, hk, h⟩ := h
      have hk := List.mem_range.1 hk
      split at h
      · cases h
      · rename_i hc
        have hlk : ¬ (k : Int) ≤ s.getLast?.getD 0 := fun h => hc (by rw [decide_eq_true h]; rfl)
        refine longF_ris f (s ++ [(k : Int)]) t h (ris_snoc.2 ⟨hs, by omega, fun x hx => ?_⟩) (by simp)
        have := (last_max hs.r hne).2 x hx
        omega
theorem longF_has {p : Pile} {g : List Bool} : ∀ (f : Nat) (u s : List Int), s ≠ [] → Ris p (s ++ u) → isB p (s ++ u) = true → (∀ k ∈ u, gn g k = false) → u.length ≤ f → s ++ u ∈ longF p g f s
  | 0, u, s, hne, hr, hb, _, hl => by
    have : u = [] := List.length_eq_zero_iff.1 (by omega)
    subst this
    rw [List.append_nil] at *
    rw [longF, if_pos hb]; simp
  | f + 1, [], s, hne, hr, hb, _, _ => by
    rw [List.append_nil] at *
    rw [longF, if_pos hb]; simp
  | f + 1, k :: u, s, hne, hr, hb, hg, hl => by
    have e : s ++ k :: u = (s ++ [k]) ++ u := by simp
    have ih := longF_has f u (s ++ [k]) (by simp) (by rw [← e]; exact hr) (by rw [← e]; exact hb) (fun x hx => hg x (by simp [hx])) (by simpa using hl)
    rw [longF, List.mem_append]
    right
    rw [List.mem_flatMap]
    have hk := hr.i k (by simp)
    have hp := List.pairwise_append.1 hr.r
    have hlast := hp.2.2 _ (last_max hp.1 hne).1 k (by simp)
    refine ⟨k.toNat, List.mem_range.2 (by omega), ?_⟩
    have ek : ((k.toNat : Nat) : Int) = k := by omega
    rw [ek, if_neg, e]
    · exact ih
    · rw [hg k (by simp), decide_eq_false (by omega)]; decide
theorem bars_ris {p : Pile} {g : List Bool} {k : Nat} (hk : k < p.st.length) {t : List Int} (h : t ∈ barsF p (k : Int) g) : Ris p t :=
  longF_ris _ _ t h ⟨by simp, fun x hx => by simp at hx; subst hx; omega⟩ (by simp)
theorem bars_has {p : Pile} {g : List Bool} {k : Nat} (hf : FirstIs p g k) {t : List Int} (hr : Ris p t) (hb : isB p t = true) (hg : ∀ x ∈ t, gn g x = false) (hk : (k : Int) ∈ t) : t ∈ barsF p (k : Int) g := by
  cases t with
  | nil => cases hk
  | cons a u =>
    have ha := hr.i a (by simp)
    have hp := List.pairwise_cons.1 hr.r
    have e : a = (k : Int) := by
      rcases List.mem_cons.1 hk with h | h
      · exact h.symm
      · have h1 := hp.1 _ h
        have h2 := hf.b a.toNat (by omega)
        have h3 := hg a (by simp)
        rw [show ((a.toNat : Nat) : Int) = a by omega, h3] at h2
        cases h2
    subst e
    have hl := hr.len
    simp only [List.length_cons] at hl
    exact longF_has p.st.length u [(k : Int)] (by simp) hr hb (fun x hx => hg x (by simp [hx])) (by omega)
theorem better_ge (rec : List Bool → List (List Int)) (g : List Bool) : ∀ (l : List (List Int)) (b : List (List Int)), b.length ≤ (l.foldl (betterF rec g) b).length ∧ ∀ s ∈ l, (rec (markG g s)).length + 1 ≤ (l.foldl (betterF rec g) b).length
  | [], b => ⟨Nat.le_refl _, fun _ h => nomatch h⟩
  | a :: l, b => by
    rw [List.foldl_cons]
    obtain ⟨h1, h2⟩ := better_ge rec g l (betterF rec g b a)
    have h3 : b.length ≤ (betterF rec g b a).length ∧ (rec (markG g a)).length + 1 ≤ (betterF rec g b a).length := by
      unfold betterF
      split
      · simp only [List.length_cons]; omega
      · omega
    refine ⟨by omega, fun s hs => ?_⟩
    rcases List.mem_cons.1 hs with rfl | hs
    · omega
    · exact h2 s hs
theorem all_gone {p : Pile} (hp : p.Ok) {g : List Bool} (h : GOk p g) (ha : (g == allG p) = true) {L : List (List Int)} (hL : Pack p g L) : L = [] := by
  cases L with
  | nil => rfl
  | cons s L =>
    exfalso
    cases s with
    | nil => exact isB_ne (hL.b [] (by simp)) rfl
    | cons k s =>
      have h1 := (hL.r (k :: s) (by simp)).i k (by simp)
      have h2 := hL.f (k :: s) (by simp) k (by simp)
      have h3 := (allG_eq hp h).1 ha k.toNat (by omega)
      rw [show ((k.toNat : Nat) : Int) = k by omega, h2] at h3
      cases h3
theorem most_ge {p : Pile} (hp : p.Ok) : ∀ (f : Nat) (g : List Bool), GOk p g → leftN p g ≤ f → ∀ L, Pack p g L → L.length ≤ (mostF p f g).length
  | 0, g, h, hl, L, hL => by rw [all_gone hp h (leftN_zero hp h (by omega)) hL]; simp
  | f + 1, g, h, hl, L, hL => by
    rw [mostF]
    by_cases e : (g == allG p) = true
    · rw [all_gone hp h e hL]; simp
    · have e : (g == allG p) = false := by simpa using e
      rw [if_neg (by rw [e]; decide)]
      have hf := first_is hp h e
      have hs1 : StIn p [(firstG g : Int)] := fun x hx => by simp at hx; subst hx; have := hf.n; omega
      have l1 := left_mark hp h hf hs1 (by simp)
      obtain ⟨b1, b2⟩ := better_ge (mostF p f) g (barsF p (firstG g) g) (mostF p f (g.set (firstG g) true))
      by_cases hk : ∃ s ∈ L, ((firstG g : Nat) : Int) ∈ s
      · obtain ⟨s, h1, h2⟩ := hk
        have hbar := bars_has hf (hL.r s h1) (hL.b s h1) (hL.f s h1) h2
        have l2 := left_mark hp h hf (hL.r s h1).i h2
        obtain ⟨A, B, rfl⟩ := List.append_of_mem h1
        have hd := List.pairwise_append.1 hL.d
        have hd2 := List.pairwise_cons.1 hd.2.1
        have hmem : ∀ t, t ∈ A ++ B → t ∈ A ++ s :: B := fun t ht => by
          rcases List.mem_append.1 ht with h | h
          · simp [h]
          · simp [h]
        have hP : Pack p (markG g s) (A ++ B) := by
          refine ⟨fun t ht => hL.r t (hmem t ht), fun t ht => hL.b t (hmem t ht), fun t ht x hx => ?_, List.pairwise_append.2 ⟨hd.1, hd2.2, fun a ha b hb => hd.2.2 a ha b (by simp [hb])⟩⟩
          have h0 := (hL.r t (hmem t ht)).i x hx
          rw [markG_gn (in_ten hp h.n (hL.r s h1).i) h0.1, hL.f t (hmem t ht) x hx, Bool.or_false, decide_eq_false]
          intro hxs
          rcases List.mem_append.1 ht with h3 | h3
          · exact hd.2.2 t h3 s (by simp) x hx hxs
          · exact hd2.1 t h3 x hxs hx
        have ih := most_ge hp f _ (h.mark (hL.r s h1).i hp) (by omega) _ hP
        have := b2 s hbar
        simp only [List.length_append, List.length_cons] at ih ⊢
        omega
      · have hP : Pack p (g.set (firstG g) true) L := by
          refine ⟨hL.r, hL.b, fun t ht x hx => ?_, hL.d⟩
          have h0 := (hL.r t ht).i x hx
          have hn := hp.n
          have hfn := hf.n
          have := gn_set (g := g) (i := (firstG g : Int)) (k := x) (by have := h.n; omega) h0.1
          rw [Int.toNat_natCast] at this
          rw [this, hL.f t ht x hx, Bool.or_false, decide_eq_false]
          intro h3
          exact hk ⟨t, ht, by rw [← h3]; exact hx⟩
        rw [mark_one] at b1 hP ⊢
        have ih := most_ge hp f _ (h.mark hs1 hp) (by omega) _ hP
        omega
theorem most_pack {p : Pile} (hp : p.Ok) : ∀ (f : Nat) (g : List Bool), GOk p g → Pack p g (mostF p f g)
  | 0, g, _ => .nil p g
  | f + 1, g, h => by
    rw [mostF]
    by_cases e : (g == allG p) = true
    · rw [if_pos e]; exact .nil p g
    · have e : (g == allG p) = false := by simpa using e
      rw [if_neg (by rw [e]; decide)]
      have hf := first_is hp h e
      have hs1 : StIn p [(firstG g : Int)] := fun x hx => by simp at hx; subst hx; have := hf.n; omega
      have h0 : Pack p g (mostF p f (g.set (firstG g) true)) := by
        have ih := most_pack hp f (g.set (firstG g) true) (by rw [mark_one]; exact h.mark hs1 hp)
        refine ⟨ih.r, ih.b, fun t ht x hx => ?_, ih.d⟩
        have h1 := ih.f t ht x hx
        have h2 := (ih.r t ht).i x hx
        rw [mark_one, markG_gn (in_ten hp h.n hs1) h2.1, Bool.or_eq_false_iff] at h1
        exact h1.2
      have key : ∀ (l : List (List Int)) (b : List (List Int)), (∀ s ∈ l, s ∈ barsF p (firstG g) g) → Pack p g b → Pack p g (l.foldl (betterF (mostF p f) g) b) := by
        intro l
        induction l with
        | nil => intro b _ hb; exact hb
        | cons s l ih =>
          intro b hl hb
          rw [List.foldl_cons]
          refine ih _ (fun t ht => hl t (by simp [ht])) ?_
          unfold betterF
          split
          · obtain ⟨m1, m2, m3, m4⟩ := bars_mem hf (hl s (by simp))
            exact (Pack.cons hp h.n).2 ⟨bars_ris hf.n (hl s (by simp)), m2, m4, most_pack hp f _ (h.mark m3 hp)⟩
          · exact hb
      exact key _ _ (fun s h => h) h0
theorem set_R {p : Pile} (hpo : p.ok = true) : ∃ L, Pack p g0 L ∧ (∀ M, Pack p g0 M → M.length ≤ L.length) ∧ SetR p = (L, if L.length = 0 then 4 else 0) := by
  have hp := Pile.ok_iff.1 hpo
  refine ⟨mostF p 10 g0, most_pack hp 10 g0 (g0_ok p), fun M hM => most_ge hp 10 g0 (g0_ok p) (by have := leftN_le p g0; have := hp.n; omega) M hM, ?_⟩
  unfold SetR
  rw [if_pos hpo]
  by_cases h : mostF p 10 g0 = []
  · rw [if_pos h, h]; rfl
  · rw [if_neg h, if_neg (fun h2 => h (List.length_eq_zero_iff.1 h2))]
theorem are_R {p : Pile} (hpo : p.ok = true) {L : List (List Int)} (h : Pack p g0 L) : AreR p (L.map fun s => ⟨false, s⟩) = (true, 0) := by
  have hp := Pile.ok_iff.1 hpo
  unfold AreR
  rw [if_pos hpo]
  have : areGo p g0 (L.map fun s => (⟨false, s⟩ : NL)) = true := (areGo_iff hp _ g0 rfl).2 (by
    rw [List.map_map]
    show Pack p g0 (L.map fun s => s)
    rw [List.map_id']; exact h)
  rw [this]
end Go.AL.Br

namespace Go.AL.Br
open Go Go.AL Go.AL.Q
end Go.AL.Br

namespace Go.AL.Br
open Go Go.AL Go.AL.Q
def bitB (set k : Int) : Bool := bitV set k == 1
end Go.AL.Br

namespace Go.AL.Q
open Go
theorem ofInt_nat (m : Nat) : BitVec.ofInt 64 (m : Int) = BitVec.ofNat 64 m := BitVec.ofInt_natCast ..
theorem wrap_nat {m : Nat} (h : m < 2 ^ 63) : IntKind.i64.wrap (m : Int) = m := wrap_in (by simp only [inR]; omega)
theorem ior_nat {m n : Nat} (hm : m < 2 ^ 63) (hn : n < 2 ^ 63) : ior (m : Int) (n : Int) = ((m ||| n : Nat) : Int) := by
  unfold ior
  rw [ofInt_nat, ofInt_nat, BitVec.toNat_or, BitVec.toNat_ofNat, BitVec.toNat_ofNat, Nat.mod_eq_of_lt (by omega), Nat.mod_eq_of_lt (by omega)]
  exact wrap_nat (Nat.or_lt_two_pow hm hn)
theorem iand_one {m : Nat} (hm : m < 2 ^ 63) : iand (m : Int) 1 = ((m % 2 : Nat) : Int) := by
  unfold iand
  rw [ofInt_nat, show (1 : Int) = ((1 : Nat) : Int) from rfl, ofInt_nat, BitVec.toNat_and, BitVec.toNat_ofNat, BitVec.toNat_ofNat, Nat.mod_eq_of_lt (show m < 2 ^ 64 by omega), Nat.mod_eq_of_lt (by decide), Nat.and_one_is_mod]
  exact wrap_nat (by omega)
theorem bitI_test {m k : Nat} (hm : m < 2 ^ 63) (hk : k ≤ 64) : bitI (m : Int) k = m.testBit k := by
  unfold bitI
  rw [Nat.min_eq_left hk]
  have e : (m : Int).fdiv (2 ^ k) = ((m / 2 ^ k : Nat) : Int) := by
    rw [Int.fdiv_eq_ediv_of_nonneg _ (by exact Int.le_of_lt (Int.pow_pos (by decide)))]
    norm_cast
  rw [e, iand_one (Nat.lt_of_le_of_lt (Nat.div_le_self _ _) hm), Nat.testBit_eq_decide_div_mod_eq]
  have : m / 2 ^ k % 2 = 0 ∨ m / 2 ^ k % 2 = 1 := by omega
  rcases this with h | h <;> rw [h] <;> decide
theorem bef_trans : ∀ a b c : List Int, befF a b = true → befF b c = true → befF a c = true
  | [], b, [], h, k => by cases b <;> simp [befF] at h k
  | [], _, _ :: _, _, _ => rfl
  | x :: a, [], c, h, _ => by simp [befF] at h
  | x :: a, y :: b, [], _, k => by simp [befF] at k
  | x :: a, y :: b, z :: c, h, k => by
    rw [befF] at h k ⊢
    by_cases h1 : x = y
    · subst h1
      rw [if_pos rfl] at h
      by_cases h2 : x = z
      · rw [if_pos h2] at k ⊢; exact bef_trans a b c h k
      · rw [if_neg h2] at k ⊢; exact k
    · rw [if_neg h1] at h
      have h := of_decide_eq_true h
      by_cases h2 : y = z
      · subst h2
        rw [if_neg h1]; exact decide_eq_true h
      · rw [if_neg h2] at k
        have k := of_decide_eq_true k
        rw [if_neg (by omega)]; exact decide_eq_true (by omega)
def Ahead (a b : List Int) : Prop := a.length < b.length ∨ (a.length = b.length ∧ befF a b = true)
theorem Ahead.trans {a b c : List Int} (h : Ahead a b) (k : Ahead b c) : Ahead a c := by
  rcases h with h | h <;> rcases k with k | k
  · exact .inl (by omega)
  · exact .inl (by omega)
  · exact .inl (by omega)
  · exact .inr ⟨by omega, bef_trans _ _ _ h.2 k.2⟩
def listL (n : Nat) (L : Nat → Bool) : List Int := ((List.range n).filter L).map Int.ofNat
theorem listL_congr {n : Nat} {L K : Nat → Bool} (h : ∀ i, i < n → L i = K i) : listL n L = listL n K := by
  unfold listL
  congr 1
  exact List.filter_congr fun i hi => h i (List.mem_range.1 hi)
theorem rising_cons {n last i : Int} {l : List Int} : risingF n last (i :: l) = true ↔ (last + 1 ≤ i ∧ i ≤ n - 1) ∧ risingF n i l = true := by
  rw [risingF, c_and, Bool.and_eq_true, wi_iff]
theorem rising_mono {n a b : Int} (h : b ≤ a) : ∀ {l : List Int}, risingF n a l = true → risingF n b l = true
  | [], _ => rfl
  | i :: l, h1 => by
    rw [rising_cons] at *
    exact ⟨⟨by omega, h1.1.2⟩, h1.2⟩
theorem rising_filter (n : Nat) (L : Nat → Bool) : ∀ (c m : Nat), m + c = n → risingF n ((m : Int) - 1) (((List.range' m c).filter L).map Int.ofNat) = true
  | 0, m, _ => rfl
  | c + 1, m, h => by
    have ih := rising_filter n L c (m + 1) (by omega)
    rw [List.range'_succ, List.filter_cons]
    split
    · rw [List.map_cons, rising_cons]
      refine ⟨⟨by simp, by simp; omega⟩, ?_⟩
      have e : (((m + 1 : Nat) : Int) - 1) = Int.ofNat m := by simp
      rw [e] at ih; exact ih
    · exact rising_mono (by omega) ih
theorem rising_list (n : Nat) (L : Nat → Bool) : risingF n (-1) (listL n L) = true := by
  have := rising_filter n L n 0 (by omega)
  unfold listL
  rw [List.range_eq_range']
  exact this
theorem rising_gt {n : Int} : ∀ {l : List Int} {a : Int}, risingF n a l = true → ∀ i ∈ l, a < i ∧ i < n
  | [], _, _, _, h => by cases h
  | x :: l, a, h, i, hi => by
    rw [rising_cons] at h
    rcases List.mem_cons.1 hi with rfl | hi
    · omega
    · have := rising_gt h.2 i hi; omega
theorem rising_back (n : Nat) : ∀ (c m : Nat) (l : List Int), m + c = n → risingF n ((m : Int) - 1) l = true → ((List.range' m c).filter fun i : Nat => l.contains (i : Int)).map Int.ofNat = l
  | 0, m, l, h, hr => by
    cases l with
    | nil => rfl
    | cons x l =>
      rw [rising_cons] at hr; omega
  | c + 1, m, l, h, hr => by
    rw [List.range'_succ, List.filter_cons]
    cases l with
    | nil =>
      have ih := rising_back n c (m + 1) [] (by omega) rfl
      rw [if_neg (by simp)]; exact ih
    | cons x l =>
      rw [rising_cons] at hr
      by_cases e : x = (m : Int)
      · subst e
        have hl := rising_gt hr.2
        have ih := rising_back n c (m + 1) l (by omega) (by rw [show (((m + 1 : Nat) : Int) - 1) = (m : Int) by omega]; exact hr.2)
        rw [if_pos (by simp), List.map_cons]
        have e2 : ((List.range' (m + 1) c).filter fun i : Nat => ((m : Int) :: l).contains (i : Int)) = (List.range' (m + 1) c).filter fun i : Nat => l.contains (i : Int) := List.filter_congr fun i hi => by
          have := List.mem_range'_1.1 hi
          rw [List.contains_cons]
          have : ((i : Int) == (m : Int)) = false := by simp; omega
          rw [this, Bool.false_or]
        rw [e2, ih]; rfl
      · have hm : ((x :: l).contains (m : Int)) = false := by
          cases e2 : (x :: l).contains (m : Int) with
          | false => rfl
          | true =>
            rcases List.mem_cons.1 (List.contains_iff_mem.1 e2) with h3 | h3
            · exact absurd h3.symm e
            · have := rising_gt hr.2 _ h3; omega
        rw [hm, if_neg (by decide)]
        refine rising_back n c (m + 1) (x :: l) (by omega) ?_
        rw [rising_cons]
        exact ⟨⟨by omega, hr.1.2⟩, hr.2⟩
theorem rising_set {n : Nat} {l : List Int} (h : risingF n (-1) l = true) : listL n (fun i => l.contains (i : Int)) = l := by
  unfold listL
  rw [List.range_eq_range']
  exact rising_back n n 0 l (by omega) h
end Go.AL.Q

namespace Go.AL.Br
open Go Go.AL Go.AL.Q
theorem iand_nat {m n : Nat} (hm : m < 2 ^ 63) (hn : n < 2 ^ 63) : iand (m : Int) (n : Int) = ((m &&& n : Nat) : Int) := by
  unfold iand
  rw [ofInt_nat, ofInt_nat, BitVec.toNat_and, BitVec.toNat_ofNat, BitVec.toNat_ofNat, Nat.mod_eq_of_lt (by omega), Nat.mod_eq_of_lt (by omega)]
  exact wrap_nat (Nat.lt_of_le_of_lt Nat.and_le_left hm)
theorem bitB_test {m k : Nat} (hm : m < 2 ^ 63) (hk : k ≤ 64) : bitB (m : Int) (k : Int) = m.testBit k := by
  unfold bitB bitV
  rw [Int.toNat_natCast]
  exact bitI_test hm hk
theorem one_bit {k : Int} (h : 0 ≤ k ∧ k < 10) : IntKind.i64.wrap (1 * 2 ^ min k.toNat 64) = ((2 ^ k.toNat : Nat) : Int) := by
  rw [Nat.min_eq_left (by omega), Int.one_mul]
  have e : ((2 : Int) ^ k.toNat) = ((2 ^ k.toNat : Nat) : Int) := by norm_cast
  have hp : 2 ^ k.toNat < 2 ^ 10 := Nat.pow_lt_pow_right (by decide) (by omega)
  rw [e]
  exact wrap_nat (by omega)
theorem sub_bit {a b : Nat} (h : b &&& a = b) (i : Nat) : (a - b).testBit i = (a.testBit i && !b.testBit i) := by
  induction i generalizing a b with
  | zero =>
    have h0 := congrArg (fun x => Nat.testBit x 0) h
    simp only [Nat.testBit_and, Nat.testBit_zero] at h0 ⊢
    have hle : b ≤ a := by rw [← h]; exact Nat.and_le_right
    have ha : a % 2 = 0 ∨ a % 2 = 1 := by omega
    have hb : b % 2 = 0 ∨ b % 2 = 1 := by omega
    rcases ha with ha | ha <;> rcases hb with hb | hb <;> simp [ha, hb] at h0 ⊢ <;> omega
  | succ i ih =>
    have h0 := congrArg (fun x => Nat.testBit x 0) h
    simp only [Nat.testBit_and, Nat.testBit_zero] at h0
    have h2 : b / 2 &&& a / 2 = b / 2 := by rw [← Nat.and_div_two, h]
    have hle : b / 2 ≤ a / 2 := by rw [← h2]; exact Nat.and_le_right
    have ha : a % 2 = 0 ∨ a % 2 = 1 := by omega
    have hb : b % 2 = 0 ∨ b % 2 = 1 := by omega
    have e : (a - b) / 2 = a / 2 - b / 2 := by
      rcases ha with ha | ha <;> rcases hb with hb | hb <;> simp [ha, hb] at h0 <;> omega
    rw [Nat.testBit_succ, Nat.testBit_succ, Nat.testBit_succ, e, ih h2]
theorem sub_of_bits {a b : Nat} (h : ∀ i, b.testBit i = true → a.testBit i = true) : b &&& a = b := by
  refine Nat.eq_of_testBit_eq fun i => ?_
  rw [Nat.testBit_and]
  cases hb : b.testBit i with
  | false => rfl
  | true => rw [h i hb]; rfl
theorem bits_of_sub {a b : Nat} (h : b &&& a = b) {i : Nat} (hi : b.testBit i = true) : a.testBit i = true := by
  rw [← h, Nat.testBit_and, Bool.and_eq_true] at hi
  exact hi.2
def rowN (l : List Int) : Nat := l.foldl (fun x k => x ||| 2 ^ k.toNat) 0
theorem rowN_go : ∀ (l : List Int) (x : Nat), (∀ c ∈ l, 0 ≤ c ∧ c < 10) → x < 2 ^ 10 → l.foldl (fun x c => x ||| 2 ^ c.toNat) x < 2 ^ 10 ∧ ∀ k, (l.foldl (fun x c => x ||| 2 ^ c.toNat) x).testBit k = (x.testBit k || l.contains (k : Int))
  | [], x, _, hx => ⟨hx, fun k => by simp⟩
  | c :: l, x, h, hx => by
    have hc := h c (List.mem_cons_self ..)
    have hp : 2 ^ c.toNat < 2 ^ 10 := Nat.pow_lt_pow_right (by decide) (by omega)
    have hs := rowN_go l (x ||| 2 ^ c.toNat) (fun d hd => h d (List.mem_cons_of_mem _ hd)) (Nat.or_lt_two_pow hx hp)
    rw [List.foldl_cons]
    refine ⟨hs.1, fun k => ?_⟩
    rw [hs.2 k, Nat.testBit_or, Nat.testBit_two_pow, List.contains_cons, Bool.or_assoc]
    congr 2
    rw [Bool.eq_iff_iff, decide_eq_true_eq, beq_iff_eq]; omega
theorem rowN_is {l : List Int} (h : ∀ c ∈ l, 0 ≤ c ∧ c < 10) : rowN l < 2 ^ 10 ∧ ∀ k, (rowN l).testBit k = l.contains (k : Int) := by
  obtain ⟨h1, h2⟩ := rowN_go l 0 h (by decide)
  exact ⟨h1, fun k => by have := h2 k; unfold rowN; rw [this]; simp⟩
theorem ris_iff {p : Pile} {l : List Int} : risingF p.st.length (-1) l = true ↔ Ris p l := by
  have key : ∀ (l : List Int) (last : Int), risingF p.st.length last l = true ↔ l.Pairwise (· < ·) ∧ ∀ x ∈ l, last < x ∧ x < p.st.length := by
    intro l
    induction l with
    | nil => intro last; exact ⟨fun _ => ⟨.nil, fun _ h => nomatch h⟩, fun _ => rfl⟩
    | cons k l ih =>
      intro last
      rw [rising_cons, ih, List.pairwise_cons]
      constructor
      · rintro ⟨h1, h2, h3⟩
        refine ⟨⟨fun x hx => (h3 x hx).1, h2⟩, fun x hx => ?_⟩
        rcases List.mem_cons.1 hx with rfl | hx
        · omega
        · have := h3 x hx; omega
      · rintro ⟨⟨h1, h2⟩, h3⟩
        have := h3 k (by simp)
        exact ⟨by omega, h2, fun x hx => ⟨h1 x hx, (h3 x (by simp [hx])).2⟩⟩
  rw [key]
  exact ⟨fun h => ⟨h.1, fun x hx => by have := h.2 x hx; omega⟩, fun h => ⟨h.r, fun x hx => by have := h.i x hx; omega⟩⟩
def wideK (p : Pile) (S : Nat) : Nat → Int
  | 0 => 0
  | k + 1 => wideK p S k + if S.testBit k = true then stv p k else 0
theorem wideK_bd {p : Pile} (hp : p.Ok) (S : Nat) : ∀ {k : Nat}, k ≤ p.st.length → 0 ≤ wideK p S k ∧ wideK p S k ≤ 500 * (k : Int)
  | 0, _ => by simp [wideK]
  | k + 1, h => by
    have ih := wideK_bd hp S (k := k) (by omega)
    have := stv_in hp (k := (k : Int)) (by omega)
    rw [wideK]
    split <;> omega
def isBar (p : Pile) (S : Nat) : Bool := cond ((S : Int) != 0) (wi (wideK p S p.st.length) (p.girth - p.play) p.girth) false
theorem listL_succ (n : Nat) (L : Nat → Bool) : listL (n + 1) L = listL n L ++ if L n = true then [(n : Int)] else [] := by
  unfold listL
  rw [List.range_succ, List.filter_append, List.map_append]
  cases h : L n <;> simp [h]
theorem wide_list (p : Pile) (S : Nat) : ∀ n, (wds p (listL n S.testBit)).sum = wideK p S n
  | 0 => rfl
  | n + 1 => by
    have ih := wide_list p S n
    unfold wds at ih ⊢
    rw [listL_succ, List.map_append, List.sum_append, ih, wideK]
    split <;> simp
def rowS (p : Pile) (S : Nat) : List Int := listL p.st.length S.testBit
theorem rowS_ris (p : Pile) (S : Nat) : Ris p (rowS p S) := ris_iff.1 (rising_list _ _)
theorem rowS_mem {p : Pile} {S : Nat} {k : Int} : k ∈ rowS p S ↔ (0 ≤ k ∧ k < p.st.length) ∧ S.testBit k.toNat = true := by
  unfold rowS listL
  rw [List.mem_map]
  constructor
  · rintro ⟨i, hi, rfl⟩
    rw [List.mem_filter, List.mem_range] at hi
    refine ⟨⟨Int.natCast_nonneg i, ?_⟩, hi.2⟩
    show (i : Int) < _
    omega
  · rintro ⟨h1, h2⟩
    exact ⟨k.toNat, List.mem_filter.2 ⟨List.mem_range.2 (by omega), h2⟩, by show ((k.toNat : Nat) : Int) = k; omega⟩
theorem row_back {p : Pile} (hp : p.Ok) {l : List Int} (h : Ris p l) : rowS p (rowN l) = l := by
  have hn := hp.n
  have h1 := (rowN_is (l := l) fun c hc => by have := h.i c hc; omega).2
  have := rising_set (ris_iff.2 h)
  unfold rowS
  rw [← this]
  exact (listL_congr fun i _ => by rw [this]; exact h1 i)
theorem isBar_row {p : Pile} (hp : p.Ok) {l : List Int} (h : Ris p l) : isBar p (rowN l) = isB p l := by
  have hn := hp.n
  have h1 := (rowN_is (l := l) fun c hc => by have := h.i c hc; omega).2
  unfold isBar isB
  have e : wideK p (rowN l) p.st.length = (wds p l).sum := by
    rw [← wide_list]
    have := row_back hp h
    unfold rowS at this
    rw [this]
  rw [e]
  have e2 : (((rowN l : Nat) : Int) != 0) = decide ((l.length : Int) > 0) := by
    cases l with
    | nil => rfl
    | cons a t =>
      have ha := h.i a (by simp)
      have h2 := h1 a.toNat
      rw [show ((a.toNat : Nat) : Int) = a by omega, List.contains_cons, beq_self_eq_true, Bool.true_or] at h2
      have : rowN (a :: t) ≠ 0 := fun h3 => by rw [h3, Nat.zero_testBit] at h2; cases h2
      rw [decide_eq_true (by simp only [List.length_cons]; omega)]
      simpa using this
  rw [e2]
theorem bit_of_ne {S n : Nat} (hS : S < 2 ^ n) (h : S ≠ 0) : ∃ i, i < n ∧ S.testBit i = true := by
  refine Classical.byContradiction fun hc => h (Nat.eq_of_testBit_eq fun i => ?_)
  rw [Nat.zero_testBit]
  by_cases hi : i < n
  · cases hb : S.testBit i with
    | false => rfl
    | true => exact absurd ⟨i, hi, hb⟩ hc
  · exact Nat.testBit_lt_two_pow (Nat.lt_of_lt_of_le hS (Nat.pow_le_pow_right (by decide) (by omega)))
theorem isB_rowS {p : Pile} {S : Nat} (hS : S < 2 ^ p.st.length) (h : isBar p S = true) : isB p (rowS p S) = true := by
  unfold isBar at h
  rw [c_and, Bool.and_eq_true] at h
  have e : (wds p (rowS p S)).sum = wideK p S p.st.length := wide_list p S _
  unfold isB
  rw [e, h.2, c_and, Bool.and_true, decide_eq_true_eq]
  obtain ⟨i, h1, h2⟩ := bit_of_ne hS (by simpa using h.1)
  have hm : (i : Int) ∈ rowS p S := rowS_mem.2 ⟨by omega, by rw [Int.toNat_natCast]; exact h2⟩
  have := List.length_pos_of_mem hm
  omega
def gS (p : Pile) (S : Nat) : List Bool := (List.range 10).map fun i => decide (i < p.st.length) && !S.testBit i
theorem gS_gn {p : Pile} (hp : p.Ok) (S : Nat) {k : Int} (h : 0 ≤ k ∧ k < p.st.length) : gn (gS p S) k = !S.testBit k.toNat := by
  have hn := hp.n
  unfold gn gS
  rw [List.getD_eq_getElem?_getD, List.getElem?_map, List.getElem?_range (by omega)]
  simp only [Option.map_some, Option.getD_some]
  rw [decide_eq_true (by omega), Bool.true_and]
theorem gS_ok {p : Pile} (hp : p.Ok) (S : Nat) : GOk p (gS p S) := ⟨by simp [gS], fun i hi => by
  unfold gn gS
  rw [List.getD_eq_getElem?_getD, List.getElem?_map]
  by_cases h : i.toNat < 10
  · rw [List.getElem?_range h]
    simp only [Option.map_some, Option.getD_some]
    rw [decide_eq_false (by omega), Bool.false_and]
  · rw [List.getElem?_eq_none (by simp; omega)]; rfl⟩
def PackS (p : Pile) (S : Nat) (L : List (List Int)) : Prop := Pack p (gS p S) L
theorem packS_iff {p : Pile} (hp : p.Ok) {S : Nat} {L : List (List Int)} (hr : ∀ s ∈ L, Ris p s) : (∀ s ∈ L, ∀ k ∈ s, gn (gS p S) k = false) ↔ ∀ s ∈ L, ∀ k ∈ s, S.testBit k.toNat = true := by
  refine forall_congr' fun s => forall_congr' fun hs => forall_congr' fun k => forall_congr' fun hk => ?_
  rw [gS_gn hp S ((hr s hs).i k hk)]
  cases S.testBit k.toNat <;> simp
noncomputable def valS (p : Pile) (S : Nat) : Nat := (mostF p 10 (gS p S)).length
theorem valS_ge {p : Pile} (hp : p.Ok) {S : Nat} {L : List (List Int)} (h : PackS p S L) : L.length ≤ valS p S :=
  most_ge hp 10 _ (gS_ok hp S) (by have := leftN_le p (gS p S); have := hp.n; omega) L h
theorem valS_has {p : Pile} (hp : p.Ok) (S : Nat) : ∃ L, PackS p S L ∧ L.length = valS p S := ⟨_, most_pack hp 10 _ (gS_ok hp S), rfl⟩
theorem valS_le (p : Pile) (S : Nat) : valS p S ≤ 10 := mostF_len p 10 _
theorem val_up {p : Pile} (hp : p.Ok) {S b : Nat} (hb : b < 2 ^ p.st.length) (h1 : isBar p b = true) (h2 : b &&& S = b) : 1 + valS p (S - b) ≤ valS p S := by
  obtain ⟨L, hL, hl⟩ := valS_has hp (S - b)
  have hf := (packS_iff hp hL.r).1 hL.f
  have hP : PackS p S (rowS p b :: L) := by
    have hr : ∀ s ∈ rowS p b :: L, Ris p s := fun s hs => by
      rcases List.mem_cons.1 hs with rfl | hs
      · exact rowS_ris p b
      · exact hL.r s hs
    refine ⟨hr, fun s hs => ?_, (packS_iff hp hr).2 fun s hs k hk => ?_, List.pairwise_cons.2 ⟨fun t ht k hk hkt => ?_, hL.d⟩⟩
    · rcases List.mem_cons.1 hs with rfl | hs
      · exact isB_rowS hb h1
      · exact hL.b s hs
    · rcases List.mem_cons.1 hs with rfl | hs
      · exact bits_of_sub h2 (rowS_mem.1 hk).2
      · have := hf s hs k hk
        rw [sub_bit h2, Bool.and_eq_true] at this
        exact this.1
    · have := hf t ht k hkt
      rw [sub_bit h2, (rowS_mem.1 hk).2] at this
      simp at this
  have := valS_ge hp hP
  rw [List.length_cons] at this
  omega
theorem val_down {p : Pile} (hp : p.Ok) {S : Nat} (hv : 0 < valS p S) : ∃ b, b < 2 ^ p.st.length ∧ isBar p b = true ∧ b &&& S = b ∧ valS p S ≤ 1 + valS p (S - b) := by
  obtain ⟨L, hL, hl⟩ := valS_has hp S
  have hn := hp.n
  cases L with
  | nil => simp at hl; omega
  | cons s L =>
    have hf := (packS_iff hp hL.r).1 hL.f
    have hr := hL.r s (by simp)
    have hbits := (rowN_is (l := s) fun c hc => by have := hr.i c hc; omega).2
    have hlt : rowN s < 2 ^ p.st.length := by
      refine Nat.lt_pow_two_of_testBit _ fun i hi => ?_
      rw [hbits i]
      cases hc : s.contains (i : Int) with
      | false => rfl
      | true =>
        have := hr.i _ (List.contains_iff_mem.1 hc)
        omega
    have hsub : rowN s &&& S = rowN s := sub_of_bits fun i hi => by
      rw [hbits i] at hi
      have := hf s (by simp) _ (List.contains_iff_mem.1 hi)
      rwa [Int.toNat_natCast] at this
    refine ⟨rowN s, hlt, by rw [isBar_row hp hr]; exact hL.b s (by simp), hsub, ?_⟩
    have hd := List.pairwise_cons.1 hL.d
    have hrL : ∀ t ∈ L, Ris p t := fun t ht => hL.r t (by simp [ht])
    have hP : PackS p (S - rowN s) L := by
      refine ⟨hrL, fun t ht => hL.b t (by simp [ht]), (packS_iff hp hrL).2 fun t ht k hk => ?_, hd.2⟩
      rw [sub_bit hsub, hf t (by simp [ht]) k hk, Bool.true_and, hbits]
      have h0 := (hrL t ht).i k hk
      rw [show ((k.toNat : Nat) : Int) = k by omega]
      cases hc : s.contains k with
      | false => rfl
      | true => exact absurd hk (hd.1 t ht k (List.contains_iff_mem.1 hc))
    have := valS_ge hp hP
    rw [List.length_cons] at hl
    omega
def barsN (p : Pile) (n : Nat) : List Nat := (List.range n).filter fun S => isBar p S
theorem barsN_succ (p : Pile) (n : Nat) : barsN p (n + 1) = barsN p n ++ if isBar p n = true then [n] else [] := by
  unfold barsN
  rw [List.range_succ, List.filter_append]
  cases h : isBar p n <;> simp [h]
noncomputable def valK (p : Pile) (S : Nat) (l : List Nat) : Nat := l.foldl (fun v b => if b &&& S = b then max v (1 + valS p (S - b)) else v) 0
theorem valK_le {p : Pile} (hp : p.Ok) {S : Nat} : ∀ (l : List Nat) (v : Nat), (∀ b ∈ l, b < 2 ^ p.st.length ∧ isBar p b = true) → v ≤ valS p S → l.foldl (fun v b => if b &&& S = b then max v (1 + valS p (S - b)) else v) v ≤ valS p S ∧ v ≤ l.foldl (fun v b => if b &&& S = b then max v (1 + valS p (S - b)) else v) v ∧
      ∀ b ∈ l, b &&& S = b → 1 + valS p (S - b) ≤ l.foldl (fun v b => if b &&& S = b then max v (1 + valS p (S - b)) else v) v
  | [], v, _, hv => ⟨hv, Nat.le_refl _, fun _ h => nomatch h⟩
  | b :: l, v, h, hv => by
    have hb := h b (by simp)
    rw [List.foldl_cons]
    have key : (if b &&& S = b then max v (1 + valS p (S - b)) else v) ≤ valS p S ∧ v ≤ (if b &&& S = b then max v (1 + valS p (S - b)) else v) ∧ (b &&& S = b → 1 + valS p (S - b) ≤ (if b &&& S = b then max v (1 + valS p (S - b)) else v)) := by
      by_cases hs : b &&& S = b
      · have := val_up hp hb.1 hb.2 hs
        rw [if_pos hs]
        exact ⟨by omega, by omega, fun _ => by omega⟩
      · rw [if_neg hs]; exact ⟨hv, Nat.le_refl _, fun h => absurd h hs⟩
    obtain ⟨h1, h2, h3⟩ := valK_le hp l _ (fun x hx => h x (by simp [hx])) key.1
    refine ⟨h1, by omega, fun x hx hxs => ?_⟩
    rcases List.mem_cons.1 hx with rfl | hx
    · have := key.2.2 hxs; omega
    · exact h3 x hx hxs
theorem barsN_mem {p : Pile} {S : Nat} : S ∈ barsN p (2 ^ p.st.length) ↔ S < 2 ^ p.st.length ∧ isBar p S = true := by
  unfold barsN
  rw [List.mem_filter, List.mem_range]
theorem valK_is {p : Pile} (hp : p.Ok) (S : Nat) : valK p S (barsN p (2 ^ p.st.length)) = valS p S := by
  obtain ⟨h1, _, h3⟩ := valK_le hp (S := S) (barsN p (2 ^ p.st.length)) 0 (fun b hb => barsN_mem.1 hb) (Nat.zero_le _)
  unfold valK
  by_cases hv : 0 < valS p S
  · obtain ⟨b, b1, b2, b3, b4⟩ := val_down hp hv
    have := h3 b (barsN_mem.2 ⟨b1, b2⟩) b3
    omega
  · omega
theorem gS_all {p : Pile} (hp : p.Ok) : gS p (2 ^ p.st.length - 1) = g0 := by
  unfold gS g0
  refine List.ext_getElem (by simp) fun i h1 h2 => ?_
  simp only [List.getElem_map, List.getElem_range, List.getElem_replicate]
  rw [Nat.testBit_two_pow_sub_one]
  cases decide (i < p.st.length) <;> rfl
theorem valS_all {p : Pile} (hp : p.Ok) : valS p (2 ^ p.st.length - 1) = (mostF p 10 g0).length := by unfold valS; rw [gS_all hp]
theorem SetR_len {p : Pile} (hpo : p.ok = true) : (SetR p).1.length = (mostF p 10 g0).length := by
  unfold SetR
  rw [if_pos hpo]
  by_cases h : mostF p 10 g0 = []
  · rw [if_pos h, h]
  · rw [if_neg h]
end Go.AL.Br

namespace Go.AL.Br
open Go Go.AL Go.AL.Q
def areSp (p : Pile) : Nat → List NL → Bool
  | _, [] => true
  | T, s :: ss => if risingF p.st.length (-1) s.l = true then if cond ((((rowN s.l &&& T : Nat) : Int)) != 0) true (!isBar p (rowN s.l)) = true then false else areSp p (T ||| rowN s.l) ss else false
theorem areSp_is {p : Pile} (hp : p.Ok) : ∀ (l : List NL) (T : Nat) (g : List Bool), g.length = 10 → (∀ k : Int, 0 ≤ k ∧ k < p.st.length → gn g k = T.testBit k.toNat) → areSp p T l = areGo p g l
  | [], T, g, _, _ => rfl
  | s :: ss, T, g, hg, hT => by
    have hn := hp.n
    rw [areSp, areGo]
    by_cases hr : risingF p.st.length (-1) s.l = true
    · have hR := ris_iff.1 hr
      have hbits := (rowN_is (l := s.l) fun c hc => by have := hR.i c hc; omega).2
      rw [if_pos hr, isBar_row hp hR]
      by_cases hz : rowN s.l &&& T = 0
      · have hf : ∀ k ∈ s.l, gn g k = false := fun k hk => by
          have h0 := hR.i k hk
          have := congrArg (fun x => Nat.testBit x k.toNat) hz
          simp only [Nat.testBit_and, Nat.zero_testBit] at this
          rw [hbits, show ((k.toNat : Nat) : Int) = k by omega, List.contains_iff_mem.2 hk, Bool.true_and] at this
          rw [hT k h0, this]
        rw [(areRow_ris hp hg).2 ⟨⟨hR, hf⟩, rfl⟩, hz]
        simp only
        cases hb : isB p s.l with
        | false => rfl
        | true =>
          rw [if_neg (by decide), if_pos rfl]
          refine areSp_is hp ss _ _ (by rw [markG_len]; exact hg) fun k hk => ?_
          rw [markG_gn (in_ten hp hg hR.i) hk.1, hT k hk, Nat.testBit_or, hbits, show ((k.toNat : Nat) : Int) = k by omega, Bool.or_comm]
          congr 1
          rw [Bool.eq_iff_iff, decide_eq_true_eq, List.contains_iff_mem]
      · have hno : areRow p.st.length g (-1) s.l = none := by
          cases h : areRow p.st.length g (-1) s.l with
          | none => rfl
          | some g' =>
            obtain ⟨⟨_, hf⟩, _⟩ := (areRow_ris hp hg).1 h
            refine absurd (Nat.eq_of_testBit_eq fun i => ?_) hz
            rw [Nat.testBit_and, Nat.zero_testBit, hbits]
            cases hc : s.l.contains (i : Int) with
            | false => rfl
            | true =>
              have hm := List.contains_iff_mem.1 hc
              have := hT i (hR.i _ hm)
              rw [hf _ hm, Int.toNat_natCast] at this
              rw [← this]; rfl
        rw [hno, show ((((rowN s.l &&& T : Nat) : Int)) != 0) = true by simpa using hz]
        rfl
    · rw [if_neg hr]
      have hno : areRow p.st.length g (-1) s.l = none := by
        cases h : areRow p.st.length g (-1) s.l with
        | none => rfl
        | some g' => exact absurd (ris_iff.2 ((areRow_ris hp hg).1 h).1.1) hr
      rw [hno]
theorem areSp_0 {p : Pile} (hp : p.Ok) (l : List NL) : areSp p 0 l = areGo p g0 l := areSp_is hp l 0 g0 rfl fun k hk => by
  unfold gn g0
  rw [Nat.zero_testBit, List.getD_eq_getElem?_getD, List.getElem?_replicate]
  split <;> rfl
theorem valS_zero {p : Pile} (hp : p.Ok) : valS p 0 = 0 := by
  refine Classical.byContradiction fun h => ?_
  obtain ⟨b, b1, b2, b3, _⟩ := val_down hp (S := 0) (by omega)
  rw [Nat.and_zero] at b3
  subst b3
  cases b2
noncomputable def tblL (p : Pile) (s v : Nat) : List Int := (List.range (2 ^ p.st.length)).map fun t => ((if t < s then valS p t else if t = s then v else 0 : Nat) : Int)
theorem tblL_len (p : Pile) (s v : Nat) : (tblL p s v).length = 2 ^ p.st.length := by simp [tblL]
theorem tblL_get {p : Pile} {s v t : Nat} (h : t < 2 ^ p.st.length) : (tblL p s v).getD t 0 = ((if t < s then valS p t else if t = s then v else 0 : Nat) : Int) := by
  unfold tblL
  rw [List.getD_eq_getElem?_getD, List.getElem?_map, List.getElem?_range h]; rfl
theorem tblL_set (p : Pile) (s v w : Nat) : (tblL p s v).set s (w : Int) = tblL p s w := by
  refine List.ext_getElem (by simp [tblL]) fun i h1 h2 => ?_
  simp only [List.getElem_set, tblL, List.getElem_map, List.getElem_range]
  by_cases e : s = i
  · subst e; rw [if_pos rfl, if_neg (by omega), if_pos rfl]
  · rw [if_neg e]
    by_cases h : i < s
    · rw [if_pos h, if_pos h]
    · rw [if_neg h, if_neg h, if_neg (fun h => e h.symm), if_neg (fun h => e h.symm)]
theorem tblL_next (p : Pile) (s : Nat) : tblL p s (valS p s) = tblL p (s + 1) 0 := by
  unfold tblL
  refine List.map_congr_left fun t _ => ?_
  congr 1
  by_cases h : t < s
  · rw [if_pos h, if_pos (by omega)]
  · rw [if_neg h]
    by_cases e : t = s
    · subst e; rw [if_pos rfl, if_pos (by omega)]
    · rw [if_neg e, if_neg (by omega)]; split <;> rfl
theorem tblL_zero {p : Pile} (hp : p.Ok) : tblL p 1 0 = List.replicate (2 ^ p.st.length) 0 := by
  refine List.ext_getElem (by simp [tblL]) fun i h1 h2 => ?_
  simp only [tblL, List.getElem_map, List.getElem_range, List.getElem_replicate]
  by_cases h : i < 1
  · have : i = 0 := by omega
    subst this
    rw [if_pos h, valS_zero hp]; rfl
  · rw [if_neg h]; split <;> rfl
theorem pow10 {n : Nat} (h : n ≤ 10) : 1 ≤ 2 ^ n ∧ 2 ^ n ≤ 1024 := by
  have : (2 : Nat) ^ n ≤ 2 ^ 10 := Nat.pow_le_pow_right (by decide) h
  have := Nat.one_le_two_pow (n := n)
  omega
theorem shl10 {n : Nat} (h : n ≤ 10) : IntKind.i64.wrap (1 * 2 ^ min n 64) = ((2 ^ n : Nat) : Int) := by
  have hp := pow10 h
  rw [Nat.min_eq_left (by omega), Int.one_mul, show ((2 : Int) ^ n) = ((2 ^ n : Nat) : Int) by norm_cast]
  exact wrap_nat (by omega)
theorem valK_snoc (p : Pile) (S : Nat) (l : List Nat) (b : Nat) : valK p S (l ++ [b]) = if b &&& S = b then max (valK p S l) (1 + valS p (S - b)) else valK p S l := by
  unfold valK
  rw [List.foldl_append]; rfl
end Go.AL.Br

namespace Go.Proofs.Ytampldajinhenaa
open Go Go.AL Go.AL.Q Go.AL.Br
end Go.Proofs.Ytampldajinhenaa

namespace Go.Proofs.Ytampldajinhenaa
open Go Go.AL Go.AL.Q Go.AL.Br
end Go.Proofs.Ytampldajinhenaa

namespace Go.Proofs.Ytampldajinhenaa
open Go Go.AL Go.AL.Q Go.AL.Br
theorem st_at {p : Pile} {i : Nat} (h : i < p.st.length) : (ints p.st)[i]? = some [A.int (stv p i)] := by
  have := ints_getD (l := p.st) (k := i) h
  unfold stv
  rw [Int.toNat_natCast]; exact this
end Go.Proofs.Ytampldajinhenaa

namespace Go.Proofs.Ytampldajinhenaa
open Go Go.AL Go.AL.Q Go.AL.Br
def pB0 (p : Pile) : Bool := cond (cond (wi p.st.length 1 10) (wi p.girth 1 5000) false) (wi p.play 0 100) false
theorem pile_raB (p : Pile) : raB (pB0 p) (fun i => stOk (p.st.getD i 0)) p.st.length = p.ok := by
  unfold Pile.ok raB pB0
  congr 1
  rw [Bool.eq_iff_iff, List.all_eq_true, List.all_eq_true]
  constructor
  · intro h x hx
    obtain ⟨i, hi, rfl⟩ := List.getElem_of_mem hx
    have := h i (List.mem_range.2 hi)
    rwa [show p.st.getD i 0 = p.st[i] by simp [List.getD_eq_getElem?_getD, hi]] at this
  · intro h i hi
    have hi := List.mem_range.1 hi
    rw [show p.st.getD i 0 = p.st[i] by simp [List.getD_eq_getElem?_getD, hi]]
    exact h _ (List.getElem_mem hi)
theorem rpile_t (p : Pile) (hl : (p.st.length : Int) ≤ 9223372036854775806) : Ans Try.prog 19 [.agg p.c] (.int p.chk) := by
  have ll := ints_lenI p.st
  have up : ∀ {m : Nat}, Under m (A.pt p.c) := (Free.pt _ p.free).under
  have c0 := in_t p.st.length 1 10
  rw [← ll] at c0
  refine told Try.func19 rfl rfl (Pure.of tab_ok Try.func19 rfl Try.ntmps19 rfl (all1 (.agg _ p.free)) (all1 (fun _ => rfl)) (by first | exact .s _ | assumption | exact .tup _ (by intro x hx; simp only [List.mem_cons, List.not_mem_nil, or_false] at hx; rcases hx with rfl | rfl | rfl | rfl <;> first | exact .s _ | (simp_all; done))) fun E hE => ?_)
  refine Aw.sm tab_ok mb0 [] rfl rfl ?zo ?zk
  case zo =>
    repeat' apply AllP.cons
    all_goals first | exact trivial
  case zk =>
  refine Aw.sm tab_ok mb0 [(3, [.bool (wi p.st.length 1 10)]), (7, [.bool (wi p.girth 1 5000)]), (12, [.bool (wi p.play 0 100)])] rfl rfl ?zo ?zk
  case zo =>
    repeat' apply AllP.cons
    all_goals first | exact trivial | exact id | exact fun _ => rfl | exact Nat.le_of_ble_eq_true rfl | exact fun _ => Nat.le_of_ble_eq_true rfl | exact fun _ => in_t _ _ _ | exact (ll ▸ c0)
  case zk =>
  refine Aw.seq ?_
  refine Aw.sm tab_ok mb0 [] rfl rfl ?zo ?zk
  case zo =>
    repeat' apply AllP.cons
    all_goals first | exact trivial
  case zk =>
  refine Aw.block (Aw.rounds 0 hE [(1, .pt p.c)] (fun k : Nat => [(3, .bool (raB (pB0 p) (fun i => stOk (p.st.getD i 0)) k)), (4, .int k)]) (fun k => []) (fun k => k ≤ p.st.length) (fun k => p.st.length - k) 0 ?zg ⟨?zc, ?zv, ?zh, Nat.le_of_ble_eq_true rfl⟩ ?zu (fun k zhk => ?zw) (fun k zhk => ?zx) fun k hk => ?zr)
  case zg =>
    (repeat' (first | exact Nat.zero_le _))
  case zc =>
    (repeat' (first | (refine And.intro ?_ ?_) | exact trivial | exact A.Le.refl _))
  case zv =>
    (repeat' (first | (refine And.intro ?_ ?_) | exact trivial | exact A.Le.refl _ | exact .of_eq (by rw [raB_zero]; rfl)))
  case zh =>
    (repeat' (first | exact trivial))
  case zu =>
    (repeat' (first | exact trivial | exact up | (refine And.intro ?_ ?_)))
  case zw =>
    (repeat' (first | exact trivial | exact Under.s _ | (refine And.intro ?_ ?_)))
  case zx =>
    (repeat' (first | exact trivial))
  case zr =>
  refine Aw.seq ?_
  refine Aw.sm tab_ok mb0 [] rfl rfl ?zo ?zk
  case zo =>
    repeat' apply AllP.cons
    all_goals first | exact trivial | exact id | exact fun _ => rfl | exact fun _ => Nat.le_of_ble_eq_true rfl
  case zk =>
  refine Aw.cond rfl (fun h1 => Aw.skip ?_) (fun h1 => ?_)
  · have h1 : cond (raB (pB0 p) (fun i => stOk (p.st.getD i 0)) k) (decide ((k : Int) < ((ints p.st).length : Int))) false = true := h1
    have hb := ac1 h1
    have hlt : k < p.st.length := by have := of_decide_eq_true (ac2 h1); omega
    have hst := raB_step hb
    have hg := ints_getD hlt
    generalize hx : p.st.getD k 0 = x at *
    refine Aw.seq (Aw.block ?_)
    refine Aw.em tab_ok mb0 [(3, [.int x]), (5, [.bool (stOk x)])] rfl rfl ?zo ?zk
    case zo =>
      repeat' apply AllP.cons
      all_goals first | exact trivial | exact rfl | exact Nat.le_of_ble_eq_true rfl | exact Int.natCast_nonneg _ | exact in_t _ _ _ | exact hg
    case zk =>
    refine Aw.em tab_ok mb0 [] rfl rfl ?zo ?zk
    case zo =>
      repeat' apply AllP.cons
      all_goals first | exact trivial | exact inrk k (by omega)
    case zk =>
    refine ⟨k + 1, ?zg, ?zm, ⟨?zc, ?zv, ?zh, Nat.le_of_ble_eq_true rfl⟩⟩
    case zg =>
      (repeat' (first | assumption))
    case zm =>
      (repeat' (first | omega))
    case zc =>
      (repeat' (first | (refine And.intro ?_ ?_) | exact trivial | exact A.Le.refl _))
    case zv =>
      (repeat' (first | (refine And.intro ?_ ?_) | exact trivial | exact A.Le.refl _ | exact .of_eq (congrArg A.bool hst)))
    case zh =>
      (repeat' (first | exact trivial))
  have h1 : cond (raB (pB0 p) (fun i => stOk (p.st.getD i 0)) k) (decide ((k : Int) < ((ints p.st).length : Int))) false = false := h1
  have hend : raB (pB0 p) (fun i => stOk (p.st.getD i 0)) k = false ∨ k = p.st.length := by
    by_cases h3 : raB (pB0 p) (fun i => stOk (p.st.getD i 0)) k = true
    · rw [h3] at h1
      have h1 : decide ((k : Int) < ((ints p.st).length : Int)) = false := h1
      have := of_decide_eq_false h1
      exact .inr (by omega)
    · exact .inl (by simpa using h3)
  have he := raB_end hk hend
  rw [pile_raB] at he
  rw [he]
  refine Aw.exit2 ?_
  refine Aw.seq ?_
  refine Aw.sm tab_ok mb0 [] rfl rfl ?zo ?zk
  case zo =>
    repeat' apply AllP.cons
    all_goals first | exact trivial
  case zk =>
  refine Aw.cond rfl (fun h1 => ?_) (fun h1 => Aw.skip ?_)
  · have hno : p.ok = false := by simpa using h1
    refine Aw.sm tab_ok mb0 [] rfl rfl ?zo ?zk
    case zo =>
      repeat' apply AllP.cons
      all_goals first | exact trivial
    case zk =>
    exact Aw.ret ⟨_, .cons (.tmp _) .nil, by unfold Pile.chk; rw [hno]; rfl⟩
  · have hyes : p.ok = true := by simpa using h1
    refine Aw.sm tab_ok mb0 [] rfl rfl ?zo ?zk
    case zo =>
      repeat' apply AllP.cons
      all_goals first | exact trivial
    case zk =>
    exact Aw.ret ⟨_, .cons (.tmp _) .nil, by unfold Pile.chk; rw [if_pos hyes]; rfl⟩
theorem rwide_t (p : Pile) (hp : p.Ok) (S : Nat) (hS : S < 1024) : Ans Try.prog 91 [.agg p.c, .int S] (.int (wideK p S p.st.length)) := by
  have ll := ints_lenI p.st
  have hn := hp.n
  have up : ∀ {m : Nat}, Under m (A.pt p.c) := (Free.pt _ p.free).under
  refine told Try.func91 rfl rfl (Pure.of tab_ok Try.func91 rfl Try.ntmps91 rfl (allC (.agg _ p.free) (all1 (.s _))) (allC (fun _ => rfl) (all1 (fun _ => rfl))) (by first | exact .s _ | assumption | exact .tup _ (by intro x hx; simp only [List.mem_cons, List.not_mem_nil, or_false] at hx; rcases hx with rfl | rfl | rfl | rfl <;> first | exact .s _ | (simp_all; done))) fun E hE => ?_)
  refine Aw.sm tab_ok mb0 [] rfl rfl ?zo ?zk
  case zo =>
    repeat' apply AllP.cons
    all_goals first | exact trivial
  case zk =>
  refine Aw.sm tab_ok mb0 [] rfl rfl ?zo ?zk
  case zo =>
    repeat' apply AllP.cons
    all_goals first | exact trivial
  case zk =>
  refine Aw.seq ?_
  refine Aw.sm tab_ok mb0 [] rfl rfl ?zo ?zk
  case zo =>
    repeat' apply AllP.cons
    all_goals first | exact trivial
  case zk =>
  refine Aw.block (Aw.rounds 0 hE [(1, .int S), (2, .pt p.c)] (fun k : Nat => [(5, .int (wideK p S k)), (6, .int k)]) (fun k => []) (fun k => k ≤ p.st.length) (fun k => p.st.length - k) 0 ?zg ⟨?zc, ?zv, ?zh, Nat.le_of_ble_eq_true rfl⟩ ?zu (fun k zhk => ?zw) (fun k zhk => ?zx) fun k hk => ?zr)
  case zg =>
    (repeat' (first | exact Nat.zero_le _))
  case zc =>
    (repeat' (first | (refine And.intro ?_ ?_) | exact trivial | exact A.Le.refl _))
  case zv =>
    (repeat' (first | (refine And.intro ?_ ?_) | exact trivial | exact A.Le.refl _))
  case zh =>
    (repeat' (first | exact trivial))
  case zu =>
    (repeat' (first | exact trivial | exact Under.s _ | exact up | (refine And.intro ?_ ?_)))
  case zw =>
    (repeat' (first | exact trivial | exact Under.s _ | (refine And.intro ?_ ?_)))
  case zx =>
    (repeat' (first | exact trivial))
  case zr =>
  refine Aw.seq ?_
  refine Aw.sm tab_ok mb0 [] rfl rfl ?zo ?zk
  case zo =>
    repeat' apply AllP.cons
    all_goals first | exact trivial | exact Nat.le_of_ble_eq_true rfl
  case zk =>
  refine Aw.cond rfl (fun h1 => Aw.skip ?_) (fun h1 => ?_)
  · have hlt : k < p.st.length := by have := of_decide_eq_true h1; omega
    have hg := st_at hlt
    have hw := stv_in hp (k := (k : Int)) (by omega)
    have hbd := wideK_bd hp S (k := k) hk
    have hst : wideK p S (k + 1) = wideK p S k + if S.testBit k = true then stv p k else 0 := rfl
    have c1 := bit_t (S : Int) (k : Int) (Int.natCast_nonneg k)
    have c1 : Ans Try.prog 86 [.int S, .int k] (.bool (bitB S k)) := c1
    rw [bitB_test (by omega) (by omega)] at c1
    generalize stv p k = x at *
    generalize hv1 : wideK p S (k + 1) = v1 at *
    generalize wideK p S k = v at *
    generalize S.testBit k = tb at *
    refine Aw.seq (Aw.block ?_)
    refine Aw.sm tab_ok mb0 [(2, [.bool tb])] rfl rfl ?zo ?zk
    case zo =>
      repeat' apply AllP.cons
      all_goals first | exact trivial | exact c1
    case zk =>
    refine Aw.cond rfl (fun h2 => ?_) (fun h2 => Aw.skip ?_)
    · have h2 : tb = true := h2
      rw [if_pos h2] at hst
      refine Aw.em tab_ok mb0 [(4, [.int x])] rfl rfl ?zo ?zk
      case zo =>
        repeat' apply AllP.cons
        all_goals first | exact trivial | exact rfl | exact Nat.le_of_ble_eq_true rfl | exact Int.natCast_nonneg _ | exact hg | exact (show inR (v + x) by simp only [inR]; omega)
      case zk =>
      refine Aw.em tab_ok mb0 [] rfl rfl ?zo ?zk
      case zo =>
        repeat' apply AllP.cons
        all_goals first | exact trivial | exact inrk k (by omega)
      case zk =>
      refine ⟨k + 1, ?zg, ?zm, ⟨?zc, ?zv, ?zh, Nat.le_of_ble_eq_true rfl⟩⟩
      case zg =>
        (repeat' (first | assumption))
      case zm =>
        (repeat' (first | omega))
      case zc =>
        (repeat' (first | (refine And.intro ?_ ?_) | exact trivial | exact A.Le.refl _))
      case zv =>
        (repeat' (first | (refine And.intro ?_ ?_) | exact trivial | exact A.Le.refl _ | exact .of_eq (congrArg A.int (hv1.trans hst))))
      case zh =>
        (repeat' (first | exact trivial))
    · have h2 : tb = false := h2
      rw [h2, if_neg (by decide)] at hst
      refine Aw.em tab_ok mb0 [] rfl rfl ?zo ?zk
      case zo =>
        repeat' apply AllP.cons
        all_goals first | exact trivial | exact inrk k (by omega)
      case zk =>
      refine ⟨k + 1, ?zg, ?zm, ⟨?zc, ?zv, ?zh, Nat.le_of_ble_eq_true rfl⟩⟩
      case zg =>
        (repeat' (first | assumption))
      case zm =>
        (repeat' (first | omega))
      case zc =>
        (repeat' (first | (refine And.intro ?_ ?_) | exact trivial | exact A.Le.refl _))
      case zv =>
        (repeat' (first | (refine And.intro ?_ ?_) | exact trivial | exact A.Le.refl _ | exact .of_eq (congrArg A.int (hv1.trans (by omega)))))
      case zh =>
        (repeat' (first | exact trivial))
  have hle : k = p.st.length := by have := of_decide_eq_false h1; omega
  subst hle
  refine Aw.exit2 ?_
  refine Aw.sm tab_ok mb0 [] rfl rfl ?zo ?zk
  case zo =>
    repeat' apply AllP.cons
    all_goals first | exact trivial
  case zk =>
  exact Aw.ret ⟨_, .cons (.tmp _) .nil, rfl⟩
theorem risB_t (p : Pile) (hp : p.Ok) (S : Nat) (hS : S < 1024) : Ans Try.prog 65 [.agg p.c, .int S] (.bool (isBar p S)) := by
  have hg := hp.g
  have hpl := hp.pl
  have c1 := rwide_t p hp S hS
  have hd : isBar p S = cond ((S : Int) != 0) (wi (wideK p S p.st.length) (p.girth - p.play) p.girth) false := rfl
  rw [hd]
  generalize wideK p S p.st.length = w at *
  refine told Try.func65 rfl rfl (Pure.of tab_ok Try.func65 rfl Try.ntmps65 rfl (allC (.agg _ p.free) (all1 (.s _))) (allC (fun _ => rfl) (all1 (fun _ => rfl))) (by first | exact .s _ | assumption | exact .tup _ (by intro x hx; simp only [List.mem_cons, List.not_mem_nil, or_false] at hx; rcases hx with rfl | rfl | rfl | rfl <;> first | exact .s _ | (simp_all; done))) fun E hE => ?_)
  refine Aw.sm tab_ok mb0 [] rfl rfl ?zo ?zk
  case zo =>
    repeat' apply AllP.cons
    all_goals first | exact trivial
  case zk =>
  refine Aw.sd tab_ok mixed mb0 [(5, [.int w]), (13, [.bool (wi w (p.girth - p.play) p.girth)])] rfl (by kernel_rfl) rfl rfl ?zo ?zk
  case zo =>
    repeat' apply AllP.cons
    all_goals first | exact trivial | exact id | exact fun _ => rfl | exact fun _ => Nat.le_of_ble_eq_true rfl | exact fun _ => in_t _ _ _ | exact fun _ => c1 | exact fun _ => (show inR (p.girth - p.play) by simp only [inR]; omega)
  case zk =>
  exact Aw.ret ⟨_, .cons (.tmp _) .nil, rfl⟩
set_option maxHeartbeats 1000000 in
theorem rare_t (p : Pile) (hpl : (p.st.length : Int) ≤ 9223372036854775806) (b : Bool) (l : List NL) (hl : (l.length : Int) ≤ 9223372036854775806) (hll : ∀ x ∈ l, (x.l.length : Int) ≤ 9223372036854775806) :
    Ans Try.prog 17 [.agg p.c, .sl b .any (l.map NL.c)] (.tup [.bool (AreR p l).1, .int (AreR p l).2]) := by
  have ll : ((l.map NL.c).length : Int) = l.length := by simp
  have lst := ints_lenI p.st
  have fl : Free (.sl b .any (l.map NL.c)) := free_map NL.free _ _ _
  have ul : ∀ {m : Nat}, Under m (A.sl b .any (l.map NL.c)) := fl.under
  have up : ∀ {m : Nat}, Under m (A.pt p.c) := (Free.pt _ p.free).under
  have c1 := rpile_t p hpl
  have hfr : Free (.tup [.bool (AreR p l).1, .int (AreR p l).2]) := .tup _ (allC (.s _) (all1 (.s _)))
  refine told Try.func17 rfl rfl (Pure.of tab_ok Try.func17 rfl Try.ntmps17 rfl (allC (.agg _ p.free) (all1 (fl))) (allC (fun _ => rfl) (all1 (fun _ => rfl))) (by first | exact .s _ | assumption | exact .tup _ (by intro x hx; simp only [List.mem_cons, List.not_mem_nil, or_false] at hx; rcases hx with rfl | rfl | rfl | rfl <;> first | exact .s _ | (simp_all; done))) fun E hE => ?_)
  clear hfr
  refine Aw.sm tab_ok mb0 [] rfl rfl ?zo ?zk
  case zo =>
    repeat' apply AllP.cons
    all_goals first | exact trivial
  case zk =>
  by_cases hpo : p.ok = true
  rotate_left
  · have e : AreR p l = (false, 60) := by unfold AreR; rw [if_neg hpo]
    have e2 : p.chk = 60 := by unfold Pile.chk; rw [if_neg hpo]
    rw [e2] at c1
    rw [e]
    refine Aw.seq ?_
    refine Aw.sm tab_ok mb0 [(1, [.int 60])] rfl rfl ?zo ?zk
    case zo =>
      repeat' apply AllP.cons
      all_goals first | exact trivial | exact Nat.le_of_ble_eq_true rfl | exact c1
    case zk =>
    refine Aw.sm tab_ok mb0 [] rfl rfl ?zo ?zk
    case zo =>
      repeat' apply AllP.cons
      all_goals first | exact trivial
    case zk =>
    refine Aw.cond rfl (fun h => ?_) (fun h => by cases h)
    refine Aw.sm tab_ok mb0 [] rfl rfl ?zo ?zk
    case zo =>
      repeat' apply AllP.cons
      all_goals first | exact trivial
    case zk =>
    exact Aw.ret ⟨_, .cons (.tmp _) (.cons (.tmp _) .nil), rfl⟩
  have e2 : p.chk = 0 := by unfold Pile.chk; rw [if_pos hpo]
  rw [e2] at c1
  have hp := Pile.ok_iff.1 hpo
  have hn := hp.n
  have e : AreR p l = (areSp p 0 l, 0) := by unfold AreR; rw [if_pos hpo, areSp_0 hp]
  rw [e]
  generalize hR : areSp p 0 l = R at *
  refine Aw.seq ?_
  refine Aw.sm tab_ok mb0 [(1, [.int 0])] rfl rfl ?zo ?zk
  case zo =>
    repeat' apply AllP.cons
    all_goals first | exact trivial | exact Nat.le_of_ble_eq_true rfl | exact c1
  case zk =>
  refine Aw.sm tab_ok mb0 [] rfl rfl ?zo ?zk
  case zo =>
    repeat' apply AllP.cons
    all_goals first | exact trivial
  case zk =>
  refine Aw.cond rfl (fun h => by cases h) (fun h => Aw.skip ?_)
  refine Aw.sm tab_ok mb0 [] rfl rfl ?zo ?zk
  case zo =>
    repeat' apply AllP.cons
    all_goals first | exact trivial
  case zk =>
  refine Aw.seq ?_
  refine Aw.sm tab_ok mb0 [] rfl rfl ?zo ?zk
  case zo =>
    repeat' apply AllP.cons
    all_goals first | exact trivial
  case zk =>
  refine Aw.block (Aw.rounds 0 hE [(1, .sl b .any (l.map NL.c)), (2, .pt p.c)] (fun i : (Nat×Nat) => [(7, .int i.2), (8, .int i.1)]) (fun i => []) (fun i => i.1 ≤ l.length ∧ i.2 < 2 ^ 10 ∧ areSp p i.2 (l.drop i.1) = R) (fun i => l.length - i.1) (0, 0) ?zg ⟨?zc, ?zv, ?zh, Nat.le_of_ble_eq_true rfl⟩ ?zu (fun i zhk => ?zw) (fun i zhk => ?zx) fun i hk => ?zr)
  case zg =>
    (repeat' (first | exact ⟨Nat.zero_le _, by decide, hR⟩))
  case zc =>
    (repeat' (first | (refine And.intro ?_ ?_) | exact trivial | exact A.Le.refl _))
  case zv =>
    (repeat' (first | (refine And.intro ?_ ?_) | exact trivial | exact A.Le.refl _))
  case zh =>
    (repeat' (first | exact trivial))
  case zu =>
    (repeat' (first | exact trivial | exact ul | exact up | (refine And.intro ?_ ?_)))
  case zw =>
    (repeat' (first | exact trivial | exact Under.s _ | (refine And.intro ?_ ?_)))
  case zx =>
    (repeat' (first | exact trivial))
  case zr =>
  obtain ⟨i, T⟩ := i
  obtain ⟨hk, hT, hgo⟩ := hk
  simp only at hk hT hgo
  refine Aw.seq ?_
  refine Aw.sm tab_ok mb0 [] rfl rfl ?zo ?zk
  case zo =>
    repeat' apply AllP.cons
    all_goals first | exact trivial
  case zk =>
  refine Aw.cond rfl (fun h1 => Aw.skip ?_) (fun h1 => ?_)
  rotate_left
  · have h1 : decide ((i : Int) < ((l.map NL.c).length : Int)) = false := h1
    have hle : i = l.length := by have := of_decide_eq_false h1; omega
    subst hle
    rw [List.drop_length] at hgo
    have hgo : true = R := hgo
    subst hgo
    refine Aw.exit2 ?_
    refine Aw.sm tab_ok mb0 [] rfl rfl ?zo ?zk
    case zo =>
      repeat' apply AllP.cons
      all_goals first | exact trivial
    case zk =>
    exact Aw.ret ⟨_, .cons (.tmp _) (.cons (.tmp _) .nil), rfl⟩
  have h1 : decide ((i : Int) < ((l.map NL.c).length : Int)) = true := h1
  have hlt : i < l.length := by have := of_decide_eq_true h1; omega
  have hg : (l.map NL.c)[i]? = some l[i].c := get_map hlt
  have hxl := hll _ (List.getElem_mem hlt)
  rw [List.drop_eq_getElem_cons hlt, areSp] at hgo
  generalize l[i] = x at *
  have lx := ints_lenI x.l
  have c2 := rising_t x.l x.n p.st.length (by omega) (by omega)
  rw [← lst] at c2
  have c2 : Ans Try.prog 64 [.sl x.n .any (ints x.l), .int ((ints p.st).length : Nat)] (.bool (risingF p.st.length (-1) x.l)) := by rw [lst] at c2; rw [lst]; exact c2
  refine Aw.seq (Aw.block ?_)
  refine Aw.seq ?_
  refine Aw.sd tab_ok mixed mb0 [(2, x.c), (7, [.bool (risingF p.st.length (-1) x.l)])] rfl (by kernel_rfl) rfl rfl ?zo ?zk
  case zo =>
    repeat' apply AllP.cons
    all_goals first | exact trivial | exact rfl | exact Nat.le_of_ble_eq_true rfl | exact Int.natCast_nonneg _ | exact hg | exact c2
  case zk =>
  by_cases hris : risingF p.st.length (-1) x.l = true
  rotate_left
  · rw [if_neg hris] at hgo
    subst hgo
    have hris : risingF p.st.length (-1) x.l = false := by simpa using hris
    rw [hris]
    refine Aw.cond rfl (fun h => ?_) (fun h => by cases h)
    refine Aw.sm tab_ok mb0 [] rfl rfl ?zo ?zk
    case zo =>
      repeat' apply AllP.cons
      all_goals first | exact trivial
    case zk =>
    exact Aw.ret ⟨_, .cons (.tmp _) (.cons (.tmp _) .nil), rfl⟩
  rw [if_pos hris] at hgo
  have hRis := ris_iff.1 hris
  rw [hris]
  refine Aw.cond rfl (fun h => by cases h) (fun h => Aw.skip ?_)
  have hxi : ∀ c ∈ x.l, 0 ≤ c ∧ c < 10 := fun c hc => by have := hRis.i c hc; omega
  have hxn := hRis.len
  obtain ⟨hN, _⟩ := rowN_is hxi
  refine Aw.keep (n := 0) (cst := [(1, .sl b .any (l.map NL.c)), (2, .pt p.c), (7, .int T), (8, .int i)]) (v := []) (Hl := []) hE ?zu ?zw ?zx ⟨?zc, ?zv, ?zh, Nat.le_of_ble_eq_true rfl⟩ ?zr
  case zu =>
    (repeat' (first | exact trivial | exact Under.s _ | exact ul | exact up | (refine And.intro ?_ ?_)))
  case zw =>
    (repeat' (first | exact trivial))
  case zx =>
    (repeat' (first | exact trivial))
  case zc =>
    (repeat' (first | (refine And.intro ?_ ?_) | exact trivial | exact A.Le.refl _))
  case zv =>
    (repeat' (first | exact trivial))
  case zh =>
    (repeat' (first | exact trivial))
  case zr =>
  refine Aw.sm tab_ok mb0 [] rfl rfl ?zo ?zk
  case zo =>
    repeat' apply AllP.cons
    all_goals first | exact trivial
  case zk =>
  refine Aw.seq ?_
  refine Aw.sm tab_ok mb0 [] rfl rfl ?zo ?zk
  case zo =>
    repeat' apply AllP.cons
    all_goals first | exact trivial
  case zk =>
  refine Aw.block (Aw.rounds 0 hE [(1, .sl b .any (l.map NL.c)), (2, .pt p.c), (7, .int T), (8, .int i)] (fun j : Nat => [(9, .int (rowN (x.l.take j))), (10, .int j)]) (fun j => []) (fun j => j ≤ x.l.length) (fun j => x.l.length - j) 0 ?zg ⟨?zc, ?zv, ?zh, Nat.le_of_ble_eq_true rfl⟩ ?zu (fun j zhk => ?zw) (fun j zhk => ?zx) fun j hk => ?zr)
  case zg =>
    (repeat' (first | exact Nat.zero_le _))
  case zc =>
    (repeat' (first | (refine And.intro ?_ ?_) | exact trivial | exact A.Le.refl _))
  case zv =>
    (repeat' (first | (refine And.intro ?_ ?_) | exact trivial | exact A.Le.refl _))
  case zh =>
    (repeat' (first | exact trivial))
  case zu =>
    (repeat' (first | exact trivial | exact Under.s _ | exact ul | exact up | (refine And.intro ?_ ?_)))
  case zw =>
    (repeat' (first | exact trivial | exact Under.s _ | (refine And.intro ?_ ?_)))
  case zx =>
    (repeat' (first | exact trivial))
  case zr =>
  refine Aw.seq ?_
  refine Aw.sm tab_ok mb0 [(3, x.c)] rfl rfl ?zo ?zk
  case zo =>
    repeat' apply AllP.cons
    all_goals first | exact trivial | exact rfl | exact Nat.le_of_ble_eq_true rfl | exact Int.natCast_nonneg _ | exact hg
  case zk =>
  refine Aw.cond rfl (fun h2 => Aw.skip ?_) (fun h2 => ?_)
  · have h2 : decide ((j : Int) < ((ints x.l).length : Int)) = true := h2
    have hjl : j < x.l.length := by have := of_decide_eq_true h2; omega
    have hgj := ints_getD hjl
    have hkj := hxi _ (show x.l.getD j 0 ∈ x.l by simp [List.getD_eq_getElem?_getD, hjl])
    have hst : rowN (x.l.take (j + 1)) = rowN (x.l.take j) ||| 2 ^ (x.l.getD j 0).toNat := by
      unfold rowN
      rw [List.take_succ_eq_append_getElem hjl, List.foldl_append, show x.l.getD j 0 = x.l[j] by simp [List.getD_eq_getElem?_getD, hjl]]; rfl
    obtain ⟨hNj, _⟩ := rowN_is (l := x.l.take j) fun c hc => hxi c (List.mem_of_mem_take hc)
    generalize x.l.getD j 0 = k at *
    have hp2 : 2 ^ k.toNat < 2 ^ 10 := Nat.pow_lt_pow_right (by decide) (by omega)
    have hor : ior ((rowN (x.l.take j) : Nat) : Int) (IntKind.i64.wrap (1 * 2 ^ min k.toNat 64)) = ((rowN (x.l.take (j + 1)) : Nat) : Int) := by
      rw [one_bit hkj, hst]
      exact ior_nat (by omega) (by omega)
    generalize rowN (x.l.take j) = N0 at *
    refine Aw.seq (Aw.block ?_)
    refine Aw.em tab_ok mb0 [(3, x.c), (6, [.int k])] rfl rfl ?zo ?zk
    case zo =>
      repeat' apply AllP.cons
      all_goals first | exact trivial | exact rfl | exact Nat.le_of_ble_eq_true rfl | exact Int.natCast_nonneg _ | exact hg | exact hgj | exact hkj.1
    case zk =>
    refine Aw.em tab_ok mb0 [] rfl rfl ?zo ?zk
    case zo =>
      repeat' apply AllP.cons
      all_goals first | exact trivial | exact inrk j (by omega)
    case zk =>
    refine ⟨j + 1, ?zg, ?zm, ⟨?zc, ?zv, ?zh, Nat.le_of_ble_eq_true rfl⟩⟩
    case zg =>
      (repeat' (first | assumption))
    case zm =>
      (repeat' (first | omega))
    case zc =>
      (repeat' (first | (refine And.intro ?_ ?_) | exact trivial | exact A.Le.refl _))
    case zv =>
      (repeat' (first | (refine And.intro ?_ ?_) | exact trivial | exact A.Le.refl _ | exact .of_eq (congrArg A.int hor.symm)))
    case zh =>
      (repeat' (first | exact trivial))
  have h2 : decide ((j : Int) < ((ints x.l).length : Int)) = false := h2
  have hle : j = x.l.length := by have := of_decide_eq_false h2; omega
  subst hle
  rw [List.take_length]
  refine Aw.exit2 ?_
  have c3 := risB_t p hp (rowN x.l) (by omega)
  have hand : iand ((rowN x.l : Nat) : Int) (T : Int) = ((rowN x.l &&& T : Nat) : Int) := iand_nat (by omega) (by omega)
  have hor : ior (T : Int) ((rowN x.l : Nat) : Int) = ((T ||| rowN x.l : Nat) : Int) := ior_nat (by omega) (by omega)
  have hor2 : T ||| rowN x.l < 2 ^ 10 := Nat.or_lt_two_pow hT hN
  generalize isBar p (rowN x.l) = ib at *
  generalize rowN x.l = N at *
  rw [← hand] at hgo
  refine Aw.seq ?_
  refine Aw.sm tab_ok mb0 [(7, [.bool ib])] rfl rfl ?zo ?zk
  case zo =>
    repeat' apply AllP.cons
    all_goals first | exact trivial | exact id | exact fun _ => rfl | exact fun _ => Nat.le_of_ble_eq_true rfl | exact gq_f | exact fun _ => c3
  case zk =>
  refine Aw.cond rfl (fun h3 => ?_) (fun h3 => Aw.skip ?_)
  · have h3 : cond (iand (N : Int) (T : Int) != 0) true (!ib) = true := h3
    rw [if_pos h3] at hgo
    subst hgo
    refine Aw.sm tab_ok mb0 [] rfl rfl ?zo ?zk
    case zo =>
      repeat' apply AllP.cons
      all_goals first | exact trivial
    case zk =>
    exact Aw.ret ⟨_, .cons (.tmp _) (.cons (.tmp _) .nil), rfl⟩
  have h3 : cond (iand (N : Int) (T : Int) != 0) true (!ib) = false := h3
  rw [if_neg (by rw [h3]; decide)] at hgo
  refine Aw.em tab_ok mb0 [] rfl rfl ?zo ?zk
  case zo =>
    repeat' apply AllP.cons
    all_goals first | exact trivial
  case zk =>
  refine Aw.em tab_ok mb0 [] rfl rfl ?zo ?zk
  case zo =>
    repeat' apply AllP.cons
    all_goals first | exact trivial | exact inrk i (by omega)
  case zk =>
  refine ⟨(i + 1, T ||| N), ?zg, ?zm, ⟨?zc, ?zv, ?zh, Nat.le_of_ble_eq_true rfl⟩⟩
  case zg =>
    (repeat' (first | exact ⟨hlt, hor2, hgo⟩))
  case zm =>
    (repeat' (first | omega))
  case zc =>
    (repeat' (first | (refine And.intro ?_ ?_) | exact trivial | exact A.Le.refl _))
  case zv =>
    (repeat' (first | (refine And.intro ?_ ?_) | exact trivial | exact A.Le.refl _ | exact .of_eq (congrArg A.int hor.symm)))
  case zh =>
    (repeat' (first | exact trivial))
def barsL (p : Pile) (s : Nat) : List Int := (barsN p s).map Int.ofNat
theorem barsL_succ (p : Pile) (s : Nat) : barsL p (s + 1) = barsL p s ++ if isBar p s = true then [(s : Int)] else [] := by
  unfold barsL
  rw [barsN_succ, List.map_append]
  split <;> rfl
theorem barsL_len (p : Pile) (s : Nat) : (barsL p s).length ≤ s := by
  unfold barsL barsN
  rw [List.length_map]
  have := List.length_filter_le (fun S => isBar p S) (List.range s)
  rwa [List.length_range] at this
set_option maxHeartbeats 2000000 in
theorem rmost_t (p : Pile) (hp : p.Ok) : Ans Try.prog 22 [.agg p.c] (.int (mostF p 10 g0).length) := by
  have lst := ints_lenI p.st
  have lst2 := ints_len p.st
  have hn := hp.n
  have up : ∀ {m : Nat}, Under m (A.pt p.c) := (Free.pt _ p.free).under
  have hN := pow10 hn.2
  have hsh := shl10 hn.2
  rw [← valS_all hp]
  have hv0 : ∀ v, ((valS p v : Nat) : Int) ≤ 10 := fun v => by have := valS_le p v; omega
  generalize hNe : 2 ^ p.st.length = N at *
  refine told Try.func22 rfl rfl (Pure.of tab_ok Try.func22 rfl Try.ntmps22 rfl (all1 (.agg _ p.free)) (all1 (fun _ => rfl)) (by first | exact .s _ | assumption | exact .tup _ (by intro x hx; simp only [List.mem_cons, List.not_mem_nil, or_false] at hx; rcases hx with rfl | rfl | rfl | rfl <;> first | exact .s _ | (simp_all; done))) fun E hE => ?_)
  refine Aw.sm tab_ok mb0 [] rfl rfl ?zo ?zk
  case zo =>
    repeat' apply AllP.cons
    all_goals first | exact trivial
  case zk =>
  refine Aw.sm tab_ok mb0 [] rfl rfl ?zo ?zk
  case zo =>
    repeat' apply AllP.cons
    all_goals first | exact trivial | exact Nat.le_of_ble_eq_true rfl | exact Int.natCast_nonneg _
  case zk =>
  have hshl : IntKind.i64.wrap (1 * 2 ^ min (Int.toNat ((ints p.st).length : Int)) 64) = (N : Int) := by rw [lst, Int.toNat_natCast]; exact hsh
  refine Aw.keep (n := 0) (cst := [(1, .pt p.c), (3, .int N)]) (v := []) (Hl := []) hE ?zu ?zw ?zx ⟨?zc, ?zv, ?zh, Nat.le_of_ble_eq_true rfl⟩ ?zr
  case zu =>
    (repeat' (first | exact trivial | exact Under.s _ | exact up | (refine And.intro ?_ ?_)))
  case zw =>
    (repeat' (first | exact trivial))
  case zx =>
    (repeat' (first | exact trivial))
  case zc =>
    (repeat' (first | (refine And.intro ?_ ?_) | exact trivial | exact A.Le.refl _ | exact .of_eq (congrArg A.int hshl.symm)))
  case zv =>
    (repeat' (first | exact trivial))
  case zh =>
    (repeat' (first | exact trivial))
  case zr =>
  refine Aw.sm tab_ok mb0 [] rfl rfl ?zo ?zk
  case zo =>
    repeat' apply AllP.cons
    all_goals first | exact trivial | exact rfl | exact Int.natCast_nonneg _ | exact (show (N : Int) ≤ maxLen by simp only [maxLen]; omega) | exact (show ((8 : Nat) : Int) * (N : Int) ≤ 140737488355328 by omega)
  case zk =>
  have h1e : ∀ id, 1 ≤ id → E.φ0 id = none := fun id _ => hE id (by omega)
  have hz : B.cells (((List.range (Int.toNat (N : Int) * 1)).map fun j => (tab.zr 3).getD (j % 1) .un).map A.down) = iB (tblL p 1 0) := by
    rw [tblL_zero hp, hNe]
    unfold iB; congr 1
    rw [Nat.mul_one, Int.toNat_natCast, List.map_map]
    refine List.ext_getElem (by simp) fun i p q => ?_
    simp only [List.getElem_map, List.getElem_range, List.getElem_replicate]
    show ((tab.zr 3).getD (i % 1) .un).down = A.int 0
    rw [Nat.mod_one]; rfl
  have hb1 : barsL p 1 = [] := by rw [barsL_succ]; rfl
  have ht := fun s v => tblL_len p s v
  rw [hNe] at ht
  refine Aw.sm tab_ok mb0 [] rfl rfl ?zo ?zk
  case zo =>
    repeat' apply AllP.cons
    all_goals first | exact trivial
  case zk =>
  refine Aw.keep (n := 1) (cst := [(1, .pt p.c), (3, .int N), (4, .ms 0 0 N), (5, .sl true .exact [])]) (v := []) (Hl := [(0, iB (tblL p 1 0))]) h1e ?zu ?zw ?zx ⟨?zc, ?zv, ?zh, Nat.le_of_ble_eq_true rfl⟩ ?zr
  case zu =>
    (repeat' (first | exact trivial | exact Under.s _ | exact Under.ms _ _ _ (by decide) | exact up | exact (Free.sl _ _ _ (fun _ h => by cases h)).under | (refine And.intro ?_ ?_)))
  case zw =>
    (repeat' (first | exact trivial))
  case zx =>
    (repeat' (first | exact trivial | exact Nat.le_of_ble_eq_true rfl | exact iB_under _ | (refine And.intro ?_ ?_)))
  case zc =>
    (repeat' (first | (refine And.intro ?_ ?_) | exact trivial | exact A.Le.refl _))
  case zv =>
    (repeat' (first | exact trivial))
  case zh =>
    (repeat' (first | (refine And.intro ?_ ?_) | exact trivial | exact congrArg some hz))
  case zr =>
  refine Aw.seq ?_
  refine Aw.sm tab_ok mb0 [] rfl rfl ?zo ?zk
  case zo =>
    repeat' apply AllP.cons
    all_goals first | exact trivial
  case zk =>
  refine Aw.block (Aw.rounds 1 h1e [(1, .pt p.c), (3, .int N), (4, .ms 0 0 N)] (fun s : Nat => [(5, grL 3 (barsL p s)), (6, .int s)]) (fun s => [(0, iB (tblL p 1 0))]) (fun s => 1 ≤ s ∧ s ≤ N) (fun s => N - s) 1 ?zg ⟨?zc, ?zv, ?zh, Nat.le_of_ble_eq_true rfl⟩ ?zu (fun s zhk => ?zw) (fun s zhk => ?zx) fun s hk => ?zr)
  case zg =>
    (repeat' (first | exact ⟨Nat.le_refl _, hN.1⟩))
  case zc =>
    (repeat' (first | (refine And.intro ?_ ?_) | exact trivial | exact A.Le.refl _))
  case zv =>
    (repeat' (first | (refine And.intro ?_ ?_) | exact trivial | exact A.Le.refl _))
  case zh =>
    (repeat' (first | (refine And.intro ?_ ?_) | exact trivial | exact rfl))
  case zu =>
    (repeat' (first | exact trivial | exact Under.s _ | exact Under.ms _ _ _ (by decide) | exact up | (refine And.intro ?_ ?_)))
  case zw =>
    (repeat' (first | exact trivial | exact Under.s _ | exact grL_under _ | (refine And.intro ?_ ?_)))
  case zx =>
    (repeat' (first | exact trivial | exact Nat.le_of_ble_eq_true rfl | exact iB_under _ | (refine And.intro ?_ ?_)))
  case zr =>
  obtain ⟨hk1, hk⟩ := hk
  refine Aw.seq ?_
  refine Aw.sm tab_ok mb0 [] rfl rfl ?zo ?zk
  case zo =>
    repeat' apply AllP.cons
    all_goals first | exact trivial
  case zk =>
  refine Aw.cond rfl (fun h1 => Aw.skip ?_) (fun h1 => ?_)
  · have hlt : s < N := by have := of_decide_eq_true h1; omega
    have c1 := risB_t p hp s (by omega)
    have hst := barsL_succ p s
    have hbl := barsL_len p s
    generalize hb : isBar p s = ib at *
    generalize hG1 : barsL p (s + 1) = G1 at *
    generalize barsL p s = G at *
    have hone : ∀ z ∈ [[A.int (s : Int)]], z.length = 1 := fun z hz => by simp at hz; subst hz; rfl
    refine Aw.seq (Aw.block ?_)
    refine Aw.sm tab_ok mb0 [(2, [.bool ib])] rfl rfl ?zo ?zk
    case zo =>
      repeat' apply AllP.cons
      all_goals first | exact trivial | exact Nat.le_of_ble_eq_true rfl | exact c1
    case zk =>
    refine Aw.cond rfl (fun h2 => ?_) (fun h2 => Aw.skip ?_)
    · have h2 : ib = true := h2
      rw [if_pos h2] at hst
      cases G with
      | nil =>
        refine Aw.em tab_ok mb0 [] rfl rfl ?zo ?zk
        case zo =>
          repeat' apply AllP.cons
          all_goals first | exact trivial | exact Nat.le_of_ble_eq_true rfl | exact hone
        case zk =>
        refine Aw.em tab_ok mb0 [] rfl rfl ?zo ?zk
        case zo =>
          repeat' apply AllP.cons
          all_goals first | exact trivial | exact inrk s (by omega)
        case zk =>
        refine ⟨s + 1, ?zg, ?zm, ⟨?zc, ?zv, ?zh, Nat.le_of_ble_eq_true rfl⟩⟩
        case zg =>
          (repeat' (first | omega))
        case zm =>
          (repeat' (first | omega))
        case zc =>
          (repeat' (first | (refine And.intro ?_ ?_) | exact trivial | exact A.Le.refl _))
        case zv =>
          (repeat' (first | (refine And.intro ?_ ?_) | exact trivial | exact A.Le.refl _ | exact .of_eq (show grL 3 (barsL p (s + 1)) = A.sl false (.own 3) [[A.int (s : Int)]] by rw [hG1, hst]; rfl)))
        case zh =>
          (repeat' (first | (refine And.intro ?_ ?_) | exact trivial | exact rfl))
      | cons x t =>
        have hl1 : (ints (x :: t)).length ≤ 1024 := by rw [ints_len]; omega
        have hzz := ints_one (x :: t)
        refine Aw.em tab_ok mb0 [] rfl rfl ?zo ?zk
        case zo =>
          repeat' apply AllP.cons
          all_goals first | exact trivial | exact Nat.le_of_ble_eq_true rfl | exact hone | exact hzz | exact (show ((ints (x :: t)).length + 1) * 8 ≤ 140737488355328 by omega) | exact (show (ints (x :: t)).length + 1 ≤ maxLen by unfold maxLen; omega)
        case zk =>
        refine Aw.em tab_ok mb0 [] rfl rfl ?zo ?zk
        case zo =>
          repeat' apply AllP.cons
          all_goals first | exact trivial | exact inrk s (by omega)
        case zk =>
        refine ⟨s + 1, ?zg, ?zm, ⟨?zc, ?zv, ?zh, Nat.le_of_ble_eq_true rfl⟩⟩
        case zg =>
          (repeat' (first | omega))
        case zm =>
          (repeat' (first | omega))
        case zc =>
          (repeat' (first | (refine And.intro ?_ ?_) | exact trivial | exact A.Le.refl _))
        case zv =>
          (repeat' (first | (refine And.intro ?_ ?_) | exact trivial | exact A.Le.refl _ | exact .of_eq (show grL 3 (barsL p (s + 1)) = A.sl false (.own 3) (ints (x :: t) ++ [[A.int (s : Int)]]) by rw [hG1, hst]; simp [grL, ints])))
        case zh =>
          (repeat' (first | (refine And.intro ?_ ?_) | exact trivial | exact rfl))
    · have h2 : ib = false := h2
      rw [h2, if_neg (by decide), List.append_nil] at hst
      refine Aw.em tab_ok mb0 [] rfl rfl ?zo ?zk
      case zo =>
        repeat' apply AllP.cons
        all_goals first | exact trivial | exact inrk s (by omega)
      case zk =>
      refine ⟨s + 1, ?zg, ?zm, ⟨?zc, ?zv, ?zh, Nat.le_of_ble_eq_true rfl⟩⟩
      case zg =>
        (repeat' (first | omega))
      case zm =>
        (repeat' (first | omega))
      case zc =>
        (repeat' (first | (refine And.intro ?_ ?_) | exact trivial | exact A.Le.refl _))
      case zv =>
        (repeat' (first | (refine And.intro ?_ ?_) | exact trivial | exact A.Le.refl _ | exact .of_eq (show grL 3 (barsL p (s + 1)) = grL 3 G by rw [hG1, hst])))
      case zh =>
        (repeat' (first | (refine And.intro ?_ ?_) | exact trivial | exact rfl))
  have hle : s = N := by have := of_decide_eq_false h1; omega
  subst hle
  refine Aw.exit2 ?_
  have hBe : barsL p s = (barsN p (2 ^ p.st.length)).map Int.ofNat := by rw [hNe]; rfl
  have hBl := barsL_len p s
  have hBm : ∀ b ∈ barsN p (2 ^ p.st.length), b < s ∧ 1 ≤ b := fun b hb => by
    have h2 := barsN_mem.1 hb
    refine ⟨by omega, Nat.one_le_iff_ne_zero.2 fun h0 => ?_⟩
    have h3 := h2.2
    rw [h0] at h3
    cases h3
  have hVk := valK_is hp
  have hgr : A.Le (outW (barsL p s)) (grL 3 (barsL p s)) := by
    cases hq : barsL p s with
    | nil => exact .any _ _ _
    | cons x t => exact .any _ _ _
  rw [hBe] at hgr hBl ⊢
  generalize barsN p (2 ^ p.st.length) = BS at *
  rw [List.length_map] at hBl
  have uB : ∀ {m : Nat}, Under m (outW (BS.map Int.ofNat)) := (outW_free _).under
  have lB : ((ints (BS.map Int.ofNat)).length : Int) = BS.length := by rw [ints_lenI, List.length_map]
  refine Aw.keep (n := 1) (cst := [(3, .int s), (4, .ms 0 0 s), (5, outW (BS.map Int.ofNat))]) (v := []) (Hl := [(0, iB (tblL p 1 0))]) h1e ?zu ?zw ?zx ⟨?zc, ?zv, ?zh, Nat.le_of_ble_eq_true rfl⟩ ?zr
  case zu =>
    (repeat' (first | exact trivial | exact Under.s _ | exact (free_ints _ _ _).under | exact Under.ms _ _ _ (by decide) | (refine And.intro ?_ ?_)))
  case zw =>
    (repeat' (first | exact trivial))
  case zx =>
    (repeat' (first | exact trivial | exact Nat.le_of_ble_eq_true rfl | exact iB_under _ | (refine And.intro ?_ ?_)))
  case zc =>
    (repeat' (first | (refine And.intro ?_ ?_) | exact trivial | exact A.Le.refl _ | exact hgr))
  case zv =>
    (repeat' (first | exact trivial))
  case zh =>
    (repeat' (first | (refine And.intro ?_ ?_) | exact trivial | exact rfl))
  case zr =>
  refine Aw.seq ?_
  refine Aw.sm tab_ok mb0 [] rfl rfl ?zo ?zk
  case zo =>
    repeat' apply AllP.cons
    all_goals first | exact trivial
  case zk =>
  refine Aw.block (Aw.rounds 1 h1e [(3, .int s), (4, .ms 0 0 s), (5, outW (BS.map Int.ofNat))] (fun q : Nat => [(7, .int q)]) (fun q => [(0, iB (tblL p q 0))]) (fun q => 1 ≤ q ∧ q ≤ s) (fun q => s - q) 1 ?zg ⟨?zc, ?zv, ?zh, Nat.le_of_ble_eq_true rfl⟩ ?zu (fun q zhk => ?zw) (fun q zhk => ?zx) fun q hk => ?zr)
  case zg =>
    (repeat' (first | exact ⟨Nat.le_refl _, hN.1⟩))
  case zc =>
    (repeat' (first | (refine And.intro ?_ ?_) | exact trivial | exact A.Le.refl _))
  case zv =>
    (repeat' (first | (refine And.intro ?_ ?_) | exact trivial | exact A.Le.refl _))
  case zh =>
    (repeat' (first | (refine And.intro ?_ ?_) | exact trivial | exact rfl))
  case zu =>
    (repeat' (first | exact trivial | exact Under.s _ | exact (free_ints _ _ _).under | exact Under.ms _ _ _ (by decide) | (refine And.intro ?_ ?_)))
  case zw =>
    (repeat' (first | exact trivial | exact Under.s _ | (refine And.intro ?_ ?_)))
  case zx =>
    (repeat' (first | exact trivial | exact Nat.le_of_ble_eq_true rfl | exact iB_under _ | (refine And.intro ?_ ?_)))
  case zr =>
  obtain ⟨hq1, hq⟩ := hk
  refine Aw.seq ?_
  refine Aw.sm tab_ok mb0 [] rfl rfl ?zo ?zk
  case zo =>
    repeat' apply AllP.cons
    all_goals first | exact trivial
  case zk =>
  refine Aw.cond rfl (fun h1 => Aw.skip ?_) (fun h1 => ?_)
  rotate_left
  · have hle : q = s := by have := of_decide_eq_false h1; omega
    subst hle
    refine Aw.exit2 ?_
    have hget := tblL_get (p := p) (s := q) (v := 0) (t := q - 1) (by rw [hNe]; omega)
    rw [if_pos (by omega)] at hget
    have htl := ht q 0
    generalize tblL p q 0 = TT at *
    have ei : Int.toNat ((q : Int) - 1) = q - 1 := by omega
    have q1 : ((TT.map A.int).getD (0 + Int.toNat ((q : Int) - 1) * 1) .un).down = .int (valS p (q - 1)) := by rw [← hget, ei]; exact getI (by omega)
    have q3 : 0 + Int.toNat ((q : Int) - 1) * 1 < (TT.map A.int).length := by rw [List.length_map, ei]; omega
    have q4 : (q : Int) - 1 < ((q : Nat) : Int) := by omega
    have q5 : 0 ≤ (q : Int) - 1 := by omega
    refine Aw.sm tab_ok mb0 [(4, [.int (valS p (q - 1))])] rfl rfl ?zo ?zk
    case zo =>
      repeat' apply AllP.cons
      all_goals first | exact trivial | exact q1 | exact q3 | exact q4 | exact q5 | exact (show inR ((q : Int) - 1) by simp only [inR]; omega)
    case zk =>
    exact Aw.ret ⟨_, .cons (.tmp _) .nil, rfl⟩
  have hqs : q < s := by have := of_decide_eq_true h1; omega
  refine Aw.seq (Aw.block ?_)
  refine Aw.sm tab_ok mb0 [] rfl rfl ?zo ?zk
  case zo =>
    repeat' apply AllP.cons
    all_goals first | exact trivial
  case zk =>
  refine Aw.block (Aw.rounds 1 h1e [(3, .int s), (4, .ms 0 0 s), (5, outW (BS.map Int.ofNat)), (7, .int q)] (fun j : Nat => [(8, .int j)]) (fun j => [(0, iB (tblL p q (valK p q (BS.take j))))]) (fun j => j ≤ BS.length) (fun j => BS.length - j) 0 ?zg ⟨?zc, ?zv, ?zh, Nat.le_of_ble_eq_true rfl⟩ ?zu (fun j zhk => ?zw) (fun j zhk => ?zx) fun j hk => ?zr)
  case zg =>
    (repeat' (first | exact Nat.zero_le _))
  case zc =>
    (repeat' (first | (refine And.intro ?_ ?_) | exact trivial | exact A.Le.refl _))
  case zv =>
    (repeat' (first | (refine And.intro ?_ ?_) | exact trivial | exact A.Le.refl _))
  case zh =>
    (repeat' (first | (refine And.intro ?_ ?_) | exact trivial | exact rfl))
  case zu =>
    (repeat' (first | exact trivial | exact Under.s _ | exact (free_ints _ _ _).under | exact Under.ms _ _ _ (by decide) | (refine And.intro ?_ ?_)))
  case zw =>
    (repeat' (first | exact trivial | exact Under.s _ | (refine And.intro ?_ ?_)))
  case zx =>
    (repeat' (first | exact trivial | exact Nat.le_of_ble_eq_true rfl | exact iB_under _ | (refine And.intro ?_ ?_)))
  case zr =>
  refine Aw.seq ?_
  refine Aw.sm tab_ok mb0 [] rfl rfl ?zo ?zk
  case zo =>
    repeat' apply AllP.cons
    all_goals first | exact trivial
  case zk =>
  refine Aw.cond rfl (fun h2 => Aw.skip ?_) (fun h2 => ?_)
  rotate_left
  · have hle : j = BS.length := by have := of_decide_eq_false h2; omega
    subst hle
    rw [List.take_length, hVk, tblL_next]
    refine Aw.exit2 ?_
    refine Aw.em tab_ok mb0 [] rfl rfl ?zo ?zk
    case zo =>
      repeat' apply AllP.cons
      all_goals first | exact trivial | exact inrk q (by omega)
    case zk =>
    refine ⟨q + 1, ?zg, ?zm, ⟨?zc, ?zv, ?zh, Nat.le_of_ble_eq_true rfl⟩⟩
    case zg =>
      (repeat' (first | omega))
    case zm =>
      (repeat' (first | omega))
    case zc =>
      (repeat' (first | (refine And.intro ?_ ?_) | exact trivial | exact A.Le.refl _))
    case zv =>
      (repeat' (first | (refine And.intro ?_ ?_) | exact trivial | exact A.Le.refl _))
    case zh =>
      (repeat' (first | (refine And.intro ?_ ?_) | exact trivial | exact rfl))
  have hjl : j < BS.length := by have := of_decide_eq_true h2; omega
  obtain ⟨hbj, hb1'⟩ := hBm _ (List.getElem_mem hjl)
  have hgb : (ints (BS.map Int.ofNat))[j]? = some [A.int ((BS[j] : Nat) : Int)] := by
    have := ints_getD (l := BS.map Int.ofNat) (k := j) (by rw [List.length_map]; exact hjl)
    rw [this]
    simp [List.getD_eq_getElem?_getD, hjl]
  have hsn := valK_snoc p q (BS.take j) BS[j]
  rw [← List.take_succ_eq_append_getElem hjl] at hsn
  have hiand : iand ((BS[j] : Nat) : Int) (q : Int) = ((BS[j] &&& q : Nat) : Int) := iand_nat (by omega) (by omega)
  generalize BS[j] = bn at *
  refine Aw.seq (Aw.block ?_)
  refine Aw.sd tab_ok mixed mb0 [(2, [.int bn]), (8, [.int bn])] rfl (by kernel_rfl) rfl rfl ?zo ?zk
  case zo =>
    repeat' apply AllP.cons
    all_goals first | exact trivial | exact rfl | exact Nat.le_of_ble_eq_true rfl | exact Int.natCast_nonneg _ | exact hgb
  case zk =>
  refine Aw.cond rfl (fun h3 => ?_) (fun h3 => Aw.skip ?_)
  · have h3 : (iand (bn : Int) (q : Int) == (bn : Int)) = true := h3
    have h3 : bn &&& q = bn := by rw [hiand, beq_iff_eq] at h3; omega
    rw [if_pos h3] at hsn
    have hbq : bn ≤ q := by rw [← h3]; exact Nat.and_le_right
    have hg1 := tblL_get (p := p) (s := q) (v := valK p q (BS.take j)) (t := q) (by rw [hNe]; omega)
    have hg2 := tblL_get (p := p) (s := q) (v := valK p q (BS.take j)) (t := q - bn) (by rw [hNe]; omega)
    rw [if_neg (by omega), if_pos rfl] at hg1
    rw [if_pos (by omega)] at hg2
    have htl := ht q (valK p q (BS.take j))
    have hset := tblL_set p q (valK p q (BS.take j)) (valK p q (BS.take (j + 1)))
    have hvb := valS_le p (q - bn)
    generalize tblL p q (valK p q (BS.take j)) = TT at *
    generalize hV1 : valK p q (BS.take (j + 1)) = V1 at *
    have hvk : valK p q (BS.take j) ≤ V1 := by omega
    generalize valK p q (BS.take j) = V0 at *
    generalize valS p (q - bn) = w at *
    have ei : Int.toNat ((q : Int) - (bn : Int)) = q - bn := by omega
    have eq' : Int.toNat (q : Int) = q := Int.toNat_natCast q
    have q1 : ((TT.map A.int).getD (0 + Int.toNat (q : Int) * 1) .un).down = .int (V0 : Int) := by rw [← hg1, eq']; exact getI (by omega)
    have q2 : 0 + Int.toNat (q : Int) * 1 + 1 ≤ (TT.map A.int).length := by rw [List.length_map, eq']; omega
    have q3 : 0 + Int.toNat (q : Int) * 1 < (TT.map A.int).length := by omega
    have q4 : (q : Int) < ((s : Nat) : Int) := by omega
    have r1 : ((TT.map A.int).getD (0 + Int.toNat ((q : Int) - (bn : Int)) * 1) .un).down = .int (w : Int) := by rw [← hg2, ei]; exact getI (by omega)
    have r3 : 0 + Int.toNat ((q : Int) - (bn : Int)) * 1 < (TT.map A.int).length := by rw [List.length_map, ei]; omega
    have r4 : (q : Int) - (bn : Int) < ((s : Nat) : Int) := by omega
    have r5 : 0 ≤ (q : Int) - (bn : Int) := by omega
    have hV : (if 1 + (w : Int) > (V0 : Int) then 1 + (w : Int) else (V0 : Int)) = ((V1 : Nat) : Int) := by
      rw [hsn]
      split <;> omega
    have hs := congrArg (fun x => some (B.cells x)) (set_cellsI (l := TT) (k := Int.toNat (q : Int)) (v := (if 1 + (w : Int) > (V0 : Int) then 1 + (w : Int) else (V0 : Int))) (by rw [eq']; omega))
    rw [hV, eq', hset] at hs
    rw [← hV] at hs
    refine Aw.ed tab_ok mixed mb0 [(5, [.int V0]), (10, [.int bn]), (14, [.int w])] rfl (by kernel_rfl) rfl rfl ?zo ?zk
    case zo =>
      repeat' apply AllP.cons
      all_goals first | exact trivial | exact rfl | exact Nat.le_of_ble_eq_true rfl | exact Int.natCast_nonneg _ | exact q1 | exact q2 | exact q4 | exact r1 | exact r3 | exact r4 | exact r5 | exact hgb | exact (show inR ((q : Int) - (bn : Int)) by simp only [inR]; omega) | exact (show inR (1 + (w : Int)) by simp only [inR]; omega)
    case zk =>
    refine Aw.em tab_ok mb0 [] rfl rfl ?zo ?zk
    case zo =>
      repeat' apply AllP.cons
      all_goals first | exact trivial | exact inrk j (by omega)
    case zk =>
    refine ⟨j + 1, ?zg, ?zm, ⟨?zc, ?zv, ?zh, Nat.le_of_ble_eq_true rfl⟩⟩
    case zg =>
      (repeat' (first | assumption))
    case zm =>
      (repeat' (first | omega))
    case zc =>
      (repeat' (first | (refine And.intro ?_ ?_) | exact trivial | exact A.Le.refl _))
    case zv =>
      (repeat' (first | (refine And.intro ?_ ?_) | exact trivial | exact A.Le.refl _))
    case zh =>
      (repeat' (first | (refine And.intro ?_ ?_) | exact trivial | exact hs.trans (by rw [hV1]; rfl)))
  · have h3 : (iand (bn : Int) (q : Int) == (bn : Int)) = false := h3
    have h3 : ¬ bn &&& q = bn := fun h => by rw [hiand, h] at h3; simp at h3
    rw [if_neg h3] at hsn
    refine Aw.em tab_ok mb0 [] rfl rfl ?zo ?zk
    case zo =>
      repeat' apply AllP.cons
      all_goals first | exact trivial | exact inrk j (by omega)
    case zk =>
    refine ⟨j + 1, ?zg, ?zm, ⟨?zc, ?zv, ?zh, Nat.le_of_ble_eq_true rfl⟩⟩
    case zg =>
      (repeat' (first | assumption))
    case zm =>
      (repeat' (first | omega))
    case zc =>
      (repeat' (first | (refine And.intro ?_ ?_) | exact trivial | exact A.Le.refl _))
    case zv =>
      (repeat' (first | (refine And.intro ?_ ?_) | exact trivial | exact A.Le.refl _))
    case zh =>
      (repeat' (first | (refine And.intro ?_ ?_) | exact trivial | exact congrArg (fun v => some (iB (tblL p q v))) hsn.symm))
end Go.Proofs.Ytampldajinhenaa

namespace Go.Proofs.Ytampldajinhenaa
open Go Go.AL Go.AL.Q Go.AL.Br
set_option maxHeartbeats 1000000 in
theorem sets_l (p : Pile) (b : Bool) (l : List NL) (hpl : (p.st.length : Int) ≤ 9223372036854775806) (hl : (l.length : Int) ≤ 9223372036854775806) (hll : ∀ x ∈ l, (x.l.length : Int) ≤ 9223372036854775806) : Ans Try.prog 3 [.agg p.c, .sl b .any (l.map NL.c)] (.bool true) := by
  have fl : Free (.sl b .any (l.map NL.c)) := free_map NL.free _ _ _
  have c1 : Ans Try.prog 16 [.agg p.c, .sl b .any (l.map NL.c)] (.tup [.bool (AreR p l).1, .int (AreR p l).2]) := are_t p hpl b l hl hll
  have c2 := rare_t p hpl b l hl hll
  have c3 := pile_t p hpl
  have c4 := rpile_t p hpl
  have c5 := Set_w p hpl
  have hA : (p.ok = false ∧ (AreR p l).2 = 60 ∧ SetR p = ([], 60)) ∨ (p.ok = true ∧ (AreR p l).2 = 0) := by
    by_cases hpo : p.ok = true
    · exact .inr ⟨hpo, by unfold AreR; rw [if_pos hpo]⟩
    · refine .inl ⟨by simpa using hpo, ?_, ?_⟩
      · unfold AreR; rw [if_neg hpo]
      · unfold SetR; rw [if_neg hpo]
  generalize AreR p l = R at *
  obtain ⟨r1, r2⟩ := R
  simp only at c1 c2 hA
  generalize p.chk = k at *
  refine told Try.func3 rfl rfl (Pure.of tab_ok Try.func3 rfl Try.ntmps3 rfl (allC (.agg _ p.free) (all1 (fl))) (allC (fun _ => rfl) (all1 (fun _ => rfl))) (by first | exact .s _ | assumption | exact .tup _ (by intro x hx; simp only [List.mem_cons, List.not_mem_nil, or_false] at hx; rcases hx with rfl | rfl | rfl | rfl <;> first | exact .s _ | (simp_all; done))) fun E hE => ?_)
  refine Aw.sm tab_ok mb0 [] rfl rfl ?zo ?zk
  case zo =>
    repeat' apply AllP.cons
    all_goals first | exact trivial
  case zk =>
  refine Aw.sm tab_ok mb0 [(2, [.tup [.bool r1, .int r2]])] rfl rfl ?zo ?zk
  case zo =>
    repeat' apply AllP.cons
    all_goals first | exact trivial | exact Nat.le_of_ble_eq_true rfl | exact c1
  case zk =>
  refine Aw.sm tab_ok mb0 [(2, [.tup [.bool r1, .int r2]])] rfl rfl ?zo ?zk
  case zo =>
    repeat' apply AllP.cons
    all_goals first | exact trivial | exact Nat.le_of_ble_eq_true rfl | exact c2
  case zk =>
  refine Aw.seq ?_
  refine Aw.sd tab_ok mixed mb0 [(10, [.int k]), (12, [.int k])] rfl (by kernel_rfl) rfl rfl ?zo ?zk
  case zo =>
    repeat' apply AllP.cons
    all_goals first | exact trivial | exact id | exact fun _ => rfl | exact fun _ => Nat.le_of_ble_eq_true rfl | exact gq_f | exact fun _ => c3 | exact fun _ => c4
  case zk =>
  refine Aw.cond rfl (fun h => absurd h (by show ¬ (cond (cond (r1 != r1) true (r2 != r2)) true (k != k)) = true; simp)) (fun h => Aw.skip ?_)
  rcases hA with ⟨hpo, rfl, hS⟩ | ⟨hpo, rfl⟩
  · rw [hS] at c5
    refine Aw.sm tab_ok mb0 [(1, [.tup [setW [], .int 60]])] rfl rfl ?zo ?zk
    case zo =>
      repeat' apply AllP.cons
      all_goals first | exact trivial | exact Nat.le_of_ble_eq_true rfl | exact c5
    case zk =>
    refine Aw.seq ?_
    refine Aw.sm tab_ok mb0 [] rfl rfl ?zo ?zk
    case zo =>
      repeat' apply AllP.cons
      all_goals first | exact trivial
    case zk =>
    refine Aw.cond rfl (fun h => ?_) (fun h => by cases h)
    refine Aw.sm tab_ok mb0 [(9, [.bool true])] rfl rfl ?zo ?zk
    case zo =>
      repeat' apply AllP.cons
      all_goals first | exact trivial | exact id | exact fun _ => rfl | exact fun _ => works_t
    case zk =>
    exact Aw.ret ⟨_, .cons (.tmp _) .nil, rfl⟩
  have hp := Pile.ok_iff.1 hpo
  have hn := hp.n
  have c6 := rmost_t p hp
  rw [← SetR_len hpo] at c6
  obtain ⟨L, hL, hmax, hR⟩ := set_R hpo
  rw [hR] at c5 c6
  have lW := setW_len L
  refine Aw.sm tab_ok mb0 [(1, [.tup [setW L, .int (if L.length = 0 then 4 else 0)]])] rfl rfl ?zo ?zk
  case zo =>
    repeat' apply AllP.cons
    all_goals first | exact trivial | exact Nat.le_of_ble_eq_true rfl | exact c5
  case zk =>
  refine Aw.seq ?_
  refine Aw.sm tab_ok mb0 [] rfl rfl ?zo ?zk
  case zo =>
    repeat' apply AllP.cons
    all_goals first | exact trivial
  case zk =>
  refine Aw.cond rfl (fun h => by cases h) (fun h => Aw.skip ?_)
  refine Aw.seq ?_
  refine Aw.sm tab_ok mb0 [(1, [.int L.length])] rfl rfl ?zo ?zk
  case zo =>
    repeat' apply AllP.cons
    all_goals first | exact trivial | exact Nat.le_of_ble_eq_true rfl | exact c6
  case zk =>
  refine Aw.sm tab_ok mb0 [] rfl rfl ?zo ?zk
  case zo =>
    repeat' apply AllP.cons
    all_goals first | exact trivial
  case zk =>
  by_cases h0 : L.length = 0
  · rw [if_pos h0]
    refine Aw.cond rfl (fun h => ?_) (fun h => absurd h (by show ¬ ((L.length : Int) == 0) = false; rw [h0]; decide))
    refine Aw.sm tab_ok mb0 [(8, [.bool true])] rfl rfl ?zo ?zk
    case zo =>
      repeat' apply AllP.cons
      all_goals first | exact trivial | exact id | exact fun _ => rfl | exact fun _ => works_t
    case zk =>
    exact Aw.ret ⟨_, .cons (.tmp _) .nil, by
      show A.bool (cond (cond ((4 : Int) == 4) ((((L.map yS).length : Nat) : Int) == 0) false) true false) = A.bool true
      rw [lW, h0]; rfl⟩
  · rw [if_neg h0]
    have hlen : ∀ x ∈ L.map fun s => (⟨false, s⟩ : NL), (x.l.length : Int) ≤ 9223372036854775806 := fun x hx => by
      obtain ⟨s, hs, rfl⟩ := List.mem_map.1 hx
      have := (hL.r s hs).len
      show (s.length : Int) ≤ _
      omega
    have hLl : L.length ≤ 10 := by
      have := SetR_len hpo
      rw [hR] at this
      have := mostF_len p 10 g0
      have h5 : L.length = (mostF p 10 g0).length := by assumption
      omega
    have c7 := rare_t p hpl L.isEmpty (L.map fun s => ⟨false, s⟩) (by rw [List.length_map]; omega) hlen
    rw [are_R hpo hL, List.map_map] at c7
    have c7 : Ans Try.prog 17 [.agg p.c, setW L] (.tup [.bool true, .int 0]) := c7
    refine Aw.cond rfl (fun h => absurd h (fun h => h0 (by have h : ((L.length : Int) == 0) = true := h; rw [beq_iff_eq] at h; omega))) (fun h => ?_)
    refine Aw.sm tab_ok mb0 [] rfl rfl ?zo ?zk
    case zo =>
      repeat' apply AllP.cons
      all_goals first | exact trivial
    case zk =>
    refine Aw.cond rfl (fun h => absurd h (by show ¬ ((((L.map yS).length : Nat) : Int) != (L.length : Int)) = true; rw [lW]; simp)) (fun h => Aw.skip ?_)
    refine Aw.sm tab_ok mb0 [(2, [.tup [.bool true, .int 0]])] rfl rfl ?zo ?zk
    case zo =>
      repeat' apply AllP.cons
      all_goals first | exact trivial | exact Nat.le_of_ble_eq_true rfl | exact c7
    case zk =>
    refine Aw.sm tab_ok mb0 [(10, [.bool true])] rfl rfl ?zo ?zk
    case zo =>
      repeat' apply AllP.cons
      all_goals first | exact trivial | exact id | exact fun _ => rfl | exact fun _ => works_t
    case zk =>
    exact Aw.ret ⟨_, .cons (.tmp _) .nil, rfl⟩
end Go.Proofs.Ytampldajinhenaa

namespace Go.Proofs.Ytampldajinhenaa
open Go Go.AL Go.ChangeShapes Go.WideShapes Go.ChangeAt Go.RowKit
set_option maxRecDepth 100000 in
theorem barrelSets_lifted (os : Os) (started : os.Started) (H : Type) (enc : TypeId × Value → H) :
    ReturnsInHanded {} Try.checked os 3 .any (Rows.barrelSetsSpec.pre6 enc Try.prog Try.f3 [] false) (Rows.barrelSetsSpec.post enc Try.prog Try.f3 false true false false) := by
  refine lifted2 (tb := 4) (C := Try.checked) own started (by kernel_rfl) Try.func3
    (ChangeSpec.witness6 (enc := enc) (C := Try.checked) false ⟨#[], #[.agg #[.slice none 0 0, .int .i64 0, .int .i64 0], .slice none 0 0], []⟩ 8 (by kernel_rfl) (by kernel_rfl) (by kernel_rfl) (by kernel_rfl))
    laidOut ?_ rfl rfl (by kernel_rfl) uBool ?_ ?_
  · rw [Try.params3]; exact all2t (p := fun t => Try.prog.readableRec t = true ∧ t < Try.prog.types.size) t24 t25
  · intro ds hd
    rw [Try.params3] at hd
    match ds, hd with
    | [d0, d1], _ => rfl
  · intro W base args ds p hval hA hwt
    rw [Try.params3] at hA hval
    obtain ⟨v0, v1, d0, d1, p0, p1, rfl, rfl, rfl, h0, h1⟩ := trodAll_two hA
    obtain ⟨y0, q0, s0⟩ := arg_pile (φ := fun _ => none) (hval 0 24 v0 rfl rfl) h0 fun k hk => hwt k (List.mem_append.2 (.inl hk))
    obtain ⟨b1, y1, q1, s1, z1⟩ := arg_rows (φ := fun _ => none) (hval 1 25 v1 rfl rfl) h1 fun k hk => hwt k (List.mem_append.2 (.inr (List.mem_append.2 (.inl hk))))
    exact ⟨_, _, vrs2 q0 q1, sets_l y0 b1 y1 s0 s1 z1⟩
theorem barrelSets_holds : Rows.BarrelSetsSaid :=
  OpenClaim.holds_of_wide 3 Try.f3 rfl rfl rfl rfl rfl rfl rfl ⟨rfl, rfl, rfl, rfl, rfl⟩ rfl rfl rfl rfl rfl (by kernel_rfl) Try.func3 (by kernel_rfl)
    (of_decide_eq_true (by kernel_rfl)) (by unfold Func.isWrapper; first | (rw [if_pos (by decide +kernel)]; kernel_rfl) | (rw [if_neg (by decide +kernel)]; exact ⟨rfl, rfl⟩))
    (fun os started H enc _ => barrelSets_lifted os started H enc)
end Go.Proofs.Ytampldajinhenaa

