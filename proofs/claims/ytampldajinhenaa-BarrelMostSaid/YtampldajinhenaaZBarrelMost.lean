/- BarrelMost holds: the barrels that are returned are such; no more can be set up, and with a stave more or more Play not fewer. No condition. -/
import Derived.Test.YtampldajinhenaaK6
set_option linter.all false
namespace Go.AL.Br
open Go Go.AL Go.AL.Q
def fillS (y : List Cask) (lv : List Int) (top : Int) : List Int := if top ≥ 0 then lv.set top.toNat (ck y top.toNat).full else lv
structure LvS (n : Nat) (l : List Int) : Prop where
  n : l.length = n
  b : ∀ x ∈ l, 0 ≤ x ∧ x ≤ 1000
theorem LvS.get {n : Nat} {l : List Int} (h : LvS n l) {i : Nat} (hi : i < n) : 0 ≤ l.getD i 0 ∧ l.getD i 0 ≤ 1000 := by
  have hl : i < l.length := by rw [h.n]; exact hi
  have e : l.getD i 0 = l[i] := by simp [List.getD_eq_getElem?_getD, hl]
  rw [e]; exact h.b _ (List.getElem_mem hl)
theorem LvS.fill {n : Nat} {l : List Int} (h : LvS n l) {y : List Cask} (hy : ∀ c ∈ y, c.Ok) (top : Int) : LvS n (fillS y l top) := by
  unfold fillS
  split
  · exact ⟨by rw [List.length_set]; exact h.n, fun z hz => by
      rcases List.mem_or_eq_of_mem_set hz with h1 | rfl
      · exact h.b z h1
      · have := ck_ok hy top.toNat; omega⟩
  · exact h
end Go.AL.Br

namespace Go.AL.Br
open Go Go.AL Go.AL.Q
structure Ris (p : Pile) (s : List Int) : Prop where
  r : s.Pairwise (· < ·)
  i : StIn p s
theorem lt_len {n : Int} : ∀ {s : List Int} (lo : Int), (∀ x ∈ s, lo < x ∧ x < n) → s.Pairwise (· < ·) → (s.length : Int) ≤ max 0 (n - 1 - lo)
  | [], lo, _, _ => by simp; omega
  | k :: ks, lo, h, hp => by
    rw [List.pairwise_cons] at hp
    have h1 := h k (by simp)
    have := lt_len k (fun x hx => ⟨hp.1 x hx, (h x (by simp [hx])).2⟩) hp.2
    simp only [List.length_cons]
    push_cast
    omega
theorem Ris.len {p : Pile} {s : List Int} (h : Ris p s) : s.length ≤ p.st.length := by
  have := lt_len (n := p.st.length) (-1) (fun x hx => by have := h.i x hx; omega) h.r
  omega
structure Pack (p : Pile) (g : List Bool) (L : List (List Int)) : Prop where
  r : ∀ s ∈ L, Ris p s
  b : ∀ s ∈ L, isB p s = true
  f : ∀ s ∈ L, ∀ k ∈ s, gn g k = false
  d : L.Pairwise fun s t => ∀ k ∈ s, k ∉ t
theorem isB_ne {p : Pile} {s : List Int} (h : isB p s = true) : s ≠ [] := fun e => by subst e; unfold isB at h; simp at h
theorem Pack.nil (p : Pile) (g : List Bool) : Pack p g [] := ⟨(fun _ h => nomatch h), (fun _ h => nomatch h), (fun _ h => nomatch h), List.Pairwise.nil⟩
theorem in_ten {p : Pile} (hp : p.Ok) {g : List Bool} (h : g.length = 10) {s : List Int} (hs : StIn p s) : ∀ k ∈ s, 0 ≤ k ∧ k < (g.length : Int) := fun k hk => by
  have := hs k hk
  have := hp.n
  omega
theorem Pack.cons {p : Pile} (hp : p.Ok) {g : List Bool} (hg : g.length = 10) {s : List Int} {L : List (List Int)} : Pack p g (s :: L) ↔ Ris p s ∧ isB p s = true ∧ (∀ k ∈ s, gn g k = false) ∧ Pack p (markG g s) L := by
  constructor
  · intro h
    have hr := h.r s (by simp)
    have hd := List.pairwise_cons.1 h.d
    refine ⟨hr, h.b s (by simp), h.f s (by simp), fun t ht => h.r t (by simp [ht]), fun t ht => h.b t (by simp [ht]), fun t ht k hk => ?_, hd.2⟩
    have h0 := (h.r t (by simp [ht])).i k hk
    rw [markG_gn (in_ten hp hg hr.i) h0.1, h.f t (by simp [ht]) k hk, Bool.or_false, decide_eq_false]
    exact fun hks => hd.1 t ht k hks hk
  · rintro ⟨hr, hb, hf, h⟩
    have key : ∀ t ∈ L, ∀ k ∈ t, k ∉ s ∧ gn g k = false := fun t ht k hk => by
      have h0 := (h.r t ht).i k hk
      have := h.f t ht k hk
      rw [markG_gn (in_ten hp hg hr.i) h0.1, Bool.or_eq_false_iff, decide_eq_false_iff_not] at this
      exact this
    refine ⟨fun t ht => ?_, fun t ht => ?_, fun t ht => ?_, List.pairwise_cons.2 ⟨fun t ht k hks hkt => (key t ht k hkt).1 hks, h.d⟩⟩
    · rcases List.mem_cons.1 ht with rfl | ht
      · exact hr
      · exact h.r t ht
    · rcases List.mem_cons.1 ht with rfl | ht
      · exact hb
      · exact h.b t ht
    · rcases List.mem_cons.1 ht with rfl | ht
      · exact hf
      · exact fun k hk => (key t ht k hk).2
theorem areRow_iff {n : Int} (hn : n ≤ 10) : ∀ (ks : List Int) (g : List Bool) (last : Int) (g' : List Bool), g.length = 10 → -1 ≤ last →
    (areRow n g last ks = some g' ↔ (ks.Pairwise (· < ·) ∧ (∀ k ∈ ks, last < k ∧ k < n) ∧ (∀ k ∈ ks, gn g k = false)) ∧ g' = markG g ks)
  | [], g, last, g', _, _ => by
    rw [areRow]
    exact ⟨fun h => ⟨⟨.nil, (fun _ h => nomatch h), (fun _ h => nomatch h)⟩, by cases h; rfl⟩, fun h => by rw [h.2]; rfl⟩
  | k :: ks, g, last, g', hg, hl => by
    rw [areRow]
    by_cases h1 : wi k (last + 1) (n - 1) = true
    · have h1' := wi_iff.1 h1
      rw [h1]
      by_cases h2 : gn g k = true
      · rw [h2, if_pos (show cond (!true) true true = true from rfl)]
        exact ⟨(fun h => by cases h), fun h => by
          have := h.1.2.2 k (by simp)
          rw [h2] at this; cases this⟩
      · have h2 : gn g k = false := by simpa using h2
        rw [h2, if_neg (by decide), areRow_iff hn ks _ k g' (by rw [List.length_set]; exact hg) (by omega), List.pairwise_cons]
        have hgn : ∀ x ∈ ks, k < x → gn (g.set k.toNat true) x = gn g x := fun x _ hx => by
          rw [gn_set (by omega) (by omega), decide_eq_false (by omega), Bool.false_or]
        constructor
        · rintro ⟨⟨a1, a2, a3⟩, a4⟩
          refine ⟨⟨⟨fun x hx => (a2 x hx).1, a1⟩, fun x hx => ?_, fun x hx => ?_⟩, a4⟩
          · rcases List.mem_cons.1 hx with rfl | hx
            · omega
            · have := a2 x hx; omega
          · rcases List.mem_cons.1 hx with rfl | hx
            · exact h2
            · rw [← hgn x hx (a2 x hx).1]; exact a3 x hx
        · rintro ⟨⟨⟨a0, a1⟩, a2, a3⟩, a4⟩
          exact ⟨⟨a1, fun x hx => ⟨a0 x hx, (a2 x (by simp [hx])).2⟩, fun x hx => by rw [hgn x hx (a0 x hx)]; exact a3 x (by simp [hx])⟩, a4⟩
    · have h1f : wi k (last + 1) (n - 1) = false := by simpa using h1
      rw [h1f, if_pos (show cond (!false) true (gn g k) = true from rfl)]
      refine ⟨(fun h => by cases h), fun h => ?_⟩
      have := h.1.2.1 k (by simp)
      exact absurd (wi_iff.2 (by omega)) h1
theorem areRow_ris {p : Pile} (hp : p.Ok) {g g' : List Bool} (hg : g.length = 10) {ks : List Int} : areRow p.st.length g (-1) ks = some g' ↔ (Ris p ks ∧ ∀ k ∈ ks, gn g k = false) ∧ g' = markG g ks := by
  have hn := hp.n
  rw [areRow_iff (by omega) ks g (-1) g' hg (by omega)]
  exact ⟨fun ⟨⟨a, b, c⟩, d⟩ => ⟨⟨⟨a, fun k hk => by have := b k hk; omega⟩, c⟩, d⟩, fun ⟨⟨a, c⟩, d⟩ => ⟨⟨a.r, fun k hk => by have := a.i k hk; omega, c⟩, d⟩⟩
theorem areGo_iff {p : Pile} (hp : p.Ok) : ∀ (l : List NL) (g : List Bool), g.length = 10 → (areGo p g l = true ↔ Pack p g (l.map NL.l))
  | [], g, _ => ⟨fun _ => .nil p g, fun _ => rfl⟩
  | s :: ss, g, hg => by
    rw [areGo, List.map_cons, Pack.cons hp hg]
    cases h : areRow p.st.length g (-1) s.l with
    | none =>
      refine ⟨(fun h => by cases h), fun ⟨a, _, c, _⟩ => ?_⟩
      rw [(areRow_ris hp hg).2 ⟨⟨a, c⟩, rfl⟩] at h
      cases h
    | some g' =>
      obtain ⟨⟨a, c⟩, rfl⟩ := (areRow_ris hp hg).1 h
      simp only
      by_cases hb : isB p s.l = true
      · rw [if_pos hb, areGo_iff hp ss _ (by rw [markG_len]; exact hg)]
        exact ⟨fun h => ⟨a, hb, c, h⟩, fun h => h.2.2.2⟩
      · rw [if_neg hb]
        exact ⟨(fun h => by cases h), fun h => absurd h.2.1 hb⟩
theorem ris_snoc {p : Pile} {s : List Int} {k : Int} : Ris p (s ++ [k]) ↔ Ris p s ∧ (0 ≤ k ∧ k < p.st.length) ∧ ∀ x ∈ s, x < k := by
  constructor
  · intro h
    have := List.pairwise_append.1 h.r
    exact ⟨⟨this.1, fun x hx => h.i x (by simp [hx])⟩, h.i k (by simp), fun x hx => this.2.2 x hx k (by simp)⟩
  · rintro ⟨h1, h2, h3⟩
    refine ⟨List.pairwise_append.2 ⟨h1.r, by simp, fun x hx y hy => ?_⟩, fun x hx => ?_⟩
    · have : y = k := by simpa using hy
      subst this; exact h3 x hx
    · rcases List.mem_append.1 hx with hx | hx
      · exact h1.i x hx
      · have : x = k := by simpa using hx
        subst this; exact h2
theorem last_max {s : List Int} (h : s.Pairwise (· < ·)) (hne : s ≠ []) : s.getLast?.getD 0 ∈ s ∧ ∀ x ∈ s, x ≤ s.getLast?.getD 0 := by
  obtain ⟨u, v, e⟩ : ∃ u v, s = u ++ [v] := ⟨s.dropLast, s.getLast hne, (List.dropLast_concat_getLast hne).symm⟩
  subst e
  rw [List.getLast?_concat, Option.getD_some]
  refine ⟨by simp, fun x hx => ?_⟩
  rcases List.mem_append.1 hx with hx | hx
  · have := (List.pairwise_append.1 h).2.2 x hx v (by simp); omega
  · have : x = v := by simpa using hx
    omega
theorem longF_ris {p : Pile} {g : List Bool} : ∀ (f : Nat) (s t : List Int), t ∈ longF p g f s → Ris p s → s ≠ [] → Ris p t
  | 0, s, t, h, hs, _ => by
    rw [longF] at h
    split at h
    · simp at h; subst h; exact hs
    · cases h
  | f + 1, s, t, h, hs, hne => by
    rw [longF, List.mem_append] at h
    rcases h with h | h
    · split at h
      · simp at h; subst h; exact hs
      · cases h
    · rw [List.mem_flatMap] at h
      obtain ⟨k, hk, h⟩ := h
      have hk := List.mem_range.1 hk
      split at h
      · cases h
      · rename_i hc
        have hlk : ¬ (k : Int) ≤ s.getLast?.getD 0 := fun h => hc (by rw [decide_eq_true h]; rfl)
        refine longF_ris f (s ++ [(k : Int)]) t h (ris_snoc.2 ⟨hs, by omega, fun x hx => ?_⟩) (by simp)
        have := (last_max hs.r hne).2 x hx
        omega
theorem longF_has {p : Pile} {g : List Bool} : ∀ (f : Nat) (u s : List Int), s ≠ [] → Ris p (s ++ u) → isB p (s ++ u) = true → (∀ k ∈ u, gn g k = false) → u.length ≤ f → s ++ u ∈ longF p g f s
  | 0, u, s, hne, hr, hb, _, hl => by
    have : u = [] := List.length_eq_zero_iff.1 (by omega)
    subst this
    rw [List.append_nil] at *
    rw [longF, if_pos hb]; simp
  | f + 1, [], s, hne, hr, hb, _, _ => by
    rw [List.append_nil] at *
    rw [longF, if_pos hb]; simp
  | f + 1, k :: u, s, hne, hr, hb, hg, hl => by
    have e : s ++ k :: u = (s ++ [k]) ++ u := by simp
    have ih := longF_has f u (s ++ [k]) (by simp) (by rw [← e]; exact hr) (by rw [← e]; exact hb) (fun x hx => hg x (by simp [hx])) (by simpa using hl)
    rw [longF, List.mem_append]
    right
    rw [List.mem_flatMap]
    have hk := hr.i k (by simp)
    have hp := List.pairwise_append.1 hr.r
    have hlast := hp.2.2 _ (last_max hp.1 hne).1 k (by simp)
    refine ⟨k.toNat, List.mem_range.2 (by omega), ?_⟩
    have ek : ((k.toNat : Nat) : Int) = k := by omega
    rw [ek, if_neg, e]
    · exact ih
    · rw [hg k (by simp), decide_eq_false (by omega)]; decide
theorem bars_ris {p : Pile} {g : List Bool} {k : Nat} (hk : k < p.st.length) {t : List Int} (h : t ∈ barsF p (k : Int) g) : Ris p t :=
  longF_ris _ _ t h ⟨by simp, fun x hx => by simp at hx; subst hx; omega⟩ (by simp)
theorem bars_has {p : Pile} {g : List Bool} {k : Nat} (hf : FirstIs p g k) {t : List Int} (hr : Ris p t) (hb : isB p t = true) (hg : ∀ x ∈ t, gn g x = false) (hk : (k : Int) ∈ t) : t ∈ barsF p (k : Int) g := by
  cases t with
  | nil => cases hk
  | cons a u =>
    have ha := hr.i a (by simp)
    have hp := List.pairwise_cons.1 hr.r
    have e : a = (k : Int) := by
      rcases List.mem_cons.1 hk with h | h
      · exact h.symm
      · have h1 := hp.1 _ h
        have h2 := hf.b a.toNat (by omega)
        have h3 := hg a (by simp)
        rw [show ((a.toNat : Nat) : Int) = a by omega, h3] at h2
        cases h2
    subst e
    have hl := hr.len
    simp only [List.length_cons] at hl
    exact longF_has p.st.length u [(k : Int)] (by simp) hr hb (fun x hx => hg x (by simp [hx])) (by omega)
theorem better_ge (rec : List Bool → List (List Int)) (g : List Bool) : ∀ (l : List (List Int)) (b : List (List Int)), b.length ≤ (l.foldl (betterF rec g) b).length ∧ ∀ s ∈ l, (rec (markG g s)).length + 1 ≤ (l.foldl (betterF rec g) b).length
  | [], b => ⟨Nat.le_refl _, fun _ h => nomatch h⟩
  | a :: l, b => by
    rw [List.foldl_cons]
    obtain ⟨h1, h2⟩ := better_ge rec g l (betterF rec g b a)
    have h3 : b.length ≤ (betterF rec g b a).length ∧ (rec (markG g a)).length + 1 ≤ (betterF rec g b a).length := by
      unfold betterF
      split
      · simp only [List.length_cons]; omega
      · omega
    refine ⟨by omega, fun s hs => ?_⟩
    rcases List.mem_cons.1 hs with rfl | hs
    · omega
    · exact h2 s hs
theorem all_gone {p : Pile} (hp : p.Ok) {g : List Bool} (h : GOk p g) (ha : (g == allG p) = true) {L : List (List Int)} (hL : Pack p g L) : L = [] := by
  cases L with
  | nil => rfl
  | cons s L =>
    exfalso
    cases s with
    | nil => exact isB_ne (hL.b [] (by simp)) rfl
    | cons k s =>
      have h1 := (hL.r (k :: s) (by simp)).i k (by simp)
      have h2 := hL.f (k :: s) (by simp) k (by simp)
      have h3 := (allG_eq hp h).1 ha k.toNat (by omega)
      rw [show ((k.toNat : Nat) : Int) = k by omega, h2] at h3
      cases h3
theorem most_ge {p : Pile} (hp : p.Ok) : ∀ (f : Nat) (g : List Bool), GOk p g → leftN p g ≤ f → ∀ L, Pack p g L → L.length ≤ (mostF p f g).length
  | 0, g, h, hl, L, hL => by rw [all_gone hp h (leftN_zero hp h (by omega)) hL]; simp
  | f + 1, g, h, hl, L, hL => by
    rw [mostF]
    by_cases e : (g == allG p) = true
    · rw [all_gone hp h e hL]; simp
    · have e : (g == allG p) = false := by simpa using e
      rw [if_neg (by rw [e]; decide)]
      have hf := first_is hp h e
      have hs1 : StIn p [(firstG g : Int)] := fun x hx => by simp at hx; subst hx; have := hf.n; omega
      have l1 := left_mark hp h hf hs1 (by simp)
      obtain ⟨b1, b2⟩ := better_ge (mostF p f) g (barsF p (firstG g) g) (mostF p f (g.set (firstG g) true))
      by_cases hk : ∃ s ∈ L, ((firstG g : Nat) : Int) ∈ s
      · obtain ⟨s, h1, h2⟩ := hk
        have hbar := bars_has hf (hL.r s h1) (hL.b s h1) (hL.f s h1) h2
        have l2 := left_mark hp h hf (hL.r s h1).i h2
        obtain ⟨A, B, rfl⟩ := List.append_of_mem h1
        have hd := List.pairwise_append.1 hL.d
        have hd2 := List.pairwise_cons.1 hd.2.1
        have hmem : ∀ t, t ∈ A ++ B → t ∈ A ++ s :: B := fun t ht => by
          rcases List.mem_append.1 ht with h | h
          · simp [h]
          · simp [h]
        have hP : Pack p (markG g s) (A ++ B) := by
          refine ⟨fun t ht => hL.r t (hmem t ht), fun t ht => hL.b t (hmem t ht), fun t ht x hx => ?_, List.pairwise_append.2 ⟨hd.1, hd2.2, fun a ha b hb => hd.2.2 a ha b (by simp [hb])⟩⟩
          have h0 := (hL.r t (hmem t ht)).i x hx
          rw [markG_gn (in_ten hp h.n (hL.r s h1).i) h0.1, hL.f t (hmem t ht) x hx, Bool.or_false, decide_eq_false]
          intro hxs
          rcases List.mem_append.1 ht with h3 | h3
          · exact hd.2.2 t h3 s (by simp) x hx hxs
          · exact hd2.1 t h3 x hxs hx
        have ih := most_ge hp f _ (h.mark (hL.r s h1).i hp) (by omega) _ hP
        have := b2 s hbar
        simp only [List.length_append, List.length_cons] at ih ⊢
        omega
      · have hP : Pack p (g.set (firstG g) true) L := by
          refine ⟨hL.r, hL.b, fun t ht x hx => ?_, hL.d⟩
          have h0 := (hL.r t ht).i x hx
          have hn := hp.n
          have hfn := hf.n
          have := gn_set (g := g) (i := (firstG g : Int)) (k := x) (by have := h.n; omega) h0.1
          rw [Int.toNat_natCast] at this
          rw [this, hL.f t ht x hx, Bool.or_false, decide_eq_false]
          intro h3
          exact hk ⟨t, ht, by rw [← h3]; exact hx⟩
        rw [mark_one] at b1 hP ⊢
        have ih := most_ge hp f _ (h.mark hs1 hp) (by omega) _ hP
        omega
theorem most_pack {p : Pile} (hp : p.Ok) : ∀ (f : Nat) (g : List Bool), GOk p g → Pack p g (mostF p f g)
  | 0, g, _ => .nil p g
  | f + 1, g, h => by
    rw [mostF]
    by_cases e : (g == allG p) = true
    · rw [if_pos e]; exact .nil p g
    · have e : (g == allG p) = false := by simpa using e
      rw [if_neg (by rw [e]; decide)]
      have hf := first_is hp h e
      have hs1 : StIn p [(firstG g : Int)] := fun x hx => by simp at hx; subst hx; have := hf.n; omega
      have h0 : Pack p g (mostF p f (g.set (firstG g) true)) := by
        have ih := most_pack hp f (g.set (firstG g) true) (by rw [mark_one]; exact h.mark hs1 hp)
        refine ⟨ih.r, ih.b, fun t ht x hx => ?_, ih.d⟩
        have h1 := ih.f t ht x hx
        have h2 := (ih.r t ht).i x hx
        rw [mark_one, markG_gn (in_ten hp h.n hs1) h2.1, Bool.or_eq_false_iff] at h1
        exact h1.2
      have key : ∀ (l : List (List Int)) (b : List (List Int)), (∀ s ∈ l, s ∈ barsF p (firstG g) g) → Pack p g b → Pack p g (l.foldl (betterF (mostF p f) g) b) := by
        intro l
        induction l with
        | nil => intro b _ hb; exact hb
        | cons s l ih =>
          intro b hl hb
          rw [List.foldl_cons]
          refine ih _ (fun t ht => hl t (by simp [ht])) ?_
          unfold betterF
          split
          · obtain ⟨m1, m2, m3, m4⟩ := bars_mem hf (hl s (by simp))
            exact (Pack.cons hp h.n).2 ⟨bars_ris hf.n (hl s (by simp)), m2, m4, most_pack hp f _ (h.mark m3 hp)⟩
          · exact hb
      exact key _ _ (fun s h => h) h0
theorem set_R {p : Pile} (hpo : p.ok = true) : ∃ L, Pack p g0 L ∧ (∀ M, Pack p g0 M → M.length ≤ L.length) ∧ SetR p = (L, if L.length = 0 then 4 else 0) := by
  have hp := Pile.ok_iff.1 hpo
  refine ⟨mostF p 10 g0, most_pack hp 10 g0 (g0_ok p), fun M hM => most_ge hp 10 g0 (g0_ok p) (by have := leftN_le p g0; have := hp.n; omega) M hM, ?_⟩
  unfold SetR
  rw [if_pos hpo]
  by_cases h : mostF p 10 g0 = []
  · rw [if_pos h, h]; rfl
  · rw [if_neg h, if_neg (fun h2 => h (List.length_eq_zero_iff.1 h2))]
theorem are_R {p : Pile} (hpo : p.ok = true) {L : List (List Int)} (h : Pack p g0 L) : AreR p (L.map fun s => ⟨false, s⟩) = (true, 0) := by
  have hp := Pile.ok_iff.1 hpo
  unfold AreR
  rw [if_pos hpo]
  have : areGo p g0 (L.map fun s => (⟨false, s⟩ : NL)) = true := (areGo_iff hp _ g0 rfl).2 (by
    rw [List.map_map]
    show Pack p g0 (L.map fun s => s)
    rw [List.map_id']; exact h)
  rw [this]
end Go.AL.Br

namespace Go.AL.Br
open Go Go.AL Go.AL.Q
def bk (bits : List Int) (i : Nat) : Int := pickF bits i % 5
theorem bk_bd (bits : List Int) (i : Nat) : 0 ≤ bk bits i ∧ bk bits i < 5 := by unfold bk; omega
def rowK (bits : List Int) (k : Nat) : Nat → List Int
  | 0 => []
  | i + 1 => rowK bits k i ++ if bk bits i = (k : Int) then [(i : Int)] else []
theorem rowK_mem {bits : List Int} {k : Nat} : ∀ {i : Nat} {x : Int}, x ∈ rowK bits k i → 0 ≤ x ∧ x < i ∧ bk bits x.toNat = (k : Int)
  | 0, x, h => nomatch h
  | i + 1, x, h => by
    rw [rowK] at h
    rcases List.mem_append.1 h with h | h
    · have := rowK_mem h; omega
    · split at h
      · rename_i hb
        have : x = (i : Int) := by simpa using h
        subst this
        rw [Int.toNat_natCast]
        omega
      · cases h
theorem rowK_ris {p : Pile} {bits : List Int} {k : Nat} : ∀ {i : Nat}, i ≤ p.st.length → Ris p (rowK bits k i)
  | 0, _ => ⟨.nil, fun _ h => nomatch h⟩
  | i + 1, hi => by
    rw [rowK]
    split
    · exact ris_snoc.2 ⟨rowK_ris (by omega), by omega, fun x hx => (rowK_mem hx).2.1⟩
    · rw [List.append_nil]; exact rowK_ris (by omega)
def sumK (p : Pile) (bits : List Int) (k i : Nat) : Int := (wds p (rowK bits k i)).sum
theorem sumK_succ (p : Pile) (bits : List Int) (k i : Nat) : sumK p bits k (i + 1) = sumK p bits k i + if bk bits i = (k : Int) then stv p i else 0 := by
  unfold sumK wds
  rw [rowK]
  split
  · rw [List.map_append, List.sum_append]; simp
  · rw [List.append_nil]; omega
theorem sumK_bd {p : Pile} (hp : p.Ok) (bits : List Int) (k : Nat) : ∀ {i : Nat}, i ≤ p.st.length → 0 ≤ sumK p bits k i ∧ sumK p bits k i ≤ 500 * (i : Int)
  | 0, _ => by simp [sumK, rowK, wds]
  | i + 1, hi => by
    have ih := sumK_bd hp bits k (i := i) (by omega)
    have := stv_in hp (k := (i : Int)) (by omega)
    rw [sumK_succ]
    split <;> omega
def sumsL (p : Pile) (bits : List Int) (i : Nat) : List Int := (List.range 5).map fun k => sumK p bits k i
theorem sumsL_get {p : Pile} {bits : List Int} {i k : Nat} (h : k < 5) : (sumsL p bits i).getD k 0 = sumK p bits k i := by simp [sumsL, List.getD_eq_getElem?_getD, h]
theorem sumsL_len (p : Pile) (bits : List Int) (i : Nat) : (sumsL p bits i).length = 5 := by simp [sumsL]
theorem sumsL_set (p : Pile) (bits : List Int) (i : Nat) : (sumsL p bits i).set (bk bits i).toNat (sumK p bits (bk bits i).toNat i + stv p i) = sumsL p bits (i + 1) := by
  have hb := bk_bd bits i
  refine List.ext_getElem (by simp [sumsL]) fun j h1 h2 => ?_
  simp only [List.getElem_set, sumsL, List.getElem_map, List.getElem_range]
  rw [sumK_succ]
  by_cases e : (bk bits i).toNat = j
  · subst e
    rw [if_pos rfl, if_pos (by omega)]
  · rw [if_neg e, if_neg (by omega)]; omega
def okK (p : Pile) (bits : List Int) (k : Nat) : Bool := cond (decide (sumK p bits k p.st.length > 0)) (wi (sumK p bits k p.st.length) (p.girth - p.play) p.girth) false
def manyK (p : Pile) (bits : List Int) (j : Nat) : Nat := ((List.range j).filter (okK p bits)).length
theorem manyK_succ (p : Pile) (bits : List Int) (j : Nat) : manyK p bits (j + 1) = manyK p bits j + if okK p bits j = true then 1 else 0 := by
  unfold manyK
  rw [List.range_succ, List.filter_append, List.length_append]
  cases h : okK p bits j <;> simp [h]
theorem many_pack (p : Pile) (bits : List Int) : Pack p g0 (((List.range 5).filter (okK p bits)).map fun k => rowK bits k p.st.length) := by
  refine ⟨fun s hs => ?_, fun s hs => ?_, fun s hs k hk => ?_, ?_⟩
  · obtain ⟨k, _, rfl⟩ := List.mem_map.1 hs
    exact rowK_ris (Nat.le_refl _)
  · obtain ⟨k, hk, rfl⟩ := List.mem_map.1 hs
    have hok := (List.mem_filter.1 hk).2
    unfold okK at hok
    rw [c_and, Bool.and_eq_true, decide_eq_true_eq] at hok
    unfold isB
    rw [c_and, Bool.and_eq_true, decide_eq_true_eq]
    refine ⟨?_, hok.2⟩
    have h1 := hok.1
    cases hr : rowK bits k p.st.length with
    | nil =>
      unfold sumK at h1
      rw [hr] at h1
      simp [wds] at h1
    | cons x t => simp only [List.length_cons]; omega
  · unfold gn g0
    rw [List.getD_eq_getElem?_getD, List.getElem?_replicate]
    split <;> rfl
  · rw [List.pairwise_map]
    refine List.Pairwise.filter _ ?_
    refine List.Pairwise.imp ?_ List.nodup_range
    intro a b hab k h1 h2
    have e1 := (rowK_mem h1).2.2
    have e2 := (rowK_mem h2).2.2
    omega
theorem many_le {p : Pile} {bits : List Int} {L : List (List Int)} (hL : ∀ M, Pack p g0 M → M.length ≤ L.length) : manyK p bits 5 ≤ L.length := by
  have := hL _ (many_pack p bits)
  rwa [List.length_map] at this
def playX (p : Pile) (n0 : Int) : Int := chosenF p.play (if 100 > p.play then 100 else p.play) n0
theorem playX_bd {p : Pile} (hp : p.Ok) (n0 : Int) : p.play ≤ playX p n0 ∧ playX p n0 ≤ 100 := by
  have := hp.pl
  unfold playX
  have h1 : p.play ≤ (if 100 > p.play then 100 else p.play) ∧ (if 100 > p.play then 100 else p.play) ≤ 100 := by split <;> omega
  have h := chosen_in (n := n0) h1.1
  omega
theorem more_ok {p : Pile} (hp : p.Ok) {nn : Bool} {tl : List Int} (ht : ∀ x ∈ tl, 1 ≤ x ∧ x ≤ 500) (hl : p.st.length + tl.length ≤ 10) (n0 : Int) : (⟨nn, p.st ++ tl, p.girth, playX p n0⟩ : Pile).Ok := by
  have h1 := playX_bd hp n0
  have h2 := hp.n
  have h3 := hp.pl
  refine ⟨by show 1 ≤ (p.st ++ tl).length ∧ (p.st ++ tl).length ≤ 10; rw [List.length_append]; omega, hp.g, by show 0 ≤ playX p n0 ∧ playX p n0 ≤ 100; omega, fun x hx => ?_⟩
  rcases List.mem_append.1 hx with h | h
  · exact hp.st x h
  · exact ht x h
theorem more_pack {p : Pile} (hp : p.Ok) {nn : Bool} {tl : List Int} (n0 : Int) {L : List (List Int)} (h : Pack p g0 L) : Pack (⟨nn, p.st ++ tl, p.girth, playX p n0⟩ : Pile) g0 L := by
  have hr : ∀ s, Ris p s → Ris (⟨nn, p.st ++ tl, p.girth, playX p n0⟩ : Pile) s := fun s hs => ⟨hs.r, fun k hk => by
    have := hs.i k hk
    show 0 ≤ k ∧ k < ((p.st ++ tl).length : Int)
    rw [List.length_append]; omega⟩
  refine ⟨fun s hs => hr s (h.r s hs), fun s hs => ?_, h.f, h.d⟩
  have h1 := h.b s hs
  have h2 := playX_bd hp n0
  have e : wds (⟨nn, p.st ++ tl, p.girth, playX p n0⟩ : Pile) s = wds p s := by
    unfold wds
    refine List.map_congr_left fun k hk => ?_
    have := (h.r s hs).i k hk
    show (p.st ++ tl).getD k.toNat 0 = p.st.getD k.toNat 0
    rw [List.getD_eq_getElem?_getD, List.getD_eq_getElem?_getD, List.getElem?_append_left (by omega)]
  unfold isB at h1 ⊢
  rw [c_and, Bool.and_eq_true, decide_eq_true_eq, wi_iff] at h1
  rw [c_and, Bool.and_eq_true, decide_eq_true_eq, wi_iff, e]
  refine ⟨h1.1, ?_⟩
  show p.girth - playX p n0 ≤ _ ∧ _ ≤ p.girth
  omega
end Go.AL.Br

namespace Go.Proofs.Ytampldajinhenaa
open Go Go.AL Go.AL.Q Go.AL.Br
end Go.Proofs.Ytampldajinhenaa

namespace Go.Proofs.Ytampldajinhenaa
open Go Go.AL Go.AL.Q Go.AL.Br
end Go.Proofs.Ytampldajinhenaa

namespace Go.Proofs.Ytampldajinhenaa
open Go Go.AL Go.AL.Q Go.AL.Br
theorem wood_t (p : Pile) (hpl : (p.st.length : Int) ≤ 9223372036854775806) : Ans Try.prog 40 [.agg p.c] (.bool p.ok) := by
  have li := ints_lenI p.st
  have c1 := pile_t p hpl
  have hk : p.chk = if p.ok then 0 else 60 := rfl
  have hw : p.ok = true → wi p.st.length 1 10 = true := fun h => by
    have := (Pile.ok_iff.1 h).n
    exact wi_iff.2 (by omega)
  have c2 := in_t p.st.length 1 10
  rw [← li] at c2
  refine told Try.func40 rfl rfl (Pure.of tab_ok Try.func40 rfl Try.ntmps40 rfl (all1 (.agg _ p.free)) (all1 (fun _ => rfl)) (by first | exact .s _ | assumption | exact .tup _ (by intro x hx; simp only [List.mem_cons, List.not_mem_nil, or_false] at hx; rcases hx with rfl | rfl | rfl | rfl <;> first | exact .s _ | (simp_all; done))) fun E hE => ?_)
  refine Aw.sm tab_ok mb0 [] rfl rfl ?zo ?zk
  case zo =>
    repeat' apply AllP.cons
    all_goals first | exact trivial
  case zk =>
  refine Aw.sm tab_ok mb0 [(1, [.int p.chk]), (7, [.bool (wi p.st.length 1 10)])] rfl rfl ?zo ?zk
  case zo =>
    repeat' apply AllP.cons
    all_goals first | exact trivial | exact id | exact fun _ => rfl | exact Nat.le_of_ble_eq_true rfl | exact fun _ => Nat.le_of_ble_eq_true rfl | exact c1 | exact fun _ => (li ▸ c2)
  case zk =>
  refine Aw.ret ⟨_, .cons (.tmp _) .nil, ?_⟩
  show A.bool (cond (p.chk == 0) (wi p.st.length 1 10) false) = A.bool p.ok
  rw [hk]
  cases h : p.ok with
  | true => rw [hw h]; rfl
  | false => rfl
theorem st_at {p : Pile} {i : Nat} (h : i < p.st.length) : (ints p.st)[i]? = some [A.int (stv p i)] := by
  have := ints_getD (l := p.st) (k := i) h
  unfold stv
  rw [Int.toNat_natCast]; exact this
set_option maxRecDepth 100000 in
set_option maxHeartbeats 4000000 in
theorem most_l (p : Pile) (lb : Bool) (bits : List Int) (n0 n1 : Int) (hpl : (p.st.length : Int) ≤ 9223372036854775806) (hbl : (bits.length : Int) ≤ 9223372036854775806) : Ans Try.prog 7 [.agg p.c, .sl lb .any (ints bits), .agg [.int n0, .int n1]] (.bool true) := by
  have li := ints_lenI p.st
  have fb : Free (.sl lb .any (ints bits)) := free_ints _ _ _
  have ub : ∀ {m : Nat}, Under m (A.sl lb .any (ints bits)) := fb.under
  have hn2 : ∀ x ∈ [A.int n0, A.int n1], Free x := allC (.s _) (all1 (.s _))
  have un : ∀ {m : Nat}, Under m (A.pt [.int n0, .int n1]) := (Free.pt _ hn2).under
  have up : ∀ {m : Nat}, Under m (A.pt p.c) := (Free.pt _ p.free).under
  have c1 := wood_t p hpl
  refine told Try.func7 rfl rfl (Pure.of tab_ok Try.func7 rfl Try.ntmps7 rfl (allC (.agg _ p.free) (allC (fb) (all1 (.agg _ hn2)))) (allC (fun _ => rfl) (allC (fun _ => rfl) (all1 (fun _ => rfl)))) (by first | exact .s _ | assumption | exact .tup _ (by intro x hx; simp only [List.mem_cons, List.not_mem_nil, or_false] at hx; rcases hx with rfl | rfl | rfl | rfl <;> first | exact .s _ | (simp_all; done))) fun E hE => ?_)
  refine Aw.sm tab_ok mb0 [] rfl rfl ?zo ?zk
  case zo =>
    repeat' apply AllP.cons
    all_goals first | exact trivial
  case zk =>
  by_cases hpo : p.ok = true
  rotate_left
  · have hpo : p.ok = false := by simpa using hpo
    rw [hpo] at c1
    refine Aw.seq ?_
    refine Aw.sm tab_ok mb0 [(1, [.bool false])] rfl rfl ?zo ?zk
    case zo =>
      repeat' apply AllP.cons
      all_goals first | exact trivial | exact Nat.le_of_ble_eq_true rfl | exact c1
    case zk =>
    refine Aw.cond rfl (fun h => ?_) (fun h => by cases h)
    refine Aw.sm tab_ok mb0 [(0, [.bool true])] rfl rfl ?zo ?zk
    case zo =>
      repeat' apply AllP.cons
      all_goals first | exact trivial | exact works_t
    case zk =>
    exact Aw.ret ⟨_, .cons (.tmp _) .nil, rfl⟩
  rw [hpo] at c1
  have hp := Pile.ok_iff.1 hpo
  have hpn := hp.n
  refine Aw.seq ?_
  refine Aw.sm tab_ok mb0 [(1, [.bool true])] rfl rfl ?zo ?zk
  case zo =>
    repeat' apply AllP.cons
    all_goals first | exact trivial | exact Nat.le_of_ble_eq_true rfl | exact c1
  case zk =>
  refine Aw.cond rfl (fun h => by cases h) (fun h => Aw.skip ?_)
  obtain ⟨L, hL, hmax, hR⟩ := set_R hpo
  have hLl : L.length ≤ 10 := by
    have e : SetR p = (mostF p 10 g0, (SetR p).2) := by
      unfold SetR
      rw [if_pos hpo]
      by_cases h : mostF p 10 g0 = []
      · rw [if_pos h, h]
      · rw [if_neg h]
    rw [hR] at e
    have e : L = mostF p 10 g0 := congrArg Prod.fst e
    rw [e]; exact mostF_len p 10 g0
  have c2 := Set_w p hpl
  rw [hR] at c2
  have hlen : ∀ x ∈ L.map fun s => (⟨false, s⟩ : NL), (x.l.length : Int) ≤ 9223372036854775806 := fun x hx => by
    obtain ⟨s, hs, rfl⟩ := List.mem_map.1 hx
    have := (hL.r s hs).len
    show (s.length : Int) ≤ _
    omega
  have c3 := are_t p hpl L.isEmpty (L.map fun s => ⟨false, s⟩) (by rw [List.length_map]; omega) hlen
  rw [are_R hpo hL, List.map_map] at c3
  have c3 : Ans Try.prog 16 [.agg p.c, setW L] (.tup [.bool true, .int 0]) := c3
  have lW := setW_len L
  have uW : ∀ {m : Nat}, Under m (setW L) := (setW_free L).under
  generalize hee : (if L.length = 0 then (4 : Int) else 0) = e at *
  refine Aw.sm tab_ok mb0 [(1, [.tup [setW L, .int e]])] rfl rfl ?zo ?zk
  case zo =>
    repeat' apply AllP.cons
    all_goals first | exact trivial | exact Nat.le_of_ble_eq_true rfl | exact c2
  case zk =>
  refine Aw.sm tab_ok mb0 [(2, [.tup [.bool true, .int 0]])] rfl rfl ?zo ?zk
  case zo =>
    repeat' apply AllP.cons
    all_goals first | exact trivial | exact Nat.le_of_ble_eq_true rfl | exact c3
  case zk =>
  refine Aw.seq ?_
  refine Aw.sm tab_ok mb0 [] rfl rfl ?zo ?zk
  case zo =>
    repeat' apply AllP.cons
    all_goals first | exact trivial | exact id | exact fun _ => rfl | exact gq_f | exact gq_c | exact fun _ _ => rfl
  case zk =>
  refine Aw.cond rfl (fun h => absurd h (by
    show ¬ (cond (cond (cond ((0 : Int) != 0) true (!true)) true ((e == 4) != ((((L.map yS).length : Nat) : Int) == 0))) true (cond (e != 0) (e != 4) false)) = true
    rw [lW, ← hee]
    by_cases h0 : L.length = 0
    · rw [if_pos h0, h0]; decide
    · rw [if_neg h0, show (((L.length : Nat) : Int) == 0) = false by simpa using h0]; decide)) (fun h => Aw.skip ?_)
  have h1e : ∀ id, 1 ≤ id → E.φ0 id = none := fun id _ => hE id (by omega)
  have hz : B.cells (((List.range (Int.toNat (5 : Int) * 1)).map fun j => (tab.zr 3).getD (j % 1) .un).map A.down) = iB (sumsL p bits 0) := rfl
  refine Aw.sm tab_ok mb0 [] rfl rfl ?zo ?zk
  case zo =>
    repeat' apply AllP.cons
    all_goals first | exact trivial | exact rfl | exact Int.natCast_nonneg _
  case zk =>
  refine Aw.keep (n := 1) (cst := [(1, .sl lb .any (ints bits)), (3, .pt p.c), (5, .pt [.int n0, .int n1]), (7, setW L), (11, .ms 0 0 5)]) (v := []) (Hl := [(0, iB (sumsL p bits 0))]) h1e ?zu ?zw ?zx ⟨?zc, ?zv, ?zh, Nat.le_of_ble_eq_true rfl⟩ ?zr
  case zu =>
    (repeat' (first | exact trivial | exact (free_ints _ _ _).under | exact Under.ms _ _ _ (by decide) | exact (Free.pt _ (by assumption)).under | exact up | exact uW | (refine And.intro ?_ ?_)))
  case zw =>
    (repeat' (first | exact trivial))
  case zx =>
    (repeat' (first | exact trivial | exact Nat.le_of_ble_eq_true rfl | exact iB_under _ | (refine And.intro ?_ ?_)))
  case zc =>
    (repeat' (first | (refine And.intro ?_ ?_) | exact trivial | exact A.Le.refl _))
  case zv =>
    (repeat' (first | exact trivial))
  case zh =>
    (repeat' (first | (refine And.intro ?_ ?_) | exact trivial | exact rfl))
  case zr =>
  refine Aw.seq ?_
  refine Aw.sm tab_ok mb0 [] rfl rfl ?zo ?zk
  case zo =>
    repeat' apply AllP.cons
    all_goals first | exact trivial
  case zk =>
  refine Aw.block (Aw.rounds 1 h1e [(1, .sl lb .any (ints bits)), (3, .pt p.c), (5, .pt [.int n0, .int n1]), (7, setW L), (11, .ms 0 0 5)] (fun i : Nat => [(12, .int i)]) (fun i => [(0, iB (sumsL p bits i))]) (fun i => i ≤ p.st.length) (fun i => p.st.length - i) 0 ?zg ⟨?zc, ?zv, ?zh, Nat.le_of_ble_eq_true rfl⟩ ?zu (fun i zhk => ?zw) (fun i zhk => ?zx) fun i hk => ?zr)
  case zg =>
    (repeat' (first | exact Nat.zero_le _))
  case zc =>
    (repeat' (first | (refine And.intro ?_ ?_) | exact trivial | exact A.Le.refl _))
  case zv =>
    (repeat' (first | (refine And.intro ?_ ?_) | exact trivial | exact A.Le.refl _))
  case zh =>
    (repeat' (first | (refine And.intro ?_ ?_) | exact trivial | exact rfl))
  case zu =>
    (repeat' (first | exact trivial | exact (free_ints _ _ _).under | exact Under.ms _ _ _ (by decide) | exact (Free.pt _ (by assumption)).under | exact up | exact uW | (refine And.intro ?_ ?_)))
  case zw =>
    (repeat' (first | exact trivial | exact Under.s _ | (refine And.intro ?_ ?_)))
  case zx =>
    (repeat' (first | exact trivial | exact Nat.le_of_ble_eq_true rfl | exact iB_under _ | (refine And.intro ?_ ?_)))
  case zr =>
  refine Aw.seq ?_
  refine Aw.sm tab_ok mb0 [] rfl rfl ?zo ?zk
  case zo =>
    repeat' apply AllP.cons
    all_goals first | exact trivial | exact Nat.le_of_ble_eq_true rfl
  case zk =>
  refine Aw.cond rfl (fun h1 => Aw.skip ?_) (fun h1 => ?_)
  · have hlt : i < p.st.length := by have := of_decide_eq_true h1; omega
    have c4 := pick_t lb bits i (by omega)
    have c5 := mod_t (pickF bits i) 5 (by decide) (by decide)
    have hbb := bk_bd bits i
    have hset := sumsL_set p bits i
    have hget := sumsL_get (p := p) (bits := bits) (i := i) (k := (bk bits i).toNat) (by omega)
    have hln := sumsL_len p bits i
    have hbd := sumK_bd hp bits (bk bits i).toNat (i := i) (by omega)
    have hst := st_at hlt
    have hsb := stv_in hp (k := (i : Int)) (by omega)
    have hbe : pickF bits i % 5 = bk bits i := rfl
    rw [hbe] at c5
    generalize pickF bits i = q at *
    generalize bk bits i = bb at *
    generalize sumK p bits bb.toNat i = v at *
    generalize stv p i = w at *
    generalize hS1 : sumsL p bits (i + 1) = S1 at *
    generalize sumsL p bits i = S0 at *
    have q1 : ((S0.map A.int).getD (0 + bb.toNat * 1) .un).down = .int v := by rw [← hget]; exact getI (by omega)
    have q2 : 0 + bb.toNat * 1 + 1 ≤ (S0.map A.int).length := by rw [List.length_map, hln]; omega
    have q3 : 0 + bb.toNat * 1 < (S0.map A.int).length := by omega
    have q4 : bb < ((5 : Nat) : Int) := by omega
    have hs := congrArg (fun x => some (B.cells x)) (set_cellsI (l := S0) (k := bb.toNat) (v := v + w) (by omega))
    rw [hset] at hs
    refine Aw.seq (Aw.block ?_)
    refine Aw.ed tab_ok mixed mb0 [(3, [.int q]), (4, [.int bb]), (6, [.int v]), (10, [.int w])] rfl (by kernel_rfl) rfl rfl ?zo ?zk
    case zo =>
      repeat' apply AllP.cons
      all_goals first | exact trivial | exact rfl | exact Nat.le_of_ble_eq_true rfl | exact Int.natCast_nonneg _ | exact c4 | exact c5 | exact q1 | exact q2 | exact q4 | exact hst | exact hbb.1 | exact (show inR (v + w) by simp only [inR]; omega)
    case zk =>
    refine Aw.em tab_ok mb0 [] rfl rfl ?zo ?zk
    case zo =>
      repeat' apply AllP.cons
      all_goals first | exact trivial | exact inrk i (by omega)
    case zk =>
    refine ⟨i + 1, ?zg, ?zm, ⟨?zc, ?zv, ?zh, Nat.le_of_ble_eq_true rfl⟩⟩
    case zg =>
      (repeat' (first | assumption))
    case zm =>
      (repeat' (first | omega))
    case zc =>
      (repeat' (first | (refine And.intro ?_ ?_) | exact trivial | exact A.Le.refl _))
    case zv =>
      (repeat' (first | (refine And.intro ?_ ?_) | exact trivial | exact A.Le.refl _))
    case zh =>
      (repeat' (first | (refine And.intro ?_ ?_) | exact trivial | exact hs.trans (congrArg (fun x => some (iB x)) hS1.symm)))
  have hle : i = p.st.length := by have := of_decide_eq_false h1; omega
  subst hle
  refine Aw.exit2 ?_
  refine Aw.sm tab_ok mb0 [] rfl rfl ?zo ?zk
  case zo =>
    repeat' apply AllP.cons
    all_goals first | exact trivial
  case zk =>
  refine Aw.seq ?_
  refine Aw.sm tab_ok mb0 [] rfl rfl ?zo ?zk
  case zo =>
    repeat' apply AllP.cons
    all_goals first | exact trivial
  case zk =>
  have hln := sumsL_len p bits p.st.length
  have hgt := fun k h => sumsL_get (p := p) (bits := bits) (i := p.st.length) (k := k) h
  have hbd := fun k => sumK_bd hp bits k (i := p.st.length) (Nat.le_refl _)
  have hok : ∀ k, okK p bits k = cond (decide (sumK p bits k p.st.length > 0)) (wi (sumK p bits k p.st.length) (p.girth - p.play) p.girth) false := fun k => rfl
  have hms := manyK_succ p bits
  have hml := many_le (p := p) (bits := bits) hmax
  generalize sumsL p bits p.st.length = SS at *
  refine Aw.block (Aw.rounds 1 h1e [(3, .pt p.c), (5, .pt [.int n0, .int n1]), (7, setW L), (11, .ms 0 0 5)] (fun k : Nat => [(13, .int (manyK p bits k)), (14, .int k)]) (fun k => [(0, iB SS)]) (fun k => k ≤ 5) (fun k => 5 - k) 0 ?zg ⟨?zc, ?zv, ?zh, Nat.le_of_ble_eq_true rfl⟩ ?zu (fun k zhk => ?zw) (fun k zhk => ?zx) fun k hk => ?zr)
  case zg =>
    (repeat' (first | exact Nat.zero_le _))
  case zc =>
    (repeat' (first | (refine And.intro ?_ ?_) | exact trivial | exact A.Le.refl _))
  case zv =>
    (repeat' (first | (refine And.intro ?_ ?_) | exact trivial | exact A.Le.refl _))
  case zh =>
    (repeat' (first | (refine And.intro ?_ ?_) | exact trivial | exact rfl))
  case zu =>
    (repeat' (first | exact trivial | exact Under.ms _ _ _ (by decide) | exact (Free.pt _ (by assumption)).under | exact up | exact uW | (refine And.intro ?_ ?_)))
  case zw =>
    (repeat' (first | exact trivial | exact Under.s _ | (refine And.intro ?_ ?_)))
  case zx =>
    (repeat' (first | exact trivial | exact Nat.le_of_ble_eq_true rfl | exact iB_under _ | (refine And.intro ?_ ?_)))
  case zr =>
  refine Aw.seq ?_
  refine Aw.sm tab_ok mb0 [] rfl rfl ?zo ?zk
  case zo =>
    repeat' apply AllP.cons
    all_goals first | exact trivial
  case zk =>
  refine Aw.cond rfl (fun h1 => Aw.skip ?_) (fun h1 => ?_)
  · have hlt : k < 5 := by have := of_decide_eq_true h1; omega
    have g1 := hgt k hlt
    have g2 := hbd k
    have g3 := hok k
    have g4 := hms k
    have c6 := in_t (sumK p bits k p.st.length) (p.girth - p.play) p.girth
    generalize sumK p bits k p.st.length = v at *
    generalize hM1 : manyK p bits (k + 1) = M1 at *
    have hMk : manyK p bits k ≤ k := by
      unfold manyK
      have := List.length_filter_le (okK p bits) (List.range k)
      rwa [List.length_range] at this
    generalize manyK p bits k = M0 at *
    have q1 : ((SS.map A.int).getD (0 + Int.toNat (k : Int) * 1) .un).down = .int v := by rw [← g1, Int.toNat_natCast]; exact getI (by omega)
    have q3 : 0 + Int.toNat (k : Int) * 1 < (SS.map A.int).length := by rw [List.length_map, Int.toNat_natCast]; omega
    have q4 : (k : Int) < ((5 : Nat) : Int) := by omega
    have hg := hp.g
    have hpp := hp.pl
    refine Aw.seq (Aw.block ?_)
    refine Aw.sd tab_ok mixed mb0 [(3, [.int v]), (9, [.int v]), (17, [.bool (wi v (p.girth - p.play) p.girth)])] rfl (by kernel_rfl) rfl rfl ?zo ?zk
    case zo =>
      repeat' apply AllP.cons
      all_goals first | exact trivial | exact id | exact fun _ => rfl | exact fun _ => Nat.le_of_ble_eq_true rfl | exact Int.natCast_nonneg _ | exact fun _ => Int.natCast_nonneg _ | exact q1 | exact q3 | exact q4 | exact fun _ => q1 | exact fun _ => q3 | exact fun _ => q4 | exact fun _ => c6 | exact fun _ => (show inR (p.girth - p.play) by simp only [inR]; omega)
    case zk =>
    refine Aw.cond rfl (fun h2 => ?_) (fun h2 => Aw.skip ?_)
    · have h2 : okK p bits k = true := g3.trans h2
      rw [if_pos h2] at g4
      refine Aw.em tab_ok mb0 [] rfl rfl ?zo ?zk
      case zo =>
        repeat' apply AllP.cons
        all_goals first | exact trivial | exact inrk M0 (by omega)
      case zk =>
      refine Aw.em tab_ok mb0 [] rfl rfl ?zo ?zk
      case zo =>
        repeat' apply AllP.cons
        all_goals first | exact trivial | exact inrk k (by omega)
      case zk =>
      refine ⟨k + 1, ?zg, ?zm, ⟨?zc, ?zv, ?zh, Nat.le_of_ble_eq_true rfl⟩⟩
      case zg =>
        (repeat' (first | assumption))
      case zm =>
        (repeat' (first | omega))
      case zc =>
        (repeat' (first | (refine And.intro ?_ ?_) | exact trivial | exact A.Le.refl _))
      case zv =>
        (repeat' (first | (refine And.intro ?_ ?_) | exact trivial | exact A.Le.refl _ | exact .of_eq (show A.int (manyK p bits (k + 1)) = A.int ((M0 : Int) + 1) by rw [hM1, g4]; rfl)))
      case zh =>
        (repeat' (first | (refine And.intro ?_ ?_) | exact trivial | exact rfl))
    · have h2 : ¬ okK p bits k = true := fun h => by
        have h2 : cond (decide (v > 0)) (wi v (p.girth - p.play) p.girth) false = false := h2
        rw [g3, h2] at h; cases h
      rw [if_neg h2] at g4
      refine Aw.em tab_ok mb0 [] rfl rfl ?zo ?zk
      case zo =>
        repeat' apply AllP.cons
        all_goals first | exact trivial | exact inrk k (by omega)
      case zk =>
      refine ⟨k + 1, ?zg, ?zm, ⟨?zc, ?zv, ?zh, Nat.le_of_ble_eq_true rfl⟩⟩
      case zg =>
        (repeat' (first | assumption))
      case zm =>
        (repeat' (first | omega))
      case zc =>
        (repeat' (first | (refine And.intro ?_ ?_) | exact trivial | exact A.Le.refl _))
      case zv =>
        (repeat' (first | (refine And.intro ?_ ?_) | exact trivial | exact A.Le.refl _ | exact .of_eq (show A.int (manyK p bits (k + 1)) = A.int (M0 : Int) by rw [hM1, g4]; rfl)))
      case zh =>
        (repeat' (first | (refine And.intro ?_ ?_) | exact trivial | exact rfl))
  have hle : k = 5 := by have := of_decide_eq_false h1; omega
  subst hle
  refine Aw.exit2 ?_
  generalize manyK p bits 5 = M5 at *
  refine Aw.seq ?_
  refine Aw.sm tab_ok mb0 [] rfl rfl ?zo ?zk
  case zo =>
    repeat' apply AllP.cons
    all_goals first | exact trivial
  case zk =>
  refine Aw.cond rfl (fun h => absurd h (by show ¬ decide ((M5 : Int) > (((L.map yS).length : Nat) : Int)) = true; rw [lW, decide_eq_false (by omega)]; decide)) (fun h => Aw.skip ?_)
  refine Aw.keep (n := 0) (cst := [(3, .pt p.c), (5, .pt [.int n0, .int n1]), (7, setW L)]) (v := []) (Hl := []) hE ?zu ?zw ?zx ⟨?zc, ?zv, ?zh, Nat.le_of_ble_eq_true rfl⟩ ?zr
  case zu =>
    (repeat' (first | exact trivial | exact (Free.pt _ (by assumption)).under | exact up | exact uW | (refine And.intro ?_ ?_)))
  case zw =>
    (repeat' (first | exact trivial))
  case zx =>
    (repeat' (first | exact trivial))
  case zc =>
    (repeat' (first | (refine And.intro ?_ ?_) | exact trivial | exact A.Le.refl _))
  case zv =>
    (repeat' (first | exact trivial))
  case zh =>
    (repeat' (first | exact trivial))
  case zr =>
  have hpx := playX_bd hp n0
  have hpp := hp.pl
  have c7 : Ans Try.prog 44 [.int p.play, .int (if 100 > p.play then 100 else p.play), .int n0] (.int (playX p n0)) := chosen_t _ _ _ (by omega) (by split <;> omega)
  have hok1 : ∀ {nn : Bool} {tl : List Int}, (∀ x ∈ tl, 1 ≤ x ∧ x ≤ 500) → p.st.length + tl.length ≤ 10 → ∃ L2 e2, Ans Try.prog 20 [.agg (⟨nn, p.st ++ tl, p.girth, playX p n0⟩ : Pile).c] (.tup [setW L2, .int e2]) ∧ L.length ≤ L2.length ∧ (e2 = 0 ∨ e2 = 4) := fun {nn tl} h1 h2 => by
    have ho := more_ok (nn := nn) hp h1 h2 n0
    obtain ⟨L2, _, k2, k3⟩ := set_R (Pile.ok_iff.2 ho)
    have c8 := Set_w (⟨nn, p.st ++ tl, p.girth, playX p n0⟩ : Pile) (by have := ho.n; omega)
    rw [k3] at c8
    refine ⟨L2, _, c8, k2 _ (more_pack hp n0 hL), ?_⟩
    show (if L2.length = 0 then (4 : Int) else 0) = 0 ∨ (if L2.length = 0 then (4 : Int) else 0) = 4
    split
    · exact .inr rfl
    · exact .inl rfl
  generalize playX p n0 = plx at *
  refine Aw.sm tab_ok mb0 [] rfl rfl ?zo ?zk
  case zo =>
    repeat' apply AllP.cons
    all_goals first | exact trivial | exact rfl | exact Nat.le_of_ble_eq_true rfl
  case zk =>
  refine Aw.sm tab_ok mb0 [(7, [.int plx])] rfl rfl ?zo ?zk
  case zo =>
    repeat' apply AllP.cons
    all_goals first | exact trivial | exact rfl | exact Nat.le_of_ble_eq_true rfl | exact Int.natCast_nonneg _ | exact c7
  case zk =>
  have up2 : ∀ x ∈ [A.sl p.nn .any (ints p.st), .int p.girth, .int plx], Free x := allC (free_ints _ _ _) (allC (.s _) (all1 (.s _)))
  have up3 : ∀ {n : Nat}, UnderB n (.cells [A.sl p.nn .any (ints p.st), .int p.girth, .int plx]) := .cells _ fun v hv => (up2 v hv).under
  refine Aw.keep (n := 1) (cst := [(3, .pt p.c), (5, .pt [.int n0, .int n1]), (7, setW L), (15, .ref 0 0)]) (v := []) (Hl := [(0, .cells [.sl p.nn .any (ints p.st), .int p.girth, .int plx])]) h1e ?zu ?zw ?zx ⟨?zc, ?zv, ?zh, Nat.le_of_ble_eq_true rfl⟩ ?zr
  case zu =>
    (repeat' (first | exact trivial | exact Under.ref _ _ (by decide) | exact (Free.pt _ (by assumption)).under | exact up | exact uW | (refine And.intro ?_ ?_)))
  case zw =>
    (repeat' (first | exact trivial))
  case zx =>
    (repeat' (first | exact trivial | exact Nat.le_of_ble_eq_true rfl | exact up3 | (refine And.intro ?_ ?_)))
  case zc =>
    (repeat' (first | (refine And.intro ?_ ?_) | exact trivial | exact A.Le.refl _))
  case zv =>
    (repeat' (first | exact trivial))
  case zh =>
    (repeat' (first | (refine And.intro ?_ ?_) | exact trivial | exact rfl))
  case zr =>
  refine Aw.seq ?_
  refine Aw.sm tab_ok mb0 [] rfl rfl ?zo ?zk
  case zo =>
    repeat' apply AllP.cons
    all_goals first | exact trivial | exact Nat.le_of_ble_eq_true rfl
  case zk =>
  refine Aw.cond rfl (fun h => ?_) (fun h => Aw.skip ?_)
  · have h : p.st.length < 10 := by have := of_decide_eq_true h; omega
    have hm := mod_t n1 500 (by decide) (by decide)
    have hm1 := Int.emod_nonneg n1 (show (500 : Int) ≠ 0 by decide)
    have hm2 := Int.emod_lt_of_pos n1 (show 0 < (500 : Int) by decide)
    generalize n1 % 500 = r at *
    obtain ⟨L2, e2, c8, hge, he2⟩ := hok1 (nn := false) (tl := [1 + r]) (fun x hx => by simp at hx; omega) (by simp only [List.length_singleton]; omega)
    have lW2 := setW_len L2
    have hone : ∀ z ∈ ints p.st, z.length = 1 := ints_one _
    have hone1 : ∀ z ∈ [[A.int (1 + r)]], z.length = 1 := fun z hz => by simp at hz; subst hz; rfl
    have hil : (ints p.st).length ≤ 10 := by rw [ints_len]; omega
    refine Aw.ed tab_ok mixed mb0 [(6, [.int r])] rfl (by kernel_rfl) rfl rfl ?zo ?zk
    case zo =>
      repeat' apply AllP.cons
      all_goals first | exact trivial | exact rfl | exact Nat.le_of_ble_eq_true rfl | exact Int.natCast_nonneg _ | exact hm | exact hone | exact hone1 | exact (show inR (1 + r) by simp only [inR]; omega) | exact (show (0 + (ints p.st).length) * 8 ≤ 140737488355328 by omega) | exact (show 0 + (ints p.st).length ≤ maxLen by unfold maxLen; omega) | exact (show ((ints p.st).length + 1) * 8 ≤ 140737488355328 by omega) | exact (show (ints p.st).length + 1 ≤ maxLen by unfold maxLen; omega)
    case zk =>
    have c8 : Ans Try.prog 20 [.agg [.sl false .any (ints p.st ++ [[A.int (1 + r)]]), .int p.girth, .int plx]] (.tup [setW L2, .int e2]) := by
      have e : ints (p.st ++ [1 + r]) = ints p.st ++ [[A.int (1 + r)]] := by unfold ints; rw [List.map_append]; rfl
      rw [← e]; exact c8
    refine Aw.sm tab_ok mb0 [(1, [.tup [setW L2, .int e2]])] rfl rfl ?zo ?zk
    case zo =>
      repeat' apply AllP.cons
      all_goals first | exact trivial | exact Nat.le_of_ble_eq_true rfl | exact c8
    case zk =>
    refine Aw.sm tab_ok mb0 [(14, [.bool true])] rfl rfl ?zo ?zk
    case zo =>
      repeat' apply AllP.cons
      all_goals first | exact trivial | exact id | exact fun _ => rfl | exact gq_f | exact fun _ => works_t
    case zk =>
    exact Aw.ret ⟨_, .cons (.tmp _) .nil, by
      show A.bool (cond (cond (cond (e2 == 0) true (e2 == 4)) (decide ((((L2.map yS).length : Nat) : Int) ≥ (((L.map yS).length : Nat) : Int))) false) true false) = A.bool true
      rw [lW, lW2, decide_eq_true (by omega)]
      rcases he2 with rfl | rfl <;> rfl⟩
  · obtain ⟨L2, e2, c8, hge, he2⟩ := hok1 (nn := p.nn) (tl := []) (fun x hx => nomatch hx) (by simp only [List.length_nil]; omega)
    have lW2 := setW_len L2
    rw [List.append_nil] at c8
    refine Aw.sm tab_ok mb0 [(1, [.tup [setW L2, .int e2]])] rfl rfl ?zo ?zk
    case zo =>
      repeat' apply AllP.cons
      all_goals first | exact trivial | exact Nat.le_of_ble_eq_true rfl | exact c8
    case zk =>
    refine Aw.sm tab_ok mb0 [(14, [.bool true])] rfl rfl ?zo ?zk
    case zo =>
      repeat' apply AllP.cons
      all_goals first | exact trivial | exact id | exact fun _ => rfl | exact gq_f | exact fun _ => works_t
    case zk =>
    exact Aw.ret ⟨_, .cons (.tmp _) .nil, by
      show A.bool (cond (cond (cond (e2 == 0) true (e2 == 4)) (decide ((((L2.map yS).length : Nat) : Int) ≥ (((L.map yS).length : Nat) : Int))) false) true false) = A.bool true
      rw [lW, lW2, decide_eq_true (by omega)]
      rcases he2 with rfl | rfl <;> rfl⟩
end Go.Proofs.Ytampldajinhenaa

namespace Go.Proofs.Ytampldajinhenaa
open Go Go.AL Go.ChangeShapes Go.WideShapes Go.ChangeAt Go.RowKit
set_option maxRecDepth 100000 in
theorem barrelMost_lifted (os : Os) (started : os.Started) (H : Type) (enc : TypeId × Value → H) :
    ReturnsInHanded {} Try.checked os 7 .any (Rows.barrelMostSpec.pre6 enc Try.prog Try.f7 [] false) (Rows.barrelMostSpec.post enc Try.prog Try.f7 false true false false) := by
  refine lifted2 (tb := 4) (C := Try.checked) own started (by kernel_rfl) Try.func7
    (ChangeSpec.witness6 (enc := enc) (C := Try.checked) false ⟨#[], #[.agg #[.slice none 0 0, .int .i64 0, .int .i64 0], .slice none 0 0, .agg #[.int .i64 0, .int .i64 0]], []⟩ 8 (by kernel_rfl) (by kernel_rfl) (by kernel_rfl) (by kernel_rfl))
    laidOut ?_ rfl rfl (by kernel_rfl) uBool ?_ ?_
  · rw [Try.params7]; exact all3t (p := fun t => Try.prog.readableRec t = true ∧ t < Try.prog.types.size) t24 t22 t57
  · intro ds hd
    rw [Try.params7] at hd
    match ds, hd with
    | [d0, d1, d2], _ => rfl
  · intro W base args ds p hval hA hwt
    rw [Try.params7] at hA hval
    obtain ⟨v0, v1, v2, d0, d1, d2, p0, p1, p2, rfl, rfl, rfl, h0, h1, h2⟩ := trodAll_three hA
    obtain ⟨y0, q0, s0⟩ := arg_pile (φ := fun _ => none) (hval 0 24 v0 rfl rfl) h0 fun k hk => hwt k (List.mem_append.2 (.inl hk))
    obtain ⟨b1, y1, q1, s1⟩ := arg_ints (φ := fun _ => none) (hval 1 22 v1 rfl rfl) h1 fun k hk => hwt k (List.mem_append.2 (.inr (List.mem_append.2 (.inl hk))))
    obtain ⟨y2, q2⟩ := arg_2 (φ := fun _ => none) (hval 2 57 v2 rfl rfl) h2 fun k hk => hwt k (List.mem_append.2 (.inr (List.mem_append.2 (.inr (List.mem_append.2 (.inl hk))))))
    exact ⟨_, _, vrs3 q0 q1 q2, most_l y0 b1 y1 y2.1 y2.2 s0 s1⟩
theorem barrelMost_holds : Rows.BarrelMostSaid :=
  OpenClaim.holds_of_wide 7 Try.f7 rfl rfl rfl rfl rfl rfl rfl ⟨rfl, rfl, rfl, rfl, rfl⟩ rfl rfl rfl rfl rfl (by kernel_rfl) Try.func7 (by kernel_rfl)
    (of_decide_eq_true (by kernel_rfl)) (by unfold Func.isWrapper; first | (rw [if_pos (by decide +kernel)]; kernel_rfl) | (rw [if_neg (by decide +kernel)]; exact ⟨rfl, rfl⟩))
    (fun os started H enc _ => barrelMost_lifted os started H enc)
end Go.Proofs.Ytampldajinhenaa

