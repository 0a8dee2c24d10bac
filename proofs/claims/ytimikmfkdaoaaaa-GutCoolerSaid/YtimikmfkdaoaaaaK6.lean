/- What the proof leans on, part 6: P1 R4 R5 R6 R7 P2 P3 P4 X6. -/
import Derived.Test.YtimikmfkdaoaaaaK5
set_option linter.all false
namespace Go.Proofs.Ytimikmfkdaoaaaa
open Go Go.AL
def sumN : Nat → (Nat → Int) → Int
  | 0, _ => 0
  | n + 1, f => sumN n f + f n
theorem sumN_congr : ∀ {n : Nat} {f g : Nat → Int}, (∀ i, i < n → f i = g i) → sumN n f = sumN n g
  | 0, _, _, _ => rfl
  | n + 1, f, g, h => by rw [sumN, sumN, sumN_congr (n := n) fun i hi => h i (by omega), h n (by omega)]
theorem sumN_le : ∀ {n : Nat} {f g : Nat → Int}, (∀ i, i < n → f i ≤ g i) → sumN n f ≤ sumN n g
  | 0, _, _, _ => Int.le_refl _
  | n + 1, f, g, h => by
    have h1 := sumN_le (n := n) fun i hi => h i (by omega)
    have h2 := h n (by omega)
    rw [sumN, sumN]; omega
theorem sumN_add : ∀ (n : Nat) (f g : Nat → Int), sumN n (fun i => f i + g i) = sumN n f + sumN n g
  | 0, _, _ => rfl
  | n + 1, f, g => by rw [sumN, sumN, sumN, sumN_add n]; omega
theorem sumN_sub : ∀ (n : Nat) (f g : Nat → Int), sumN n (fun i => f i - g i) = sumN n f - sumN n g
  | 0, _, _ => rfl
  | n + 1, f, g => by rw [sumN, sumN, sumN, sumN_sub n]; omega
theorem sumN_zero : ∀ n : Nat, sumN n (fun _ => 0) = 0
  | 0 => rfl
  | n + 1 => by rw [sumN, sumN_zero n]; rfl
theorem sumN_zero' {n : Nat} {f : Nat → Int} (h : ∀ i, i < n → f i = 0) : sumN n f = 0 := (sumN_congr h).trans (sumN_zero n)
theorem sumN_pos {n : Nat} {f : Nat → Int} (h : ∀ i, i < n → 0 ≤ f i) : 0 ≤ sumN n f := by
  have := sumN_le (f := fun _ => 0) (g := f) h
  rw [sumN_zero] at this; exact this
theorem sumN_comm : ∀ (n m : Nat) (f : Nat → Nat → Int), sumN n (fun i => sumN m (f i)) = sumN m (fun j => sumN n fun i => f i j)
  | 0, m, f => (sumN_zero m).symm
  | n + 1, m, f => by
    rw [sumN, sumN_comm n m f, ← sumN_add]
    exact sumN_congr fun j _ => rfl
theorem sumN_one : ∀ {n k : Nat} (v : Int), k < n → sumN n (fun i => if i = k then v else 0) = v
  | 0, k, _, h => by omega
  | n + 1, k, v, h => by
    rw [sumN]
    by_cases e : n = k
    · subst e
      rw [if_pos rfl, sumN_zero' fun i hi => if_neg (by omega)]; omega
    · rw [if_neg e, sumN_one v (by omega)]; omega
theorem sumN_more : ∀ {n k : Nat} {f : Nat → Int}, (∀ i, n ≤ i → f i = 0) → n ≤ k → sumN k f = sumN n f
  | n, 0, f, h, hk => by
    have : n = 0 := by omega
    subst this; rfl
  | n, k + 1, f, h, hk => by
    by_cases e : n = k + 1
    · subst e; rfl
    · rw [sumN, sumN_more h (by omega), h k (by omega)]; omega
theorem sumN_shift : ∀ (n : Nat) (f : Nat → Int), sumN (n + 1) f = f 0 + sumN n fun i => f (i + 1)
  | 0, f => by simp [sumN]
  | n + 1, f => by
    rw [sumN, sumN_shift n f, sumN]; omega
theorem sum_sumN : ∀ l : List Int, l.sum = sumN l.length fun i => l.getD i 0
  | [] => rfl
  | a :: l => by
    rw [List.sum_cons, List.length_cons, sumN_shift, sum_sumN l]
    simp
theorem ld_put (m : Ld) (p q : Nat) (l : List Int) : ld (mput m p l) q = if p = q then l else ld m q := by
  unfold ld
  rw [mget_put]
  by_cases h : p = q <;> simp [h]
theorem inc_at {l : List Int} {i : Nat} (h : i < l.length) (j : Nat) : (inc l i).getD j 0 = l.getD j 0 + if j = i then 1 else 0 := by
  unfold inc
  rw [getD_set' _ _ _ _ h]
  by_cases e : i = j
  · subst e; simp
  · rw [if_neg e, if_neg (fun h => e h.symm)]; omega
theorem dec_at {l : List Int} {i : Nat} (h : i < l.length) (j : Nat) : (dec l i).getD j 0 = l.getD j 0 - if j = i then 1 else 0 := by
  unfold dec
  rw [getD_set' _ _ _ _ h]
  by_cases e : i = j
  · subst e; simp
  · rw [if_neg e, if_neg (fun h => e h.symm)]; omega
section
variable (cd : CDay)
def lod (m : Ld) (p i : Nat) : Int := (ld m p).getD i 0
def nP : Nat := cd.g.wks.length * cd.g.hours.toNat
def tot (m : Ld) (i : Nat) : Int := sumN (nP cd) fun p => lod m p i
structure FOk (m : Ld) : Prop where
  lok : ∀ p, LOk cd.g.lots.length (ld m p)
  rate : ∀ p, (ld m p).sum ≤ rateAt cd.g p
  can : ∀ p i, 0 < lod m p i → p ∈ slotsOf cd i
theorem slotsOf_lt {p i : Nat} (h : p ∈ slotsOf cd i) : p < nP cd ∧ i < cd.g.lots.length := by
  unfold slotsOf at h
  split at h
  · rename_i l u h1 h2
    refine ⟨?_, (List.getElem?_eq_some_iff.1 h1).1⟩
    unfold slotL at h
    exact List.mem_range.1 (List.mem_filter.1 h).1
  · cases h
theorem lod_put (m : Ld) (p q i : Nat) (l : List Int) : lod (mput m p l) q i = if p = q then l.getD i 0 else lod m q i := by
  unfold lod; rw [ld_put]; split <;> rfl
theorem tot_put {m : Ld} {p : Nat} (hp : p < nP cd) (l : List Int) (j : Nat) : tot cd (mput m p l) j = tot cd m j + (l.getD j 0 - lod m p j) := by
  unfold tot
  rw [← sumN_one (n := nP cd) (k := p) (l.getD j 0 - lod m p j) hp, ← sumN_add]
  refine sumN_congr fun q _ => ?_
  rw [lod_put]
  by_cases e : p = q
  · subst e; simp; omega
  · rw [if_neg e, if_neg (fun h => e h.symm)]; omega
def Full (m : Ld) (p : Nat) : Prop := (ld m p).sum = rateAt cd.g p
def Clo (s s' : Sn) (m : Ld) (ex : Option Nat) : Prop := ∀ p, isSeen s' p = true → isSeen s p = true ∨ (Full cd m p ∧ ∀ o, 0 < lod m p o → some o = ex ∨ ∀ q ∈ slotsOf cd o, isSeen s' q = true)
structure Won (s : Sn) (m m' : Ld) (lot : Nat) : Prop where
  ok : FOk cd m'
  tot : ∀ j, tot cd m' j = tot cd m j + if j = lot then 1 else 0
  old : ∀ p, isSeen s p = true → ld m' p = ld m p
structure Lst (s : Sn) (m : Ld) (ex : Option Nat) (R : Res) : Prop where
  same : R.2.2 = m
  grows : Grows s R.2.1
  clo : Clo cd s R.2.1 m ex
def Spec (rec : Nat → Sn → Ld → Res) (f : Nat) : Prop := ∀ o s m, o < cd.g.lots.length → FOk cd m → unseen (nP cd) s < f →
  ((rec o s m).1 = true → Won cd s m (rec o s m).2.2 o) ∧ ((rec o s m).1 = false → Lst cd s m none (rec o s m) ∧ ∀ q ∈ slotsOf cd o, isSeen (rec o s m).2.1 q = true)
variable {cd}
theorem Clo.refl (s : Sn) (m : Ld) (ex : Option Nat) : Clo cd s s m ex := fun _ h => .inl h
theorem Clo.trans {a b c : Sn} {m : Ld} {ex : Option Nat} (h : Clo cd a b m ex) (k : Clo cd b c m ex) (g : Grows b c) : Clo cd a c m ex := fun p hp => by
  rcases k p hp with h1 | h1
  · rcases h p h1 with h2 | h2
    · exact .inl h2
    · exact .inr ⟨h2.1, fun o ho => (h2.2 o ho).imp id fun h3 q hq => g q (h3 q hq)⟩
  · exact .inr h1
theorem Clo.some {s s' : Sn} {m : Ld} {ex : Option Nat} (h : Clo cd s s' m none) : Clo cd s s' m ex := fun p hp => (h p hp).imp id fun h1 => ⟨h1.1, fun o ho => (h1.2 o ho).elim (fun h => nomatch h) .inr⟩
theorem FOk.incr {m : Ld} (h : FOk cd m) (hn : cd.g.lots.length ≤ 8) (hr : ∀ p, rateAt cd.g p ≤ 20) {lot p : Nat} (hp : p ∈ slotsOf cd lot) (hlt : (ld m p).sum < rateAt cd.g p) :
    FOk cd (mput m p (inc (ld m p) lot)) ∧ ∀ j, tot cd (mput m p (inc (ld m p) lot)) j = tot cd m j + if j = lot then 1 else 0 := by
  obtain ⟨hp1, hl⟩ := slotsOf_lt cd hp
  have hlen := (h.lok p).len
  refine ⟨⟨fun q => ?_, fun q => ?_, fun q i hi => ?_⟩, fun j => ?_⟩
  · rw [ld_put]; split
    · exact (h.lok p).incr hl hn (by have := hr p; omega)
    · exact h.lok q
  · rw [ld_put]; split
    · rename_i e; subst e
      unfold inc; rw [sum_set _ _ _ (by omega)]; omega
    · exact h.rate q
  · rw [lod_put] at hi
    split at hi
    · rename_i e; subst e
      rw [inc_at (by omega)] at hi
      by_cases e2 : i = lot
      · subst e2; exact hp
      · rw [if_neg e2] at hi; exact h.can p i (by unfold lod; omega)
    · exact h.can q i hi
  · rw [tot_put cd hp1, inc_at (by omega)]; unfold lod; omega
theorem FOk.swap {m : Ld} (h : FOk cd m) (hn : cd.g.lots.length ≤ 8) {lot o p : Nat} (hp : p ∈ slotsOf cd lot) (ho : 0 < lod m p o) (hne : o ≠ lot) :
    FOk cd (mput m p (dec (inc (ld m p) lot) o)) ∧ ∀ j, tot cd (mput m p (dec (inc (ld m p) lot) o)) j = tot cd m j + (if j = lot then 1 else 0) - if j = o then 1 else 0 := by
  obtain ⟨hp1, hl⟩ := slotsOf_lt cd hp
  have hlen := (h.lok p).len
  have hon : o < cd.g.lots.length := (slotsOf_lt cd (h.can p o ho)).2
  have hil : (inc (ld m p) lot).length = 8 := by simp [inc, hlen]
  refine ⟨⟨fun q => ?_, fun q => ?_, fun q i hi => ?_⟩, fun j => ?_⟩
  · rw [ld_put]; split
    · exact (h.lok p).swap hl hn ho hne
    · exact h.lok q
  · rw [ld_put]; split
    · rename_i e; subst e
      unfold dec; rw [sum_set _ _ _ (by omega), inc_at (by omega), if_neg hne]
      unfold inc; rw [sum_set _ _ _ (by omega)]
      have := h.rate p; omega
    · exact h.rate q
  · rw [lod_put] at hi
    split at hi
    · rename_i e; subst e
      rw [dec_at (by omega), inc_at (by omega)] at hi
      by_cases e2 : i = lot
      · subst e2; exact hp
      · rw [if_neg e2] at hi; refine h.can p i ?_
        have : 0 < (ld m p).getD i 0 := by split at hi <;> omega
        exact this
    · exact h.can q i hi
  · rw [tot_put cd hp1, dec_at (by omega), inc_at (by omega)]; unfold lod; omega
theorem goO_spec {rec : Nat → Sn → Ld → Res} {f : Nat} (hr : Spec cd rec f) (hn : cd.g.lots.length ≤ 8) {lot p : Nat} (hp : p ∈ slotsOf cd lot) {m : Ld} (hm : FOk cd m) : ∀ (os : List Nat) (s : Sn), isSeen s p = true → unseen (nP cd) s < f →
    ((goO rec lot p (ld m p) os s m).1 = true → FOk cd (goO rec lot p (ld m p) os s m).2.2 ∧ (∀ j, tot cd (goO rec lot p (ld m p) os s m).2.2 j = tot cd m j + if j = lot then 1 else 0) ∧
      ∀ q, isSeen s q = true → q ≠ p → ld (goO rec lot p (ld m p) os s m).2.2 q = ld m q) ∧
    ((goO rec lot p (ld m p) os s m).1 = false → Lst cd s m none (goO rec lot p (ld m p) os s m) ∧ ∀ o ∈ os, 0 < lod m p o → o ≠ lot → ∀ q ∈ slotsOf cd o, isSeen (goO rec lot p (ld m p) os s m).2.1 q = true)
  | [], s, _, _ => ⟨fun h => (by cases h), fun _ => ⟨⟨rfl, .refl s, .refl s m none⟩, fun o ho => by cases ho⟩⟩
  | o :: os, s, hs, hu => by
    rw [goO]
    split
    · rename_i hc
      have hon : o < cd.g.lots.length := (slotsOf_lt cd (hm.can p o hc.1)).2
      have h1 := hr o s m hon hm hu
      split
      · rename_i s' m' e
        rw [e] at h1
        have hw := h1.1 rfl
        simp only at hw
        refine ⟨fun _ => ?_, fun h => by cases h⟩
        have hl : ld m' p = ld m p := hw.old p hs
        have hlo : 0 < lod m' p o := by unfold lod; rw [hl]; exact hc.1
        have h2 := hw.ok.swap hn hp hlo hc.2
        rw [hl] at h2
        refine ⟨h2.1, fun j => ?_, fun q hq hqp => ?_⟩
        · rw [h2.2 j, hw.tot j]; omega
        · show ld (mput m' p _) q = _
          rw [ld_put, if_neg (fun h => hqp h.symm)]; exact hw.old q hq
      · rename_i s' m' e
        rw [e] at h1
        obtain ⟨⟨hsame, hg, hc1⟩, hq1⟩ := h1.2 rfl
        simp only at hsame hg hc1 hq1
        subst hsame
        have ih := goO_spec hr hn hp hm os s' (hg p hs) (Nat.lt_of_le_of_lt (unseen_mono hg) hu)
        refine ⟨fun h => ?_, fun h => ?_⟩
        · obtain ⟨k1, k2, k3⟩ := ih.1 h
          exact ⟨k1, k2, fun q hq hqp => k3 q (hg q hq) hqp⟩
        · obtain ⟨⟨k1, k2, k3⟩, k4⟩ := ih.2 h
          refine ⟨⟨k1, hg.trans k2, hc1.trans k3 k2⟩, fun o' ho' hl hne q hq => ?_⟩
          rcases List.mem_cons.1 ho' with rfl | ho'
          · exact k2 q (hq1 q hq)
          · exact k4 o' ho' hl hne q hq
    · rename_i hc
      have ih := goO_spec hr hn hp hm os s hs hu
      refine ⟨ih.1, fun h => ⟨(ih.2 h).1, fun o' ho' hl hne q hq => ?_⟩⟩
      rcases List.mem_cons.1 ho' with rfl | ho'
      · exact absurd ⟨hl, hne⟩ hc
      · exact (ih.2 h).2 o' ho' hl hne q hq
theorem goS_spec {rec : Nat → Sn → Ld → Res} {f : Nat} (hr : Spec cd rec f) (hn : cd.g.lots.length ≤ 8) (hrate : ∀ p, rateAt cd.g p ≤ 20) {lot : Nat} {m : Ld} (hm : FOk cd m) : ∀ (ps : List Nat) (s : Sn), (∀ p ∈ ps, p ∈ slotsOf cd lot) → unseen (nP cd) s < f + 1 →
    ((goS rec (rateAt cd.g) lot ps s m).1 = true → Won cd s m (goS rec (rateAt cd.g) lot ps s m).2.2 lot) ∧
    ((goS rec (rateAt cd.g) lot ps s m).1 = false → Lst cd s m (some lot) (goS rec (rateAt cd.g) lot ps s m) ∧ ∀ p ∈ ps, isSeen (goS rec (rateAt cd.g) lot ps s m).2.1 p = true)
  | [], s, _, _ => ⟨fun h => (by cases h), fun _ => ⟨⟨rfl, .refl s, .refl s m _⟩, fun o ho => by cases ho⟩⟩
  | p :: ps, s, hps, hu => by
    have hp := hps p (List.mem_cons_self ..)
    have hps' : ∀ p ∈ ps, p ∈ slotsOf cd lot := fun q hq => hps q (List.mem_cons_of_mem _ hq)
    rw [goS]
    split
    · rename_i hs
      have ih := goS_spec hr hn hrate hm ps s hps' hu
      refine ⟨ih.1, fun h => ⟨(ih.2 h).1, fun q hq => ?_⟩⟩
      rcases List.mem_cons.1 hq with rfl | hq
      · exact (ih.2 h).1.grows _ hs
      · exact (ih.2 h).2 q hq
    · rename_i hs
      have hs : isSeen s p = false := by simpa using hs
      have hput := unseen_put (slotsOf_lt cd hp).1 hs
      split
      · rename_i hlt
        refine ⟨fun _ => ?_, fun h => by cases h⟩
        have h1 := hm.incr hn hrate hp hlt
        refine ⟨h1.1, h1.2, fun q hq => ?_⟩
        show ld (mput m p _) q = _
        rw [ld_put, if_neg (fun h => by subst h; rw [hs] at hq; cases hq)]
      · rename_i hlt
        have h1 := goO_spec hr hn hp hm (List.range 8) (mput s p true) (by rw [seen_put]; simp) (by omega)
        split
        · rename_i s2 m2 e
          rw [e] at h1
          obtain ⟨k1, k2, k3⟩ := h1.1 rfl
          refine ⟨fun _ => ⟨k1, k2, fun q hq => ?_⟩, fun h => by cases h⟩
          exact k3 q (Grows.put s p q hq) (fun h => by subst h; rw [hs] at hq; cases hq)
        · rename_i s2 m2 e
          rw [e] at h1
          obtain ⟨⟨k1, k2, k3⟩, k4⟩ := h1.2 rfl
          simp only at k1 k2 k3 k4
          subst k1
          have hg := (Grows.put s p).trans k2
          have hclo : Clo cd s s2 m2 (some lot) := fun q hq => by
            rcases k3 q hq with h2 | h2
            · rw [seen_put] at h2
              by_cases e2 : p = q
              · subst e2
                refine .inr ⟨?_, fun o ho => ?_⟩
                · unfold Full; have := hm.rate p; omega
                · by_cases e3 : o = lot
                  · exact .inl (by rw [e3])
                  · have hon : o < cd.g.lots.length := (slotsOf_lt cd (hm.can p o ho)).2
                    exact .inr (k4 o (List.mem_range.2 (by omega)) ho e3)
              · exact .inl (by simpa [e2] using h2)
            · exact .inr ⟨h2.1, fun o ho => (h2.2 o ho).elim (fun h => nomatch h) .inr⟩
          have ih := goS_spec hr hn hrate hm ps s2 hps' (Nat.lt_of_le_of_lt (unseen_mono hg) hu)
          refine ⟨fun h => ?_, fun h => ?_⟩
          · have w := ih.1 h
            exact ⟨w.ok, w.tot, fun q hq => w.old q (hg q hq)⟩
          · obtain ⟨⟨j1, j2, j3⟩, j4⟩ := ih.2 h
            refine ⟨⟨j1, hg.trans j2, hclo.trans j3 j2⟩, fun q hq => ?_⟩
            rcases List.mem_cons.1 hq with rfl | hq
            · exact j2 q (k2 q (by rw [seen_put]; simp))
            · exact j4 q hq
theorem putF_spec (hn : cd.g.lots.length ≤ 8) (hrate : ∀ p, rateAt cd.g p ≤ 20) : ∀ f, Spec cd (putF cd f) f
  | 0 => fun o s m _ _ h => absurd h (Nat.not_lt_zero _)
  | f + 1 => fun lot s m ho hm hu => by
    have h := goS_spec (putF_spec hn hrate f) hn hrate (lot := lot) hm (slotsOf cd lot) s (fun _ h => h) hu
    rw [putF]
    refine ⟨h.1, fun h1 => ?_⟩
    obtain ⟨⟨k1, k2, k3⟩, k4⟩ := h.2 h1
    refine ⟨⟨k1, k2, fun p hp => (k3 p hp).imp id fun h2 => ⟨h2.1, fun o ho => ?_⟩⟩, k4⟩
    rcases h2.2 o ho with h3 | h3
    · cases h3; exact .inr k4
    · exact .inr h3
end
end Go.Proofs.Ytimikmfkdaoaaaa
namespace Go.Proofs.Ytimikmfkdaoaaaa
open Go Go.AL
theorem inrk (k : Nat) (h : (k : Int) ≤ 1000000) : inR ((k : Int) + 1) := by simp only [inR]; omega
theorem crans_bd {d : Day} (hd : DayOk d) (k : Nat) : 0 ≤ (cransL d k).sum ∧ (cransL d k).sum ≤ 400 := by
  have h := sum_bd (l := cransL d k) (b := 50) fun x hx => by
    obtain ⟨l, hl, rfl⟩ := List.mem_map.1 hx
    have := (lotOk_iff (hd.lots l (List.mem_of_mem_take hl))).1; omega
  have h2 : (cransL d k).length ≤ 8 := by have := hd.nl; simp [cransL]; omega
  omega
theorem all_t (d : Day) (hd : DayOk d) : Ans Try.prog 60 [.agg d.c] (.int (cransOf d)) := by
  refine told Try.func60 rfl rfl (Pure.of tab_ok Try.func60 rfl Try.ntmps60 rfl (all1 (.agg _ d.free)) (all1 (fun _ => rfl)) (by first | exact .s _ | assumption | exact .tup _ (by intro x hx; simp only [List.mem_cons, List.not_mem_nil, or_false] at hx; rcases hx with rfl | rfl | rfl | rfl <;> first | exact .s _ | (simp_all; done))) fun E hE => ?_)
  have udc : Under 0 (A.pt d.c) := (Free.pt _ d.free).under
  have nl := hd.nl
  have ll : ((d.lots.map Lot.c).length : Int) = d.lots.length := by simp
  refine Aw.sm tab_ok mb0 [] rfl rfl ?zo ?zk
  case zo =>
    repeat' apply AllP.cons
    all_goals first | exact trivial
  case zk =>
  refine Aw.sm tab_ok mb0 [] rfl rfl ?zo ?zk
  case zo =>
    repeat' apply AllP.cons
    all_goals first | exact trivial
  case zk =>
  refine Aw.seq ?_
  refine Aw.sm tab_ok mb0 [] rfl rfl ?zo ?zk
  case zo =>
    repeat' apply AllP.cons
    all_goals first | exact trivial
  case zk =>
  refine Aw.block (Aw.rounds 0 hE [(1, .pt d.c)] (fun k : Nat => [(3, .int (cransL d k).sum), (4, .int k)]) (fun _ => []) (fun k => k ≤ d.lots.length) (fun k => d.lots.length - k) 0
    (Nat.zero_le _) ⟨⟨.refl _, trivial⟩, ⟨.refl _, .refl _, trivial⟩, trivial, Nat.le_refl _⟩ ⟨udc, trivial⟩ (fun _ _ => ⟨.s _, .s _, trivial⟩) (fun _ _ => trivial) fun k hk => ?_)
  refine Aw.seq ?_
  refine Aw.sm tab_ok mb0 [] rfl rfl ?zo ?zk
  case zo =>
    repeat' apply AllP.cons
    all_goals first | exact trivial | exact Nat.le_of_ble_eq_true rfl
  case zk =>
  refine Aw.cond rfl (fun h1 => Aw.skip ?_) (fun h1 => ?_)
  · have hlt : k < d.lots.length := by have := of_decide_eq_true h1; omega
    have ht : (cransL d (k + 1)).sum = (cransL d k).sum + d.lots[k].crans := by rw [cransL_succ hlt, List.sum_append]; simp
    have hb := crans_bd hd (k + 1)
    refine Aw.seq (Aw.block ?_)
    refine Aw.em tab_ok mb0 [(4, d.lots[k].c)] rfl rfl ?zo ?zk
    case zo =>
      repeat' apply AllP.cons
      all_goals first | exact trivial | exact rfl | exact Nat.le_of_ble_eq_true rfl | exact Int.natCast_nonneg _ | exact get_map hlt | exact (show inR ((cransL d k).sum + d.lots[k].crans) by rw [← ht]; simp only [inR]; omega)
    case zk =>
    refine Aw.em tab_ok mb0 [] rfl rfl ?zo ?zk
    case zo =>
      repeat' apply AllP.cons
      all_goals first | exact trivial | exact inrk k (by omega)
    case zk =>
    exact ⟨k + 1, hlt, by omega, ⟨.refl _, trivial⟩, ⟨.of_eq (by rw [ht]; rfl), .refl _, trivial⟩, trivial, Nat.zero_le _⟩
  · have hle : k = d.lots.length := by have := of_decide_eq_false h1; omega
    subst hle
    refine Aw.exit2 ?_
    refine Aw.sm tab_ok mb0 [] rfl rfl ?zo ?zk
    case zo =>
      repeat' apply AllP.cons
      all_goals first | exact trivial
    case zk =>
    exact Aw.ret ⟨_, .cons (.tmp _) .nil, by unfold cransL; rw [List.take_length]; rfl⟩
def fE (b : Bool) : Spn → Int := if b then Spn.lo else Spn.hi
theorem takes_t (d : Day) (w : Wk) (lot hour : Int) (b : Bool) (l : Lot) (hd : DayOk d) (h0 : 0 ≤ lot) (hl : d.lots[lot.toNat]? = some l) (hk : 0 ≤ w.kind) :
    Ans Try.prog 61 [.agg d.c, .agg w.c, .int lot, .int hour, .bool b] (.bool (canF l w hour (untilF d (fE b) l))) := by
  have hlget : (d.lots.map Lot.c)[lot.toNat]? = some l.c := by rw [List.getElem?_map, hl]; rfl
  refine told Try.func61 rfl rfl (Pure.of tab_ok Try.func61 rfl Try.ntmps61 rfl (allC (.agg _ d.free) (allC (.agg _ w.free) (allC (.s _) (allC (.s _) (all1 (.s _)))))) (allC (fun _ => rfl) (allC (fun _ => rfl) (allC (fun _ => rfl) (allC (fun _ => rfl) (all1 (fun _ => rfl)))))) (by first | exact .s _ | assumption | exact .tup _ (by intro x hx; simp only [List.mem_cons, List.not_mem_nil, or_false] at hx; rcases hx with rfl | rfl | rfl | rfl <;> first | exact .s _ | (simp_all; done))) fun E hE => ?_)
  refine Aw.sm tab_ok mb0 [] rfl rfl ?zo ?zk
  case zo =>
    repeat' apply AllP.cons
    all_goals first | exact trivial
  case zk =>
  refine Aw.sm tab_ok mb0 [(3, l.c)] rfl rfl ?zo ?zk
  case zo =>
    repeat' apply AllP.cons
    all_goals first | exact trivial | exact rfl | exact Nat.le_of_ble_eq_true rfl | exact hlget | exact h0
  case zk =>
  refine Aw.sd tab_ok mixed mb0 [(4, [.bool (iand (l.fit.fdiv (2 ^ (min w.kind.toNat 64))) 1 == 1)]), (11, [.bool (wi hour w.fr w.to)]), (20, [.int (untilF d (fE b) l)]), (21, [.bool (wi hour l.landed (untilF d (fE b) l))])] rfl (by kernel_rfl) rfl rfl ?zo ?zk
  case zo =>
    repeat' apply AllP.cons
    all_goals first | exact trivial | exact id | exact fun _ => rfl | exact Nat.le_of_ble_eq_true rfl | exact fun _ => Nat.le_of_ble_eq_true rfl | exact (in_t _ _ _).un | exact bit_t _ _ hk | exact fun _ => runtil_t d lot b l hd h0 hl
  case zk =>
  exact Aw.ret ⟨_, .cons (.tmp _) .nil, rfl⟩
def canLot (d : Day) (f : Spn → Int) (w : Wk) (i : Int) (h : Nat) : Bool := match d.lots[i.toNat]? with
  | some l => canF l w h (untilF d f l)
  | none => false
def canAny (d : Day) (f : Spn → Int) (l : List Int) (w : Wk) (h : Nat) : Bool := l.any fun i => canLot d f w i h
def hourR (d : Day) (f : Spn → Int) (l : List Int) (w : Wk) (h : Nat) : Int := if canAny d f l w h then w.rate else 0
def wkR (d : Day) (f : Spn → Int) (l : List Int) (w : Wk) (n : Nat) : Int := sumN n (hourR d f l w)
def crL (d : Day) (l : List Int) : Int := (l.map (crAt d)).sum
def rdef (d : Day) (f : Spn → Int) (l : List Int) (ws : List Wk) : Int := crL d l - sumN ws.length fun k => wkR d f l (ws.getD k wkD) d.hours.toNat
theorem any_take {α : Type} {p : α → Bool} {l : List α} {k : Nat} (h : k < l.length) : (l.take (k + 1)).any p = ((l.take k).any p || p l[k]) := by
  rw [List.take_succ_eq_append_getElem h, List.any_append]; simp
theorem sumN_bd {n : Nat} {f : Nat → Int} {b : Int} (h : ∀ i, i < n → 0 ≤ f i ∧ f i ≤ b) : 0 ≤ sumN n f ∧ sumN n f ≤ b * n := by
  induction n with
  | zero => simp [sumN]
  | succ n ih =>
    have h1 := ih fun i hi => h i (by omega)
    have h2 := h n (by omega)
    rw [sumN, show ((n + 1 : Nat) : Int) = (n : Int) + 1 by omega, Int.mul_add]
    omega
theorem hourR_bd {d : Day} {f : Spn → Int} {l : List Int} {w : Wk} (hw : 0 ≤ w.rate ∧ w.rate ≤ 20) (h : Nat) : 0 ≤ hourR d f l w h ∧ hourR d f l w h ≤ 20 := by
  unfold hourR; split <;> omega
theorem wkR_bd {d : Day} {f : Spn → Int} {l : List Int} {w : Wk} (hw : 0 ≤ w.rate ∧ w.rate ≤ 20) {n : Nat} (hn : n ≤ 24) : 0 ≤ wkR d f l w n ∧ wkR d f l w n ≤ 480 := by
  have := sumN_bd (n := n) (b := 20) fun i _ => hourR_bd (d := d) (f := f) (l := l) hw i
  unfold wkR; omega
structure WksOk (d : Day) (ws : List Wk) : Prop where
  n : ws.length ≤ 7
  all : ∀ w ∈ ws, isWorker w d.hours = true
theorem WksOk.get {d : Day} {ws : List Wk} (h : WksOk d ws) {k : Nat} (hk : k < ws.length) : isWorker ws[k] d.hours = true := h.all _ (List.getElem_mem hk)
theorem wk_rate {n : Int} {w : Wk} (h : isWorker w n = true) : 0 ≤ w.rate ∧ w.rate ≤ 20 := (wkOk_iff h).2.2.2
theorem wks_bd {d : Day} {f : Spn → Int} {l : List Int} {ws : List Wk} (hd : DayOk d) (hw : WksOk d ws) (k : Nat) (hk : k ≤ ws.length) : 0 ≤ (sumN k fun k => wkR d f l (ws.getD k wkD) d.hours.toNat) ∧ (sumN k fun k => wkR d f l (ws.getD k wkD) d.hours.toNat) ≤ 3360 := by
  have hh := hd.hours
  have := sumN_bd (n := k) (f := fun k => wkR d f l (ws.getD k wkD) d.hours.toNat) (b := 480) fun i hi => by
    have e : ws.getD i wkD = ws[i]'(by omega) := by simp [List.getD_eq_getElem?_getD, show i < ws.length by omega]
    rw [e]; exact wkR_bd (wk_rate (hw.get (by omega))) (by omega)
  have := hw.n
  omega
theorem rdef_t (d : Day) (b1 b2 : Bool) (l : List Int) (ws : List Wk) (b : Bool) (hd : DayOk d) (hw : WksOk d ws) (hl8 : l.length ≤ 8) (hl : ∀ i ∈ l, 0 ≤ i ∧ i < d.lots.length) :
    Ans Try.prog 66 [.agg d.c, .sl b1 .any (ints l), .sl b2 .any (ws.map Wk.c), .bool b] (.int (rdef d (fE b) l ws)) := by
  have nl := hd.nl
  have hh := hd.hours
  have lw : ((ws.map Wk.c).length : Int) = ws.length := by simp
  have li : ((ints l).length : Int) = l.length := by simp [ints]
  have hcr : ∀ i ∈ l, ∃ x, d.lots[i.toNat]? = some x ∧ crAt d i = x.crans ∧ 0 ≤ x.crans ∧ x.crans ≤ 50 := fun i hi => by
    have h1 := hl i hi
    have h2 : i.toNat < d.lots.length := by omega
    refine ⟨d.lots[i.toNat], by simp [h2], by unfold crAt; simp [h2], ?_⟩
    have := (lotOk_iff (hd.lots _ (List.getElem_mem h2))).1; omega
  have hcb : ∀ k, 0 ≤ crL d (l.take k) ∧ crL d (l.take k) ≤ 400 := fun k => by
    have h := sum_bd (l := (l.take k).map (crAt d)) (b := 50) fun x hx => by
      obtain ⟨i, hi, rfl⟩ := List.mem_map.1 hx
      obtain ⟨y, _, e, h1⟩ := hcr i (List.mem_of_mem_take hi)
      rw [e]; exact h1
    have h2 : ((l.take k).map (crAt d)).length ≤ 8 := by rw [List.length_map, List.length_take]; omega
    unfold crL; omega
  refine told Try.func66 rfl rfl (Pure.of tab_ok Try.func66 rfl Try.ntmps66 rfl (allC (.agg _ d.free) (allC (free_ints _ _ _) (allC (free_map Wk.free _ _ _) (all1 (.s _))))) (allC (fun _ => rfl) (allC (fun _ => rfl) (allC (fun _ => rfl) (all1 (fun _ => rfl))))) (by first | exact .s _ | assumption | exact .tup _ (by intro x hx; simp only [List.mem_cons, List.not_mem_nil, or_false] at hx; rcases hx with rfl | rfl | rfl | rfl <;> first | exact .s _ | (simp_all; done))) fun E hE => ?_)
  have udc : Under 0 (A.pt d.c) := (Free.pt _ d.free).under
  have ul : Under 0 (A.sl b1 .any (ints l)) := (free_ints _ _ _).under
  have uw : Under 0 (A.sl b2 .any (ws.map Wk.c)) := (free_map Wk.free _ _ _).under
  refine Aw.sm tab_ok mb0 [] rfl rfl ?zo ?zk
  case zo =>
    repeat' apply AllP.cons
    all_goals first | exact trivial
  case zk =>
  refine Aw.sm tab_ok mb0 [] rfl rfl ?zo ?zk
  case zo =>
    repeat' apply AllP.cons
    all_goals first | exact trivial
  case zk =>
  refine Aw.seq ?_
  refine Aw.sm tab_ok mb0 [] rfl rfl ?zo ?zk
  case zo =>
    repeat' apply AllP.cons
    all_goals first | exact trivial
  case zk =>
  refine Aw.block (Aw.rounds 0 hE [(1, .sl b1 .any (ints l)), (2, .sl b2 .any (ws.map Wk.c)), (3, .bool b), (4, .pt d.c)] (fun k : Nat => [(9, .int (crL d (l.take k))), (10, .int k)]) (fun _ => []) (fun k => k ≤ l.length) (fun k => l.length - k) 0
    (Nat.zero_le _) ⟨⟨.refl _, .refl _, .refl _, .refl _, trivial⟩, ⟨.refl _, .refl _, trivial⟩, trivial, Nat.le_refl _⟩ ⟨ul, uw, .s _, udc, trivial⟩ (fun _ _ => ⟨.s _, .s _, trivial⟩) (fun _ _ => trivial) fun k hk => ?_)
  refine Aw.seq ?_
  refine Aw.sm tab_ok mb0 [] rfl rfl ?zo ?zk
  case zo =>
    repeat' apply AllP.cons
    all_goals first | exact trivial
  case zk =>
  refine Aw.cond rfl (fun h1 => Aw.skip ?_) (fun h1 => ?_)
  · have hlt : k < l.length := by have := of_decide_eq_true h1; omega
    obtain ⟨x, hx, hxc, hx0⟩ := hcr l[k] (List.getElem_mem hlt)
    have hx1 := hl l[k] (List.getElem_mem hlt)
    have ht : crL d (l.take (k + 1)) = crL d (l.take k) + x.crans := by unfold crL; rw [List.take_succ_eq_append_getElem hlt, List.map_append, List.sum_append]; simp [hxc]
    have hb := hcb (k + 1)
    have hget : (d.lots.map Lot.c)[l[k].toNat]? = some x.c := by rw [List.getElem?_map, hx]; rfl
    refine Aw.seq (Aw.block ?_)
    refine Aw.ed tab_ok mixed mb0 [(5, [.int l[k]]), (7, x.c)] rfl (by kernel_rfl) rfl rfl ?zo ?zk
    case zo =>
      repeat' apply AllP.cons
      all_goals first | exact trivial | exact rfl | exact Nat.le_of_ble_eq_true rfl | exact Int.natCast_nonneg _ | exact ints_get hlt | exact hget | exact hx1.1 | exact (show inR (crL d (l.take k) + x.crans) by rw [← ht]; simp only [inR]; omega)
    case zk =>
    refine Aw.em tab_ok mb0 [] rfl rfl ?zo ?zk
    case zo =>
      repeat' apply AllP.cons
      all_goals first | exact trivial | exact inrk k (by omega)
    case zk =>
    exact ⟨k + 1, hlt, by omega, ⟨.refl _, .refl _, .refl _, .refl _, trivial⟩, ⟨.of_eq (by rw [ht]; rfl), .refl _, trivial⟩, trivial, Nat.zero_le _⟩
  have hle : k = l.length := by have := of_decide_eq_false h1; omega
  subst hle
  refine Aw.exit2 ?_
  rw [show rdef d (fE b) l ws = crL d l - sumN ws.length fun k => wkR d (fE b) l (ws.getD k wkD) d.hours.toNat from rfl]
  have hcl := hcb l.length
  rw [List.take_length] at hcl
  generalize hcr0 : crL d l = c0 at *
  refine Aw.keep (n := 0) (cst := [(1, .sl b1 .any (ints l)), (2, .sl b2 .any (ws.map Wk.c)), (3, .bool b), (4, .pt d.c)]) (v := [(9, .int c0)]) (Hl := []) hE ⟨ul, uw, .s _, udc, trivial⟩ ⟨.s _, trivial⟩ trivial ⟨⟨.refl _, .refl _, .refl _, .refl _, trivial⟩, ⟨.of_eq (by rw [← hcr0, List.take_length]; rfl), trivial⟩, trivial, Nat.zero_le _⟩ ?_
  refine Aw.seq ?_
  refine Aw.sm tab_ok mb0 [] rfl rfl ?zo ?zk
  case zo =>
    repeat' apply AllP.cons
    all_goals first | exact trivial
  case zk =>
  refine Aw.block (Aw.rounds 0 hE [(1, .sl b1 .any (ints l)), (2, .sl b2 .any (ws.map Wk.c)), (3, .bool b), (4, .pt d.c)] (fun k : Nat => [(9, .int (c0 - sumN k fun k => wkR d (fE b) l (ws.getD k wkD) d.hours.toNat)), (11, .int k)]) (fun _ => []) (fun k => k ≤ ws.length) (fun k => ws.length - k) 0
    (Nat.zero_le _) ⟨⟨.refl _, .refl _, .refl _, .refl _, trivial⟩, ⟨.of_eq (show A.int (c0 - 0) = .int c0 by rw [Int.sub_zero]), .refl _, trivial⟩, trivial, Nat.zero_le _⟩ ⟨ul, uw, .s _, udc, trivial⟩ (fun _ _ => ⟨.s _, .s _, trivial⟩) (fun _ _ => trivial) fun k hk => ?_)
  refine Aw.seq ?_
  refine Aw.sm tab_ok mb0 [] rfl rfl ?zo ?zk
  case zo =>
    repeat' apply AllP.cons
    all_goals first | exact trivial
  case zk =>
  refine Aw.cond rfl (fun h1 => Aw.skip ?_) (fun h1 => ?_)
  · have hlt : k < ws.length := by have := of_decide_eq_true h1; omega
    have hwk := hw.get hlt
    have hwr := wk_rate hwk
    have hb0 := wks_bd (f := fE b) (l := l) hd hw k hk
    have hs1 : (sumN (k + 1) fun k => wkR d (fE b) l (ws.getD k wkD) d.hours.toNat) = (sumN k fun k => wkR d (fE b) l (ws.getD k wkD) d.hours.toNat) + wkR d (fE b) l ws[k] d.hours.toNat := by
      rw [sumN]; simp [List.getD_eq_getElem?_getD, hlt]
    generalize (sumN k fun k => wkR d (fE b) l (ws.getD k wkD) d.hours.toNat) = s0 at *
    refine Aw.seq (Aw.block ?_)
    refine Aw.sm tab_ok mb0 [] rfl rfl ?zo ?zk
    case zo =>
      repeat' apply AllP.cons
      all_goals first | exact trivial
    case zk =>
    refine Aw.block (Aw.rounds 0 hE [(1, .sl b1 .any (ints l)), (2, .sl b2 .any (ws.map Wk.c)), (3, .bool b), (4, .pt d.c), (11, .int k)] (fun h : Nat => [(9, .int (c0 - s0 - wkR d (fE b) l ws[k] h)), (12, .int h)]) (fun _ => []) (fun h => h ≤ d.hours.toNat) (fun h => d.hours.toNat - h) 0
      (Nat.zero_le _) ⟨⟨.refl _, .refl _, .refl _, .refl _, .refl _, trivial⟩, ⟨.of_eq (show A.int (c0 - s0 - 0) = .int (c0 - s0) by rw [Int.sub_zero]), .refl _, trivial⟩, trivial, Nat.zero_le _⟩ ⟨ul, uw, .s _, udc, .s _, trivial⟩ (fun _ _ => ⟨.s _, .s _, trivial⟩) (fun _ _ => trivial) fun h hhk => ?_)
    refine Aw.seq ?_
    refine Aw.sm tab_ok mb0 [] rfl rfl ?zo ?zk
    case zo =>
      repeat' apply AllP.cons
      all_goals first | exact trivial | exact Nat.le_of_ble_eq_true rfl
    case zk =>
    refine Aw.cond rfl (fun h2 => Aw.skip ?_) (fun h2 => ?_)
    · have hlt2 : h < d.hours.toNat := by have := of_decide_eq_true h2; omega
      have hb1 := wkR_bd (d := d) (f := fE b) (l := l) hwr (n := h) (by omega)
      have hb2 := wkR_bd (d := d) (f := fE b) (l := l) hwr (n := h + 1) (by omega)
      have hs2 : wkR d (fE b) l ws[k] (h + 1) = wkR d (fE b) l ws[k] h + hourR d (fE b) l ws[k] h := rfl
      refine Aw.seq (Aw.block ?_)
      refine Aw.sm tab_ok mb0 [] rfl rfl ?zo ?zk
      case zo =>
        repeat' apply AllP.cons
        all_goals first | exact trivial
      case zk =>
      refine Aw.seq ?_
      refine Aw.sm tab_ok mb0 [] rfl rfl ?zo ?zk
      case zo =>
        repeat' apply AllP.cons
        all_goals first | exact trivial
      case zk =>
      generalize wkR d (fE b) l ws[k] h = s1 at *
      refine Aw.block (Aw.rounds 0 hE [(1, .sl b1 .any (ints l)), (2, .sl b2 .any (ws.map Wk.c)), (3, .bool b), (4, .pt d.c), (9, .int (c0 - s0 - s1)), (11, .int k), (12, .int h)] (fun i : Nat => [(13, .bool (canAny d (fE b) (l.take i) ws[k] h)), (14, .int i)]) (fun _ => []) (fun i => i ≤ l.length) (fun i => l.length - i) 0
        (Nat.zero_le _) ⟨⟨.refl _, .refl _, .refl _, .refl _, .refl _, .refl _, .refl _, trivial⟩, ⟨.refl _, .refl _, trivial⟩, trivial, Nat.zero_le _⟩ ⟨ul, uw, .s _, udc, .s _, .s _, .s _, trivial⟩ (fun _ _ => ⟨.s _, .s _, trivial⟩) (fun _ _ => trivial) fun i hi => ?_)
      refine Aw.seq ?_
      refine Aw.sm tab_ok mb0 [] rfl rfl ?zo ?zk
      case zo =>
        repeat' apply AllP.cons
        all_goals first | exact trivial
      case zk =>
      refine Aw.cond rfl (fun h3 => Aw.skip ?_) (fun h3 => ?_)
      · have hlt3 : i < l.length := by have := of_decide_eq_true h3; omega
        obtain ⟨x, hx, hxc, hx0⟩ := hcr l[i] (List.getElem_mem hlt3)
        have hx1 := hl l[i] (List.getElem_mem hlt3)
        have hca : canAny d (fE b) (l.take (i + 1)) ws[k] h = (canAny d (fE b) (l.take i) ws[k] h || canF x ws[k] h (untilF d (fE b) x)) := by
          unfold canAny; rw [any_take hlt3]; congr 1
          unfold canLot; rw [hx]
        refine Aw.seq (Aw.block ?_)
        refine Aw.ed tab_ok mixed mb0 [(5, ws[k].c), (9, [.int l[i]]), (13, [.bool (canF x ws[k] h (untilF d (fE b) x))])] rfl (by kernel_rfl) rfl rfl ?zo ?zk
        case zo =>
          repeat' apply AllP.cons
          all_goals first | exact trivial | exact id | exact fun _ => rfl | exact fun _ => Nat.le_of_ble_eq_true rfl | exact fun _ => Int.natCast_nonneg _ | exact fun _ => get_map hlt | exact fun _ => ints_get hlt3 | exact fun _ => takes_t d ws[k] l[i] h b x hd hx1.1 hx (wkOk_iff hwk).1.1 | exact fun h => (by rw [h]; rfl)
        case zk =>
        refine Aw.em tab_ok mb0 [] rfl rfl ?zo ?zk
        case zo =>
          repeat' apply AllP.cons
          all_goals first | exact trivial | exact inrk i (by omega)
        case zk =>
        exact ⟨i + 1, hlt3, by omega, ⟨.refl _, .refl _, .refl _, .refl _, .refl _, .refl _, .refl _, trivial⟩, ⟨.of_eq (by rw [hca]; cases canAny d (fE b) (l.take i) ws[k] h <;> rfl), .refl _, trivial⟩, trivial, Nat.zero_le _⟩
      have hle3 : i = l.length := by have := of_decide_eq_false h3; omega
      subst hle3
      refine Aw.exit2 ?_
      have hcl2 : canAny d (fE b) (l.take l.length) ws[k] h = canAny d (fE b) l ws[k] h := by rw [List.take_length]
      refine Aw.keep (n := 0) (cst := [(1, .sl b1 .any (ints l)), (2, .sl b2 .any (ws.map Wk.c)), (3, .bool b), (4, .pt d.c), (9, .int (c0 - s0 - s1)), (11, .int k), (12, .int h)]) (v := [(13, .bool (canAny d (fE b) l ws[k] h))]) (Hl := []) hE ⟨ul, uw, .s _, udc, .s _, .s _, .s _, trivial⟩ ⟨.s _, trivial⟩ trivial ⟨⟨.refl _, .refl _, .refl _, .refl _, .refl _, .refl _, .refl _, trivial⟩, ⟨.of_eq (by rw [hcl2]; rfl), trivial⟩, trivial, Nat.zero_le _⟩ ?_
      refine Aw.sm tab_ok mb0 [] rfl rfl ?zo ?zk
      case zo =>
        repeat' apply AllP.cons
        all_goals first | exact trivial
      case zk =>
      refine Aw.cond rfl (fun h4 => ?_) (fun h4 => Aw.skip ?_)
      · have h4' : canAny d (fE b) l ws[k] h = true := h4
        have hh4 : hourR d (fE b) l ws[k] h = ws[k].rate := by unfold hourR; rw [if_pos h4']
        rw [hh4] at hs2
        refine Aw.em tab_ok mb0 [(3, ws[k].c)] rfl rfl ?zo ?zk
        case zo =>
          repeat' apply AllP.cons
          all_goals first | exact trivial | exact rfl | exact Nat.le_of_ble_eq_true rfl | exact Int.natCast_nonneg _ | exact get_map hlt | exact (show inR (c0 - s0 - s1 - ws[k].rate) by simp only [inR]; omega)
        case zk =>
        refine Aw.em tab_ok mb0 [] rfl rfl ?zo ?zk
        case zo =>
          repeat' apply AllP.cons
          all_goals first | exact trivial | exact inrk h (by omega)
        case zk =>
        exact ⟨h + 1, hlt2, by omega, ⟨.refl _, .refl _, .refl _, .refl _, .refl _, trivial⟩, ⟨.of_eq (congrArg A.int (show _ = c0 - s0 - s1 - ws[k].rate by rw [hs2]; omega)), .refl _, trivial⟩, trivial, Nat.zero_le _⟩
      · have h4' : canAny d (fE b) l ws[k] h = false := h4
        have hh4 : hourR d (fE b) l ws[k] h = 0 := by unfold hourR; rw [h4']; rfl
        rw [hh4, Int.add_zero] at hs2
        refine Aw.em tab_ok mb0 [] rfl rfl ?zo ?zk
        case zo =>
          repeat' apply AllP.cons
          all_goals first | exact trivial | exact inrk h (by omega)
        case zk =>
        exact ⟨h + 1, hlt2, by omega, ⟨.refl _, .refl _, .refl _, .refl _, .refl _, trivial⟩, ⟨.of_eq (by rw [hs2]; rfl), .refl _, trivial⟩, trivial, Nat.zero_le _⟩
    have hle2 : h = d.hours.toNat := by have := of_decide_eq_false h2; omega
    subst hle2
    refine Aw.exit2 ?_
    have hw7 := hw.n
    refine Aw.em tab_ok mb0 [] rfl rfl ?zo ?zk
    case zo =>
      repeat' apply AllP.cons
      all_goals first | exact trivial | exact inrk k (by omega)
    case zk =>
    exact ⟨k + 1, hlt, by omega, ⟨.refl _, .refl _, .refl _, .refl _, trivial⟩, ⟨.of_eq (congrArg A.int (show _ = c0 - s0 - wkR d (fE b) l ws[k] d.hours.toNat by rw [hs1]; omega)), .refl _, trivial⟩, trivial, Nat.zero_le _⟩
  have hle : k = ws.length := by have := of_decide_eq_false h1; omega
  subst hle
  refine Aw.exit2 ?_
  refine Aw.sm tab_ok mb0 [] rfl rfl ?zo ?zk
  case zo =>
    repeat' apply AllP.cons
    all_goals first | exact trivial
  case zk =>
  exact Aw.ret ⟨_, .cons (.tmp _) .nil, rfl⟩
end Go.Proofs.Ytimikmfkdaoaaaa
namespace Go.Proofs.Ytimikmfkdaoaaaa
open Go Go.AL
def bitI (s : Int) (k : Nat) : Bool := iand (s.fdiv (2 ^ (min k 64))) 1 == 1
def memL (s : Int) (n : Nat) : List Int := ((List.range n).filter (bitI s)).map Int.ofNat
theorem memL_succ (s : Int) (n : Nat) : memL s (n + 1) = if bitI s n then memL s n ++ [(n : Int)] else memL s n := by
  unfold memL
  rw [List.range_succ, List.filter_append, List.map_append]
  cases h : bitI s n
  · simp [h]
  · simp [h]
theorem memL_in {s : Int} {n : Nat} : ∀ i ∈ memL s n, 0 ≤ i ∧ i < n := fun i hi => by
  obtain ⟨k, hk, rfl⟩ := List.mem_map.1 hi
  have := List.mem_range.1 (List.mem_filter.1 hk).1
  simp only [Int.ofNat_eq_natCast]; omega
theorem memL_len (s : Int) (n : Nat) : (memL s n).length ≤ n := by
  unfold memL
  rw [List.length_map]
  exact Nat.le_trans (List.length_filter_le _ _) (by simp)
def grL : List Int → A
  | [] => .sl true .exact []
  | x :: l => .sl false (.own 3) (ints (x :: l))
theorem grL_under {n : Nat} : ∀ l : List Int, Under n (grL l)
  | [] => .sl _ _ _ (fun _ h => by cases h)
  | x :: l => .sl _ _ _ (ints_under _)
theorem grL_down : ∀ l : List Int, (grL l).down = outA l
  | [] => rfl
  | x :: l => rfl
theorem members_t (s : Int) (n : Nat) (hn : n ≤ 1000) : Ans Try.prog 39 [.int s, .int n] (outA (memL s n)) := by
  have hfr := outA_free (memL s n)
  refine told Try.func39 rfl rfl (Pure.of tab_ok Try.func39 rfl Try.ntmps39 rfl (allC (.s _) (all1 (.s _))) (allC (fun _ => rfl) (all1 (fun _ => rfl))) (by first | exact .s _ | assumption | exact .tup _ (by intro x hx; simp only [List.mem_cons, List.not_mem_nil, or_false] at hx; rcases hx with rfl | rfl | rfl | rfl <;> first | exact .s _ | (simp_all; done))) fun E hE => ?_)
  refine Aw.sm tab_ok mb0 [] rfl rfl ?zo ?zk
  case zo =>
    repeat' apply AllP.cons
    all_goals first | exact trivial
  case zk =>
  refine Aw.sm tab_ok mb0 [] rfl rfl ?zo ?zk
  case zo =>
    repeat' apply AllP.cons
    all_goals first | exact trivial
  case zk =>
  refine Aw.seq ?_
  refine Aw.sm tab_ok mb0 [] rfl rfl ?zo ?zk
  case zo =>
    repeat' apply AllP.cons
    all_goals first | exact trivial
  case zk =>
  refine Aw.block (Aw.rounds 0 hE [(0, .int s), (1, .int n)] (fun k : Nat => [(5, grL (memL s k)), (6, .int k)]) (fun _ => []) (fun k => k ≤ n) (fun k => n - k) 0
    (Nat.zero_le _) ⟨⟨.refl _, .refl _, trivial⟩, ⟨.refl _, .refl _, trivial⟩, trivial, Nat.le_refl _⟩ ⟨.s _, .s _, trivial⟩ (fun _ _ => ⟨grL_under _, .s _, trivial⟩) (fun _ _ => trivial) fun k hk => ?_)
  refine Aw.seq ?_
  refine Aw.sm tab_ok mb0 [] rfl rfl ?zo ?zk
  case zo =>
    repeat' apply AllP.cons
    all_goals first | exact trivial
  case zk =>
  refine Aw.cond rfl (fun h1 => Aw.skip ?_) (fun h1 => ?_)
  · have hlt : k < n := by have := of_decide_eq_true h1; omega
    refine Aw.seq (Aw.block ?_)
    refine Aw.sm tab_ok mb0 [(2, [.bool (bitI s k)])] rfl rfl ?zo ?zk
    case zo =>
      repeat' apply AllP.cons
      all_goals first | exact trivial | exact bit_t s k (by omega)
    case zk =>
    refine Aw.cond rfl (fun h2 => ?_) (fun h2 => Aw.skip ?_)
    · have h2' : bitI s k = true := h2
      have e : memL s (k + 1) = memL s k ++ [(k : Int)] := by rw [memL_succ, if_pos h2']
      have hlen := memL_len s k
      cases hm : memL s k with
      | nil =>
        rw [hm] at e
        refine Aw.em tab_ok mb0 [] rfl rfl ?zo ?zk
        case zo =>
          repeat' apply AllP.cons
          all_goals first | exact trivial | exact Nat.le_of_ble_eq_true rfl | exact (show ∀ z ∈ [] ++ [[A.int _]], z.length = 1 from fun z hz => by simp at hz; subst hz; rfl)
        case zk =>
        refine Aw.em tab_ok mb0 [] rfl rfl ?zo ?zk
        case zo =>
          repeat' apply AllP.cons
          all_goals first | exact trivial | exact inrk k (by omega)
        case zk =>
        exact ⟨k + 1, hlt, by omega, ⟨.refl _, .refl _, trivial⟩, ⟨.of_eq (by rw [e]; rfl), .refl _, trivial⟩, trivial, Nat.le_of_ble_eq_true rfl⟩
      | cons x l =>
        rw [hm] at e hlen
        have hlen2 : (ints (x :: l)).length ≤ k := by simp only [ints, List.length_map]; exact hlen
        have hz : ∀ z ∈ ints (x :: l), z.length = 1 := fun z hz => by obtain ⟨i, _, rfl⟩ := List.mem_map.1 hz; rfl
        refine Aw.em tab_ok mb0 [] rfl rfl ?zo ?zk
        case zo =>
          repeat' apply AllP.cons
          all_goals first | exact trivial | exact Nat.le_of_ble_eq_true rfl | exact (show ∀ z ∈ [[A.int _]], z.length = 1 from fun z hz => by simp at hz; subst hz; rfl) | exact hz | exact (show ((ints (x :: l)).length + 1) * 8 ≤ 140737488355328 by omega) | exact (show (ints (x :: l)).length + 1 ≤ maxLen by unfold maxLen; omega)
        case zk =>
        refine Aw.em tab_ok mb0 [] rfl rfl ?zo ?zk
        case zo =>
          repeat' apply AllP.cons
          all_goals first | exact trivial | exact inrk k (by omega)
        case zk =>
        exact ⟨k + 1, hlt, by omega, ⟨.refl _, .refl _, trivial⟩, ⟨.of_eq (by rw [e]; show grL ((x :: l) ++ [(k : Int)]) = A.sl false (.own 3) (ints (x :: l) ++ [[A.int k]]); simp [grL, ints]), .refl _, trivial⟩, trivial, Nat.le_of_ble_eq_true rfl⟩
    · have h2' : bitI s k = false := h2
      have e : memL s (k + 1) = memL s k := by rw [memL_succ, h2']; rfl
      refine Aw.em tab_ok mb0 [] rfl rfl ?zo ?zk
      case zo =>
        repeat' apply AllP.cons
        all_goals first | exact trivial | exact inrk k (by omega)
      case zk =>
      exact ⟨k + 1, hlt, by omega, ⟨.refl _, .refl _, trivial⟩, ⟨.of_eq (by rw [e]; rfl), .refl _, trivial⟩, trivial, Nat.le_of_ble_eq_true rfl⟩
  · have hle : k = n := by have := of_decide_eq_false h1; omega
    subst hle
    refine Aw.exit2 ?_
    cases hm : memL s k with
    | nil =>
      refine Aw.sm tab_ok mb0 [] rfl rfl ?zo ?zk
      case zo =>
        repeat' apply AllP.cons
        all_goals first | exact trivial
      case zk =>
      exact Aw.ret ⟨_, .cons (.tmp _) .nil, rfl⟩
    | cons x l =>
      refine Aw.sm tab_ok mb0 [] rfl rfl ?zo ?zk
      case zo =>
        repeat' apply AllP.cons
        all_goals first | exact trivial
      case zk =>
      exact Aw.ret ⟨_, .cons (.tmp _) .nil, rfl⟩
def prevI (l : List Int) : Nat → Int
  | 0 => -1
  | k + 1 => l.getD k 0
theorem rising_t (l : List Int) (b : Bool) (n : Int) (hl : (l.length : Int) ≤ 9223372036854775807) (hn : 0 ≤ n ∧ n ≤ 1000) : Ans Try.prog 41 [.sl b .any (ints l), .int n] (.bool (risingF n (-1) l)) := by
  have li : ((ints l).length : Int) = l.length := by simp [ints]
  refine told Try.func41 rfl rfl (Pure.of tab_ok Try.func41 rfl Try.ntmps41 rfl (allC (free_ints _ _ _) (all1 (.s _))) (allC (fun _ => rfl) (all1 (fun _ => rfl))) (by first | exact .s _ | assumption | exact .tup _ (by intro x hx; simp only [List.mem_cons, List.not_mem_nil, or_false] at hx; rcases hx with rfl | rfl | rfl | rfl <;> first | exact .s _ | (simp_all; done))) fun E hE => ?_)
  refine Aw.sm tab_ok mb0 [] rfl rfl ?zo ?zk
  case zo =>
    repeat' apply AllP.cons
    all_goals first | exact trivial
  case zk =>
  refine Aw.seq ?_
  refine Aw.sm tab_ok mb0 [] rfl rfl ?zo ?zk
  case zo =>
    repeat' apply AllP.cons
    all_goals first | exact trivial
  case zk =>
  refine Aw.block (Aw.rounds 0 hE [(0, .sl b .any (ints l)), (1, .int n)] (fun k : Nat => [(5, .int k)]) (fun _ => []) (fun k => k ≤ l.length ∧ -1 ≤ prevI l k ∧ risingF n (-1) l = risingF n (prevI l k) (l.drop k)) (fun k => l.length - k) 0
    ⟨Nat.zero_le _, Int.le_refl _, rfl⟩ ⟨⟨.refl _, .refl _, trivial⟩, ⟨.refl _, trivial⟩, trivial, Nat.le_refl _⟩ ⟨(free_ints _ _ _).under, .s _, trivial⟩ (fun _ _ => ⟨.s _, trivial⟩) (fun _ _ => trivial) fun k hk => ?_)
  obtain ⟨hk, hp, hr⟩ := hk
  refine Aw.seq ?_
  refine Aw.sm tab_ok mb0 [] rfl rfl ?zo ?zk
  case zo =>
    repeat' apply AllP.cons
    all_goals first | exact trivial
  case zk =>
  refine Aw.cond rfl (fun h1 => Aw.skip ?_) (fun h1 => ?_)
  · have hlt : k < l.length := by have := of_decide_eq_true h1; omega
    have hd : l.drop k = l[k] :: l.drop (k + 1) := List.drop_eq_getElem_cons hlt
    rw [hd, risingF] at hr
    have hpk : ∀ h : 0 < k, (ints l)[((k : Int) - 1).toNat]? = some [.int (prevI l k)] := fun h => by
      obtain ⟨j, rfl⟩ : ∃ j, k = j + 1 := ⟨k - 1, by omega⟩
      have : (((j + 1 : Nat) : Int) - 1).toNat = j := by omega
      rw [this, ints_get (by omega)]
      simp [prevI, List.getD_eq_getElem?_getD, show j < l.length by omega]
    refine Aw.seq (Aw.block ?_)
    have hk0 : ∀ {a : Bool}, cond a (gq (decide ((k : Int) > 0)) true) false = true → 0 < k := fun h => by
      have := of_decide_eq_true (gq_c2 h).2; omega
    refine Aw.sd tab_ok mixed mb0 [(2, [.int l[k]]), (6, [.bool (wi l[k] 0 (n - 1))]), (14, [.int l[k]]), (19, [.int (prevI l k)])] rfl (by kernel_rfl) rfl rfl ?zo ?zk
    case zo =>
      repeat' apply AllP.cons
      all_goals first | exact trivial | exact id | exact rfl | exact fun _ => rfl | exact Nat.le_of_ble_eq_true rfl | exact fun _ => Nat.le_of_ble_eq_true rfl | exact Int.natCast_nonneg _ | exact fun _ => Int.natCast_nonneg _ | exact in_t _ _ _ | exact ints_get hlt | exact fun _ => ints_get hlt | exact (by simp only [Ob.of, inR]; omega) | exact gq_f | exact gq_c | exact fun _ _ => rfl | exact fun h => hpk (hk0 h) | exact fun h => (show (0 : Int) ≤ (k : Int) - 1 by have := hk0 h; omega)
    case zk =>
    refine Aw.cond rfl (fun h2 => ?_) (fun h2 => Aw.skip ?_)
    · have h2 : cond (!wi l[k] 0 (n - 1)) true (cond (decide ((k : Int) > 0)) (decide (l[k] ≤ prevI l k)) false) = true := h2
      have hno : wi l[k] (prevI l k + 1) (n - 1) = false := by
        cases e : wi l[k] (prevI l k + 1) (n - 1) with
        | false => rfl
        | true =>
          have h3 := wi_iff.1 e
          rw [wi_iff.2 (show 0 ≤ l[k] ∧ l[k] ≤ n - 1 by omega), decide_eq_false (show ¬ l[k] ≤ prevI l k by omega)] at h2
          cases h4 : decide ((k : Int) > 0) <;> rw [h4] at h2 <;> cases h2
      rw [hno] at hr
      refine Aw.sm tab_ok mb0 [] rfl rfl ?zo ?zk
      case zo =>
        repeat' apply AllP.cons
        all_goals first | exact trivial
      case zk =>
      exact Aw.ret ⟨_, .cons (.tmp _) .nil, congrArg A.bool hr.symm⟩
    · have h2 : cond (!wi l[k] 0 (n - 1)) true (cond (decide ((k : Int) > 0)) (decide (l[k] ≤ prevI l k)) false) = false := h2
      have h3 : wi l[k] 0 (n - 1) = true := by
        cases e : wi l[k] 0 (n - 1) with
        | true => rfl
        | false => rw [e] at h2; cases h2
      have h4 := wi_iff.1 h3
      have hyes : wi l[k] (prevI l k + 1) (n - 1) = true := by
        refine wi_iff.2 ⟨?_, h4.2⟩
        cases k with
        | zero => show -1 + 1 ≤ _; omega
        | succ j =>
          rw [h3, decide_eq_true (show (((j + 1 : Nat) : Int) > 0) by omega)] at h2
          have := of_decide_eq_false (show decide (l[j + 1] ≤ prevI l (j + 1)) = false from h2)
          omega
      rw [hyes] at hr
      refine Aw.em tab_ok mb0 [] rfl rfl ?zo ?zk
      case zo =>
        repeat' apply AllP.cons
        all_goals first | exact trivial | exact (by simp only [Ob.of, inR]; omega)
      case zk =>
      have hpn : prevI l (k + 1) = l[k] := by simp [prevI, List.getD_eq_getElem?_getD, hlt]
      exact ⟨k + 1, ⟨hlt, by rw [hpn]; omega, by rw [hpn]; exact hr⟩, by omega, ⟨.refl _, .refl _, trivial⟩, ⟨.refl _, trivial⟩, trivial, Nat.zero_le _⟩
  · have hle : k = l.length := by have := of_decide_eq_false h1; omega
    subst hle
    rw [List.drop_length, risingF] at hr
    refine Aw.exit2 ?_
    refine Aw.sm tab_ok mb0 [] rfl rfl ?zo ?zk
    case zo =>
      repeat' apply AllP.cons
      all_goals first | exact trivial
    case zk =>
    exact Aw.ret ⟨_, .cons (.tmp _) .nil, congrArg A.bool hr.symm⟩
def befF : List Int → List Int → Bool
  | [], [] => false
  | [], _ :: _ => true
  | _ :: _, [] => false
  | x :: xs, y :: ys => if x = y then befF xs ys else decide (x < y)
theorem befF_end (a b : List Int) (h : a = [] ∨ b = []) : befF a b = decide ((a.length : Int) < b.length) := by
  cases a <;> cases b <;> simp_all [befF] <;> omega
theorem before_t (a b : List Int) (n m : Bool) (ha : (a.length : Int) ≤ 9223372036854775807) (hb : (b.length : Int) ≤ 9223372036854775807) : Ans Try.prog 42 [.sl n .any (ints a), .sl m .any (ints b)] (.bool (befF a b)) := by
  have la : ((ints a).length : Int) = a.length := by simp [ints]
  have lb : ((ints b).length : Int) = b.length := by simp [ints]
  refine told Try.func42 rfl rfl (Pure.of tab_ok Try.func42 rfl Try.ntmps42 rfl (allC (free_ints _ _ _) (all1 (free_ints _ _ _))) (allC (fun _ => rfl) (all1 (fun _ => rfl))) (by first | exact .s _ | assumption | exact .tup _ (by intro x hx; simp only [List.mem_cons, List.not_mem_nil, or_false] at hx; rcases hx with rfl | rfl | rfl | rfl <;> first | exact .s _ | (simp_all; done))) fun E hE => ?_)
  refine Aw.sm tab_ok mb0 [] rfl rfl ?zo ?zk
  case zo =>
    repeat' apply AllP.cons
    all_goals first | exact trivial
  case zk =>
  refine Aw.seq ?_
  refine Aw.sm tab_ok mb0 [] rfl rfl ?zo ?zk
  case zo =>
    repeat' apply AllP.cons
    all_goals first | exact trivial
  case zk =>
  refine Aw.block (Aw.rounds 0 hE [(0, .sl n .any (ints a)), (1, .sl m .any (ints b))] (fun k : Nat => [(5, .int k)]) (fun _ => []) (fun k => k ≤ a.length ∧ k ≤ b.length ∧ befF a b = befF (a.drop k) (b.drop k)) (fun k => a.length - k) 0
    ⟨Nat.zero_le _, Nat.zero_le _, rfl⟩ ⟨⟨.refl _, .refl _, trivial⟩, ⟨.refl _, trivial⟩, trivial, Nat.le_refl _⟩ ⟨(free_ints _ _ _).under, (free_ints _ _ _).under, trivial⟩ (fun _ _ => ⟨.s _, trivial⟩) (fun _ _ => trivial) fun k hk => ?_)
  obtain ⟨hk, hp, hr⟩ := hk
  refine Aw.seq ?_
  refine Aw.sm tab_ok mb0 [] rfl rfl ?zo ?zk
  case zo =>
    repeat' apply AllP.cons
    all_goals first | exact trivial | exact id | exact fun _ => rfl
  case zk =>
  refine Aw.cond rfl (fun h1 => Aw.skip ?_) (fun h1 => ?_)
  · have h1 : cond (decide ((k : Int) < ((ints a).length : Int))) (decide ((k : Int) < ((ints b).length : Int))) false = true := h1
    have hlt : k < a.length := by have := of_decide_eq_true (ac1 h1); omega
    have hlt2 : k < b.length := by have := of_decide_eq_true (ac2 h1); omega
    rw [List.drop_eq_getElem_cons hlt, List.drop_eq_getElem_cons hlt2, befF] at hr
    refine Aw.seq (Aw.block ?_)
    refine Aw.sd tab_ok mixed mb0 [(2, [.int a[k]]), (6, [.int b[k]])] rfl (by kernel_rfl) rfl rfl ?zo ?zk
    case zo =>
      repeat' apply AllP.cons
      all_goals first | exact trivial | exact rfl | exact Nat.le_of_ble_eq_true rfl | exact Int.natCast_nonneg _ | exact ints_get hlt | exact ints_get hlt2
    case zk =>
    refine Aw.cond rfl (fun h2 => ?_) (fun h2 => Aw.skip ?_)
    · have h2' : ¬ a[k] = b[k] := by simpa using h2
      rw [if_neg h2'] at hr
      refine Aw.sd tab_ok mixed mb0 [(2, [.int a[k]]), (6, [.int b[k]])] rfl (by kernel_rfl) rfl rfl ?zo ?zk
      case zo =>
        repeat' apply AllP.cons
        all_goals first | exact trivial | exact rfl | exact Nat.le_of_ble_eq_true rfl | exact Int.natCast_nonneg _ | exact ints_get hlt | exact ints_get hlt2
      case zk =>
      exact Aw.ret ⟨_, .cons (.tmp _) .nil, congrArg A.bool hr.symm⟩
    · have h2' : a[k] = b[k] := by simpa using h2
      rw [if_pos h2'] at hr
      refine Aw.em tab_ok mb0 [] rfl rfl ?zo ?zk
      case zo =>
        repeat' apply AllP.cons
        all_goals first | exact trivial | exact (by simp only [Ob.of, inR]; omega)
      case zk =>
      exact ⟨k + 1, ⟨hlt, hlt2, hr⟩, by omega, ⟨.refl _, .refl _, trivial⟩, ⟨.refl _, trivial⟩, trivial, Nat.zero_le _⟩
  · have h1 : cond (decide ((k : Int) < ((ints a).length : Int))) (decide ((k : Int) < ((ints b).length : Int))) false = false := h1
    have hend : a.drop k = [] ∨ b.drop k = [] := by
      rw [List.drop_eq_nil_iff, List.drop_eq_nil_iff]
      rw [c_and, Bool.and_eq_false_iff, decide_eq_false_iff_not, decide_eq_false_iff_not] at h1
      omega
    rw [befF_end _ _ hend] at hr
    refine Aw.exit2 ?_
    refine Aw.sm tab_ok mb0 [] rfl rfl ?zo ?zk
    case zo =>
      repeat' apply AllP.cons
      all_goals first | exact trivial
    case zk =>
    refine Aw.ret ⟨_, .cons (.tmp _) .nil, ?_⟩
    show A.bool (decide (((ints a).length : Int) < ((ints b).length : Int))) = _
    rw [hr, la, lb]
    simp only [List.length_drop]
    congr 1
    exact decide_eq_decide.2 (by omega)
end Go.Proofs.Ytimikmfkdaoaaaa
namespace Go.Proofs.Ytimikmfkdaoaaaa
open Go Go.AL
theorem Ans_out {f : FuncId} {args : List A} {v v' : A} (h : Ans Try.prog f args v) (hl : A.Le v' v) : Ans Try.prog f args v' := ⟨h.ent, fun φ Z w vs hz hvs => (h.pure φ Z w vs hz hvs).mono fun e w' ⟨u, Z', h1, h2, h3, h4⟩ =>
  ⟨u, Z', h1, h2, hl.1 _ _ _ _ h3, fun u' => by
    cases e : spareOf v' u' with
    | none => rfl
    | some p => have := hl.2 _ _ e; rw [h4] at this; cases this⟩⟩
def outW (l : List Int) : A := .sl l.isEmpty .any (ints l)
theorem outW_le : ∀ l : List Int, A.Le (outW l) (outA l)
  | [] => .any _ _ _
  | x :: l => .refl _
theorem outW_free (l : List Int) : Free (outW l) := free_ints _ _ _
theorem members_w (s : Int) (n : Nat) (hn : n ≤ 1000) : Ans Try.prog 39 [.int s, .int n] (outW (memL s n)) := Ans_out (members_t s n hn) (outW_le _)
abbrev Gst := Int × List Int
def gBetter (x : Int) (l : List Int) (s : Gst) : Bool := cond (decide (x > s.1)) true (cond (cond (x == s.1) (decide (s.1 > 0)) false) (cond (decide (((ints l).length : Int) < (ints s.2).length)) true (cond (((ints l).length : Int) == (ints s.2).length) (befF l s.2) false)) false)
def gStep (d : Day) (f : Spn → Int) (ws : List Wk) (s : Gst) (n : Nat) : Gst := if gBetter (rdef d f (memL n d.lots.length) ws) (memL n d.lots.length) s then (rdef d f (memL n d.lots.length) ws, memL n d.lots.length) else s
def gre (d : Day) (f : Spn → Int) (ws : List Wk) : Nat → Gst
  | 0 => (0, [])
  | j + 1 => gStep d f ws (gre d f ws j) (j + 1)
def greF (d : Day) (f : Spn → Int) (ws : List Wk) : Gst := gre d f ws (2 ^ d.lots.length - 1)
theorem gre_len (d : Day) (f : Spn → Int) (ws : List Wk) : ∀ j, (gre d f ws j).2.length ≤ d.lots.length
  | 0 => Nat.zero_le _
  | j + 1 => by
    rw [gre, gStep]; split
    · exact memL_len _ _
    · exact gre_len d f ws j
theorem pow_le8 {n : Nat} (h : n ≤ 8) : 2 ^ n ≤ 256 := Nat.pow_le_pow_right (by decide) h
theorem shl1 {n : Nat} (h : n ≤ 8) : IntKind.i64.wrap (1 * 2 ^ (min ((n : Int).toNat) 64)) = ((2 ^ n : Nat) : Int) := by
  match n, h with
  | 0, _ => decide +kernel
  | 1, _ => decide +kernel
  | 2, _ => decide +kernel
  | 3, _ => decide +kernel
  | 4, _ => decide +kernel
  | 5, _ => decide +kernel
  | 6, _ => decide +kernel
  | 7, _ => decide +kernel
  | 8, _ => decide +kernel
set_option maxHeartbeats 1000000 in
theorem greatest_t (d : Day) (b2 : Bool) (ws : List Wk) (b : Bool) (hd : DayOk d) (hw : WksOk d ws) : Ans Try.prog 64 [.agg d.c, .sl b2 .any (ws.map Wk.c), .bool b] (.tup [.int (greF d (fE b) ws).1, outW (greF d (fE b) ws).2]) := by
  have hfr : Free (.tup [.int (greF d (fE b) ws).1, outW (greF d (fE b) ws).2]) := .tup _ (allC (.s _) (all1 (outW_free _)))
  have nl := hd.nl
  have ll : ((d.lots.map Lot.c).length : Int) = d.lots.length := by simp
  refine told Try.func64 rfl rfl (Pure.of tab_ok Try.func64 rfl Try.ntmps64 rfl (allC (.agg _ d.free) (allC (free_map Wk.free _ _ _) (all1 (.s _)))) (allC (fun _ => rfl) (allC (fun _ => rfl) (all1 (fun _ => rfl)))) (by first | exact .s _ | assumption | exact .tup _ (by intro x hx; simp only [List.mem_cons, List.not_mem_nil, or_false] at hx; rcases hx with rfl | rfl | rfl | rfl <;> first | exact .s _ | (simp_all; done))) fun E hE => ?_)
  have udc : Under 0 (A.pt d.c) := (Free.pt _ d.free).under
  have uw : Under 0 (A.sl b2 .any (ws.map Wk.c)) := (free_map Wk.free _ _ _).under
  refine Aw.sm tab_ok mb0 [] rfl rfl ?zo ?zk
  case zo =>
    repeat' apply AllP.cons
    all_goals first | exact trivial
  case zk =>
  refine Aw.sm tab_ok mb0 [] rfl rfl ?zo ?zk
  case zo =>
    repeat' apply AllP.cons
    all_goals first | exact trivial
  case zk =>
  refine Aw.sm tab_ok mb0 [] rfl rfl ?zo ?zk
  case zo =>
    repeat' apply AllP.cons
    all_goals first | exact trivial
  case zk =>
  refine Aw.seq ?_
  refine Aw.sm tab_ok mb0 [] rfl rfl ?zo ?zk
  case zo =>
    repeat' apply AllP.cons
    all_goals first | exact trivial
  case zk =>
  have hp1 : 1 ≤ 2 ^ d.lots.length := Nat.one_le_two_pow
  have hp2 := pow_le8 nl
  refine Aw.block (Aw.rounds 0 hE [(1, .sl b2 .any (ws.map Wk.c)), (2, .bool b), (3, .pt d.c)] (fun j : Nat => [(8, .int (gre d (fE b) ws j).1), (9, outW (gre d (fE b) ws j).2), (10, .int ((j : Int) + 1))]) (fun _ => []) (fun j => j ≤ 2 ^ d.lots.length - 1) (fun j => 2 ^ d.lots.length - 1 - j) 0
    (Nat.zero_le _) ⟨⟨.refl _, .refl _, .refl _, trivial⟩, ⟨.refl _, .any _ _ _, .refl _, trivial⟩, trivial, Nat.le_refl _⟩ ⟨uw, .s _, udc, trivial⟩ (fun _ _ => ⟨.s _, (outW_free _).under, .s _, trivial⟩) (fun _ _ => trivial) fun j hj => ?_)
  refine Aw.seq ?_
  refine Aw.sm tab_ok mb0 [] rfl rfl ?zo ?zk
  case zo =>
    repeat' apply AllP.cons
    all_goals first | exact trivial | exact Nat.le_of_ble_eq_true rfl | exact Int.natCast_nonneg _
  case zk =>
  have hsh : IntKind.i64.wrap (1 * 2 ^ (min (((d.lots.map Lot.c).length : Int).toNat) 64)) = ((2 ^ d.lots.length : Nat) : Int) := by rw [ll]; exact shl1 nl
  refine Aw.cond rfl (fun h1 => Aw.skip ?_) (fun h1 => ?_)
  · have h1 : decide ((j : Int) + 1 < IntKind.i64.wrap (1 * 2 ^ (min (((d.lots.map Lot.c).length : Int).toNat) 64))) = true := h1
    rw [hsh] at h1
    have hlt : j + 1 ≤ 2 ^ d.lots.length - 1 := by have := of_decide_eq_true h1; omega
    have e1 : (((j + 1 : Nat) : Int)) = (j : Int) + 1 := by omega
    have hm : Ans Try.prog 39 [.int ((j : Int) + 1), .int ((d.lots.map Lot.c).length : Int)] (outW (memL ((j : Int) + 1) d.lots.length)) := by
      rw [ll]; exact members_w _ _ (by omega)
    have hin := memL_in (s := (j : Int) + 1) (n := d.lots.length)
    have hln := memL_len ((j : Int) + 1) d.lots.length
    have hr := rdef_t d (memL ((j : Int) + 1) d.lots.length).isEmpty b2 (memL ((j : Int) + 1) d.lots.length) ws b hd hw (by omega) hin
    have hg2 := gre_len d (fE b) ws j
    have hstep : gre d (fE b) ws (j + 1) = if gBetter (rdef d (fE b) (memL ((j : Int) + 1) d.lots.length) ws) (memL ((j : Int) + 1) d.lots.length) (gre d (fE b) ws j) then (rdef d (fE b) (memL ((j : Int) + 1) d.lots.length) ws, memL ((j : Int) + 1) d.lots.length) else gre d (fE b) ws j := by rw [gre, gStep, e1]
    generalize memL ((j : Int) + 1) d.lots.length = l at *
    generalize rdef d (fE b) l ws = x at *
    have hb := before_t l (gre d (fE b) ws j).2 l.isEmpty (gre d (fE b) ws j).2.isEmpty (by omega) (by omega)
    refine Aw.seq (Aw.block ?_)
    refine Aw.sm tab_ok mb0 [(4, [outW l])] rfl rfl ?zo ?zk
    case zo =>
      repeat' apply AllP.cons
      all_goals first | exact trivial | exact Nat.le_of_ble_eq_true rfl | exact hm
    case zk =>
    refine Aw.sm tab_ok mb0 [(4, [.int x])] rfl rfl ?zo ?zk
    case zo =>
      repeat' apply AllP.cons
      all_goals first | exact trivial | exact Nat.le_of_ble_eq_true rfl | exact hr
    case zk =>
    refine Aw.sm tab_ok mb0 [(26, [.bool (befF l (gre d (fE b) ws j).2)])] rfl rfl ?zo ?zk
    case zo =>
      repeat' apply AllP.cons
      all_goals first | exact trivial | exact id | exact fun _ => rfl | exact fun _ => hb | exact gq_f | exact gq_c | exact fun _ _ => rfl
    case zk =>
    refine Aw.cond rfl (fun h2 => ?_) (fun h2 => Aw.skip ?_)
    · have h2 : gBetter x l (gre d (fE b) ws j) = true := h2
      rw [if_pos h2] at hstep
      refine Aw.em tab_ok mb0 [] rfl rfl ?zo ?zk
      case zo =>
        repeat' apply AllP.cons
        all_goals first | exact trivial
      case zk =>
      refine Aw.em tab_ok mb0 [] rfl rfl ?zo ?zk
      case zo =>
        repeat' apply AllP.cons
        all_goals first | exact trivial | exact (by simp only [Ob.of, inR]; omega)
      case zk =>
      exact ⟨j + 1, hlt, by omega, ⟨.refl _, .refl _, .refl _, trivial⟩, ⟨.of_eq (by rw [hstep]; rfl), .of_eq (by rw [hstep]; rfl), .of_eq (show A.int _ = A.int ((j : Int) + 1 + 1) from congrArg A.int (by omega)), trivial⟩, trivial, Nat.zero_le _⟩
    · have h2 : gBetter x l (gre d (fE b) ws j) = false := h2
      rw [h2, if_neg (by decide)] at hstep
      refine Aw.em tab_ok mb0 [] rfl rfl ?zo ?zk
      case zo =>
        repeat' apply AllP.cons
        all_goals first | exact trivial | exact (by simp only [Ob.of, inR]; omega)
      case zk =>
      exact ⟨j + 1, hlt, by omega, ⟨.refl _, .refl _, .refl _, trivial⟩, ⟨.of_eq (by rw [hstep]; rfl), .of_eq (by rw [hstep]; rfl), .of_eq (show A.int _ = A.int ((j : Int) + 1 + 1) from congrArg A.int (by omega)), trivial⟩, trivial, Nat.zero_le _⟩
  · have h1 : decide ((j : Int) + 1 < IntKind.i64.wrap (1 * 2 ^ (min (((d.lots.map Lot.c).length : Int).toNat) 64))) = false := h1
    rw [hsh] at h1
    have hle : j = 2 ^ d.lots.length - 1 := by have := of_decide_eq_false h1; omega
    subst hle
    refine Aw.exit2 ?_
    refine Aw.sm tab_ok mb0 [] rfl rfl ?zo ?zk
    case zo =>
      repeat' apply AllP.cons
      all_goals first | exact trivial
    case zk =>
    exact Aw.ret ⟨_, .cons (.tmp _) (.cons (.tmp _) .nil), rfl⟩
theorem WksOk.of {d : Day} (h : DayOk d) : WksOk d d.wks := ⟨h.nw, h.wks⟩
theorem greatest_h (d : Day) (hd : DayOk d) : Ans Try.prog 64 [.agg d.c, d.wksA, .bool false] (.tup [.int (greF d Spn.hi d.wks).1, outW (greF d Spn.hi d.wks).2]) := greatest_t d d.wn d.wks false hd (.of hd)
theorem greatest_l (d : Day) (hd : DayOk d) : Ans Try.prog 64 [.agg d.c, d.wksA, .bool true] (.tup [.int (greF d Spn.lo d.wks).1, outW (greF d Spn.lo d.wks).2]) := greatest_t d d.wn d.wks true hd (.of hd)
def rLostR (d : Day) : List A := if d.ok then [.int (greF d Spn.hi d.wks).1, .int 0] else [.int 0, .int 50]
theorem rLost_t (d : Day) (hs : Small d) : Ans Try.prog 24 [.agg d.c] (.tup (rLostR d)) := by
  have hfr : Free (.tup (rLostR d)) := .tup _ (by
    unfold rLostR; split <;> exact allC (.s _) (all1 (.s _)))
  refine told Try.func24 rfl rfl (Pure.of tab_ok Try.func24 rfl Try.ntmps24 rfl (all1 (.agg _ d.free)) (all1 (fun _ => rfl)) (by first | exact .s _ | assumption | exact .tup _ (by intro x hx; simp only [List.mem_cons, List.not_mem_nil, or_false] at hx; rcases hx with rfl | rfl | rfl | rfl <;> first | exact .s _ | (simp_all; done))) fun E hE => ?_)
  refine Aw.sm tab_ok mb0 [] rfl rfl ?zo ?zk
  case zo =>
    repeat' apply AllP.cons
    all_goals first | exact trivial
  case zk =>
  refine Aw.seq ?_
  refine Aw.sm tab_ok mb0 [(1, [.int d.errA])] rfl rfl ?zo ?zk
  case zo =>
    repeat' apply AllP.cons
    all_goals first | exact trivial | exact Nat.le_of_ble_eq_true rfl | exact rcheck_t d hs
  case zk =>
  refine Aw.sm tab_ok mb0 [] rfl rfl ?zo ?zk
  case zo =>
    repeat' apply AllP.cons
    all_goals first | exact trivial
  case zk =>
  refine Aw.cond rfl (fun h1 => ?_) (fun h1 => Aw.skip ?_)
  · have hno : d.ok = false := by
      cases h : d.ok with
      | false => rfl
      | true => rw [err_ok h] at h1; exact absurd h1 (by decide)
    refine Aw.sm tab_ok mb0 [] rfl rfl ?zo ?zk
    case zo =>
      repeat' apply AllP.cons
      all_goals first | exact trivial
    case zk =>
    exact Aw.ret ⟨_, .cons (.tmp _) (.cons (.tmp _) .nil), by simp only [rLostR, hno]; rw [err_no hno]; rfl⟩
  have hok : d.ok = true := by
    cases h : d.ok with
    | true => rfl
    | false => rw [err_no h] at h1; exact absurd h1 (by decide)
  refine Aw.sm tab_ok mb0 [(3, [.tup [.int (greF d Spn.hi d.wks).1, outW (greF d Spn.hi d.wks).2]])] rfl rfl ?zo ?zk
  case zo =>
    repeat' apply AllP.cons
    all_goals first | exact trivial | exact Nat.le_of_ble_eq_true rfl | exact greatest_h d (.of hok)
  case zk =>
  refine Aw.sm tab_ok mb0 [] rfl rfl ?zo ?zk
  case zo =>
    repeat' apply AllP.cons
    all_goals first | exact trivial
  case zk =>
  exact Aw.ret ⟨_, .cons (.tmp _) (.cons (.tmp _) .nil), by simp only [rLostR, hok]; rfl⟩
def rDefR (d : Day) (l : List Int) : List A := if d.ok then (if risingF (nLots d) (-1) l then [.int (rdef d Spn.hi l d.wks), .int 0] else [.int 0, .int 51]) else [.int 0, .int 50]
theorem rDeficit_t (d : Day) (b : Bool) (l : List Int) (hs : Small d) (hw : (l.length : Int) ≤ 9223372036854775807) : Ans Try.prog 26 [.agg d.c, .sl b .any (ints l)] (.tup (rDefR d l)) := by
  have hfr : Free (.tup (rDefR d l)) := .tup _ (by
    unfold rDefR; split
    · split <;> exact allC (.s _) (all1 (.s _))
    · exact allC (.s _) (all1 (.s _)))
  refine told Try.func26 rfl rfl (Pure.of tab_ok Try.func26 rfl Try.ntmps26 rfl (allC (.agg _ d.free) (all1 (free_ints _ _ _))) (allC (fun _ => rfl) (all1 (fun _ => rfl))) (by first | exact .s _ | assumption | exact .tup _ (by intro x hx; simp only [List.mem_cons, List.not_mem_nil, or_false] at hx; rcases hx with rfl | rfl | rfl | rfl <;> first | exact .s _ | (simp_all; done))) fun E hE => ?_)
  refine Aw.sm tab_ok mb0 [] rfl rfl ?zo ?zk
  case zo =>
    repeat' apply AllP.cons
    all_goals first | exact trivial
  case zk =>
  refine Aw.seq ?_
  refine Aw.sm tab_ok mb0 [(1, [.int d.errA])] rfl rfl ?zo ?zk
  case zo =>
    repeat' apply AllP.cons
    all_goals first | exact trivial | exact Nat.le_of_ble_eq_true rfl | exact rcheck_t d hs
  case zk =>
  refine Aw.sm tab_ok mb0 [] rfl rfl ?zo ?zk
  case zo =>
    repeat' apply AllP.cons
    all_goals first | exact trivial
  case zk =>
  refine Aw.cond rfl (fun h1 => ?_) (fun h1 => Aw.skip ?_)
  · have hno : d.ok = false := by
      cases h : d.ok with
      | false => rfl
      | true => rw [err_ok h] at h1; exact absurd h1 (by decide)
    refine Aw.sm tab_ok mb0 [] rfl rfl ?zo ?zk
    case zo =>
      repeat' apply AllP.cons
      all_goals first | exact trivial
    case zk =>
    exact Aw.ret ⟨_, .cons (.tmp _) (.cons (.tmp _) .nil), by simp only [rDefR, hno]; rw [err_no hno]; rfl⟩
  have hok : d.ok = true := by
    cases h : d.ok with
    | true => rfl
    | false => rw [err_no h] at h1; exact absurd h1 (by decide)
  have hd := DayOk.of hok
  have nl := hd.nl
  have ll : ((d.lots.map Lot.c).length : Int) = d.lots.length := by simp
  refine Aw.seq ?_
  refine Aw.sm tab_ok mb0 [(4, [.bool (risingF (nLots d) (-1) l)])] rfl rfl ?zo ?zk
  case zo =>
    repeat' apply AllP.cons
    all_goals first | exact trivial | exact Nat.le_of_ble_eq_true rfl | exact rising_t l b (nLots d) hw (by unfold nLots; omega)
  case zk =>
  refine Aw.cond rfl (fun h2 => ?_) (fun h2 => Aw.skip ?_)
  · have hno : risingF (nLots d) (-1) l = false := by simpa using h2
    refine Aw.sm tab_ok mb0 [] rfl rfl ?zo ?zk
    case zo =>
      repeat' apply AllP.cons
      all_goals first | exact trivial
    case zk =>
    exact Aw.ret ⟨_, .cons (.tmp _) (.cons (.tmp _) .nil), by simp only [rDefR, hok, hno]; rfl⟩
  · have hyes : risingF (nLots d) (-1) l = true := by simpa using h2
    have hri := rising_in hyes (Int.le_refl _) (by unfold nLots; omega)
    refine Aw.sm tab_ok mb0 [(4, [.int (rdef d Spn.hi l d.wks)])] rfl rfl ?zo ?zk
    case zo =>
      repeat' apply AllP.cons
      all_goals first | exact trivial | exact Nat.le_of_ble_eq_true rfl | exact rdef_t d b d.wn l d.wks false hd (.of hd) (by have := hri.2; unfold nLots at this; omega) (fun i hi => by have := hri.1 i hi; unfold nLots at this; omega)
    case zk =>
    exact Aw.ret ⟨_, .cons (.tmp _) (.cons (.tmp _) .nil), by simp only [rDefR, hok, hyes]; rfl⟩
def rProofR (d : Day) : List A := if d.ok then [outW (greF d Spn.hi d.wks).2, .int 0] else [outA [], .int 50]
theorem rProof_t (d : Day) (hs : Small d) : Ans Try.prog 28 [.agg d.c] (.tup (rProofR d)) := by
  have hfr : Free (.tup (rProofR d)) := .tup _ (by
    unfold rProofR; split
    · exact allC (outW_free _) (all1 (.s _))
    · exact allC (outA_free _) (all1 (.s _)))
  refine told Try.func28 rfl rfl (Pure.of tab_ok Try.func28 rfl Try.ntmps28 rfl (all1 (.agg _ d.free)) (all1 (fun _ => rfl)) (by first | exact .s _ | assumption | exact .tup _ (by intro x hx; simp only [List.mem_cons, List.not_mem_nil, or_false] at hx; rcases hx with rfl | rfl | rfl | rfl <;> first | exact .s _ | (simp_all; done))) fun E hE => ?_)
  refine Aw.sm tab_ok mb0 [] rfl rfl ?zo ?zk
  case zo =>
    repeat' apply AllP.cons
    all_goals first | exact trivial
  case zk =>
  refine Aw.seq ?_
  refine Aw.sm tab_ok mb0 [(1, [.int d.errA])] rfl rfl ?zo ?zk
  case zo =>
    repeat' apply AllP.cons
    all_goals first | exact trivial | exact Nat.le_of_ble_eq_true rfl | exact rcheck_t d hs
  case zk =>
  refine Aw.sm tab_ok mb0 [] rfl rfl ?zo ?zk
  case zo =>
    repeat' apply AllP.cons
    all_goals first | exact trivial
  case zk =>
  refine Aw.cond rfl (fun h1 => ?_) (fun h1 => Aw.skip ?_)
  · have hno : d.ok = false := by
      cases h : d.ok with
      | false => rfl
      | true => rw [err_ok h] at h1; exact absurd h1 (by decide)
    refine Aw.sm tab_ok mb0 [] rfl rfl ?zo ?zk
    case zo =>
      repeat' apply AllP.cons
      all_goals first | exact trivial
    case zk =>
    exact Aw.ret ⟨_, .cons (.tmp _) (.cons (.tmp _) .nil), by simp only [rProofR, hno]; rw [err_no hno]; rfl⟩
  have hok : d.ok = true := by
    cases h : d.ok with
    | true => rfl
    | false => rw [err_no h] at h1; exact absurd h1 (by decide)
  refine Aw.sm tab_ok mb0 [(3, [.tup [.int (greF d Spn.hi d.wks).1, outW (greF d Spn.hi d.wks).2]])] rfl rfl ?zo ?zk
  case zo =>
    repeat' apply AllP.cons
    all_goals first | exact trivial | exact Nat.le_of_ble_eq_true rfl | exact greatest_h d (.of hok)
  case zk =>
  refine Aw.sm tab_ok mb0 [] rfl rfl ?zo ?zk
  case zo =>
    repeat' apply AllP.cons
    all_goals first | exact trivial
  case zk =>
  exact Aw.ret ⟨_, .cons (.tmp _) (.cons (.tmp _) .nil), by simp only [rProofR, hok]; rfl⟩
def rToldR (d : Day) : List A := if d.ok then [.agg [.int (greF d Spn.lo d.wks).1, .int (greF d Spn.hi d.wks).1], .int 0] else [.agg [.int 0, .int 0], .int 50]
theorem rTold_t (d : Day) (hs : Small d) : Ans Try.prog 31 [.agg d.c] (.tup (rToldR d)) := by
  have hfr : Free (.tup (rToldR d)) := .tup _ (by
    unfold rToldR; split <;> exact allC (.agg _ (allC (.s _) (all1 (.s _)))) (all1 (.s _)))
  refine told Try.func31 rfl rfl (Pure.of tab_ok Try.func31 rfl Try.ntmps31 rfl (all1 (.agg _ d.free)) (all1 (fun _ => rfl)) (by first | exact .s _ | assumption | exact .tup _ (by intro x hx; simp only [List.mem_cons, List.not_mem_nil, or_false] at hx; rcases hx with rfl | rfl | rfl | rfl <;> first | exact .s _ | (simp_all; done))) fun E hE => ?_)
  refine Aw.sm tab_ok mb0 [] rfl rfl ?zo ?zk
  case zo =>
    repeat' apply AllP.cons
    all_goals first | exact trivial
  case zk =>
  refine Aw.seq ?_
  refine Aw.sm tab_ok mb0 [(1, [.int d.errA])] rfl rfl ?zo ?zk
  case zo =>
    repeat' apply AllP.cons
    all_goals first | exact trivial | exact Nat.le_of_ble_eq_true rfl | exact rcheck_t d hs
  case zk =>
  refine Aw.sm tab_ok mb0 [] rfl rfl ?zo ?zk
  case zo =>
    repeat' apply AllP.cons
    all_goals first | exact trivial
  case zk =>
  refine Aw.cond rfl (fun h1 => ?_) (fun h1 => Aw.skip ?_)
  · have hno : d.ok = false := by
      cases h : d.ok with
      | false => rfl
      | true => rw [err_ok h] at h1; exact absurd h1 (by decide)
    refine Aw.sm tab_ok mb0 [] rfl rfl ?zo ?zk
    case zo =>
      repeat' apply AllP.cons
      all_goals first | exact trivial | exact rfl | exact Nat.le_of_ble_eq_true rfl
    case zk =>
    exact Aw.ret ⟨_, .cons (resC rfl rfl rfl rfl rfl) (.cons (.tmp _) .nil), by simp only [rToldR, hno]; rw [err_no hno]; rfl⟩
  have hok : d.ok = true := by
    cases h : d.ok with
    | true => rfl
    | false => rw [err_no h] at h1; exact absurd h1 (by decide)
  refine Aw.sm tab_ok mb0 [(3, [.tup [.int (greF d Spn.lo d.wks).1, outW (greF d Spn.lo d.wks).2]])] rfl rfl ?zo ?zk
  case zo =>
    repeat' apply AllP.cons
    all_goals first | exact trivial | exact Nat.le_of_ble_eq_true rfl | exact greatest_l d (.of hok)
  case zk =>
  refine Aw.sm tab_ok mb0 [(3, [.tup [.int (greF d Spn.hi d.wks).1, outW (greF d Spn.hi d.wks).2]])] rfl rfl ?zo ?zk
  case zo =>
    repeat' apply AllP.cons
    all_goals first | exact trivial | exact Nat.le_of_ble_eq_true rfl | exact greatest_h d (.of hok)
  case zk =>
  refine Aw.sm tab_ok mb0 [] rfl rfl ?zo ?zk
  case zo =>
    repeat' apply AllP.cons
    all_goals first | exact trivial | exact rfl | exact Nat.le_of_ble_eq_true rfl
  case zk =>
  exact Aw.ret ⟨_, .cons (resC rfl rfl rfl rfl rfl) (.cons (.tmp _) .nil), by simp only [rToldR, hok]; rfl⟩
end Go.Proofs.Ytimikmfkdaoaaaa
namespace Go.Proofs.Ytimikmfkdaoaaaa
open Go Go.AL
def rHelp (d : Day) : List Wk → Nat → Int × Int → Int × Int
  | [], _, s => s
  | w :: ws, i, s => rHelp d ws (i + 1) (if i = 0 ∨ (greF d Spn.hi (d.wks ++ [w])).1 < s.2 then ((i : Int), (greF d Spn.hi (d.wks ++ [w])).1) else s)
def rHelpR (d : Day) (ws : List Wk) : List A := if d.ok then (if helpOk d ws then [.int (rHelp d ws 0 (0, 0)).1, .int (rHelp d ws 0 (0, 0)).2, .int 0] else [.int 0, .int 0, .int 52]) else [.int 0, .int 0, .int 50]
theorem rHelp_t (d : Day) (b : Bool) (ws : List Wk) (hs : Small d) (hw : (ws.length : Int) ≤ 9223372036854775807) : Ans Try.prog 33 [.agg d.c, .sl b .any (ws.map Wk.c)] (.tup (rHelpR d ws)) := by
  have hfr : Free (.tup (rHelpR d ws)) := .tup _ (by
    unfold rHelpR; split
    · split <;> exact allC (.s _) (allC (.s _) (all1 (.s _)))
    · exact allC (.s _) (allC (.s _) (all1 (.s _))))
  have hwf : Free (.sl b .any (ws.map Wk.c)) := free_map Wk.free _ _ _
  refine told Try.func33 rfl rfl (Pure.of tab_ok Try.func33 rfl Try.ntmps33 rfl (allC (.agg _ d.free) (all1 (hwf))) (allC (fun _ => rfl) (all1 (fun _ => rfl))) (by first | exact .s _ | assumption | exact .tup _ (by intro x hx; simp only [List.mem_cons, List.not_mem_nil, or_false] at hx; rcases hx with rfl | rfl | rfl | rfl <;> first | exact .s _ | (simp_all; done))) fun E hE => ?_)
  have udc : Under 0 (A.pt d.c) := (Free.pt _ d.free).under
  refine Aw.sm tab_ok mb0 [] rfl rfl ?zo ?zk
  case zo =>
    repeat' apply AllP.cons
    all_goals first | exact trivial
  case zk =>
  refine Aw.seq ?_
  refine Aw.sm tab_ok mb0 [(1, [.int d.errA])] rfl rfl ?zo ?zk
  case zo =>
    repeat' apply AllP.cons
    all_goals first | exact trivial | exact Nat.le_of_ble_eq_true rfl | exact rcheck_t d hs
  case zk =>
  refine Aw.sm tab_ok mb0 [] rfl rfl ?zo ?zk
  case zo =>
    repeat' apply AllP.cons
    all_goals first | exact trivial
  case zk =>
  refine Aw.cond rfl (fun h1 => ?_) (fun h1 => Aw.skip ?_)
  · have hno : d.ok = false := by
      cases h : d.ok with
      | false => rfl
      | true => rw [err_ok h] at h1; exact absurd h1 (by decide)
    refine Aw.sm tab_ok mb0 [] rfl rfl ?zo ?zk
    case zo =>
      repeat' apply AllP.cons
      all_goals first | exact trivial
    case zk =>
    exact Aw.ret ⟨_, .cons (.tmp _) (.cons (.tmp _) (.cons (.tmp _) .nil)), by simp only [rHelpR, hno]; rw [err_no hno]; rfl⟩
  have hok : d.ok = true := by
    cases h : d.ok with
    | true => rfl
    | false => rw [err_no h] at h1; exact absurd h1 (by decide)
  have hd := DayOk.of hok
  have hwks6 : d.wks.length ≤ 6 := by
    have g := ac2 (ac1 (ac1 (ac1 hok)))
    simp only [List.length_map, decide_eq_true_eq] at g
    omega
  have lw : ((ws.map Wk.c).length : Int) = ws.length := by simp
  refine Aw.sm tab_ok mb0 [(2, [.bool (wi (ws.map Wk.c).length 1 6)])] rfl rfl ?zo ?zk
  case zo =>
    repeat' apply AllP.cons
    all_goals first | exact trivial | exact in_t _ _ _
  case zk =>
  refine Aw.seq ?_
  refine Aw.sm tab_ok mb0 [] rfl rfl ?zo ?zk
  case zo =>
    repeat' apply AllP.cons
    all_goals first | exact trivial
  case zk =>
  refine Aw.block (Aw.rounds 0 hE [(1, .sl b .any (ws.map Wk.c)), (2, .pt d.c)] (fun k : Nat => [(8, .bool (andAll (wi (ws.map Wk.c).length 1 6) (fun w => isWorker w d.hours) ws k)), (9, .int k)]) (fun _ => []) (fun k => k ≤ ws.length) (fun k => ws.length - k) 0
    (Nat.zero_le _) ⟨⟨.refl _, .refl _, trivial⟩, ⟨.of_eq (show A.bool (andAll (wi (ws.map Wk.c).length 1 6) (fun w => isWorker w d.hours) ws 0) = A.bool (wi (ws.map Wk.c).length 1 6) by unfold andAll; cases wi (ws.map Wk.c).length 1 6 <;> rfl), .refl _, trivial⟩, trivial, Nat.zero_le _⟩ ⟨hwf.under, udc, trivial⟩ (fun _ _ => ⟨.s _, .s _, trivial⟩) (fun _ _ => trivial) fun k hk => ?_)
  refine Aw.seq ?_
  refine Aw.sm tab_ok mb0 [] rfl rfl ?zo ?zk
  case zo =>
    repeat' apply AllP.cons
    all_goals first | exact trivial | exact id | exact fun _ => rfl
  case zk =>
  refine Aw.cond rfl (fun h1 => Aw.skip ?_) (fun h1 => ?_)
  · have h1 : cond (andAll (wi (ws.map Wk.c).length 1 6) (fun w => isWorker w d.hours) ws k) (decide ((k : Int) < ((ws.map Wk.c).length : Int))) false = true := h1
    have hb := ac1 h1
    have hlt : k < ws.length := by have := of_decide_eq_true (ac2 h1); omega
    refine Aw.seq (Aw.block ?_)
    refine Aw.ed tab_ok mixed mb0 [(2, ws[k].c), (6, [.bool (isWorker ws[k] d.hours)])] rfl (by kernel_rfl) rfl rfl ?zo ?zk
    case zo =>
      repeat' apply AllP.cons
      all_goals first | exact trivial | exact rfl | exact Nat.le_of_ble_eq_true rfl | exact Int.natCast_nonneg _ | exact get_map hlt | exact worker_t _ _ (inr1 _ hd.hours)
    case zk =>
    refine Aw.em tab_ok mb0 [] rfl rfl ?zo ?zk
    case zo =>
      repeat' apply AllP.cons
      all_goals first | exact trivial | exact (by simp only [Ob.of, inR]; omega)
    case zk =>
    exact ⟨k + 1, hlt, by omega, ⟨.refl _, .refl _, trivial⟩, ⟨.of_eq (congrArg A.bool (andAll_succ hlt hb)), .refl _, trivial⟩, trivial, Nat.zero_le _⟩
  have h1 : cond (andAll (wi (ws.map Wk.c).length 1 6) (fun w => isWorker w d.hours) ws k) (decide ((k : Int) < ((ws.map Wk.c).length : Int))) false = false := h1
  have hend : andAll (wi (ws.map Wk.c).length 1 6) (fun w => isWorker w d.hours) ws k = helpOk d ws := andAll_end (by
    cases e : andAll (wi (ws.map Wk.c).length 1 6) (fun w => isWorker w d.hours) ws k with
    | false => exact .inl rfl
    | true => rw [e] at h1; have := of_decide_eq_false h1; exact .inr (by omega)) hk
  refine Aw.exit2 ?_
  refine Aw.keep (n := 0) (cst := [(1, .sl b .any (ws.map Wk.c)), (2, .pt d.c)]) (v := [(8, .bool (helpOk d ws))]) (Hl := []) hE ⟨hwf.under, udc, trivial⟩ ⟨.s _, trivial⟩ trivial ⟨⟨.refl _, .refl _, trivial⟩, ⟨.of_eq (congrArg A.bool hend.symm), trivial⟩, trivial, Nat.zero_le _⟩ ?_
  refine Aw.seq ?_
  refine Aw.sm tab_ok mb0 [] rfl rfl ?zo ?zk
  case zo =>
    repeat' apply AllP.cons
    all_goals first | exact trivial
  case zk =>
  refine Aw.cond rfl (fun h2 => ?_) (fun h2 => Aw.skip ?_)
  · have h2' : helpOk d ws = false := by simpa using h2
    refine Aw.sm tab_ok mb0 [] rfl rfl ?zo ?zk
    case zo =>
      repeat' apply AllP.cons
      all_goals first | exact trivial
    case zk =>
    exact Aw.ret ⟨_, .cons (.tmp _) (.cons (.tmp _) (.cons (.tmp _) .nil)), by simp only [rHelpR, hok, h2']; rfl⟩
  have h2' : helpOk d ws = true := by simpa using h2
  have hall : ∀ w ∈ ws, isWorker w d.hours = true := List.all_eq_true.1 (ac2 h2')
  generalize hR : rHelp d ws 0 (0, 0) = R
  refine Aw.sm tab_ok mb0 [] rfl rfl ?zo ?zk
  case zo =>
    repeat' apply AllP.cons
    all_goals first | exact trivial
  case zk =>
  refine Aw.seq ?_
  refine Aw.sm tab_ok mb0 [] rfl rfl ?zo ?zk
  case zo =>
    repeat' apply AllP.cons
    all_goals first | exact trivial
  case zk =>
  refine Aw.block (Aw.rounds (ι := Nat × Int × Int) 0 hE [(1, .sl b .any (ws.map Wk.c)), (2, .pt d.c)] (fun i => [(10, .int i.2.1), (11, .int i.2.2), (12, .int i.1)]) (fun _ => [])
    (fun i => i.1 ≤ ws.length ∧ rHelp d (ws.drop i.1) i.1 (i.2.1, i.2.2) = R) (fun i => ws.length - i.1) (0, 0, 0)
    ⟨Nat.zero_le _, hR⟩ ⟨⟨.refl _, .refl _, trivial⟩, ⟨.refl _, .refl _, .refl _, trivial⟩, trivial, Nat.zero_le _⟩
    ⟨hwf.under, udc, trivial⟩ (fun _ _ => ⟨.s _, .s _, .s _, trivial⟩) (fun _ _ => trivial) ?_)
  rintro ⟨k, which, lost⟩ ⟨hk, hrun⟩
  simp only at hk hrun
  refine Aw.seq ?_
  refine Aw.sm tab_ok mb0 [] rfl rfl ?zo ?zk
  case zo =>
    repeat' apply AllP.cons
    all_goals first | exact trivial
  case zk =>
  refine Aw.cond rfl (fun h3 => Aw.skip ?_) (fun h3 => ?_)
  · have hlt : k < ws.length := by have := of_decide_eq_true h3; omega
    rw [List.drop_eq_getElem_cons hlt, rHelp] at hrun
    have hwk := hall _ (List.getElem_mem hlt)
    have hget := get_map (f := Wk.c) hlt
    generalize ws[k] = w at *
    have hwo : WksOk d (d.wks ++ [w]) := ⟨by rw [List.length_append, List.length_singleton]; omega, fun x hx => by
      rcases List.mem_append.1 hx with h | h
      · exact hd.wks x h
      · simp at h; subst h; exact hwk⟩
    have hm : (d.wks ++ [w]).map Wk.c = d.wks.map Wk.c ++ [w.c] := by simp
    have hg := greatest_t d false (d.wks ++ [w]) false hd hwo
    rw [hm] at hg
    have hcs1 : ∀ z ∈ d.wks.map Wk.c, z.length = 4 := fun z hz => by obtain ⟨y, _, rfl⟩ := List.mem_map.1 hz; rfl
    have hcs2 : ∀ z ∈ [w.c], z.length = 4 := fun z hz => by simp at hz; subst hz; rfl
    have hln : (d.wks.map Wk.c).length ≤ 6 := by rw [List.length_map]; exact hwks6
    have m1 : 0 + (d.wks.map Wk.c).length ≤ maxLen := by unfold maxLen; omega
    have m2 : (d.wks.map Wk.c).length + 1 ≤ maxLen := by unfold maxLen; omega
    refine Aw.seq (Aw.block ?_)
    refine Aw.sd tab_ok mixed mb0 [(7, w.c), (8, [.agg w.c]), (11, [.tup [.int (greF d Spn.hi (d.wks ++ [w])).1, outW (greF d Spn.hi (d.wks ++ [w])).2]])] rfl (by kernel_rfl) rfl rfl ?zo ?zk
    case zo =>
      repeat' apply AllP.cons
      all_goals first | exact trivial | exact rfl | exact Nat.le_of_ble_eq_true rfl | exact Int.natCast_nonneg _ | exact hget | exact hcs1 | exact hcs2 | exact m1 | exact m2 | exact hg | exact (show (0 + (d.wks.map Wk.c).length) * 32 ≤ 140737488355328 by omega) | exact (show ((d.wks.map Wk.c).length + 1) * 32 ≤ 140737488355328 by omega)
    case zk =>
    generalize (greF d Spn.hi (d.wks ++ [w])).1 = n at *
    refine Aw.sm tab_ok mb0 [] rfl rfl ?zo ?zk
    case zo =>
      repeat' apply AllP.cons
      all_goals first | exact trivial | exact id | exact fun _ => rfl | exact gq_f
    case zk =>
    have hcond : (cond ((k : Int) == 0) true (decide (n < lost))) = decide (k = 0 ∨ n < lost) := by
      by_cases hk0 : k = 0
      · subst hk0; simp
      · have : ((k : Int) == 0) = false := by simp [hk0]
        rw [this]; simp [hk0]
    refine Aw.cond rfl (fun h4 => ?_) (fun h4 => Aw.skip ?_)
    · have h4' : k = 0 ∨ n < lost := of_decide_eq_true (hcond.symm.trans h4)
      rw [if_pos h4'] at hrun
      refine Aw.em tab_ok mb0 [] rfl rfl ?zo ?zk
      case zo =>
        repeat' apply AllP.cons
        all_goals first | exact trivial
      case zk =>
      refine Aw.em tab_ok mb0 [] rfl rfl ?zo ?zk
      case zo =>
        repeat' apply AllP.cons
        all_goals first | exact trivial | exact (by simp only [Ob.of, inR]; omega)
      case zk =>
      exact ⟨(k + 1, k, n), ⟨hlt, hrun⟩, by show ws.length - (k + 1) < ws.length - k; omega, ⟨.refl _, .refl _, trivial⟩, ⟨.refl _, .refl _, .refl _, trivial⟩, trivial, Nat.zero_le _⟩
    · have h4' : ¬ (k = 0 ∨ n < lost) := of_decide_eq_false (hcond.symm.trans h4)
      rw [if_neg h4'] at hrun
      refine Aw.em tab_ok mb0 [] rfl rfl ?zo ?zk
      case zo =>
        repeat' apply AllP.cons
        all_goals first | exact trivial | exact (by simp only [Ob.of, inR]; omega)
      case zk =>
      exact ⟨(k + 1, which, lost), ⟨hlt, hrun⟩, by show ws.length - (k + 1) < ws.length - k; omega, ⟨.refl _, .refl _, trivial⟩, ⟨.refl _, .refl _, .refl _, trivial⟩, trivial, Nat.zero_le _⟩
  · have hend : k = ws.length := by have := of_decide_eq_false h3; omega
    subst hend
    rw [List.drop_length, rHelp] at hrun
    refine Aw.exit2 ?_
    refine Aw.sm tab_ok mb0 [] rfl rfl ?zo ?zk
    case zo =>
      repeat' apply AllP.cons
      all_goals first | exact trivial
    case zk =>
    exact Aw.ret ⟨_, .cons (.tmp _) (.cons (.tmp _) (.cons (.tmp _) .nil)), by simp only [rHelpR, hok, h2', hR, ← hrun]; rfl⟩
end Go.Proofs.Ytimikmfkdaoaaaa
namespace Go.Proofs.Ytimikmfkdaoaaaa
open Go Go.AL
section
variable (cd : CDay)
def reach (L : Nat → Bool) (p : Nat) : Bool := (List.range cd.g.lots.length).any fun i => L i && (slotsOf cd i).contains p
def capa (L : Nat → Bool) : Int := sumN (nP cd) fun p => if reach cd L p then rateAt cd.g p else 0
def tots (L : Nat → Bool) (m : Ld) : Int := sumN cd.g.lots.length fun i => if L i then tot cd m i else 0
def crN (i : Nat) : Int := match cd.g.lots[i]? with | some l => l.crans | none => 0
def crs (L : Nat → Bool) : Int := sumN cd.g.lots.length fun i => if L i then crN cd i else 0
def defi (L : Nat → Bool) : Int := crs cd L - capa cd L
variable {cd}
theorem reach_iff {L : Nat → Bool} {p : Nat} : reach cd L p = true ↔ ∃ i, i < cd.g.lots.length ∧ L i = true ∧ p ∈ slotsOf cd i := by
  unfold reach
  simp [List.any_eq_true]
theorem lod_pos {m : Ld} (hm : FOk cd m) (p i : Nat) : 0 ≤ lod m p i := getD_pos (hm.lok p).pos i
theorem lod_sum {m : Ld} (hm : FOk cd m) (hn : cd.g.lots.length ≤ 8) (p : Nat) : sumN cd.g.lots.length (fun i => lod m p i) = (ld m p).sum := by
  rw [sum_sumN, (hm.lok p).len]
  exact (sumN_more (fun i hi => (hm.lok p).no i hi) hn).symm
theorem tots_swap (L : Nat → Bool) (m : Ld) : tots cd L m = sumN (nP cd) fun p => sumN cd.g.lots.length fun i => if L i then lod m p i else 0 := by
  unfold tots tot
  rw [← sumN_comm]
  refine sumN_congr fun i _ => ?_
  cases L i
  · simp [sumN_zero]
  · simp
theorem slot_le {m : Ld} (hm : FOk cd m) (hn : cd.g.lots.length ≤ 8) (L : Nat → Bool) (p : Nat) :
    (sumN cd.g.lots.length fun i => if L i then lod m p i else 0) ≤ if reach cd L p then rateAt cd.g p else 0 := by
  split
  · refine Int.le_trans (sumN_le (g := fun i => lod m p i) fun i _ => ?_) (lod_sum hm hn p ▸ hm.rate p)
    have := lod_pos hm p i
    split <;> omega
  · rename_i h
    refine Int.le_of_eq (sumN_zero' fun i hi => ?_)
    split
    · rename_i hl
      have h0 := lod_pos hm p i
      have : ¬ 0 < lod m p i := fun h1 => h (reach_iff.2 ⟨i, hi, hl, hm.can p i h1⟩)
      omega
    · rfl
theorem tots_le {m : Ld} (hm : FOk cd m) (hn : cd.g.lots.length ≤ 8) (L : Nat → Bool) : tots cd L m ≤ capa cd L := by
  rw [tots_swap]; exact sumN_le fun p _ => slot_le hm hn L p
def Tight (L : Nat → Bool) (m : Ld) : Prop := capa cd L ≤ tots cd L m
def cloL (lot : Nat) (s : Sn) (m : Ld) (i : Nat) : Bool := i == lot || (List.range (nP cd)).any fun q => isSeen s q && decide (0 < lod m q i)
theorem tight_of {m : Ld} (hm : FOk cd m) (hn : cd.g.lots.length ≤ 8) {lot : Nat} {s' : Sn} (hc : Clo cd [] s' m none) (hq : ∀ q ∈ slotsOf cd lot, isSeen s' q = true) : Tight (cd := cd) (cloL (cd := cd) lot s' m) m := by
  have hseen : ∀ p, isSeen s' p = true → Full cd m p ∧ ∀ o, 0 < lod m p o → ∀ q ∈ slotsOf cd o, isSeen s' q = true := fun p hp => by
    rcases hc p hp with h | h
    · cases h
    · exact ⟨h.1, fun o ho => (h.2 o ho).elim (fun h => nomatch h) id⟩
  unfold Tight capa
  rw [tots_swap]
  refine sumN_le fun p hp => ?_
  split
  · rename_i hr
    obtain ⟨i, hi, hl, hpi⟩ := reach_iff.1 hr
    have hsp : isSeen s' p = true := by
      unfold cloL at hl
      rcases Bool.or_eq_true_iff.1 hl with h | h
      · have : i = lot := by simpa using h
        subst this; exact hq p hpi
      · obtain ⟨q, _, h2⟩ := List.any_eq_true.1 h
        simp only [Bool.and_eq_true, decide_eq_true_eq] at h2
        exact (hseen q h2.1).2 i h2.2 p hpi
    rw [← (hseen p hsp).1, ← lod_sum hm hn p]
    refine sumN_le fun j _ => ?_
    by_cases h0 : 0 < lod m p j
    · rw [if_pos]; exact Int.le_refl _
      unfold cloL
      refine Bool.or_eq_true_iff.2 (.inr (List.any_eq_true.2 ⟨p, List.mem_range.2 hp, ?_⟩))
      simp [hsp, h0]
    · have := lod_pos hm p j
      split <;> omega
  · exact sumN_pos fun i _ => by
      have := lod_pos hm p i
      split <;> omega
theorem tight_union {m : Ld} (hm : FOk cd m) (hn : cd.g.lots.length ≤ 8) (hr : ∀ p, 0 ≤ rateAt cd.g p) {L K : Nat → Bool} (hL : Tight (cd := cd) L m) (hK : Tight (cd := cd) K m) : Tight (cd := cd) (fun i => L i || K i) m := by
  have h1 := tots_le hm hn (fun i => L i && K i)
  have h2 : tots cd (fun i => L i || K i) m + tots cd (fun i => L i && K i) m = tots cd L m + tots cd K m := by
    unfold tots
    rw [← sumN_add, ← sumN_add]
    refine sumN_congr fun i _ => ?_
    cases hl : L i <;> cases hk : K i <;> simp [hl, hk]
  have h3 : capa cd (fun i => L i || K i) + capa cd (fun i => L i && K i) ≤ capa cd L + capa cd K := by
    unfold capa
    rw [← sumN_add, ← sumN_add]
    refine sumN_le fun p _ => ?_
    have e1 : reach cd (fun i => L i || K i) p = true → reach cd L p = true ∨ reach cd K p = true := fun h => by
      obtain ⟨i, hi, hl, hp⟩ := reach_iff.1 h
      rcases Bool.or_eq_true_iff.1 hl with h | h
      · exact .inl (reach_iff.2 ⟨i, hi, h, hp⟩)
      · exact .inr (reach_iff.2 ⟨i, hi, h, hp⟩)
    have e2 : reach cd (fun i => L i && K i) p = true → reach cd L p = true ∧ reach cd K p = true := fun h => by
      obtain ⟨i, hi, hl, hp⟩ := reach_iff.1 h
      have hl := Bool.and_eq_true_iff.1 hl
      exact ⟨reach_iff.2 ⟨i, hi, hl.1, hp⟩, reach_iff.2 ⟨i, hi, hl.2, hp⟩⟩
    have hp := hr p
    by_cases c : reach cd L p = true <;> by_cases d : reach cd K p = true
    · rw [if_pos c, if_pos d]; split <;> split <;> omega
    · rw [if_pos c, if_neg d, if_neg (fun h => d (e2 h).2)]; split <;> omega
    · rw [if_neg c, if_pos d, if_neg (fun h => c (e2 h).1)]; split <;> omega
    · rw [if_neg c, if_neg d, if_neg (fun h => c (e2 h).1), if_neg (fun h => (e1 h).elim c d)]; omega
  unfold Tight at *
  omega
theorem tots_mono {m m' : Ld} (h : ∀ i, tot cd m i ≤ tot cd m' i) (L : Nat → Bool) : tots cd L m ≤ tots cd L m' := sumN_le fun i _ => by
  have := h i
  split <;> omega
structure DInv (want : Nat → Int) (s : Ld × Int) : Prop where
  ok : FOk cd s.1
  le : ∀ i, tot cd s.1 i ≤ want i
  tight : ∃ U : Nat → Bool, Tight (cd := cd) U s.1 ∧ ∀ i, i < cd.g.lots.length → U i = false → tot cd s.1 i = want i
  lost : s.2 = sumN cd.g.lots.length fun i => want i - tot cd s.1 i
def more (want : Nat → Int) (lot : Nat) (n : Int) : Nat → Int := fun i => want i + if i = lot then n else 0
theorem take_step (hn : cd.g.lots.length ≤ 8) (hr0 : ∀ p, 0 ≤ rateAt cd.g p) (hr : ∀ p, rateAt cd.g p ≤ 20) {lot : Nat} (hl : lot < cd.g.lots.length) {want : Nat → Int} {s : Ld × Int} (h : DInv (cd := cd) want s) :
    DInv (cd := cd) (more want lot 1) ((takeF cd lot s.1).2, if (takeF cd lot s.1).1 then s.2 else s.2 + 1) := by
  have sp := putF_spec hn hr (slotsN cd + 1) lot [] s.1 hl h.ok (Nat.lt_succ_of_le (unseen_nil _))
  unfold takeF
  generalize putF cd (slotsN cd + 1) lot [] s.1 = R at *
  obtain ⟨b, s', m'⟩ := R
  cases b with
  | true =>
    have w := sp.1 rfl
    simp only at w
    have e : (sumN cd.g.lots.length fun i => more want lot 1 i - tot cd m' i) = sumN cd.g.lots.length fun i => want i - tot cd s.1 i := sumN_congr fun i _ => by
      unfold more; rw [w.tot i]; omega
    refine ⟨w.ok, fun i => ?_, ?_, ?_⟩
    · show tot cd m' i ≤ _
      rw [w.tot i]; have := h.le i; unfold more; omega
    · obtain ⟨U, hU, hw⟩ := h.tight
      refine ⟨U, Int.le_trans hU (tots_mono (fun i => ?_) U), fun i hi hu => ?_⟩
      · show _ ≤ tot cd m' i
        rw [w.tot i]; split <;> omega
      · show tot cd m' i = _
        rw [w.tot i, hw i hi hu]; rfl
    · exact h.lost.trans e.symm
  | false =>
    obtain ⟨⟨k1, k2, k3⟩, k4⟩ := sp.2 rfl
    simp only at k1 k2 k3 k4
    subst k1
    have e : (sumN cd.g.lots.length fun i => more want lot 1 i - tot cd s.1 i) = (sumN cd.g.lots.length fun i => want i - tot cd s.1 i) + 1 := by
      rw [show (sumN cd.g.lots.length fun i => more want lot 1 i - tot cd s.1 i) = sumN cd.g.lots.length fun i => (want i - tot cd s.1 i) + (if i = lot then 1 else 0) from sumN_congr fun i _ => by
        unfold more; omega, sumN_add, sumN_one 1 hl]
    refine ⟨h.ok, fun i => ?_, ?_, ?_⟩
    · have := h.le i
      show tot cd s.1 i ≤ _
      unfold more; split <;> omega
    · obtain ⟨U, hU, hw⟩ := h.tight
      refine ⟨_, tight_union h.ok hn hr0 hU (tight_of h.ok hn k3 k4), fun i hi hu => ?_⟩
      have hu := Bool.or_eq_false_iff.1 hu
      have hne : i ≠ lot := fun e => by
        have h2 := hu.2
        unfold cloL at h2
        simp [e] at h2
      show tot cd s.1 i = _
      rw [hw i hi hu.1]; unfold more; rw [if_neg hne]; omega
    · show s.2 + 1 = _
      rw [e, h.lost]
theorem cr_step (hn : cd.g.lots.length ≤ 8) (hr0 : ∀ p, 0 ≤ rateAt cd.g p) (hr : ∀ p, rateAt cd.g p ≤ 20) {lot : Nat} (hl : lot < cd.g.lots.length) : ∀ (n : Nat) {want : Nat → Int} {s : Ld × Int}, DInv (cd := cd) want s →
    DInv (cd := cd) (more want lot n) (crF cd lot n s)
  | 0, want, s, h => by
    have : more want lot (0 : Nat) = want := by funext i; unfold more; split <;> simp
    rw [this]; exact h
  | n + 1, want, s, h => by
    have h1 := cr_step hn hr0 hr hl n (take_step hn hr0 hr hl h)
    have e : more (more want lot 1) lot n = more want lot ((n + 1 : Nat) : Int) := by
      funext i; unfold more; split <;> push_cast <;> omega
    rw [e] at h1; exact h1
theorem dn_step (hn : cd.g.lots.length ≤ 8) (hr0 : ∀ p, 0 ≤ rateAt cd.g p) (hr : ∀ p, rateAt cd.g p ≤ 20) (hc : ∀ l ∈ cd.g.lots, 0 ≤ l.crans) : ∀ (ls : List Lot) (k : Nat) {s : Ld × Int}, cd.g.lots.drop k = ls → DInv (cd := cd) (fun i => if i < k then crN cd i else 0) s →
    DInv (cd := cd) (crN cd) (dnF cd ls k s)
  | [], k, s, hk, h => by
    have hk := List.drop_eq_nil_iff.1 hk
    have : (fun i => if i < k then crN cd i else 0) = crN cd := by
      funext i
      split
      · rfl
      · unfold crN
        rw [List.getElem?_eq_none (by omega)]
    rw [this] at h; exact h
  | l :: ls, k, s, hk, h => by
    have hlt : k < cd.g.lots.length := by
      refine Nat.lt_of_not_le fun hle => ?_
      rw [List.drop_eq_nil_of_le hle] at hk; cases hk
    have hl : cd.g.lots[k]? = some l := by
      have := congrArg (fun x => x[0]?) hk
      simpa using this
    rw [dnF]
    refine dn_step hn hr0 hr hc ls (k + 1) ?_ ?_
    · rw [← List.drop_drop, hk]; rfl
    · have h1 := cr_step hn hr0 hr hlt l.crans.toNat h
      have e : more (fun i => if i < k then crN cd i else 0) k (l.crans.toNat : Nat) = fun i => if i < k + 1 then crN cd i else 0 := by
        funext i
        show (if i < k then crN cd i else 0) + (if i = k then ((l.crans.toNat : Nat) : Int) else 0) = _
        have := hc l (List.mem_of_getElem? hl)
        by_cases e : i = k
        · subst e
          rw [if_neg (by omega), if_pos rfl, if_pos (by omega)]
          unfold crN; rw [hl]; simp only; omega
        · by_cases e2 : i < k
          · rw [if_pos e2, if_neg e, if_pos (by omega)]; omega
          · rw [if_neg e2, if_neg e, if_neg (by omega)]; omega
      rw [e] at h1; exact h1
theorem fok_nil (hr0 : ∀ p, 0 ≤ rateAt cd.g p) : FOk cd [] := ⟨fun _ => .zero _, fun p => hr0 p, fun p i h => by
  have : lod [] p i = zeros8.getD i 0 := rfl
  rw [this, (LOk.zero 0).no i (Nat.zero_le _)] at h; omega⟩
theorem tot_nil (i : Nat) : tot cd [] i = 0 := sumN_zero' fun p _ => (LOk.zero 0).no i (Nat.zero_le _)
theorem done_inv (hn : cd.g.lots.length ≤ 8) (hr0 : ∀ p, 0 ≤ rateAt cd.g p) (hr : ∀ p, rateAt cd.g p ≤ 20) (hc : ∀ l ∈ cd.g.lots, 0 ≤ l.crans) : DInv (cd := cd) (crN cd) (doneF cd) := by
  refine dn_step hn hr0 hr hc cd.g.lots 0 rfl ⟨fok_nil hr0, fun i => ?_, ⟨fun _ => false, ?_, fun i _ _ => ?_⟩, ?_⟩
  · rw [tot_nil]; simp
  · unfold Tight
    rw [tots_swap]
    unfold capa
    refine sumN_le fun p _ => ?_
    have : reach cd (fun _ => false) p = false := by
      cases e : reach cd (fun _ => false) p with
      | false => rfl
      | true => obtain ⟨i, _, h, _⟩ := reach_iff.1 e; cases h
    rw [this]
    simp [sumN_zero]
  · rw [tot_nil]; simp
  · refine (sumN_zero' fun i _ => ?_).symm
    rw [tot_nil]; simp
theorem lost_is (hn : cd.g.lots.length ≤ 8) (hr0 : ∀ p, 0 ≤ rateAt cd.g p) (hr : ∀ p, rateAt cd.g p ≤ 20) (hc : ∀ l ∈ cd.g.lots, 0 ≤ l.crans) :
    (∃ U, (doneF cd).2 = defi cd U) ∧ (∀ L, defi cd L ≤ (doneF cd).2) := by
  have h := done_inv hn hr0 hr hc
  refine ⟨?_, fun L => ?_⟩
  · obtain ⟨U, hU, hw⟩ := h.tight
    refine ⟨U, Int.le_antisymm ?_ ?_⟩
    · rw [h.lost]
      have h1 : (sumN cd.g.lots.length fun i => crN cd i - tot cd (doneF cd).1 i) ≤ crs cd U - tots cd U (doneF cd).1 := by
        unfold crs tots
        rw [← sumN_sub]
        refine sumN_le fun i hi => ?_
        cases e : U i with
        | false => have := hw i hi e; simp; omega
        | true => simp
      unfold defi
      unfold Tight at hU
      omega
    · rw [h.lost]
      have h1 : crs cd U - tots cd U (doneF cd).1 ≤ sumN cd.g.lots.length fun i => crN cd i - tot cd (doneF cd).1 i := by
        unfold crs tots
        rw [← sumN_sub]
        refine sumN_le fun i hi => ?_
        have := h.le i
        split <;> omega
      have h2 := tots_le h.ok hn U
      unfold defi
      omega
  · rw [h.lost]
    have h1 : crs cd L - tots cd L (doneF cd).1 ≤ sumN cd.g.lots.length fun i => crN cd i - tot cd (doneF cd).1 i := by
      unfold crs tots
      rw [← sumN_sub]
      refine sumN_le fun i hi => ?_
      have := h.le i
      split <;> omega
    have h2 := tots_le h.ok hn L
    unfold defi
    omega
end
end Go.Proofs.Ytimikmfkdaoaaaa
namespace Go.Proofs.Ytimikmfkdaoaaaa
open Go Go.AL
theorem sumN_split : ∀ (a H : Nat) (g : Nat → Int), sumN (a * H) g = sumN a fun w => sumN H fun h => g (w * H + h)
  | 0, H, g => by rw [Nat.zero_mul]; rfl
  | a + 1, H, g => by
    rw [Nat.succ_mul, sumN, ← sumN_split a H g]
    have : ∀ (m k : Nat) (g : Nat → Int), sumN (m + k) g = sumN m g + sumN k fun i => g (m + i) := fun m k g => by
      induction k with
      | zero => simp [sumN]
      | succ k ih => rw [Nat.add_succ, sumN, ih, sumN]; omega
    exact this _ _ _
def seenR (cd : CDay) (s : Sn) : Int := sumN (nP cd) fun p => if isSeen s p then rateAt cd.g p else 0
theorem seenR_put {cd : CDay} {s : Sn} {p : Nat} (hp : p < nP cd) (h : isSeen s p = false) : seenR cd (mput s p true) = seenR cd s + rateAt cd.g p := by
  unfold seenR
  rw [← sumN_one (n := nP cd) (k := p) (rateAt cd.g p) hp, ← sumN_add]
  refine sumN_congr fun q _ => ?_
  rw [seen_put]
  by_cases e : q = p
  · subst e; simp [h]
  · simp [e, show ¬ p = q from fun h => e h.symm]
theorem dfS_is {cd : CDay} : ∀ (ps : List Nat) (s : Int × Sn), (∀ p ∈ ps, p < nP cd) →
    (dfS cd.g ps s).1 + seenR cd (dfS cd.g ps s).2 = s.1 + seenR cd s.2 ∧ ∀ p, isSeen (dfS cd.g ps s).2 p = (isSeen s.2 p || ps.contains p)
  | [], s, _ => ⟨rfl, fun p => by simp [dfS]⟩
  | p :: ps, s, h => by
    have hp := h p (List.mem_cons_self ..)
    have h' : ∀ q ∈ ps, q < nP cd := fun q hq => h q (List.mem_cons_of_mem _ hq)
    rw [dfS]
    split
    · rename_i hs
      obtain ⟨h1, h2⟩ := dfS_is ps s h'
      refine ⟨h1, fun q => ?_⟩
      rw [h2]
      by_cases e : q = p
      · subst e; simp [hs]
      · simp [e]
    · rename_i hs
      have hs : isSeen s.2 p = false := by simpa using hs
      obtain ⟨h1, h2⟩ := dfS_is ps (s.1 - rateAt cd.g p, mput s.2 p true) h'
      refine ⟨?_, fun q => ?_⟩
      · rw [h1, seenR_put hp hs]; simp only; omega
      · rw [h2, seen_put]
        by_cases e : q = p
        · subst e; simp
        · have e2 : (p == q) = false := by simp; exact fun h => e h.symm
          simp [e, e2]
theorem dfL_is {cd : CDay} : ∀ (l : List Int) (s : Int × Sn),
    (dfL cd l s).1 + seenR cd (dfL cd l s).2 = s.1 + seenR cd s.2 + crL cd.g l ∧ ∀ p, isSeen (dfL cd l s).2 p = (isSeen s.2 p || l.any fun i => (slotsOf cd i.toNat).contains p)
  | [], s => ⟨by simp [dfL, crL], fun p => by simp [dfL]⟩
  | i :: l, s => by
    obtain ⟨h1, h2⟩ := dfS_is (cd := cd) (slotsOf cd i.toNat) (s.1 + crAt cd.g i, s.2) fun p hp => (slotsOf_lt cd hp).1
    rw [dfL]
    obtain ⟨h3, h4⟩ := dfL_is l (dfS cd.g (slotsOf cd i.toNat) (s.1 + crAt cd.g i, s.2))
    refine ⟨?_, fun p => ?_⟩
    · rw [h3, h1]; simp only [crL, List.map_cons, List.sum_cons]; omega
    · rw [h4, h2, List.any_cons, Bool.or_assoc]
def metL (cd : CDay) (l : List Int) (p : Nat) : Bool := l.any fun i => (slotsOf cd i.toNat).contains p
theorem deficitV_is (cd : CDay) (l : List Int) : deficitV cd l = crL cd.g l - sumN (nP cd) fun p => if metL cd l p then rateAt cd.g p else 0 := by
  obtain ⟨h1, h2⟩ := dfL_is (cd := cd) l (0, [])
  have e1 : seenR cd [] = 0 := sumN_zero' fun p _ => by simp [isSeen, mget, ixM]
  have e2 : seenR cd (dfL cd l (0, [])).2 = sumN (nP cd) fun p => if metL cd l p then rateAt cd.g p else 0 := sumN_congr fun p _ => by
    rw [h2]; simp [isSeen, mget, ixM, metL]
  unfold deficitV
  simp only [e1] at h1
  rw [← e2]; omega
theorem slots_has {d : Day} (hd : DayOk d) (f : Spn → Int) (w : Nat) (h : Nat) (hw : w < d.wks.length) (hh : h < d.hours.toNat) (i : Nat) :
    (slotsOf (opened d f) i).contains (w * d.hours.toNat + h) = canLot d f (d.wks.getD w wkD) (i : Int) h := by
  have h0 : 0 < d.hours.toNat := by omega
  have q1 : (w * d.hours.toNat + h) / d.hours.toNat = w := by rw [Nat.mul_comm, Nat.mul_add_div h0, Nat.div_eq_of_lt hh]; rfl
  have q2 : (w * d.hours.toNat + h) % d.hours.toNat = h := by rw [Nat.mul_comm, Nat.mul_add_mod, Nat.mod_eq_of_lt hh]
  have q3 : w * d.hours.toNat + h < d.wks.length * d.hours.toNat := by
    have : (w + 1) * d.hours.toNat ≤ d.wks.length * d.hours.toNat := Nat.mul_le_mul_right _ hw
    rw [Nat.succ_mul] at this; omega
  unfold canLot slotsOf
  rw [Int.toNat_natCast]
  cases hl : d.lots[i]? with
  | none => simp [opened, hl]
  | some l =>
    have hu : (opened d f).u[i]? = some (untilF d f l) := openU_get (f := f) (by simpa using hl)
    have e : (opened d f).g = d := rfl
    simp only [e, hl, hu]
    rw [Bool.eq_iff_iff]
    simp only [List.contains_iff_mem, slotL, List.mem_filter, List.mem_range, canP, q1, q2]
    exact ⟨fun h => h.2, fun h => ⟨q3, h⟩⟩
theorem met_can {d : Day} (hd : DayOk d) (f : Spn → Int) {w h : Nat} (hw : w < d.wks.length) (hh : h < d.hours.toNat) {l : List Int} (hl : ∀ i ∈ l, 0 ≤ i) : metL (opened d f) l (w * d.hours.toNat + h) = canAny d f l (d.wks.getD w wkD) h := by
  unfold metL canAny
  induction l with
  | nil => rfl
  | cons i l ih =>
    rw [List.any_cons, List.any_cons, ih fun j hj => hl j (List.mem_cons_of_mem _ hj), slots_has hd f w h hw hh]
    rw [Int.toNat_of_nonneg (hl i (List.mem_cons_self ..))]
theorem rate_at {d : Day} (hd : DayOk d) {w h : Nat} (hh : h < d.hours.toNat) : rateAt d (w * d.hours.toNat + h) = (d.wks.getD w wkD).rate := by
  have h0 : 0 < d.hours.toNat := by omega
  unfold rateAt
  rw [show (w * d.hours.toNat + h) / d.hours.toNat = w by rw [Nat.mul_comm, Nat.mul_add_div h0, Nat.div_eq_of_lt hh]; rfl]
theorem deficit_is {d : Day} (hd : DayOk d) (f : Spn → Int) {l : List Int} (hl : ∀ i ∈ l, 0 ≤ i) : deficitV (opened d f) l = rdef d f l d.wks := by
  rw [deficitV_is]
  unfold rdef nP
  have e : (opened d f).g = d := rfl
  rw [e, sumN_split]
  congr 1
  refine sumN_congr fun w hw => sumN_congr fun h hh => ?_
  rw [met_can hd f hw hh hl, rate_at hd hh]; rfl
def listL (n : Nat) (L : Nat → Bool) : List Int := ((List.range n).filter L).map Int.ofNat
theorem listL_succ (n : Nat) (L : Nat → Bool) : listL (n + 1) L = if L n then listL n L ++ [(n : Int)] else listL n L := by
  unfold listL
  rw [List.range_succ, List.filter_append, List.map_append]
  cases h : L n <;> simp [h]
theorem listL_pos (n : Nat) (L : Nat → Bool) : ∀ i ∈ listL n L, 0 ≤ i := fun i hi => by
  obtain ⟨k, _, rfl⟩ := List.mem_map.1 hi
  exact Int.natCast_nonneg _
theorem crAt_nat (d : Day) (i : Nat) : crAt d (i : Int) = crN ⟨d, []⟩ i := by
  unfold crAt crN; rw [Int.toNat_natCast]; rfl
theorem crL_list (d : Day) (u : List Int) (L : Nat → Bool) : ∀ n, crL d (listL n L) = sumN n fun i => if L i then crN ⟨d, u⟩ i else 0
  | 0 => rfl
  | n + 1 => by
    rw [listL_succ, sumN, ← crL_list d u L n]
    cases h : L n with
    | false => simp
    | true => simp only [if_true, crL, List.map_append, List.sum_append, List.map_cons, List.map_nil, List.sum_cons, List.sum_nil, crAt_nat]; simp only [crN]; omega
theorem metL_list (cd : CDay) (L : Nat → Bool) (p : Nat) : metL cd (listL cd.g.lots.length L) p = reach cd L p := by
  unfold metL listL reach
  rw [List.any_map, List.any_filter]
  rfl
theorem defi_list (cd : CDay) (L : Nat → Bool) : defi cd L = deficitV cd (listL cd.g.lots.length L) := by
  rw [deficitV_is]
  unfold defi crs capa
  rw [crL_list cd.g cd.u L]
  congr 1
  exact sumN_congr fun p _ => by rw [metL_list]
end Go.Proofs.Ytimikmfkdaoaaaa
namespace Go.Proofs.Ytimikmfkdaoaaaa
open Go Go.AL
theorem bitI_nat' : ∀ n : Fin 256, ∀ i : Fin 8, bitI (n.val : Int) i.val = n.val.testBit i.val := by decide +kernel
theorem bitI_nat {n i : Nat} (hn : n < 256) (hi : i < 8) : bitI (n : Int) i = n.testBit i := bitI_nat' ⟨n, hn⟩ ⟨i, hi⟩
theorem listL_congr {n : Nat} {L K : Nat → Bool} (h : ∀ i, i < n → L i = K i) : listL n L = listL n K := by
  unfold listL
  congr 1
  exact List.filter_congr fun i hi => h i (List.mem_range.1 hi)
theorem memL_list {s n : Nat} (hs : s < 256) (hn : n ≤ 8) : memL (s : Int) n = listL n fun i => s.testBit i := by
  show listL n (bitI (s : Int)) = _
  exact listL_congr fun i hi => bitI_nat hs (by omega)
def setK (L : Nat → Bool) : Nat → Nat
  | 0 => 0
  | n + 1 => if L n then 2 ^ n + setK L n else setK L n
theorem setK_lt (L : Nat → Bool) : ∀ n, setK L n < 2 ^ n
  | 0 => by simp [setK]
  | n + 1 => by
    have := setK_lt L n
    rw [setK, Nat.pow_succ]; split <;> omega
theorem setK_bit (L : Nat → Bool) : ∀ n i, i < n → (setK L n).testBit i = L i
  | 0, i, h => by omega
  | n + 1, i, h => by
    rw [setK]
    by_cases e : i = n
    · subst e
      cases hl : L i with
      | true => simp [Nat.testBit_two_pow_add_eq, Nat.testBit_lt_two_pow (setK_lt L i)]
      | false => simp [Nat.testBit_lt_two_pow (setK_lt L i)]
    · have hlt : i < n := by omega
      cases hl : L n with
      | true => simp [Nat.testBit_two_pow_add_gt hlt, setK_bit L n i hlt]
      | false => simp [setK_bit L n i hlt]
theorem memL_setK (L : Nat → Bool) {n : Nat} (hn : n ≤ 8) : memL (setK L n : Int) n = listL n L := by
  have h1 := setK_lt L n
  have h2 := pow_le8 hn
  rw [memL_list (by omega) hn]
  exact listL_congr fun i hi => setK_bit L n i hi
theorem rising_cons {n last i : Int} {l : List Int} : risingF n last (i :: l) = true ↔ (last + 1 ≤ i ∧ i ≤ n - 1) ∧ risingF n i l = true := by
  rw [risingF, c_and, Bool.and_eq_true, wi_iff]
theorem rising_mono {n a b : Int} (h : b ≤ a) : ∀ {l : List Int}, risingF n a l = true → risingF n b l = true
  | [], _ => rfl
  | i :: l, h1 => by
    rw [rising_cons] at *
    exact ⟨⟨by omega, h1.1.2⟩, h1.2⟩
theorem rising_filter (n : Nat) (L : Nat → Bool) : ∀ (c m : Nat), m + c = n → risingF n ((m : Int) - 1) (((List.range' m c).filter L).map Int.ofNat) = true
  | 0, m, _ => rfl
  | c + 1, m, h => by
    have ih := rising_filter n L c (m + 1) (by omega)
    rw [List.range'_succ, List.filter_cons]
    split
    · rw [List.map_cons, rising_cons]
      refine ⟨⟨by simp, by simp; omega⟩, ?_⟩
      have e : (((m + 1 : Nat) : Int) - 1) = Int.ofNat m := by simp
      rw [e] at ih; exact ih
    · exact rising_mono (by omega) ih
theorem rising_list (n : Nat) (L : Nat → Bool) : risingF n (-1) (listL n L) = true := by
  have := rising_filter n L n 0 (by omega)
  unfold listL
  rw [List.range_eq_range']
  exact this
theorem rising_gt {n : Int} : ∀ {l : List Int} {a : Int}, risingF n a l = true → ∀ i ∈ l, a < i ∧ i < n
  | [], _, _, _, h => by cases h
  | x :: l, a, h, i, hi => by
    rw [rising_cons] at h
    rcases List.mem_cons.1 hi with rfl | hi
    · omega
    · have := rising_gt h.2 i hi; omega
theorem rising_back (n : Nat) : ∀ (c m : Nat) (l : List Int), m + c = n → risingF n ((m : Int) - 1) l = true → ((List.range' m c).filter fun i : Nat => l.contains (i : Int)).map Int.ofNat = l
  | 0, m, l, h, hr => by
    cases l with
    | nil => rfl
    | cons x l =>
      rw [rising_cons] at hr; omega
  | c + 1, m, l, h, hr => by
    rw [List.range'_succ, List.filter_cons]
    cases l with
    | nil =>
      have ih := rising_back n c (m + 1) [] (by omega) rfl
      rw [if_neg (by simp)]; exact ih
    | cons x l =>
      rw [rising_cons] at hr
      by_cases e : x = (m : Int)
      · subst e
        have hl := rising_gt hr.2
        have ih := rising_back n c (m + 1) l (by omega) (by rw [show (((m + 1 : Nat) : Int) - 1) = (m : Int) by omega]; exact hr.2)
        rw [if_pos (by simp), List.map_cons]
        have e2 : ((List.range' (m + 1) c).filter fun i : Nat => ((m : Int) :: l).contains (i : Int)) = (List.range' (m + 1) c).filter fun i : Nat => l.contains (i : Int) := List.filter_congr fun i hi => by
          have := List.mem_range'_1.1 hi
          rw [List.contains_cons]
          have : ((i : Int) == (m : Int)) = false := by simp; omega
          rw [this, Bool.false_or]
        rw [e2, ih]; rfl
      · have hm : ((x :: l).contains (m : Int)) = false := by
          cases e2 : (x :: l).contains (m : Int) with
          | false => rfl
          | true =>
            rcases List.mem_cons.1 (List.contains_iff_mem.1 e2) with h3 | h3
            · exact absurd h3.symm e
            · have := rising_gt hr.2 _ h3; omega
        rw [hm, if_neg (by decide)]
        refine rising_back n c (m + 1) (x :: l) (by omega) ?_
        rw [rising_cons]
        exact ⟨⟨by omega, hr.1.2⟩, hr.2⟩
theorem rising_set {n : Nat} {l : List Int} (h : risingF n (-1) l = true) : listL n (fun i => l.contains (i : Int)) = l := by
  unfold listL
  rw [List.range_eq_range']
  exact rising_back n n 0 l (by omega) h
def LtL (a b : List Int) : Prop := a.length < b.length ∨ (a.length = b.length ∧ befF a b = true)
theorem befF_trans : ∀ {a b c : List Int}, befF a b = true → befF b c = true → befF a c = true
  | [], [], _, h, _ => by cases h
  | [], _ :: _, [], _, h => by cases h
  | [], _ :: _, _ :: _, _, _ => rfl
  | _ :: _, [], _, h, _ => by cases h
  | x :: a, y :: b, [], _, h => by cases h
  | x :: a, y :: b, z :: c, h1, h2 => by
    unfold befF at *
    by_cases e1 : x = y
    · subst e1
      rw [if_pos rfl] at h1
      by_cases e2 : x = z
      · subst e2; rw [if_pos rfl] at *; exact befF_trans h1 h2
      · rw [if_neg e2] at *; exact h2
    · rw [if_neg e1] at h1
      have h1 := of_decide_eq_true h1
      by_cases e2 : y = z
      · subst e2; rw [if_neg e1]; exact decide_eq_true h1
      · rw [if_neg e2] at h2
        have h2 := of_decide_eq_true h2
        rw [if_neg (by omega)]; exact decide_eq_true (by omega)
theorem LtL.trans {a b c : List Int} (h : LtL a b) (k : LtL b c) : LtL a c := by
  rcases h with h | h <;> rcases k with k | k
  · exact .inl (by omega)
  · exact .inl (by omega)
  · exact .inl (by omega)
  · exact .inr ⟨h.1.trans k.1, befF_trans h.2 k.2⟩
section
variable (d : Day) (f : Spn → Int) (ws : List Wk)
abbrev valG (n : Nat) : Int := rdef d f (memL n d.lots.length) ws
theorem better_iff {x : Int} {l : List Int} {s : Gst} : gBetter x l s = true ↔ x > s.1 ∨ (x = s.1 ∧ s.1 > 0 ∧ LtL l s.2) := by
  unfold gBetter LtL
  simp only [ints, List.length_map]
  by_cases h1 : x > s.1
  · simp [h1]
  · rw [decide_eq_false h1]
    by_cases h2 : x = s.1
    · by_cases h3 : s.1 > 0
      · by_cases h4 : l.length < s.2.length
        · simp [h2, h3, h4]
        · by_cases h5 : l.length = s.2.length
          · simp [h2, h3, h5]
          · have h6 : ((l.length : Int) == (s.2.length : Int)) = false := by simp; omega
            simp [h2, h3, h4, h5, h6]
      · simp [h2, h3]
    · simp [h1, h2]
structure GInv (j : Nat) (s : Gst) : Prop where
  pos : 0 ≤ s.1
  le : ∀ q, 1 ≤ q → q ≤ j → valG d f ws q ≤ s.1
  is : (s.1 = 0 ∧ s.2 = []) ∨ (0 < s.1 ∧ ∃ q, 1 ≤ q ∧ q ≤ j ∧ s.2 = memL q d.lots.length ∧ valG d f ws q = s.1 ∧ ∀ p, 1 ≤ p → p ≤ j → valG d f ws p = s.1 → ¬ LtL (memL p d.lots.length) s.2)
theorem gre_inv : ∀ j, GInv d f ws j (gre d f ws j)
  | 0 => ⟨Int.le_refl _, fun q h1 h2 => by omega, .inl ⟨rfl, rfl⟩⟩
  | j + 1 => by
    have ih := gre_inv j
    rw [gre, gStep]
    have hv : rdef d f (memL ((j + 1 : Nat) : Int) d.lots.length) ws = valG d f ws (j + 1) := rfl
    rw [hv]
    generalize gre d f ws j = s at *
    split
    · rename_i hb
      rcases (better_iff).1 hb with h1 | ⟨h1, h2, h3⟩
      · refine ⟨by have := ih.pos; show 0 ≤ valG d f ws (j + 1); omega, fun q q1 q2 => ?_, .inr ⟨by have := ih.pos; show 0 < valG d f ws (j + 1); omega, j + 1, by omega, by omega, rfl, rfl, fun p p1 p2 hp => ?_⟩⟩
        · by_cases e : q = j + 1
          · subst e; exact Int.le_refl _
          · have := ih.le q q1 (by omega); show _ ≤ valG d f ws (j + 1); omega
        · by_cases e : p = j + 1
          · subst e; intro h; rcases h with h | h
            · exact absurd h (Nat.lt_irrefl _)
            · have : ∀ l : List Int, befF l l = false := fun l => by
                induction l with
                | nil => rfl
                | cons a l ih => unfold befF; rw [if_pos rfl]; exact ih
              rw [this] at h; exact absurd h.2 (by decide)
          · have := ih.le p p1 (by omega)
            have hp : valG d f ws p = valG d f ws (j + 1) := hp
            omega
      · refine ⟨by show 0 ≤ valG d f ws (j + 1); omega, fun q q1 q2 => ?_, .inr ⟨by show 0 < valG d f ws (j + 1); omega, j + 1, by omega, by omega, rfl, rfl, fun p p1 p2 hp hlt => ?_⟩⟩
        · by_cases e : q = j + 1
          · subst e; exact Int.le_refl _
          · have := ih.le q q1 (by omega); show _ ≤ valG d f ws (j + 1); omega
        · rcases ih.is with h4 | ⟨_, q, q1, q2, q3, q4, q5⟩
          · omega
          · have hp : valG d f ws p = valG d f ws (j + 1) := hp
            have hlt : LtL (memL p d.lots.length) (memL ((j + 1 : Nat) : Int) d.lots.length) := hlt
            by_cases e : p = j + 1
            · subst e
              exact (fun l => by
                rcases hlt with h | h
                · exact Nat.lt_irrefl _ h
                · have : ∀ l : List Int, befF l l = false := fun l => by
                    induction l with
                    | nil => rfl
                    | cons a l ih => unfold befF; rw [if_pos rfl]; exact ih
                  rw [this] at h; exact absurd h.2 (by decide) : ∀ l : Nat, False) 0
            · exact q5 p p1 (by omega) (by omega) (hlt.trans h3)
    · rename_i hb
      have hn : ¬ (valG d f ws (j + 1) > s.1 ∨ (valG d f ws (j + 1) = s.1 ∧ s.1 > 0 ∧ LtL (memL ((j + 1 : Nat) : Int) d.lots.length) s.2)) := fun h => hb (better_iff.2 h)
      refine ⟨ih.pos, fun q q1 q2 => ?_, ?_⟩
      · by_cases e : q = j + 1
        · subst e; exact Int.not_lt.1 fun h => hn (.inl h)
        · exact ih.le q q1 (by omega)
      · rcases ih.is with h4 | ⟨p0, q, q1, q2, q3, q4, q5⟩
        · exact .inl h4
        · refine .inr ⟨p0, q, q1, by omega, q3, q4, fun p p1 p2 hp hlt => ?_⟩
          by_cases e : p = j + 1
          · subst e; exact hn (.inr ⟨hp, p0, hlt⟩)
          · exact q5 p p1 (by omega) hp hlt
end
def extL (n : Nat) : Nat → Nat → List (List Int)
  | 0, _ => [[]]
  | f + 1, lo => ((List.range n).drop lo).flatMap fun (i : Nat) => (extL n f (i + 1)).map ((i : Int) :: ·)
theorem extL_mem (n : Nat) : ∀ (f lo : Nat) (e : List Int), e ∈ extL n f lo ↔ e.length = f ∧ risingF n ((lo : Int) - 1) e = true
  | 0, lo, e => by
    rw [extL, List.mem_singleton]
    constructor
    · rintro rfl; exact ⟨rfl, rfl⟩
    · rintro ⟨h, _⟩; exact List.eq_nil_of_length_eq_zero h
  | f + 1, lo, e => by
    rw [extL, List.mem_flatMap]
    have hdr : ∀ i, i ∈ (List.range n).drop lo ↔ lo ≤ i ∧ i < n := fun i => by
      rw [List.range_eq_range', List.drop_range', List.mem_range'_1]; omega
    constructor
    · rintro ⟨i, hi, he⟩
      rw [hdr] at hi
      obtain ⟨e', he', rfl⟩ := List.mem_map.1 he
      have ih := (extL_mem n f (i + 1) e').1 he'
      refine ⟨by simp [ih.1], rising_cons.2 ⟨⟨by omega, by omega⟩, ?_⟩⟩
      have := ih.2
      rw [show (((i + 1 : Nat) : Int) - 1) = (i : Int) by omega] at this
      exact this
    · rintro ⟨h1, h2⟩
      cases e with
      | nil => cases h1
      | cons x e =>
        rw [rising_cons] at h2
        refine ⟨x.toNat, (hdr _).2 (by omega), List.mem_map.2 ⟨e, (extL_mem n f (x.toNat + 1) e).2 ⟨by simpa using h1, ?_⟩, by simp; omega⟩⟩
        rw [show (((x.toNat + 1 : Nat) : Int) - 1) = x by omega]
        exact h2.2
theorem extL_sorted (n : Nat) : ∀ (f lo : Nat), (extL n f lo).Pairwise fun a b => befF a b = true
  | 0, lo => by simp [extL]
  | f + 1, lo => by
    rw [extL, List.pairwise_flatMap]
    refine ⟨fun i _ => ?_, ?_⟩
    · rw [List.pairwise_map]
      refine (extL_sorted n f (i + 1)).imp fun {a b} h => ?_
      show befF (_ :: a) (_ :: b) = true
      unfold befF; rw [if_pos rfl]; exact h
    · have : ((List.range n).drop lo).Pairwise (· < ·) := by
        rw [List.range_eq_range', List.drop_range']
        exact List.pairwise_lt_range'
      refine this.imp fun {i j} h a ha b hb => ?_
      obtain ⟨a', _, rfl⟩ := List.mem_map.1 ha
      obtain ⟨b', _, rfl⟩ := List.mem_map.1 hb
      show befF (_ :: a') (_ :: b') = true
      unfold befF
      rw [if_neg (by omega)]
      exact decide_eq_true (by omega)
def updM (v : List Int → Int) (s : Pst) (l : List Int) : Pst := if v l > s.1 then (v l, l) else s
theorem fold_max (v : List Int → Int) : ∀ (c : List (List Int)) (s : Pst), c.Pairwise LtL →
    s.1 ≤ (c.foldl (updM v) s).1 ∧ (∀ l ∈ c, v l ≤ (c.foldl (updM v) s).1) ∧
    (c.foldl (updM v) s = s ∨ (s.1 < (c.foldl (updM v) s).1 ∧ (c.foldl (updM v) s).2 ∈ c ∧ v (c.foldl (updM v) s).2 = (c.foldl (updM v) s).1 ∧ ∀ l ∈ c, v l = (c.foldl (updM v) s).1 → l = (c.foldl (updM v) s).2 ∨ LtL (c.foldl (updM v) s).2 l))
  | [], s, _ => ⟨Int.le_refl _, fun l h => (by cases h), .inl rfl⟩
  | a :: c, s, hp => by
    have hp := List.pairwise_cons.1 hp
    rw [List.foldl_cons]
    have ih := fold_max v c (updM v s a) hp.2
    have hu : updM v s a = if v a > s.1 then (v a, a) else s := rfl
    by_cases h : v a > s.1
    · rw [if_pos h] at hu
      rw [hu] at ih ⊢
      generalize c.foldl (updM v) (v a, a) = R at *
      obtain ⟨h1, h2, h3⟩ := ih
      simp only at h1
      refine ⟨by omega, fun l hl => ?_, .inr ?_⟩
      · rcases List.mem_cons.1 hl with rfl | hl
        · exact h1
        · exact h2 l hl
      · rcases h3 with rfl | ⟨k1, k2, k3, k4⟩
        · refine ⟨h, List.mem_cons_self .., rfl, fun l hl hv => ?_⟩
          rcases List.mem_cons.1 hl with rfl | hl
          · exact .inl rfl
          · exact .inr (hp.1 l hl)
        · simp only at k1
          refine ⟨by omega, List.mem_cons_of_mem _ k2, k3, fun l hl hv => ?_⟩
          rcases List.mem_cons.1 hl with rfl | hl
          · omega
          · exact k4 l hl hv
    · rw [if_neg h] at hu
      rw [hu] at ih ⊢
      generalize c.foldl (updM v) s = R at *
      obtain ⟨h1, h2, h3⟩ := ih
      refine ⟨h1, fun l hl => ?_, ?_⟩
      · rcases List.mem_cons.1 hl with rfl | hl
        · omega
        · exact h2 l hl
      · rcases h3 with rfl | ⟨k1, k2, k3, k4⟩
        · exact .inl rfl
        · refine .inr ⟨k1, List.mem_cons_of_mem _ k2, k3, fun l hl hv => ?_⟩
          rcases List.mem_cons.1 hl with rfl | hl
          · omega
          · exact k4 l hl hv
theorem fromN_app (l : List Int) (i : Nat) : fromN (l ++ [(i : Int)]) = i + 1 := by
  unfold fromN; simp
theorem chF_is (cd : CDay) : ∀ (f : Nat) (l : List Int) (s : Pst), chF cd f l s = ((extL cd.g.lots.length f (fromN l)).map (l ++ ·)).foldl (updM (deficitV cd)) s
  | 0, l, s => by simp only [chF, extL, List.map_cons, List.map_nil, List.append_nil, List.foldl_cons, List.foldl_nil]; rfl
  | f + 1, l, s => by
    rw [chF, extL]
    generalize (List.range cd.g.lots.length).drop (fromN l) = is
    induction is generalizing s with
    | nil => rfl
    | cons i is ih =>
      rw [chGo, ih, List.flatMap_cons, List.map_append, List.foldl_append, chF_is cd f, fromN_app, List.map_map]
      congr 2
      refine List.map_congr_left fun e _ => ?_
      simp
def allC' (n m : Nat) : List (List Int) := (List.range m).flatMap fun i => extL n (i + 1) 0
theorem prGo_is (cd : CDay) : ∀ (ks : List Nat) (s : Pst), prGo cd ks s = (ks.flatMap fun i => extL cd.g.lots.length (i + 1) 0).foldl (updM (deficitV cd)) s
  | [], s => rfl
  | i :: is, s => by
    rw [prGo, prGo_is cd is, List.flatMap_cons, List.foldl_append, chF_is]
    have : (extL cd.g.lots.length (i + 1) (fromN [])).map ([] ++ ·) = extL cd.g.lots.length (i + 1) 0 := by
      simp [fromN]
    rw [this]
theorem allC_mem (n : Nat) (l : List Int) : l ∈ allC' n n ↔ l ≠ [] ∧ risingF n (-1) l = true := by
  unfold allC'
  rw [List.mem_flatMap]
  constructor
  · rintro ⟨i, _, h⟩
    have := (extL_mem n (i + 1) 0 l).1 h
    exact ⟨fun e => by rw [e] at this; simp at this, this.2⟩
  · rintro ⟨h1, h2⟩
    have h3 := (rising_in h2 (Int.le_refl _) (by omega)).2
    have h4 : 0 < l.length := List.length_pos_iff.2 h1
    exact ⟨l.length - 1, List.mem_range.2 (by omega), (extL_mem n _ 0 l).2 ⟨by omega, h2⟩⟩
theorem allC_sorted (n m : Nat) : (allC' n m).Pairwise LtL := by
  unfold allC'
  rw [List.pairwise_flatMap]
  refine ⟨fun i _ => ?_, ?_⟩
  · refine List.Pairwise.imp_of_mem ?_ (extL_sorted n (i + 1) 0)
    intro a b ha hb h
    exact .inr ⟨((extL_mem n _ 0 a).1 ha).1.trans ((extL_mem n _ 0 b).1 hb).1.symm, h⟩
  · rw [List.range_eq_range']
    refine (List.pairwise_lt_range' (s := 0) (n := m)).imp fun {i j} h a ha b hb => ?_
    have h1 := ((extL_mem n _ 0 a).1 ha).1
    have h2 := ((extL_mem n _ 0 b).1 hb).1
    exact .inl (by omega)
theorem proofV_spec (d : Day) (f : Spn → Int) : prGo (opened d f) (List.range d.lots.length) (0, []) = (allC' d.lots.length d.lots.length).foldl (updM (deficitV (opened d f))) (0, []) := prGo_is (opened d f) _ _
theorem memL_nil (n : Nat) : memL 0 n = [] := by
  unfold memL
  rw [List.map_eq_nil_iff, List.filter_eq_nil_iff]
  intro i _
  unfold bitI
  rw [Int.zero_fdiv]
  decide
theorem set_of {n : Nat} (hn : n ≤ 8) {l : List Int} (h1 : l ≠ []) (h2 : risingF n (-1) l = true) : ∃ q : Nat, 1 ≤ q ∧ q ≤ 2 ^ n - 1 ∧ memL (q : Int) n = l := by
  have e := memL_setK (fun i => l.contains (i : Int)) hn
  rw [rising_set h2] at e
  have hlt := setK_lt (fun i => l.contains (i : Int)) n
  refine ⟨setK (fun i => l.contains (i : Int)) n, Nat.one_le_iff_ne_zero.2 fun h0 => ?_, by omega, e⟩
  rw [h0] at e
  exact h1 (by rw [← e]; exact memL_nil n)
theorem memL_ne {n q : Nat} (hn : n ≤ 8) (h1 : 1 ≤ q) (h2 : q ≤ 2 ^ n - 1) : memL (q : Int) n ≠ [] := by
  intro h
  have hq : q < 2 ^ n := by have := Nat.one_le_two_pow (n := n); omega
  have h3 := pow_le8 hn
  rw [memL_list (by omega) hn] at h
  unfold listL at h
  rw [List.map_eq_nil_iff, List.filter_eq_nil_iff] at h
  have : q = 0 := by
    refine Nat.eq_of_testBit_eq fun i => ?_
    rw [Nat.zero_testBit]
    by_cases hi : i < n
    · simpa using h i (List.mem_range.2 hi)
    · exact Nat.testBit_lt_two_pow (Nat.lt_of_lt_of_le hq (Nat.pow_le_pow_right (by decide) (by omega)))
  omega
theorem memL_rising {n q : Nat} : risingF n (-1) (memL (q : Int) n) = true := rising_list n (bitI q)
theorem proof_is {d : Day} (hd : DayOk d) (f : Spn → Int) : prGo (opened d f) (List.range d.lots.length) (0, []) = greF d f d.wks := by
  have hn := hd.nl
  rw [proofV_spec]
  have g := gre_inv d f d.wks (2 ^ d.lots.length - 1)
  have m := fold_max (deficitV (opened d f)) (allC' d.lots.length d.lots.length) (0, []) (allC_sorted _ _)
  unfold greF
  generalize gre d f d.wks (2 ^ d.lots.length - 1) = S at *
  generalize (allC' d.lots.length d.lots.length).foldl (updM (deficitV (opened d f))) (0, []) = R at *
  have val : ∀ l, risingF d.lots.length (-1) l = true → deficitV (opened d f) l = rdef d f l d.wks := fun l hl => deficit_is hd f fun i hi => by have := rising_gt hl i hi; omega
  obtain ⟨m1, m2, m3⟩ := m
  simp only at m1
  have up : R.1 ≤ S.1 := by
    rcases m3 with rfl | ⟨k1, k2, k3, k4⟩
    · exact g.pos
    · have h := (allC_mem _ _).1 k2
      obtain ⟨q, q1, q2, q3⟩ := set_of hn h.1 h.2
      have h5 := g.le q q1 q2
      rw [← k3, val _ h.2, ← q3]
      exact h5
  have dn : S.1 ≤ R.1 := by
    rcases g.is with h | ⟨h0, q, q1, q2, q3, q4, q5⟩
    · rw [h.1]; exact m1
    · rw [← q4]
      have hr := memL_rising (n := d.lots.length) (q := q)
      have h6 := m2 _ ((allC_mem _ _).2 ⟨memL_ne hn q1 q2, hr⟩)
      rw [val _ hr] at h6; exact h6
  have e1 : R.1 = S.1 := Int.le_antisymm up dn
  have e2 : R.2 = S.2 := by
    rcases g.is with h | ⟨h0, q, q1, q2, q3, q4, q5⟩
    · rcases m3 with rfl | ⟨k1, _⟩
      · exact h.2.symm
      · simp only at k1; omega
    · rcases m3 with rfl | ⟨k1, k2, k3, k4⟩
      · simp only at e1; omega
      · have hr := memL_rising (n := d.lots.length) (q := q)
        have h6 := k4 _ ((allC_mem _ _).2 ⟨memL_ne hn q1 q2, hr⟩) (by rw [val _ hr, e1]; exact q4)
        rcases h6 with h7 | h7
        · rw [q3]; exact h7.symm
        · have h := (allC_mem _ _).1 k2
          obtain ⟨p, p1, p2, p3⟩ := set_of hn h.1 h.2
          refine absurd ?_ (q5 p p1 p2 ?_)
          · rw [p3, q3]; exact h7
          · show rdef d f (memL (p : Int) d.lots.length) d.wks = S.1
            rw [p3, ← val _ h.2, k3, e1]
  obtain ⟨a, b⟩ := R
  obtain ⟨a', b'⟩ := S
  simp only at e1 e2
  rw [e1, e2]
theorem lost_gre {d : Day} (hd : DayOk d) (f : Spn → Int) : lostE d f = (greF d f d.wks).1 := by
  have hn := hd.nl
  have hl := lost_is (cd := opened d f) hn (rate_ge hd) (rate_le hd) (fun l hl => by have := (lotOk_iff (hd.lots l hl)).1; omega)
  have g := gre_inv d f d.wks (2 ^ d.lots.length - 1)
  unfold lostE greF
  generalize gre d f d.wks (2 ^ d.lots.length - 1) = S at *
  have e0 : (opened d f).g = d := rfl
  have vl : ∀ L, defi (opened d f) L = rdef d f (listL d.lots.length L) d.wks := fun L => by
    rw [defi_list, e0, deficit_is hd f (listL_pos _ _)]
  obtain ⟨⟨U, hU⟩, hle⟩ := hl
  refine Int.le_antisymm ?_ ?_
  · rw [hU, vl]
    by_cases hem : listL d.lots.length U = []
    · rw [hem]
      have : rdef d f [] d.wks = 0 := by
        rw [← deficit_is hd f (l := []) (fun i hi => by cases hi)]; rfl
      rw [this]; exact g.pos
    · obtain ⟨q, q1, q2, q3⟩ := set_of hn hem (rising_list _ _)
      rw [← q3]
      exact g.le q q1 q2
  · rcases g.is with h | ⟨h0, q, q1, q2, q3, q4, q5⟩
    · rw [h.1]
      have h1 := hle fun _ => false
      rw [vl] at h1
      have : listL d.lots.length (fun _ => false) = [] := by unfold listL; simp
      rw [this] at h1
      have : rdef d f [] d.wks = 0 := by
        rw [← deficit_is hd f (l := []) (fun i hi => by cases hi)]; rfl
      omega
    · rw [← q4]
      have h1 := hle (bitI (q : Int))
      rw [vl] at h1
      exact h1
end Go.Proofs.Ytimikmfkdaoaaaa
namespace Go.Proofs.Ytimikmfkdaoaaaa
open Go Go.AL Go.ChangeShapes Go.WideShapes Go.ChangeAt Go.RowKit
theorem rows1 : ∀ es : List (List Int), (∀ z ∈ es, z.length = 1) → ∃ l : List Int, (es.map fun z => z.map A.int) = ints l ∧ l.length = es.length
  | [], _ => ⟨[], rfl, rfl⟩
  | z :: es, h => by
    obtain ⟨l, h1, h2⟩ := rows1 es fun y hy => h y (List.mem_cons_of_mem _ hy)
    match z, h z (List.mem_cons_self ..) with
    | [a], _ => exact ⟨a :: l, by rw [List.map_cons, h1]; rfl, by simp [h2]⟩
theorem all1t {p : Nat → Prop} {a : Nat} (h : p a) : ∀ t ∈ (#[a] : Array Nat).toList, p t := fun t ht => by
  rcases List.mem_cons.1 ht with rfl | ht
  · exact h
  · cases ht
theorem all2t {p : Nat → Prop} {a b : Nat} (h : p a) (k : p b) : ∀ t ∈ (#[a, b] : Array Nat).toList, p t := all2 h k
theorem all3t {p : Nat → Prop} {a b c : Nat} (h : p a) (k : p b) (l : p c) : ∀ t ∈ (#[a, b, c] : Array Nat).toList, p t := fun t ht => by
  rcases List.mem_cons.1 ht with rfl | ht
  · exact h
  · exact all2 k l t ht
section
variable {H : Type} {enc : TypeId × Value → H} {w : World} {base : Nat} {spare : Nat → Bool} {held : Bool} {φ : Names}
set_option maxRecDepth 100000 in
theorem slice_cell {t e : TypeId} (ht : Try.prog.underlying t = some (.slice e)) {v : Value} {r : Reach} {b0 : Nat} (hok : Value.okWide Try.prog w r b0 t v) : Cell.okWide Try.prog w r b0 t v ∧ v.cells.toList = [v] := by
  unfold Value.okWide at hok
  rw [ht] at hok
  have hok : Cell.okWide Try.prog w r b0 t v := hok
  refine ⟨hok, ?_⟩
  unfold Cell.okWide Cell.ok at hok
  rw [ht] at hok
  cases v <;> first | rfl | exact hok.elim
set_option maxRecDepth 100000 in
theorem arg_ints {v : Value} {d : DataW H} {p : List MemPlace} {r : Reach} {b0 : Nat} (hok : Value.okWide Try.prog w r b0 41 v) (h : DataW.Trod enc Try.prog w base spare held 41 v d p) :
    ∃ (b : Bool) (l : List Int), VR φ (allZ w) w (.sl b .any (ints l)) v ∧ (l.length : Int) ≤ 9223372036854775807 := by
  obtain ⟨fuel, h⟩ := h
  obtain ⟨h1, h2⟩ := slice_cell (e := 3) (t := 41) (r := r) (b0 := b0) u41 hok
  rw [h2] at h
  obtain ⟨b, es, q, l1, m⟩ := open_nums (φ := φ) u41 c3 n3 h1 h
  obtain ⟨l, r1, p1⟩ := rows1 es l1
  rw [r1] at q
  exact ⟨b, l, q, by rw [p1]; exact m⟩
set_option maxRecDepth 100000 in
theorem arg_wks {v : Value} {d : DataW H} {p : List MemPlace} {r : Reach} {b0 : Nat} (hok : Value.okWide Try.prog w r b0 24 v) (h : DataW.Trod enc Try.prog w base spare held 24 v d p) :
    ∃ (b : Bool) (l : List Wk), VR φ (allZ w) w (.sl b .any (l.map Wk.c)) v ∧ (l.length : Int) ≤ 9223372036854775807 := by
  obtain ⟨fuel, h⟩ := h
  obtain ⟨h1, h2⟩ := slice_cell (e := 61) (t := 24) (r := r) (b0 := b0) u24 hok
  rw [h2] at h
  obtain ⟨b, es, q, l1, m⟩ := open_nums (φ := φ) u24 c61 n61 h1 h
  obtain ⟨l, r1, p1⟩ := rows4 Wk.mk Wk.c (fun _ _ _ _ => rfl) es l1
  rw [r1] at q
  exact ⟨b, l, q, by rw [p1]; exact m⟩
set_option maxRecDepth 100000 in
theorem arg_tasks {v : Value} {d : DataW H} {p : List MemPlace} {r : Reach} {b0 : Nat} (hok : Value.okWide Try.prog w r b0 33 v) (h : DataW.Trod enc Try.prog w base spare held 33 v d p) :
    ∃ (b : Bool) (l : List Task), VR φ (allZ w) w (.sl b .any (l.map Task.c)) v ∧ (l.length : Int) ≤ 9223372036854775807 := by
  obtain ⟨fuel, h⟩ := h
  obtain ⟨h1, h2⟩ := slice_cell (e := 56) (t := 33) (r := r) (b0 := b0) u33 hok
  rw [h2] at h
  obtain ⟨b, es, q, l1, m⟩ := open_nums (φ := φ) u33 c56 n56 h1 h
  obtain ⟨l, r1, p1⟩ := rows4 Task.mk Task.c (fun _ _ _ _ => rfl) es l1
  rw [r1] at q
  exact ⟨b, l, q, by rw [p1]; exact m⟩
end
end Go.Proofs.Ytimikmfkdaoaaaa
