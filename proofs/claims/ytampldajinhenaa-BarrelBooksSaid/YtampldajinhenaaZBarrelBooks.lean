/- BarrelBooks holds: CheckBook, AreCounts and Balance return what the specification says. No condition. -/
import Derived.Test.YtampldajinhenaaK6
set_option linter.all false
namespace Go.AL.Br
open Go Go.AL Go.AL.Q
def bitB (set k : Int) : Bool := bitV set k == 1
def mr1 (set wo : Int) (i : Nat) (m : Mv) (n : Int) : Int := if cond (cond ((i : Int) != wo) (bitB set m.fr) false) (!bitB set m.to) false then n + m.lo else n
def mr2 (set wo : Int) (i : Nat) (m : Mv) (n : Int) : Int := if cond (cond ((i : Int) != wo) (bitB set m.to) false) (!bitB set m.fr) false then n - m.hi else n
def mrStep (set wo : Int) (ms : List Mv) (n : Int) (i : Nat) : Int := mr2 set wo i (mvk ms i) (mr1 set wo i (mvk ms i) n)
def moreK (set wo : Int) (ms : List Mv) (k : Nat) : Int := (List.range k).foldl (mrStep set wo ms) 0
def moreF (set wo : Int) (ms : List Mv) : Int := moreK set wo ms ms.length
theorem moreK_succ (set wo : Int) (ms : List Mv) (k : Nat) : moreK set wo ms (k + 1) = mr2 set wo k (mvk ms k) (mr1 set wo k (mvk ms k) (moreK set wo ms k)) := by
  unfold moreK; rw [List.range_succ, List.foldl_append]; rfl
theorem mr1_bd {n : Int} {set wo : Int} {i : Nat} {m : Mv} (h : m.Ok n) (x : Int) : x ≤ mr1 set wo i m x ∧ mr1 set wo i m x ≤ x + 1000 := by
  have := h.k
  unfold mr1; split <;> omega
theorem mr2_bd {n : Int} {set wo : Int} {i : Nat} {m : Mv} (h : m.Ok n) (x : Int) : x - 1000 ≤ mr2 set wo i m x ∧ mr2 set wo i m x ≤ x := by
  have := h.k
  unfold mr2; split <;> omega
theorem moreK_bd {n : Int} {set wo : Int} {ms : List Mv} (h : ∀ m ∈ ms, m.Ok n) : ∀ k : Nat, k ≤ ms.length → -(1000 * (k : Int)) ≤ moreK set wo ms k ∧ moreK set wo ms k ≤ 1000 * (k : Int)
  | 0, _ => by simp [moreK]
  | k + 1, hk => by
    have ih := moreK_bd (set := set) (wo := wo) h k (by omega)
    have hm := h _ (mvk_mem (show k < ms.length by omega))
    rw [moreK_succ]
    have h1 := mr1_bd (set := set) (wo := wo) (i := k) hm (moreK set wo ms k)
    have h2 := mr2_bd (set := set) (wo := wo) (i := k) hm (mr1 set wo k (mvk ms k) (moreK set wo ms k))
    omega
def prGo (ms : List Mv) : Nat → Nat → Int
  | 0, _ => -1
  | f + 1, s => if moreF s (-1) ms > 0 then s else prGo ms f (s + 1)
def proofS (n : Int) (ms : List Mv) : Int := prGo ms (2 ^ n.toNat) 0
theorem prGo_neg {ms : List Mv} : ∀ (f s : Nat), prGo ms f s < 0 ↔ ∀ t, s ≤ t → t < s + f → ¬ moreF t (-1) ms > 0
  | 0, s => ⟨fun _ t h1 h2 => by omega, fun _ => (show (-1 : Int) < 0 by decide)⟩
  | f + 1, s => by
    rw [prGo]
    have ih := prGo_neg (ms := ms) f (s + 1)
    split
    · rename_i h
      exact ⟨fun h1 => by omega, fun h1 => absurd h (h1 s (Nat.le_refl _) (by omega))⟩
    · rename_i h
      rw [ih]
      exact ⟨fun h1 t h2 h3 => by
        rcases Nat.eq_or_lt_of_le h2 with e | h4
        · exact e ▸ h
        · exact h1 t h4 (by omega), fun h1 t h2 h3 => h1 t (by omega) (by omega)⟩
end Go.AL.Br

namespace Go.AL.Br
open Go Go.AL Go.AL.Q
def sumN (f : Nat → Int) : Nat → Int
  | 0 => 0
  | n + 1 => sumN f n + f n
def ifc (b : Bool) (c : Int) : Int := if b then c else 0
def flK (q : Int → Bool) (ms : List Mv) (cs : List Int) : Nat → Int
  | 0 => 0
  | k + 1 => flK q ms cs k + ifc (q (mvk ms k).to) (cs.getD k 0) - ifc (q (mvk ms k).fr) (cs.getD k 0)
theorem ov_flK {ms : List Mv} {cs : List Int} (hl : ms.length = cs.length) (s : Int) : ∀ k, k ≤ ms.length → ov (ms.take k) (cs.take k) s = flK (fun t => decide (t = s)) ms cs k
  | 0, _ => by simp [ov, flK]
  | k + 1, hk => by
    have h1 : k < ms.length := by omega
    have h2 : k < cs.length := by omega
    have ih := ov_flK hl s k (by omega)
    rw [List.take_succ_eq_append_getElem h1, List.take_succ_eq_append_getElem h2, ov_snoc _ _ _ (by rw [List.length_take, List.length_take]; omega), ih, flK, mvk_get h1]
    have e : cs.getD k 0 = cs[k] := by simp [List.getD_eq_getElem?_getD, h2]
    rw [e]
    unfold ifc
    simp only [decide_eq_true_eq]
theorem ov_fl {ms : List Mv} {cs : List Int} (hl : ms.length = cs.length) (s : Int) : ov ms cs s = flK (fun t => decide (t = s)) ms cs ms.length := by
  have := ov_flK hl s ms.length (Nat.le_refl _)
  rwa [List.take_length, hl, List.take_length, ← hl] at this
theorem sum_step (q : Int → Bool) (X : Nat → Int) (to fr c : Int) : ∀ n : Nat, sumN (fun s => ifc (q s) (X s + ifc (decide (to = (s : Int))) c - ifc (decide (fr = (s : Int))) c)) n = sumN (fun s => ifc (q s) (X s)) n + ifc (decide (0 ≤ to ∧ to < n) && q to) c - ifc (decide (0 ≤ fr ∧ fr < n) && q fr) c
  | 0 => by
    have h1 : ∀ t : Int, decide (0 ≤ t ∧ t < ((0 : Nat) : Int)) = false := fun t => decide_eq_false (by omega)
    rw [h1, h1]; simp [sumN, ifc]
  | n + 1 => by
    have ih := sum_step q X to fr c n
    have key : ∀ t : Int, ifc (decide (0 ≤ t ∧ t < ((n + 1 : Nat) : Int)) && q t) c = ifc (decide (0 ≤ t ∧ t < (n : Int)) && q t) c + ifc (decide (t = (n : Int)) && q n) c := fun t => by
      by_cases e : t = (n : Int)
      · subst e
        rw [decide_eq_true (show 0 ≤ (n : Int) ∧ (n : Int) < ((n + 1 : Nat) : Int) by omega), decide_eq_false (show ¬ (0 ≤ (n : Int) ∧ (n : Int) < (n : Int)) by omega), decide_eq_true rfl]
        simp [ifc]
      · rw [decide_eq_false e]
        by_cases h : 0 ≤ t ∧ t < (n : Int)
        · rw [decide_eq_true h, decide_eq_true (show 0 ≤ t ∧ t < ((n + 1 : Nat) : Int) by omega)]; simp [ifc]
        · rw [decide_eq_false h, decide_eq_false (show ¬ (0 ≤ t ∧ t < ((n + 1 : Nat) : Int)) by omega)]; simp [ifc]
    rw [sumN, sumN, ih, key to, key fr]
    by_cases hq : q n = true
    · rw [hq]; simp only [Bool.and_true]
      show _ + (X n + ifc (decide (to = n)) c - ifc (decide (fr = n)) c) = _ + X n + _ - _
      generalize ifc (decide (to = n)) c = u
      generalize ifc (decide (fr = n)) c = v
      show _ = _
      omega
    · have hq : q n = false := by simpa using hq
      rw [hq]; simp [ifc]
theorem sum_fl {n : Nat} {q : Int → Bool} {ms : List Mv} {cs : List Int} (h : ∀ m ∈ ms, (0 ≤ m.fr ∧ m.fr < n) ∧ 0 ≤ m.to ∧ m.to < n) : ∀ k, k ≤ ms.length → sumN (fun s => ifc (q s) (flK (fun t => decide (t = (s : Int))) ms cs k)) n = flK q ms cs k
  | 0, _ => by
    have : ∀ n, sumN (fun s => ifc (q s) (flK (fun t => decide (t = (s : Int))) ms cs 0)) n = 0 := by
      intro n
      induction n with
      | zero => rfl
      | succ n ih => rw [sumN, ih]; unfold ifc flK; split <;> rfl
    exact this n
  | k + 1, hk => by
    have ih := sum_fl h k (by omega) (q := q) (cs := cs)
    have hm := h _ (mvk_mem (show k < ms.length by omega))
    have := sum_step q (fun s => flK (fun t => decide (t = (s : Int))) ms cs k) (mvk ms k).to (mvk ms k).fr (cs.getD k 0) n
    rw [ih, decide_eq_true hm.1, decide_eq_true hm.2, Bool.true_and, Bool.true_and] at this
    exact this
theorem sum_cut {n : Int} (hn : 0 ≤ n) {q : Int → Bool} {ms : List Mv} {cs : List Int} (hl : ms.length = cs.length) (h : ∀ m ∈ ms, m.Ok n) : sumN (fun s => ifc (q s) (ov ms cs s)) n.toNat = flK q ms cs ms.length := by
  have e : (fun s : Nat => ifc (q s) (ov ms cs s)) = fun s : Nat => ifc (q s) (flK (fun t => decide (t = (s : Int))) ms cs ms.length) := funext fun s => by rw [ov_fl hl]
  rw [e]
  refine sum_fl (fun m hm => ?_) ms.length (Nat.le_refl _)
  have h1 := (h m hm).f
  have h2 := (h m hm).t
  omega
theorem flK_true (ms : List Mv) (cs : List Int) : ∀ k, flK (fun _ => true) ms cs k = 0
  | 0 => rfl
  | k + 1 => by rw [flK, flK_true ms cs k]; simp [ifc]
theorem sumN_neg {f : Nat → Int} : ∀ {n : Nat}, (∀ i, i < n → f i ≤ 0) → sumN f n ≤ 0
  | 0, _ => Int.le_refl _
  | n + 1, h => by
    have := sumN_neg (f := f) (n := n) fun i hi => h i (by omega)
    have := h n (by omega)
    rw [sumN]; omega
theorem sumN_zero {f : Nat → Int} : ∀ {n : Nat}, (∀ i, i < n → f i ≤ 0) → sumN f n = 0 → ∀ i, i < n → f i = 0
  | 0, _, _, i, hi => by omega
  | n + 1, h, e, i, hi => by
    rw [sumN] at e
    have h1 := sumN_neg (f := f) (n := n) fun i hi => h i (by omega)
    have h2 := h n (by omega)
    rcases Nat.lt_succ_iff_lt_or_eq.1 hi with h3 | rfl
    · exact sumN_zero (fun i hi => h i (by omega)) (by omega) i h3
    · omega
theorem sumN_pos {f : Nat → Int} : ∀ {n : Nat}, (∀ i, i < n → 0 ≤ f i) → ∀ i, i < n → f i ≤ sumN f n
  | 0, _, i, hi => by omega
  | n + 1, h, i, hi => by
    have h0 : ∀ m, m ≤ n → 0 ≤ sumN f m := by
      intro m
      induction m with
      | zero => intro _; exact Int.le_refl _
      | succ m ih => intro hm; rw [sumN]; have := ih (by omega); have := h m (by omega); omega
    rw [sumN]
    rcases Nat.lt_succ_iff_lt_or_eq.1 hi with h3 | rfl
    · have := sumN_pos (f := f) (n := n) (fun i hi => h i (by omega)) i h3
      have := h n (by omega)
      omega
    · have := h0 i (Nat.le_refl _)
      omega
theorem sumN_split {q : Int → Bool} {X : Nat → Int} : ∀ n : Nat, sumN (fun s => ifc (q s) (X s)) n + sumN (fun s => ifc (!q s) (X s)) n = sumN (fun s => ifc true (X s)) n
  | 0 => rfl
  | n + 1 => by
    have ih := sumN_split (q := q) (X := X) n
    simp only [sumN]
    cases q n <;> simp [ifc] at ih ⊢ <;> omega
def cutK (q : Int → Bool) (ms : List Mv) : Nat → Int
  | 0 => 0
  | k + 1 => cutK q ms k + ifc (q (mvk ms k).fr && !q (mvk ms k).to) (mvk ms k).lo - ifc (q (mvk ms k).to && !q (mvk ms k).fr) (mvk ms k).hi
theorem more_cut (set : Int) (ms : List Mv) : ∀ k, moreK set (-1) ms k = cutK (bitB set) ms k
  | 0 => rfl
  | k + 1 => by
    rw [moreK_succ, more_cut set ms k, cutK]
    have e : ((k : Int) != -1) = true := by simp
    unfold mr2 mr1
    rw [e]
    cases bitB set (mvk ms k).fr <;> cases bitB set (mvk ms k).to <;> simp [ifc]
theorem cut_le {q : Int → Bool} {ms : List Mv} {cs : List Int} (hf : Feas ms cs) : ∀ k, k ≤ ms.length → cutK q ms k ≤ - flK q ms cs k
  | 0, _ => by simp [cutK, flK]
  | k + 1, hk => by
    have ih := cut_le (q := q) hf k (by omega)
    have hb := hf.b k (by omega)
    rw [cutK, flK]
    generalize cs.getD k 0 = c at *
    cases q (mvk ms k).fr <;> cases q (mvk ms k).to <;> simp [ifc] <;> omega
theorem cut_eq {q : Int → Bool} {ms : List Mv} {cs : List Int} (h : ∀ k, k < ms.length → (q (mvk ms k).fr = true → q (mvk ms k).to = false → cs.getD k 0 = (mvk ms k).lo) ∧ (q (mvk ms k).to = true → q (mvk ms k).fr = false → cs.getD k 0 = (mvk ms k).hi)) : ∀ k, k ≤ ms.length → cutK q ms k = - flK q ms cs k
  | 0, _ => by simp [cutK, flK]
  | k + 1, hk => by
    have ih := cut_eq (q := q) h k (by omega)
    have hb := h k (by omega)
    rw [cutK, flK]
    generalize cs.getD k 0 = c at *
    cases h1 : q (mvk ms k).fr <;> cases h2 : q (mvk ms k).to <;> simp [ifc]
    · omega
    · have := hb.2 h2 h1; omega
    · have := hb.1 h1 h2; omega
    · omega
theorem feas_more {n : Int} (hn : 2 ≤ n ∧ n ≤ 6) {ms : List Mv} (hms : ∀ m ∈ ms, m.Ok n) {cs : List Int} (hf : Feas ms cs) (hz : ∀ s : Nat, s < n.toNat → ov ms cs s = 0) (set : Int) : moreF set (-1) ms ≤ 0 := by
  unfold moreF
  rw [more_cut]
  have h1 := cut_le (q := bitB set) hf ms.length (Nat.le_refl _)
  have h2 := sum_cut (n := n) (by omega) (q := bitB set) hf.l hms
  have h3 : sumN (fun s => ifc (bitB set s) (ov ms cs s)) n.toNat = 0 := by
    have : ∀ m, m ≤ n.toNat → sumN (fun s => ifc (bitB set s) (ov ms cs s)) m = 0 := by
      intro m
      induction m with
      | zero => intro _; rfl
      | succ m ih => intro hm; rw [sumN, ih (by omega), hz m (by omega)]; unfold ifc; split <;> rfl
    exact this _ (Nat.le_refl _)
  omega
theorem fin_zero {n : Int} (hn : 2 ≤ n ∧ n ≤ 6) {ms : List Mv} (hms : ∀ m ∈ ms, m.Ok n) {cs : List Int} (hf : Feas ms cs) (h : ∀ s : Nat, s < n.toNat → ov ms cs s ≤ 0) : ∀ s : Nat, s < n.toNat → ov ms cs s = 0 := by
  have h2 := sum_cut (n := n) (by omega) (q := fun _ => true) hf.l hms
  rw [flK_true] at h2
  have := sumN_zero (f := fun s : Nat => ifc true (ov ms cs s)) (n := n.toNat) (fun i hi => by show ifc true (ov ms cs i) ≤ 0; unfold ifc; rw [if_pos rfl]; exact h i hi) h2
  intro s hs
  have := this s hs
  unfold ifc at this
  rwa [if_pos rfl] at this
theorem negGo_none {ms : List Mv} {cs L : List Int} {a : Int} : ∀ (ss : List Nat) (rch : List Int), (negGo ms cs L a ss rch).1 = none →
    (∀ s ∈ ss, L.getD s 0 < 0 → (wayW ms cs a s (-1)).1 = none) ∧ ((∀ s ∈ ss, ¬ L.getD s 0 < 0) ∧ (negGo ms cs L a ss rch).2 = rch ∨ ∃ s ∈ ss, L.getD s 0 < 0 ∧ (negGo ms cs L a ss rch).2 = (wayW ms cs a s (-1)).2)
  | [], rch, _ => ⟨fun s h => (by cases h), .inl ⟨fun s h => (by cases h), rfl⟩⟩
  | s :: ss, rch, h => by
    rw [negGo] at h ⊢
    by_cases h1 : L.getD s 0 ≥ 0
    · rw [if_pos h1] at h ⊢
      obtain ⟨k1, k2⟩ := negGo_none ss rch h
      refine ⟨fun t ht hn => ?_, ?_⟩
      · rcases List.mem_cons.1 ht with rfl | ht
        · omega
        · exact k1 t ht hn
      · rcases k2 with ⟨k2, k3⟩ | ⟨t, ht, k2, k3⟩
        · refine .inl ⟨fun t ht => ?_, k3⟩
          rcases List.mem_cons.1 ht with rfl | ht
          · omega
          · exact k2 t ht
        · exact .inr ⟨t, List.mem_cons_of_mem _ ht, k2, k3⟩
    · rw [if_neg h1] at h ⊢
      cases hw : (wayW ms cs a s (-1)).1 with
      | some l => rw [hw] at h; cases h
      | none =>
        rw [hw] at h
        simp only at h ⊢
        obtain ⟨k1, k2⟩ := negGo_none ss _ h
        refine ⟨fun t ht hn => ?_, ?_⟩
        · rcases List.mem_cons.1 ht with rfl | ht
          · exact hw
          · exact k1 t ht hn
        · rcases k2 with ⟨k2, k3⟩ | ⟨t, ht, k2, k3⟩
          · exact .inr ⟨s, List.mem_cons_self .., by omega, k3⟩
          · exact .inr ⟨t, List.mem_cons_of_mem _ ht, k2, k3⟩
theorem stuck_more {n : Int} (hn : 2 ≤ n ∧ n ≤ 6) {ms : List Mv} (hms : ∀ m ∈ ms, m.Ok n) {cs : List Int} (hf : Feas ms cs) {a : Nat} (ha : firstPos (ovL n ms cs) = some a)
    (hg : (negGo ms cs (ovL n ms cs) a (List.range n.toNat) []).1 = none) {set : Int} (hs : ∀ s : Nat, s < n.toNat → bitB set s = !(negGo ms cs (ovL n ms cs) a (List.range n.toNat) []).2.contains (s : Int)) : moreF set (-1) ms > 0 := by
  obtain ⟨h1, h2⟩ := firstPos_some ha
  rw [ovL_len] at h1
  have gL : ∀ s : Nat, s < n.toNat → (ovL n ms cs).getD s 0 = ov ms cs s := fun s hs => by
    have := ovL_get (n := n) (ms := ms) (cs := cs) (s := (s : Int)) (by omega)
    rwa [Int.toNat_natCast] at this
  rw [gL a h1] at h2
  obtain ⟨k1, k2⟩ := negGo_none _ _ hg
  have hain : 0 ≤ (a : Int) ∧ (a : Int) < n := by omega
  have hw : ∀ s : Nat, s < n.toNat → ov ms cs s < 0 → WayIs n ms cs a s (-1) ∧ (wayW ms cs a s (-1)).1 = none := fun s hs hneg =>
    ⟨way_is hn hms hf (fr := (a : Int)) (to := (s : Int)) (wo := -1) hain (fun e => by rw [e] at h2; omega), k1 s (List.mem_range.2 hs) (by rw [gL s hs]; exact hneg)⟩
  rcases k2 with ⟨k2, _⟩ | ⟨t, ht, k2, k3⟩
  · exfalso
    have hz : ∀ s : Nat, s < n.toNat → 0 ≤ ov ms cs s := fun s hs => by
      have := k2 s (List.mem_range.2 hs)
      rw [gL s hs] at this; omega
    have h3 := sum_cut (n := n) (by omega) (q := fun _ => true) hf.l hms
    rw [flK_true] at h3
    have h4 := sumN_pos (f := fun s : Nat => ifc true (ov ms cs s)) (n := n.toNat) (fun i hi => by show 0 ≤ ifc true (ov ms cs i); unfold ifc; rw [if_pos rfl]; exact hz i hi) a h1
    have h5 : ifc true (ov ms cs a) = ov ms cs a := by unfold ifc; rw [if_pos rfl]
    rw [h5] at h4
    omega
  · have ht := List.mem_range.1 ht
    rw [gL t ht] at k2
    rw [k3] at hs
    obtain ⟨wt, wn⟩ := hw t ht k2
    have hcl := (wt.not wn).2
    have hno : ∀ s : Nat, s < n.toNat → ov ms cs s < 0 → (s : Int) ∉ (wayW ms cs a t (-1)).2 := fun s hs hneg hin => by
      obtain ⟨ws, wsn⟩ := hw s hs hneg
      have hc := ws.not wsn
      have := wt.min (fun x => x ∈ (wayW ms cs a s (-1)).2) (fun x hx => hc.2 x hx) ws.fr' s hin
      exact hc.1 this
    have hfr := wt.fr'
    generalize (wayW ms cs a t (-1)).2 = rch at *
    have hbq : ∀ s : Int, 0 ≤ s ∧ s < n → (bitB set s = false ↔ s ∈ rch) := fun s h => by
      have := hs s.toNat (by omega)
      rw [show ((s.toNat : Nat) : Int) = s by omega] at this
      rw [this, Bool.not_eq_false', List.contains_iff_mem]
    unfold moreF
    rw [more_cut, cut_eq (q := bitB set) (cs := cs) (fun k hk => ?_) ms.length (Nat.le_refl _)]
    rotate_left
    · have hmo := hms _ (mvk_mem hk)
      have hb := hf.b k hk
      have hfi := hmo.f
      have hti := hmo.t
      refine ⟨fun x1 x2 => ?_, fun x1 x2 => ?_⟩
      · have y2 := (hbq _ hti).1 x2
        have y1 : (mvk ms k).fr ∉ rch := fun h => by have := (hbq _ hfi).2 h; rw [x1] at this; cases this
        have := hcl _ y2 k hk
        refine Classical.byContradiction fun hne => y1 ?_
        have h9 := this ⟨by omega, .inr ⟨rfl, by omega⟩⟩
        unfold nxS at h9
        rwa [if_pos rfl] at h9
      · have y2 := (hbq _ hfi).1 x2
        have y1 : (mvk ms k).to ∉ rch := fun h => by have := (hbq _ hti).2 h; rw [x1] at this; cases this
        have := hcl _ y2 k hk
        refine Classical.byContradiction fun hne => y1 ?_
        have h9 := this ⟨by omega, .inl ⟨rfl, by omega⟩⟩
        unfold nxS at h9
        rwa [if_neg hmo.ne] at h9
    · have h3 := sum_cut (n := n) (by omega) (q := bitB set) hf.l hms
      have h4 := sum_cut (n := n) (by omega) (q := fun _ => true) hf.l hms
      rw [flK_true] at h4
      have h5 := sumN_split (q := bitB set) (X := fun s => ov ms cs s) n.toNat
      have h6 := sumN_pos (f := fun s : Nat => ifc (!bitB set s) (ov ms cs s)) (n := n.toNat) (fun i hi => by
        show 0 ≤ ifc (!bitB set i) (ov ms cs i)
        unfold ifc
        split
        · rename_i hb
          have hb : bitB set i = false := by simpa using hb
          have h7 := (hbq i (by omega)).1 hb
          by_cases h8 : ov ms cs i < 0
          · exact absurd h7 (hno i hi h8)
          · omega
        · exact Int.le_refl _) a h1
      have h7 : bitB set a = false := (hbq a hain).2 hfr
      have h8 : ifc (!bitB set a) (ov ms cs a) = ov ms cs a := by rw [h7]; rfl
      rw [h8] at h6
      have h5' : sumN (fun s => ifc (bitB set s) (ov ms cs s)) n.toNat + sumN (fun s => ifc (!bitB set s) (ov ms cs s)) n.toNat = sumN (fun s => ifc true (ov ms cs s)) n.toNat := h5
      omega
end Go.AL.Br

namespace Go.AL.Br
open Go Go.AL Go.AL.Q
theorem bits : ∀ k : Nat, k < 6 → ∀ p : Nat, p < 2 ^ k → (∀ i : Nat, i < k → bitV ((p : Int) + 2 ^ k) i = bitV p i) ∧ bitV ((p : Int) + 2 ^ k) k = 1 ∧ bitV p k = 0 := by decide +kernel
def prStep' (rch : List Int) (p : Int) (s : Nat) : Int := if rch.contains (s : Int) then p else p + 2 ^ s
theorem prf_bits (rch : List Int) : ∀ k : Nat, k ≤ 6 → ∃ p : Nat, (List.range k).foldl (prStep' rch) 0 = p ∧ p < 2 ^ k ∧ ∀ s : Nat, s < k → bitB p s = !rch.contains (s : Int)
  | 0, _ => ⟨0, rfl, by decide, fun s h => by omega⟩
  | k + 1, h => by
    obtain ⟨p, e, hp, hb⟩ := prf_bits rch k (by omega)
    obtain ⟨h1, h2, h3⟩ := bits k (by omega) p hp
    have hpow : 2 ^ (k + 1) = 2 ^ k * 2 := Nat.pow_succ ..
    rw [List.range_succ, List.foldl_append, e]
    by_cases hc : rch.contains (k : Int) = true
    · refine ⟨p, by show prStep' rch p k = p; unfold prStep'; rw [if_pos hc], by omega, fun s hs => ?_⟩
      rcases Nat.lt_succ_iff_lt_or_eq.1 hs with h4 | rfl
      · exact hb s h4
      · rw [hc]; unfold bitB; rw [h3]; rfl
    · refine ⟨p + 2 ^ k, by show prStep' rch p k = _; unfold prStep'; rw [if_neg hc]; push_cast; rfl, by omega, fun s hs => ?_⟩
      have ec : ((p + 2 ^ k : Nat) : Int) = (p : Int) + 2 ^ k := by push_cast; rfl
      rw [ec]
      rcases Nat.lt_succ_iff_lt_or_eq.1 hs with h4 | rfl
      · have := hb s h4
        unfold bitB at this ⊢
        rw [h1 s h4]; exact this
      · have hc : rch.contains (s : Int) = false := by simpa using hc
        rw [hc]; unfold bitB; rw [h2]; rfl
theorem balF_none {n : Int} (hn : 2 ≤ n ∧ n ≤ 6) {ms : List Mv} (hms : ∀ m ∈ ms, m.Ok n) : ∀ (f : Nat) (cs : List Int), Feas ms cs → phi n ms cs < f → (balF n ms f cs).1 = none → moreF (balF n ms f cs).2 (-1) ms > 0 ∧ 0 ≤ (balF n ms f cs).2 ∧ (balF n ms f cs).2 < 2 ^ n.toNat
  | 0, cs, hf, hp, h => by omega
  | f + 1, cs, hf, hp, h => by
    rw [balF] at h ⊢
    cases hfp : firstPos (ovL n ms cs) with
    | none => rw [hfp] at h; cases h
    | some a =>
      rw [hfp] at h
      simp only at h ⊢
      cases hg : (negGo ms cs (ovL n ms cs) a (List.range n.toNat) []).1 with
      | some l =>
        rw [hg] at h
        simp only at h ⊢
        have hst := bal_step hn hms hf hfp hg
        exact balF_none hn hms f _ hst.1 (by omega) h
      | none =>
        simp only
        obtain ⟨p, e, hp2, hb⟩ := prf_bits (negGo ms cs (ovL n ms cs) a (List.range n.toNat) []).2 n.toNat (by omega)
        have e2 : prfV n (negGo ms cs (ovL n ms cs) a (List.range n.toNat) []).2 = p := e
        rw [e2]
        refine ⟨stuck_more hn hms hf hfp hg hb, by omega, ?_⟩
        have : ((2 ^ n.toNat : Nat) : Int) = 2 ^ n.toNat := by push_cast; rfl
        omega
theorem balF_some {n : Int} (hn : 2 ≤ n ∧ n ≤ 6) {ms : List Mv} (hms : ∀ m ∈ ms, m.Ok n) : ∀ (f : Nat) (cs : List Int), Feas ms cs → ∀ l, (balF n ms f cs).1 = some l → Feas ms l ∧ ∀ s : Nat, s < n.toNat → ov ms l s = 0
  | 0, cs, hf, l, h => by cases h
  | f + 1, cs, hf, l, h => by
    rw [balF] at h
    cases hp : firstPos (ovL n ms cs) with
    | none =>
      rw [hp] at h
      have h : some cs = some l := h
      cases h
      refine ⟨hf, fin_zero hn hms hf fun s hs => ?_⟩
      have h1 := List.findIdx?_eq_none_iff.1 hp
      have h2 := ovL_get (n := n) (ms := ms) (cs := cs) (s := (s : Int)) (by omega)
      rw [Int.toNat_natCast] at h2
      have hl := ovL_len n ms cs
      have e : (ovL n ms cs).getD s 0 = (ovL n ms cs)[s]'(by omega) := by simp [List.getD_eq_getElem?_getD, show s < (ovL n ms cs).length by omega]
      have := h1 _ (List.getElem_mem (show s < (ovL n ms cs).length by omega))
      rw [← e, h2] at this
      simpa using this
    | some a =>
      rw [hp] at h
      simp only at h
      cases hg : (negGo ms cs (ovL n ms cs) a (List.range n.toNat) []).1 with
      | none => rw [hg] at h; cases h
      | some st =>
        rw [hg] at h
        exact balF_some hn hms f _ (bal_step hn hms hf hp hg).1 l h
theorem BalW_some {b : Book} (hb : b.Ok) {cs : List Int} (h : (BalW b).1 = some cs) : Feas b.ms cs ∧ ∀ s : Nat, s < b.n.toNat → ov b.ms cs s = 0 := balF_some hb.n hb.m _ _ (lows_feas hb.m) cs h
theorem BalW_none {b : Book} (hb : b.Ok) (h : (BalW b).1 = none) : moreF (BalW b).2 (-1) b.ms > 0 ∧ 0 ≤ (BalW b).2 ∧ (BalW b).2 < 2 ^ b.n.toNat := balF_none hb.n hb.m _ _ (lows_feas hb.m) (Nat.lt_succ_self _) h
theorem proof_neg {b : Book} (hb : b.Ok) {cs : List Int} (h : (BalW b).1 = some cs) : proofS b.n b.ms < 0 := by
  obtain ⟨h1, h2⟩ := BalW_some hb h
  refine (prGo_neg _ _).2 fun t _ _ => ?_
  have := feas_more hb.n hb.m h1 h2 t
  omega
theorem proof_pos {b : Book} (hb : b.Ok) (h : (BalW b).1 = none) : ¬ proofS b.n b.ms < 0 := by
  obtain ⟨h1, h2, h3⟩ := BalW_none hb h
  intro h4
  have h5 := (prGo_neg _ _).1 h4 (BalW b).2.toNat (Nat.zero_le _) (by
    have : ((2 ^ b.n.toNat : Nat) : Int) = 2 ^ b.n.toNat := by push_cast; rfl
    omega)
  rw [show (((BalW b).2.toNat : Nat) : Int) = (BalW b).2 by omega] at h5
  exact h5 h1
end Go.AL.Br

namespace Go.AL.Br
open Go Go.AL Go.AL.Q
def mnL (x y : Int) : Int := if y < x then y else x
def mxL (x y : Int) : Int := if y > x then y else x
def bd1 (ms : List Mv) (i : Nat) (set : Nat) (p : Int × Int) : Int × Int := if cond (bitB set (mvk ms i).fr) (!bitB set (mvk ms i).to) false = true then (p.1, mnL p.2 (-(moreF set i ms))) else p
def bd2 (ms : List Mv) (i : Nat) (set : Nat) (p : Int × Int) : Int × Int := if cond (bitB set (mvk ms i).to) (!bitB set (mvk ms i).fr) false = true then (mxL p.1 (moreF set i ms), p.2) else p
def bdK (ms : List Mv) (i : Nat) : Nat → Int × Int
  | 0 => ((mvk ms i).lo, (mvk ms i).hi)
  | k + 1 => bd2 ms i k (bd1 ms i k (bdK ms i k))
def bdS (n : Int) (ms : List Mv) (i : Nat) : Sp := ⟨(bdK ms i (2 ^ n.toNat)).1, (bdK ms i (2 ^ n.toNat)).2⟩
theorem mnL_bd {x y : Int} (hx : -10000 ≤ x ∧ x ≤ 10000) (hy : -10000 ≤ y ∧ y ≤ 10000) : -10000 ≤ mnL x y ∧ mnL x y ≤ 10000 := by unfold mnL; split <;> omega
theorem mxL_bd {x y : Int} (hx : -10000 ≤ x ∧ x ≤ 10000) (hy : -10000 ≤ y ∧ y ≤ 10000) : -10000 ≤ mxL x y ∧ mxL x y ≤ 10000 := by unfold mxL; split <;> omega
def BdIn (p : Int × Int) : Prop := (-10000 ≤ p.1 ∧ p.1 ≤ 10000) ∧ -10000 ≤ p.2 ∧ p.2 ≤ 10000
theorem more_bd {n : Int} {set wo : Int} {ms : List Mv} (h : ∀ m ∈ ms, m.Ok n) (hl : ms.length ≤ 10) : -10000 ≤ moreF set wo ms ∧ moreF set wo ms ≤ 10000 := by
  have := moreK_bd (set := set) (wo := wo) h ms.length (Nat.le_refl _)
  unfold moreF; omega
theorem bd1_in {n : Int} {ms : List Mv} (h : ∀ m ∈ ms, m.Ok n) (hl : ms.length ≤ 10) {i set : Nat} {p : Int × Int} (hp : BdIn p) : BdIn (bd1 ms i set p) := by
  have hm := more_bd (set := set) (wo := i) h hl
  unfold bd1; split
  · exact ⟨hp.1, mnL_bd hp.2 (by omega)⟩
  · exact hp
theorem bd2_in {n : Int} {ms : List Mv} (h : ∀ m ∈ ms, m.Ok n) (hl : ms.length ≤ 10) {i set : Nat} {p : Int × Int} (hp : BdIn p) : BdIn (bd2 ms i set p) := by
  have hm := more_bd (set := set) (wo := i) h hl
  unfold bd2; split
  · exact ⟨mxL_bd hp.1 hm, hp.2⟩
  · exact hp
theorem bdK_in {n : Int} {ms : List Mv} (h : ∀ m ∈ ms, m.Ok n) (hl : ms.length ≤ 10) {i : Nat} (hi : i < ms.length) : ∀ k, BdIn (bdK ms i k)
  | 0 => by have := (h _ (mvk_mem hi)).k; exact ⟨by show -10000 ≤ (mvk ms i).lo ∧ (mvk ms i).lo ≤ 10000; omega, by show -10000 ≤ (mvk ms i).hi ∧ (mvk ms i).hi ≤ 10000; omega⟩
  | k + 1 => bd2_in h hl (bd1_in h hl (bdK_in h hl hi k))
def rBalanceR (b : Book) : List Sp × Int := if b.ok then if proofS b.n b.ms ≥ 0 then ([], 65) else ((List.range b.ms.length).map (bdS b.n b.ms), 0) else ([], 63)
end Go.AL.Br

namespace Go.AL.Br
open Go Go.AL Go.AL.Q
def cutW (wo : Int) (q : Int → Bool) (ms : List Mv) : Nat → Int
  | 0 => 0
  | k + 1 => cutW wo q ms k + ifc ((k : Int) != wo) (ifc (q (mvk ms k).fr && !q (mvk ms k).to) (mvk ms k).lo - ifc (q (mvk ms k).to && !q (mvk ms k).fr) (mvk ms k).hi)
def flW (wo : Int) (q : Int → Bool) (ms : List Mv) (cs : List Int) : Nat → Int
  | 0 => 0
  | k + 1 => flW wo q ms cs k + ifc ((k : Int) != wo) (ifc (q (mvk ms k).to) (cs.getD k 0) - ifc (q (mvk ms k).fr) (cs.getD k 0))
theorem more_cutW (set wo : Int) (ms : List Mv) : ∀ k, moreK set wo ms k = cutW wo (bitB set) ms k
  | 0 => rfl
  | k + 1 => by
    rw [moreK_succ, more_cutW set wo ms k, cutW]
    unfold mr2 mr1
    cases (k : Int) != wo <;> cases bitB set (mvk ms k).fr <;> cases bitB set (mvk ms k).to <;> simp [ifc] <;> omega
theorem fl_flW (w : Nat) (q : Int → Bool) (ms : List Mv) (cs : List Int) : ∀ k, flK q ms cs k = flW w q ms cs k + ifc (decide (w < k)) (ifc (q (mvk ms w).to) (cs.getD w 0) - ifc (q (mvk ms w).fr) (cs.getD w 0))
  | 0 => by simp [flK, flW, ifc]
  | k + 1 => by
    rw [flK, fl_flW w q ms cs k, flW]
    by_cases e : w = k
    · subst e
      rw [decide_eq_false (show ¬ w < w by omega), decide_eq_true (show w < w + 1 by omega), show ((w : Int) != (w : Int)) = false by simp]
      simp only [ifc]
      simp
      generalize (if q (mvk ms w).to = true then cs[w]?.getD 0 else 0) = u
      generalize (if q (mvk ms w).fr = true then cs[w]?.getD 0 else 0) = v
      omega
    · rw [show ((k : Int) != (w : Int)) = true by simp; omega]
      by_cases h : w < k
      · rw [decide_eq_true h, decide_eq_true (show w < k + 1 by omega)]
        simp only [ifc, if_true]
        generalize (if q (mvk ms w).to = true then cs.getD w 0 else 0) = u
        generalize (if q (mvk ms w).fr = true then cs.getD w 0 else 0) = v
        generalize (if q (mvk ms k).to = true then cs.getD k 0 else 0) = u2
        generalize (if q (mvk ms k).fr = true then cs.getD k 0 else 0) = v2
        omega
      · rw [decide_eq_false h, decide_eq_false (show ¬ w < k + 1 by omega)]
        simp only [ifc, if_true]
        generalize (if q (mvk ms k).to = true then cs.getD k 0 else 0) = u2
        generalize (if q (mvk ms k).fr = true then cs.getD k 0 else 0) = v2
        simp
        omega
theorem cutW_le {wo : Int} {q : Int → Bool} {ms : List Mv} {cs : List Int} (hf : Feas ms cs) : ∀ k, k ≤ ms.length → cutW wo q ms k ≤ - flW wo q ms cs k
  | 0, _ => by simp [cutW, flW]
  | k + 1, hk => by
    have ih := cutW_le (wo := wo) (q := q) hf k (by omega)
    have hb := hf.b k (by omega)
    rw [cutW, flW]
    generalize cs.getD k 0 = c at *
    cases (k : Int) != wo <;> cases q (mvk ms k).fr <;> cases q (mvk ms k).to <;> simp [ifc] <;> omega
theorem cutW_eq {wo : Int} {q : Int → Bool} {ms : List Mv} {cs : List Int} (h : ∀ k : Nat, k < ms.length → (k : Int) ≠ wo → (q (mvk ms k).fr = true → q (mvk ms k).to = false → cs.getD k 0 = (mvk ms k).lo) ∧ (q (mvk ms k).to = true → q (mvk ms k).fr = false → cs.getD k 0 = (mvk ms k).hi)) : ∀ k, k ≤ ms.length → cutW wo q ms k = - flW wo q ms cs k
  | 0, _ => by simp [cutW, flW]
  | k + 1, hk => by
    have ih := cutW_eq (wo := wo) (q := q) h k (by omega)
    have hb := h k (by omega)
    rw [cutW, flW]
    generalize cs.getD k 0 = c at *
    by_cases e : (k : Int) = wo
    · rw [show ((k : Int) != wo) = false by simp [e]]; simp [ifc]; omega
    · rw [show ((k : Int) != wo) = true by simp [e]]
      have hb := hb e
      cases h1 : q (mvk ms k).fr <;> cases h2 : q (mvk ms k).to <;> simp [ifc]
      · omega
      · have := hb.2 h2 h1; omega
      · have := hb.1 h1 h2; omega
      · omega
def Even0 (n : Int) (ms : List Mv) (cs : List Int) : Prop := ∀ s : Nat, s < n.toNat → ov ms cs s = 0
theorem even_fl {n : Int} (hn : 2 ≤ n ∧ n ≤ 6) {ms : List Mv} (hms : ∀ m ∈ ms, m.Ok n) {cs : List Int} (hf : Feas ms cs) (he : Even0 n ms cs) (q : Int → Bool) : flK q ms cs ms.length = 0 := by
  rw [← sum_cut (n := n) (by omega) (q := q) hf.l hms]
  have : ∀ m, m ≤ n.toNat → sumN (fun s => ifc (q s) (ov ms cs s)) m = 0 := by
    intro m
    induction m with
    | zero => intro _; rfl
    | succ m ih => intro hm; rw [sumN, ih (by omega), he m (by omega)]; unfold ifc; split <;> rfl
  exact this _ (Nat.le_refl _)
theorem even_flW {n : Int} (hn : 2 ≤ n ∧ n ≤ 6) {ms : List Mv} (hms : ∀ m ∈ ms, m.Ok n) {cs : List Int} (hf : Feas ms cs) (he : Even0 n ms cs) (q : Int → Bool) {w : Nat} (hw : w < ms.length) :
    flW w q ms cs ms.length = ifc (q (mvk ms w).fr) (cs.getD w 0) - ifc (q (mvk ms w).to) (cs.getD w 0) := by
  have h1 := even_fl hn hms hf he q
  have h2 := fl_flW w q ms cs ms.length
  rw [h1, decide_eq_true hw] at h2
  unfold ifc at h2 ⊢
  rw [if_pos rfl] at h2
  omega
theorem ge_more {n : Int} (hn : 2 ≤ n ∧ n ≤ 6) {ms : List Mv} (hms : ∀ m ∈ ms, m.Ok n) {cs : List Int} (hf : Feas ms cs) (he : Even0 n ms cs) {w : Nat} (hw : w < ms.length) (set : Int) :
    (bitB set (mvk ms w).to = true → bitB set (mvk ms w).fr = false → moreF set w ms ≤ cs.getD w 0) ∧ (bitB set (mvk ms w).fr = true → bitB set (mvk ms w).to = false → cs.getD w 0 ≤ - moreF set w ms) := by
  have h1 := cutW_le (wo := w) (q := bitB set) hf ms.length (Nat.le_refl _)
  rw [even_flW hn hms hf he (bitB set) hw, ← more_cutW] at h1
  unfold moreF
  exact ⟨fun h2 h3 => by rw [h2, h3] at h1; simp only [ifc] at h1; simpa using h1, fun h2 h3 => by rw [h2, h3] at h1; simp [ifc] at h1 ⊢; omega⟩
end Go.AL.Br

namespace Go.AL.Br
open Go Go.AL Go.AL.Q
theorem push_end {n : Int} (hn : 2 ≤ n ∧ n ≤ 6) {ms : List Mv} (hms : ∀ m ∈ ms, m.Ok n) {k : Nat} (hk : k < ms.length) (fw : Bool) : ∀ (f : Nat) (l : List Int), Feas ms l → Even0 n ms l → dist ms k fw l < f →
    ∃ l', Feas ms l' ∧ Even0 n ms l' ∧ pushW ms k fw f l = l'.getD k 0 ∧ (l'.getD k 0 = limV (mvk ms k) fw ∨ (wayW ms l' (pFr (mvk ms k) fw) (pTo (mvk ms k) fw) k).1 = none)
  | 0, l, _, _, hd => by omega
  | f + 1, l, hf, he, hd => by
    rw [pushW]
    by_cases h1 : l.getD k 0 = limV (mvk ms k) fw
    · rw [if_pos (by simpa using h1)]
      exact ⟨l, hf, he, rfl, .inl h1⟩
    · rw [if_neg (by simpa using h1)]
      cases hw : (wayW ms l (pFr (mvk ms k) fw) (pTo (mvk ms k) fw) k).1 with
      | none => exact ⟨l, hf, he, rfl, .inr hw⟩
      | some st =>
        obtain ⟨p1, p2, p3, p4, _⟩ := push_step hn hms hk hf h1 hw
        exact push_end hn hms hk fw f _ p1 (fun s hs => by rw [p4]; exact he s hs) (by omega)
theorem stop_more {n : Int} (hn : 2 ≤ n ∧ n ≤ 6) {ms : List Mv} (hms : ∀ m ∈ ms, m.Ok n) {l : List Int} (hf : Feas ms l) (he : Even0 n ms l) {k : Nat} (hk : k < ms.length) {fr to : Int} (hfr : 0 ≤ fr ∧ fr < n) (hto : 0 ≤ to ∧ to < n) (hne : fr ≠ to)
    (hw : (wayW ms l fr to k).1 = none) : ∃ p : Nat, p < 2 ^ n.toNat ∧ bitB p to = true ∧ bitB p fr = false ∧ - moreF p k ms = ifc (bitB p (mvk ms k).fr) (l.getD k 0) - ifc (bitB p (mvk ms k).to) (l.getD k 0) := by
  have hwi := way_is hn hms hf (wo := (k : Int)) hfr hne
  obtain ⟨w1, w2⟩ := hwi.not hw
  have w3 := hwi.fr'
  generalize (wayW ms l fr to k).2 = rch at *
  obtain ⟨p, _, hp, hb⟩ := prf_bits rch n.toNat (by omega)
  have hbq : ∀ s : Int, 0 ≤ s ∧ s < n → (bitB p s = false ↔ s ∈ rch) := fun s h => by
    have := hb s.toNat (by omega)
    rw [show ((s.toNat : Nat) : Int) = s by omega] at this
    rw [this, Bool.not_eq_false', List.contains_iff_mem]
  refine ⟨p, hp, ?_, (hbq _ hfr).2 w3, ?_⟩
  · cases h : bitB p to with
    | true => rfl
    | false => exact absurd ((hbq _ hto).1 h) w1
  · unfold moreF
    rw [more_cutW, cutW_eq (q := bitB p) (cs := l) (fun j hj hjk => ?_) ms.length (Nat.le_refl _), even_flW hn hms hf he (bitB p) hk]
    · omega
    · have hmo := hms _ (mvk_mem hj)
      have hb := hf.b j hj
      have hfi := hmo.f
      have hti := hmo.t
      refine ⟨fun x1 x2 => ?_, fun x1 x2 => ?_⟩
      · have y2 := (hbq _ hti).1 x2
        have y1 : (mvk ms j).fr ∉ rch := fun h => by have := (hbq _ hfi).2 h; rw [x1] at this; cases this
        have := w2 _ y2 j hj
        refine Classical.byContradiction fun hne => y1 ?_
        have h9 := this ⟨hjk, .inr ⟨rfl, by omega⟩⟩
        unfold nxS at h9
        rwa [if_pos rfl] at h9
      · have y2 := (hbq _ hfi).1 x2
        have y1 : (mvk ms j).to ∉ rch := fun h => by have := (hbq _ hti).2 h; rw [x1] at this; cases this
        have := w2 _ y2 j hj
        refine Classical.byContradiction fun hne => y1 ?_
        have h9 := this ⟨hjk, .inl ⟨rfl, by omega⟩⟩
        unfold nxS at h9
        rwa [if_neg hmo.ne] at h9
theorem mxL_ge (x y : Int) : x ≤ mxL x y ∧ y ≤ mxL x y ∧ (mxL x y = x ∨ mxL x y = y) := by unfold mxL; split <;> omega
theorem mnL_le (x y : Int) : mnL x y ≤ x ∧ mnL x y ≤ y ∧ (mnL x y = x ∨ mnL x y = y) := by unfold mnL; split <;> omega
def inTo (ms : List Mv) (i : Nat) (s : Nat) : Prop := bitB s (mvk ms i).to = true ∧ bitB s (mvk ms i).fr = false
def outOf (ms : List Mv) (i : Nat) (s : Nat) : Prop := bitB s (mvk ms i).fr = true ∧ bitB s (mvk ms i).to = false
theorem c_in {a b : Bool} : cond a (!b) false = true ↔ a = true ∧ b = false := by cases a <;> cases b <;> simp
theorem bd_fst {ms : List Mv} {i : Nat} : ∀ K : Nat, (mvk ms i).lo ≤ (bdK ms i K).1 ∧ (∀ s : Nat, s < K → inTo ms i s → moreF s i ms ≤ (bdK ms i K).1) ∧ ((bdK ms i K).1 = (mvk ms i).lo ∨ ∃ s : Nat, s < K ∧ inTo ms i s ∧ (bdK ms i K).1 = moreF s i ms)
  | 0 => ⟨Int.le_refl _, fun s h => by omega, .inl rfl⟩
  | K + 1 => by
    obtain ⟨h1, h2, h3⟩ := bd_fst (ms := ms) (i := i) K
    have e : (bdK ms i (K + 1)).1 = if cond (bitB K (mvk ms i).to) (!bitB K (mvk ms i).fr) false = true then mxL (bdK ms i K).1 (moreF K i ms) else (bdK ms i K).1 := by
      rw [bdK]; unfold bd2 bd1
      split <;> split <;> rfl
    rw [e]
    by_cases hc : cond (bitB K (mvk ms i).to) (!bitB K (mvk ms i).fr) false = true
    · rw [if_pos hc]
      have hm := mxL_ge (bdK ms i K).1 (moreF K i ms)
      refine ⟨by omega, fun s hs hi => ?_, ?_⟩
      · rcases Nat.lt_succ_iff_lt_or_eq.1 hs with h4 | rfl
        · have := h2 s h4 hi; omega
        · exact hm.2.1
      · rcases hm.2.2 with h4 | h4
        · rw [h4]
          rcases h3 with h3 | ⟨s, h5, h6, h7⟩
          · exact .inl h3
          · exact .inr ⟨s, by omega, h6, h7⟩
        · exact .inr ⟨K, by omega, c_in.1 hc, h4⟩
    · rw [if_neg hc]
      refine ⟨h1, fun s hs hi => ?_, ?_⟩
      · rcases Nat.lt_succ_iff_lt_or_eq.1 hs with h4 | rfl
        · exact h2 s h4 hi
        · exact absurd (c_in.2 hi) hc
      · rcases h3 with h3 | ⟨s, h5, h6, h7⟩
        · exact .inl h3
        · exact .inr ⟨s, by omega, h6, h7⟩
theorem bd_snd {ms : List Mv} {i : Nat} : ∀ K : Nat, (bdK ms i K).2 ≤ (mvk ms i).hi ∧ (∀ s : Nat, s < K → outOf ms i s → (bdK ms i K).2 ≤ - moreF s i ms) ∧ ((bdK ms i K).2 = (mvk ms i).hi ∨ ∃ s : Nat, s < K ∧ outOf ms i s ∧ (bdK ms i K).2 = - moreF s i ms)
  | 0 => ⟨Int.le_refl _, fun s h => by omega, .inl rfl⟩
  | K + 1 => by
    obtain ⟨h1, h2, h3⟩ := bd_snd (ms := ms) (i := i) K
    have e : (bdK ms i (K + 1)).2 = if cond (bitB K (mvk ms i).fr) (!bitB K (mvk ms i).to) false = true then mnL (bdK ms i K).2 (-(moreF K i ms)) else (bdK ms i K).2 := by
      rw [bdK]; unfold bd2 bd1
      split <;> split <;> rfl
    rw [e]
    by_cases hc : cond (bitB K (mvk ms i).fr) (!bitB K (mvk ms i).to) false = true
    · rw [if_pos hc]
      have hm := mnL_le (bdK ms i K).2 (-(moreF K i ms))
      refine ⟨by omega, fun s hs hi => ?_, ?_⟩
      · rcases Nat.lt_succ_iff_lt_or_eq.1 hs with h4 | rfl
        · have := h2 s h4 hi; omega
        · exact hm.2.1
      · rcases hm.2.2 with h4 | h4
        · rw [h4]
          rcases h3 with h3 | ⟨s, h5, h6, h7⟩
          · exact .inl h3
          · exact .inr ⟨s, by omega, h6, h7⟩
        · exact .inr ⟨K, by omega, c_in.1 hc, h4⟩
    · rw [if_neg hc]
      refine ⟨h1, fun s hs hi => ?_, ?_⟩
      · rcases Nat.lt_succ_iff_lt_or_eq.1 hs with h4 | rfl
        · exact h2 s h4 hi
        · exact absurd (c_in.2 hi) hc
      · rcases h3 with h3 | ⟨s, h5, h6, h7⟩
        · exact .inl h3
        · exact .inr ⟨s, by omega, h6, h7⟩
theorem push_is {n : Int} (hn : 2 ≤ n ∧ n ≤ 6) {ms : List Mv} (hms : ∀ m ∈ ms, m.Ok n) {k : Nat} (hk : k < ms.length) {cs : List Int} (hf : Feas ms cs) (he : Even0 n ms cs) : pushF ms k true cs = (bdS n ms k).lo ∧ pushF ms k false cs = (bdS n ms k).hi := by
  have hmo := hms _ (mvk_mem hk)
  have hfi := hmo.f
  have hti := hmo.t
  constructor
  · obtain ⟨l, l1, l2, l3, l4⟩ := push_end hn hms hk true (dist ms k true cs + 1) cs hf he (Nat.lt_succ_self _)
    have l3 : pushF ms k true cs = l.getD k 0 := l3
    rw [l3]
    show _ = (bdK ms k (2 ^ n.toNat)).1
    obtain ⟨b1, b2, b3⟩ := bd_fst (ms := ms) (i := k) (2 ^ n.toNat)
    have hb := l1.b k hk
    have up : (bdK ms k (2 ^ n.toNat)).1 ≤ l.getD k 0 := by
      rcases b3 with b3 | ⟨s, _, h6, h7⟩
      · omega
      · have := (ge_more hn hms l1 l2 hk s).1 h6.1 h6.2; omega
    rcases l4 with l4 | l4
    · have l4 : l.getD k 0 = (mvk ms k).lo := l4
      omega
    · obtain ⟨p, hp, x1, x2, x3⟩ := stop_more hn hms l1 l2 hk (fr := (mvk ms k).fr) (to := (mvk ms k).to) hfi hti hmo.ne l4
      have := b2 p hp ⟨x1, x2⟩
      rw [x1, x2] at x3
      simp only [ifc] at x3
      simp at x3
      have e : l.getD k 0 = l[k]?.getD 0 := by simp [List.getD_eq_getElem?_getD]
      omega
  · obtain ⟨l, l1, l2, l3, l4⟩ := push_end hn hms hk false (dist ms k false cs + 1) cs hf he (Nat.lt_succ_self _)
    have l3 : pushF ms k false cs = l.getD k 0 := l3
    rw [l3]
    show _ = (bdK ms k (2 ^ n.toNat)).2
    obtain ⟨b1, b2, b3⟩ := bd_snd (ms := ms) (i := k) (2 ^ n.toNat)
    have hb := l1.b k hk
    have up : l.getD k 0 ≤ (bdK ms k (2 ^ n.toNat)).2 := by
      rcases b3 with b3 | ⟨s, _, h6, h7⟩
      · omega
      · have := (ge_more hn hms l1 l2 hk s).2 h6.1 h6.2; omega
    rcases l4 with l4 | l4
    · have l4 : l.getD k 0 = (mvk ms k).hi := l4
      omega
    · obtain ⟨p, hp, x1, x2, x3⟩ := stop_more hn hms l1 l2 hk (fr := (mvk ms k).to) (to := (mvk ms k).fr) hti hfi (fun e => hmo.ne e.symm) l4
      have := b2 p hp ⟨x1, x2⟩
      rw [x1, x2] at x3
      simp only [ifc] at x3
      simp at x3
      have e : l.getD k 0 = l[k]?.getD 0 := by simp [List.getD_eq_getElem?_getD]
      omega
theorem balance_is (b : Book) : BalanceR b = rBalanceR b := by
  unfold BalanceR rBalanceR
  by_cases hbo : b.ok = true
  · rw [if_pos hbo, if_pos hbo]
    have hB := Book.ok_iff.1 hbo
    cases hw : (BalW b).1 with
    | none =>
      have := proof_pos hB hw
      rw [if_pos (show proofS b.n b.ms ≥ 0 by omega)]
    | some cs =>
      have h1 := proof_neg hB hw
      obtain ⟨h2, h3⟩ := BalW_some hB hw
      rw [if_neg (show ¬ proofS b.n b.ms ≥ 0 by omega)]
      show ((List.range b.ms.length).map _, _) = _
      congr 1
      refine List.map_congr_left fun k hk => ?_
      have hk := List.mem_range.1 hk
      obtain ⟨h4, h5⟩ := push_is hB.n hB.m hk h2 h3
      rw [h4, h5]
  · rw [if_neg hbo, if_neg hbo]
end Go.AL.Br

namespace Go.Proofs.Ytampldajinhenaa
open Go Go.AL Go.AL.Q Go.AL.Br
theorem book_raB (b : Book) : raB b.b0 (fun i => mvOk b.n (mvk b.ms i)) b.ms.length = b.ok := by
  rw [Bool.eq_iff_iff, raB_iff, Book.ok_iff, Book.b0_iff]
  constructor
  · rintro ⟨⟨h1, h2⟩, h3⟩
    refine ⟨h1, h2, fun c hc => ?_⟩
    obtain ⟨i, hi, rfl⟩ := List.getElem_of_mem hc
    have := h3 i hi
    rw [mvk_get hi] at this
    exact mvOk_iff.1 this
  · rintro ⟨h1, h2, h3⟩
    exact ⟨⟨h1, h2⟩, fun i hi => by rw [mvk_get hi]; exact mvOk_iff.2 (h3 _ (List.getElem_mem hi))⟩
theorem mvk_at {l : List Mv} {k : Nat} (h : k < l.length) : (l.map Mv.c)[k]? = some (mvk l k).c := by rw [mvk_get h]; exact get_map h
theorem rbook_chk (b : Book) (hl : (b.ms.length : Int) ≤ 9223372036854775806) : Ans Try.prog 36 [.agg b.c] (.int b.chk) := by
  have ll : ((b.ms.map Mv.c).length : Int) = b.ms.length := by simp
  have ub : ∀ {m : Nat}, Under m (A.pt b.c) := (Free.pt _ b.free).under
  refine told Try.func36 rfl rfl (Pure.of tab_ok Try.func36 rfl Try.ntmps36 rfl (all1 (.agg _ b.free)) (all1 (fun _ => rfl)) (by first | exact .s _ | assumption | exact .tup _ (by intro x hx; simp only [List.mem_cons, List.not_mem_nil, or_false] at hx; rcases hx with rfl | rfl | rfl | rfl <;> first | exact .s _ | (simp_all; done))) fun E hE => ?_)
  refine Aw.sm tab_ok mb0 [] rfl rfl ?zo ?zk
  case zo =>
    repeat' apply AllP.cons
    all_goals first | exact trivial
  case zk =>
  refine Aw.sm tab_ok mb0 [(2, [.bool (wi b.n 2 6)]), (7, [.bool (wi b.ms.length 1 10)])] rfl rfl ?zo ?zk
  case zo =>
    repeat' apply AllP.cons
    all_goals first | exact trivial | exact id | exact fun _ => rfl | exact Nat.le_of_ble_eq_true rfl | exact fun _ => Nat.le_of_ble_eq_true rfl | exact in_t _ _ _ | exact (by rw [ll]; exact (in_t _ _ _).un)
  case zk =>
  refine Aw.seq ?_
  refine Aw.sm tab_ok mb0 [] rfl rfl ?zo ?zk
  case zo =>
    repeat' apply AllP.cons
    all_goals first | exact trivial
  case zk =>
  refine Aw.block (Aw.rounds 0 hE [(1, .pt b.c)] (fun k : Nat => [(3, .bool (raB b.b0 (fun i => mvOk b.n (mvk b.ms i)) k)), (4, .int k)]) (fun k => []) (fun k => k ≤ b.ms.length) (fun k => b.ms.length - k) 0 ?zg ⟨?zc, ?zv, ?zh, Nat.le_of_ble_eq_true rfl⟩ ?zu (fun k zhk => ?zw) (fun k zhk => ?zx) fun k hk => ?zr)
  case zg =>
    (repeat' (first | exact Nat.zero_le _))
  case zc =>
    (repeat' (first | (refine And.intro ?_ ?_) | exact trivial | exact A.Le.refl _))
  case zv =>
    (repeat' (first | (refine And.intro ?_ ?_) | exact trivial | exact A.Le.refl _ | exact .of_eq (by rw [raB_zero]; rfl)))
  case zh =>
    (repeat' (first | exact trivial))
  case zu =>
    (repeat' (first | exact trivial | exact ub | (refine And.intro ?_ ?_)))
  case zw =>
    (repeat' (first | exact trivial | exact Under.s _ | (refine And.intro ?_ ?_)))
  case zx =>
    (repeat' (first | exact trivial))
  case zr =>
  refine Aw.seq ?_
  refine Aw.sm tab_ok mb0 [] rfl rfl ?zo ?zk
  case zo =>
    repeat' apply AllP.cons
    all_goals first | exact trivial | exact id | exact fun _ => rfl | exact fun _ => Nat.le_of_ble_eq_true rfl
  case zk =>
  refine Aw.cond rfl (fun h1 => Aw.skip ?_) (fun h1 => ?_)
  · have h1 : cond (raB b.b0 (fun i => mvOk b.n (mvk b.ms i)) k) (decide ((k : Int) < ((b.ms.map Mv.c).length : Int))) false = true := h1
    have hb := ac1 h1
    have hlt : k < b.ms.length := by have := of_decide_eq_true (ac2 h1); omega
    have hst := raB_step hb
    have hg := mvk_at hlt
    have hn := (Book.b0_iff.1 (raB_iff.1 hb).1).1
    generalize mvk b.ms k = m at *
    generalize hv1 : raB b.b0 (fun i => mvOk b.n (mvk b.ms i)) (k + 1) = v1 at *
    refine Aw.seq (Aw.block ?_)
    refine Aw.sm tab_ok mb0 [(3, m.c)] rfl rfl ?zo ?zk
    case zo =>
      repeat' apply AllP.cons
      all_goals first | exact trivial | exact rfl | exact Nat.le_of_ble_eq_true rfl | exact Int.natCast_nonneg _ | exact hg
    case zk =>
    refine Aw.em tab_ok mb0 [(5, [.bool (wi m.fr 0 (b.n - 1))]), (12, [.bool (wi m.to 0 (b.n - 1))]), (24, [.bool (spannedF m.lo m.hi 0 1000)])] rfl rfl ?zo ?zk
    case zo =>
      repeat' apply AllP.cons
      all_goals first | exact trivial | exact id | exact fun _ => rfl | exact Nat.le_of_ble_eq_true rfl | exact fun _ => Nat.le_of_ble_eq_true rfl | exact in_t _ _ _ | exact (in_t _ _ _).un | exact (show inR (b.n - 1) by simp only [inR]; omega) | exact fun _ => (show inR (b.n - 1) by simp only [inR]; omega) | exact fun _ => rspanned_t ⟨m.lo, m.hi⟩ _ _
    case zk =>
    refine Aw.em tab_ok mb0 [] rfl rfl ?zo ?zk
    case zo =>
      repeat' apply AllP.cons
      all_goals first | exact trivial | exact inrk k (by omega)
    case zk =>
    refine ⟨k + 1, ?zg, ?zm, ⟨?zc, ?zv, ?zh, Nat.le_of_ble_eq_true rfl⟩⟩
    case zg =>
      (repeat' (first | assumption))
    case zm =>
      (repeat' (first | omega))
    case zc =>
      (repeat' (first | (refine And.intro ?_ ?_) | exact trivial | exact A.Le.refl _))
    case zv =>
      (repeat' (first | (refine And.intro ?_ ?_) | exact trivial | exact A.Le.refl _ | exact .of_eq (congrArg A.bool (hv1.trans (hst.trans rfl)))))
    case zh =>
      (repeat' (first | exact trivial))
  have h1 : cond (raB b.b0 (fun i => mvOk b.n (mvk b.ms i)) k) (decide ((k : Int) < ((b.ms.map Mv.c).length : Int))) false = false := h1
  have hend : raB b.b0 (fun i => mvOk b.n (mvk b.ms i)) k = false ∨ k = b.ms.length := by
    by_cases h3 : raB b.b0 (fun i => mvOk b.n (mvk b.ms i)) k = true
    · rw [h3] at h1
      have h1 : decide ((k : Int) < ((b.ms.map Mv.c).length : Int)) = false := h1
      have := of_decide_eq_false h1
      exact .inr (by omega)
    · exact .inl (by simpa using h3)
  have he := raB_end hk hend
  rw [book_raB] at he
  rw [he]
  refine Aw.exit2 ?_
  refine Aw.seq ?_
  refine Aw.sm tab_ok mb0 [] rfl rfl ?zo ?zk
  case zo =>
    repeat' apply AllP.cons
    all_goals first | exact trivial
  case zk =>
  refine Aw.cond rfl (fun h1 => ?_) (fun h1 => Aw.skip ?_)
  · have hno : b.ok = false := by simpa using h1
    refine Aw.sm tab_ok mb0 [] rfl rfl ?zo ?zk
    case zo =>
      repeat' apply AllP.cons
      all_goals first | exact trivial
    case zk =>
    exact Aw.ret ⟨_, .cons (.tmp _) .nil, by unfold Book.chk; rw [hno]; rfl⟩
  · have hyes : b.ok = true := by simpa using h1
    refine Aw.sm tab_ok mb0 [] rfl rfl ?zo ?zk
    case zo =>
      repeat' apply AllP.cons
      all_goals first | exact trivial
    case zk =>
    exact Aw.ret ⟨_, .cons (.tmp _) .nil, by unfold Book.chk; rw [if_pos hyes]; rfl⟩
theorem more_t (b : Book) (hb : b.Ok) (set wo : Int) : Ans Try.prog 87 [.agg b.c, .int set, .int wo] (.int (moreF set wo b.ms)) := by
  have ll : ((b.ms.map Mv.c).length : Int) = b.ms.length := by simp
  have ub : ∀ {m : Nat}, Under m (A.pt b.c) := (Free.pt _ b.free).under
  have hl := hb.l
  refine told Try.func87 rfl rfl (Pure.of tab_ok Try.func87 rfl Try.ntmps87 rfl (allC (.agg _ b.free) (allC (.s _) (all1 (.s _)))) (allC (fun _ => rfl) (allC (fun _ => rfl) (all1 (fun _ => rfl)))) (by first | exact .s _ | assumption | exact .tup _ (by intro x hx; simp only [List.mem_cons, List.not_mem_nil, or_false] at hx; rcases hx with rfl | rfl | rfl | rfl <;> first | exact .s _ | (simp_all; done))) fun E hE => ?_)
  refine Aw.sm tab_ok mb0 [] rfl rfl ?zo ?zk
  case zo =>
    repeat' apply AllP.cons
    all_goals first | exact trivial
  case zk =>
  refine Aw.sm tab_ok mb0 [] rfl rfl ?zo ?zk
  case zo =>
    repeat' apply AllP.cons
    all_goals first | exact trivial
  case zk =>
  refine Aw.seq ?_
  refine Aw.sm tab_ok mb0 [] rfl rfl ?zo ?zk
  case zo =>
    repeat' apply AllP.cons
    all_goals first | exact trivial
  case zk =>
  refine Aw.block (Aw.rounds 0 hE [(1, .int set), (2, .int wo), (3, .pt b.c)] (fun k : Nat => [(7, .int (moreK set wo b.ms k)), (8, .int k)]) (fun k => []) (fun k => k ≤ b.ms.length) (fun k => b.ms.length - k) 0 ?zg ⟨?zc, ?zv, ?zh, Nat.le_of_ble_eq_true rfl⟩ ?zu (fun k zhk => ?zw) (fun k zhk => ?zx) fun k hk => ?zr)
  case zg =>
    (repeat' (first | exact Nat.zero_le _))
  case zc =>
    (repeat' (first | (refine And.intro ?_ ?_) | exact trivial | exact A.Le.refl _))
  case zv =>
    (repeat' (first | (refine And.intro ?_ ?_) | exact trivial | exact A.Le.refl _))
  case zh =>
    (repeat' (first | exact trivial))
  case zu =>
    (repeat' (first | exact trivial | exact Under.s _ | exact ub | (refine And.intro ?_ ?_)))
  case zw =>
    (repeat' (first | exact trivial | exact Under.s _ | (refine And.intro ?_ ?_)))
  case zx =>
    (repeat' (first | exact trivial))
  case zr =>
  refine Aw.seq ?_
  refine Aw.sm tab_ok mb0 [] rfl rfl ?zo ?zk
  case zo =>
    repeat' apply AllP.cons
    all_goals first | exact trivial | exact Nat.le_of_ble_eq_true rfl
  case zk =>
  refine Aw.cond rfl (fun h1 => Aw.skip ?_) (fun h1 => ?_)
  · have hlt : k < b.ms.length := by have := of_decide_eq_true h1; omega
    have hg := mvk_at hlt
    have hmo := hb.m _ (mvk_mem hlt)
    have hst := moreK_succ set wo b.ms k
    have hbd := moreK_bd (set := set) (wo := wo) hb.m k hk
    generalize mvk b.ms k = m at *
    generalize hv1 : moreK set wo b.ms (k + 1) = v1 at *
    generalize moreK set wo b.ms k = v at *
    have hf := hmo.f
    have ht := hmo.t
    have hmk := hmo.k
    have ump : ∀ {n : Nat}, Under n (A.pt m.c) := (Free.pt _ m.free).under
    refine Aw.seq (Aw.block ?_)
    refine Aw.sm tab_ok mb0 [(3, m.c)] rfl rfl ?zo ?zk
    case zo =>
      repeat' apply AllP.cons
      all_goals first | exact trivial | exact rfl | exact Nat.le_of_ble_eq_true rfl | exact Int.natCast_nonneg _ | exact hg
    case zk =>
    refine Aw.freeze (id := 0) (t := 9) (cs := m.c) rfl rfl ?_
    refine Aw.keep (n := 0) (cst := [(1, .int set), (2, .int wo), (3, .pt b.c), (9, .pt m.c), (7, .int v), (8, .int k)]) (v := []) (Hl := []) hE ?zu ?zw ?zx ⟨?zc, ?zv, ?zh, Nat.le_of_ble_eq_true rfl⟩ ?zr
    case zu =>
      (repeat' (first | exact trivial | exact Under.s _ | exact ub | exact ump | (refine And.intro ?_ ?_)))
    case zw =>
      (repeat' (first | exact trivial))
    case zx =>
      (repeat' (first | exact trivial))
    case zc =>
      (repeat' (first | (refine And.intro ?_ ?_) | exact trivial | exact A.Le.refl _))
    case zv =>
      (repeat' (first | exact trivial))
    case zh =>
      (repeat' (first | exact trivial))
    case zr =>
    refine Aw.sd tab_ok mixed mb0 [(3, [.bool (bitB set m.fr)]), (7, [.bool (bitB set m.to)])] rfl (by kernel_rfl) rfl rfl ?zo ?zk
    case zo =>
      repeat' apply AllP.cons
      all_goals first | exact trivial | exact Nat.le_of_ble_eq_true rfl | exact bit_t _ _ hf.1 | exact bit_t _ _ ht.1
    case zk =>
    have hb1 := mr1_bd (set := set) (wo := wo) (i := k) hmo v
    refine Aw.join1 0 hE [(1, .int set), (2, .int wo), (3, .pt b.c), (9, .pt m.c), (8, .int k), (10, .bool (bitB set m.fr)), (11, .bool (bitB set m.to))] [(7, .int (mr1 set wo k m v))] [] ⟨.s _, .s _, ub, ump, .s _, .s _, .s _, trivial⟩ ⟨.s _, trivial⟩ trivial ?_ ?_
    · refine Aw.sm tab_ok mb0 [] rfl rfl ?zo ?zk
      case zo =>
        repeat' apply AllP.cons
        all_goals first | exact trivial | exact id | exact fun _ => rfl
      case zk =>
      refine Aw.cond rfl (fun h2 => ?_) (fun h2 => Aw.skip ?_)
      · have e1 : mr1 set wo k m v = v + m.lo := by unfold mr1; rw [if_pos h2]
        rw [e1]
        refine Aw.em tab_ok mb0 [] rfl rfl ?zo ?zk
        case zo =>
          repeat' apply AllP.cons
          all_goals first | exact trivial | exact Nat.le_of_ble_eq_true rfl | exact (show inR (v + m.lo) by simp only [inR]; omega)
        case zk =>
        exact ⟨⟨.refl _, .refl _, .refl _, .refl _, .refl _, .refl _, .refl _, trivial⟩, ⟨.refl _, trivial⟩, trivial, Nat.le_of_ble_eq_true rfl⟩
      · have e1 : mr1 set wo k m v = v := by unfold mr1; rw [if_neg (by rw [show _ = false from h2]; decide)]
        rw [e1]
        exact ⟨⟨.refl _, .refl _, .refl _, .refl _, .refl _, .refl _, .refl _, trivial⟩, ⟨.refl _, trivial⟩, trivial, Nat.le_of_ble_eq_true rfl⟩
    generalize mr1 set wo k m v = v2 at *
    refine Aw.sm tab_ok mb0 [] rfl rfl ?zo ?zk
    case zo =>
      repeat' apply AllP.cons
      all_goals first | exact trivial | exact id | exact fun _ => rfl
    case zk =>
    refine Aw.cond rfl (fun h2 => ?_) (fun h2 => Aw.skip ?_)
    · have e1 : mr2 set wo k m v2 = v2 - m.hi := by unfold mr2; rw [if_pos h2]
      rw [e1] at hst
      refine Aw.em tab_ok mb0 [] rfl rfl ?zo ?zk
      case zo =>
        repeat' apply AllP.cons
        all_goals first | exact trivial | exact Nat.le_of_ble_eq_true rfl | exact (show inR (v2 - m.hi) by simp only [inR]; omega)
      case zk =>
      refine Aw.em tab_ok mb0 [] rfl rfl ?zo ?zk
      case zo =>
        repeat' apply AllP.cons
        all_goals first | exact trivial | exact inrk k (by omega)
      case zk =>
      refine ⟨k + 1, ?zg, ?zm, ⟨?zc, ?zv, ?zh, Nat.le_of_ble_eq_true rfl⟩⟩
      case zg =>
        (repeat' (first | assumption))
      case zm =>
        (repeat' (first | omega))
      case zc =>
        (repeat' (first | (refine And.intro ?_ ?_) | exact trivial | exact A.Le.refl _))
      case zv =>
        (repeat' (first | (refine And.intro ?_ ?_) | exact trivial | exact A.Le.refl _ | exact .of_eq (congrArg A.int (hv1.trans hst))))
      case zh =>
        (repeat' (first | exact trivial))
    · have e1 : mr2 set wo k m v2 = v2 := by unfold mr2; rw [if_neg (by rw [show _ = false from h2]; decide)]
      rw [e1] at hst
      refine Aw.em tab_ok mb0 [] rfl rfl ?zo ?zk
      case zo =>
        repeat' apply AllP.cons
        all_goals first | exact trivial | exact inrk k (by omega)
      case zk =>
      refine ⟨k + 1, ?zg, ?zm, ⟨?zc, ?zv, ?zh, Nat.le_of_ble_eq_true rfl⟩⟩
      case zg =>
        (repeat' (first | assumption))
      case zm =>
        (repeat' (first | omega))
      case zc =>
        (repeat' (first | (refine And.intro ?_ ?_) | exact trivial | exact A.Le.refl _))
      case zv =>
        (repeat' (first | (refine And.intro ?_ ?_) | exact trivial | exact A.Le.refl _ | exact .of_eq (congrArg A.int (hv1.trans hst))))
      case zh =>
        (repeat' (first | exact trivial))
  have hle : k = b.ms.length := by have := of_decide_eq_false h1; omega
  subst hle
  refine Aw.exit2 ?_
  refine Aw.sm tab_ok mb0 [] rfl rfl ?zo ?zk
  case zo =>
    repeat' apply AllP.cons
    all_goals first | exact trivial
  case zk =>
  exact Aw.ret ⟨_, .cons (.tmp _) .nil, rfl⟩
theorem rproof_t (b : Book) (hb : b.Ok) : Ans Try.prog 85 [.agg b.c] (.int (proofS b.n b.ms)) := by
  have ub : ∀ {m : Nat}, Under m (A.pt b.c) := (Free.pt _ b.free).under
  have hn := hb.n
  have hpow := pow_bd (n := b.n.toNat) (by omega)
  have hsh := shl_n (n := b.n.toNat) (by omega)
  unfold proofS
  generalize hR : prGo b.ms (2 ^ b.n.toNat) 0 = R
  refine told Try.func85 rfl rfl (Pure.of tab_ok Try.func85 rfl Try.ntmps85 rfl (all1 (.agg _ b.free)) (all1 (fun _ => rfl)) (by first | exact .s _ | assumption | exact .tup _ (by intro x hx; simp only [List.mem_cons, List.not_mem_nil, or_false] at hx; rcases hx with rfl | rfl | rfl | rfl <;> first | exact .s _ | (simp_all; done))) fun E hE => ?_)
  refine Aw.sm tab_ok mb0 [] rfl rfl ?zo ?zk
  case zo =>
    repeat' apply AllP.cons
    all_goals first | exact trivial
  case zk =>
  refine Aw.seq ?_
  refine Aw.sm tab_ok mb0 [] rfl rfl ?zo ?zk
  case zo =>
    repeat' apply AllP.cons
    all_goals first | exact trivial
  case zk =>
  have hpe : ((2 ^ b.n.toNat : Nat) : Int) = 2 ^ b.n.toNat := by simp
  refine Aw.block (Aw.rounds 0 hE [(1, .pt b.c)] (fun k : Nat => [(3, .int k)]) (fun k => []) (fun k => k ≤ 2 ^ b.n.toNat ∧ prGo b.ms (2 ^ b.n.toNat - k) k = R) (fun k => 2 ^ b.n.toNat - k) 0 ?zg ⟨?zc, ?zv, ?zh, Nat.le_of_ble_eq_true rfl⟩ ?zu (fun k zhk => ?zw) (fun k zhk => ?zx) fun k hk => ?zr)
  case zg =>
    (repeat' (first | exact ⟨Nat.zero_le _, hR⟩))
  case zc =>
    (repeat' (first | (refine And.intro ?_ ?_) | exact trivial | exact A.Le.refl _))
  case zv =>
    (repeat' (first | (refine And.intro ?_ ?_) | exact trivial | exact A.Le.refl _))
  case zh =>
    (repeat' (first | exact trivial))
  case zu =>
    (repeat' (first | exact trivial | exact ub | (refine And.intro ?_ ?_)))
  case zw =>
    (repeat' (first | exact trivial | exact Under.s _ | (refine And.intro ?_ ?_)))
  case zx =>
    (repeat' (first | exact trivial))
  case zr =>
  obtain ⟨hk, hrun⟩ := hk
  refine Aw.seq ?_
  refine Aw.sm tab_ok mb0 [] rfl rfl ?zo ?zk
  case zo =>
    repeat' apply AllP.cons
    all_goals first | exact trivial | exact Nat.le_of_ble_eq_true rfl | exact (by simp only [Ob.of]; omega)
  case zk =>
  refine Aw.cond rfl (fun h1 => Aw.skip ?_) (fun h1 => ?_)
  · have h1 : decide ((k : Int) < IntKind.i64.wrap (1 * 2 ^ min b.n.toNat 64)) = true := h1
    rw [hsh] at h1
    have hlt : k < 2 ^ b.n.toNat := by have := of_decide_eq_true h1; omega
    have hr : prGo b.ms (2 ^ b.n.toNat - k) k = if moreF (k : Int) (-1) b.ms > 0 then (k : Int) else prGo b.ms (2 ^ b.n.toNat - (k + 1)) (k + 1) := by
      rw [show 2 ^ b.n.toNat - k = (2 ^ b.n.toNat - (k + 1)) + 1 by omega]; rfl
    rw [hr] at hrun
    have hm := more_t b hb k (-1)
    generalize moreF (k : Int) (-1) b.ms = v at *
    refine Aw.seq (Aw.block ?_)
    refine Aw.sm tab_ok mb0 [(2, [.int v])] rfl rfl ?zo ?zk
    case zo =>
      repeat' apply AllP.cons
      all_goals first | exact trivial | exact Nat.le_of_ble_eq_true rfl | exact hm
    case zk =>
    refine Aw.cond rfl (fun h2 => ?_) (fun h2 => Aw.skip ?_)
    · have h2 : v > 0 := of_decide_eq_true h2
      rw [if_pos h2] at hrun
      subst hrun
      refine Aw.sm tab_ok mb0 [] rfl rfl ?zo ?zk
      case zo =>
        repeat' apply AllP.cons
        all_goals first | exact trivial
      case zk =>
      exact Aw.ret ⟨_, .cons (.tmp _) .nil, rfl⟩
    · have h2 : ¬ v > 0 := of_decide_eq_false h2
      rw [if_neg h2] at hrun
      refine Aw.em tab_ok mb0 [] rfl rfl ?zo ?zk
      case zo =>
        repeat' apply AllP.cons
        all_goals first | exact trivial | exact inrk k (by omega)
      case zk =>
      refine ⟨k + 1, ?zg, ?zm, ⟨?zc, ?zv, ?zh, Nat.le_of_ble_eq_true rfl⟩⟩
      case zg =>
        (repeat' (first | omega))
      case zm =>
        (repeat' (first | omega))
      case zc =>
        (repeat' (first | (refine And.intro ?_ ?_) | exact trivial | exact A.Le.refl _))
      case zv =>
        (repeat' (first | (refine And.intro ?_ ?_) | exact trivial | exact A.Le.refl _))
      case zh =>
        (repeat' (first | exact trivial))
  · have h1 : decide ((k : Int) < IntKind.i64.wrap (1 * 2 ^ min b.n.toNat 64)) = false := h1
    rw [hsh] at h1
    have hle : k = 2 ^ b.n.toNat := by have := of_decide_eq_false h1; omega
    subst hle
    rw [Nat.sub_self] at hrun
    have hrun : (-1 : Int) = R := hrun
    subst hrun
    refine Aw.exit2 ?_
    refine Aw.sm tab_ok mb0 [] rfl rfl ?zo ?zk
    case zo =>
      repeat' apply AllP.cons
      all_goals first | exact trivial
    case zk =>
    exact Aw.ret ⟨_, .cons (.tmp _) .nil, rfl⟩
end Go.Proofs.Ytampldajinhenaa

namespace Go.Proofs.Ytampldajinhenaa
open Go Go.AL Go.AL.Q Go.AL.Br
theorem add_wrap (x y : Operand) (a b : Int) : OpIs tab .add 3 x y (.int a) (.int b) (IntKind.i64.wrap (a + b)) := by
  refine ⟨.int .i64 a, .int .i64 b, rfl, rfl, (congrFun (congrFun (congrFun (congrFun (congrFun (congrFun (show tab.eqv = pureEq Try.prog from rfl) _) _) _) _) _) _).trans ?_⟩
  rfl
theorem sub_wrap (x y : Operand) (a b : Int) : OpIs tab .sub 3 x y (.int a) (.int b) (IntKind.i64.wrap (a - b)) := by
  refine ⟨.int .i64 a, .int .i64 b, rfl, rfl, (congrFun (congrFun (congrFun (congrFun (congrFun (congrFun (show tab.eqv = pureEq Try.prog from rfl) _) _) _) _) _) _).trans ?_⟩
  rfl
def inK (ms : List Mv) (cs : List Int) (i : Nat) : Bool := (List.range i).all (inB ms cs)
theorem inK_succ (ms : List Mv) (cs : List Int) (i : Nat) : inK ms cs (i + 1) = cond (inK ms cs i) (inB ms cs i) false := by
  unfold inK
  rw [List.range_succ, List.all_append]
  cases (List.range i).all (inB ms cs) <;> simp
def okS (ms : List Mv) (cs : List Int) : Nat → Bool
  | 0 => true
  | s + 1 => cond (cond (okS ms cs s) (allIn ms cs) false) (ov ms cs s == 0) false
theorem okS_is (ms : List Mv) (cs : List Int) : ∀ s : Nat, okS ms cs (s + 1) = cond (allIn ms cs) ((List.range (s + 1)).all fun (t : Nat) => ov ms cs t == 0) false
  | 0 => by
    unfold okS okS
    cases allIn ms cs <;> simp
  | s + 1 => by
    rw [okS, okS_is ms cs s, List.range_succ (n := s + 1), List.all_append]
    cases allIn ms cs <;> cases (List.range (s + 1)).all fun (t : Nat) => ov ms cs t == 0 <;> simp
theorem ov_take {ms : List Mv} {cs : List Int} (hl : ms.length = cs.length) {i : Nat} (hi : i < ms.length) (s : Int) : ov (ms.take (i + 1)) (cs.take (i + 1)) s = ov (ms.take i) (cs.take i) s + (if (mvk ms i).to = s then cs.getD i 0 else 0) - (if (mvk ms i).fr = s then cs.getD i 0 else 0) := by
  have h2 : i < cs.length := by omega
  have e : cs.getD i 0 = cs[i] := by simp [List.getD_eq_getElem?_getD, h2]
  rw [List.take_succ_eq_append_getElem hi, List.take_succ_eq_append_getElem h2, ov_snoc _ _ _ (by rw [List.length_take, List.length_take]; omega), mvk_get hi, e]
theorem inB_mvk (ms : List Mv) (cs : List Int) (i : Nat) : inB ms cs i = wi (cs.getD i 0) (mvk ms i).lo (mvk ms i).hi := rfl
theorem inK_bd {n : Int} {ms : List Mv} (hms : ∀ m ∈ ms, m.Ok n) {cs : List Int} (hl : ms.length = cs.length) {i : Nat} (hi : i ≤ ms.length) (h : inK ms cs i = true) : ∀ c ∈ cs.take i, 0 ≤ c ∧ c ≤ 1000 := fun c hc => by
  obtain ⟨j, hj, rfl⟩ := List.getElem_of_mem hc
  have hj2 : j < i := by rw [List.length_take] at hj; omega
  have h1 := List.all_eq_true.1 h j (List.mem_range.2 hj2)
  rw [inB_mvk] at h1
  have h2 := wi_iff.1 h1
  have h3 := (hms _ (mvk_mem (show j < ms.length by omega))).k
  have e : cs.getD j 0 = cs[j]'(by omega) := by simp [List.getD_eq_getElem?_getD, show j < cs.length by omega]
  rw [List.getElem_take, ← e]; omega
set_option maxHeartbeats 2000000 in
theorem rcounts_t (b : Book) (hbl : (b.ms.length : Int) ≤ 9223372036854775806) (cb : Bool) (cs : List Int) : Ans Try.prog 34 [.agg b.c, .sl cb .any (ints cs)] (countsA (CountsR b cs)) := by
  have hfr : Free (countsA (CountsR b cs)) := .tup _ (allC (.s _) (all1 (.s _)))
  have fc : Free (.sl cb .any (ints cs)) := free_ints _ _ _
  have uc : ∀ {n : Nat}, Under n (A.sl cb .any (ints cs)) := fc.under
  have lm : ((b.ms.map Mv.c).length : Int) = b.ms.length := by simp
  have lc := ints_lenI cs
  have ub : ∀ {n : Nat}, Under n (A.pt b.c) := (Free.pt _ b.free).under
  have hchk := rbook_chk b hbl
  refine told Try.func34 rfl rfl (Pure.of tab_ok Try.func34 rfl Try.ntmps34 rfl (allC (.agg _ b.free) (all1 (fc))) (allC (fun _ => rfl) (all1 (fun _ => rfl))) (by first | exact .s _ | assumption | exact .tup _ (by intro x hx; simp only [List.mem_cons, List.not_mem_nil, or_false] at hx; rcases hx with rfl | rfl | rfl | rfl <;> first | exact .s _ | (simp_all; done))) fun E hE => ?_)
  refine Aw.sm tab_ok mb0 [] rfl rfl ?zo ?zk
  case zo =>
    repeat' apply AllP.cons
    all_goals first | exact trivial
  case zk =>
  by_cases hbo : b.ok = true
  rotate_left
  · have e : CountsR b cs = (false, 63) := by unfold CountsR; rw [if_neg hbo]
    have e2 : b.chk = 63 := by unfold Book.chk; rw [if_neg hbo]
    rw [e2] at hchk
    rw [e]
    refine Aw.seq ?_
    refine Aw.sm tab_ok mb0 [(1, [.int 63])] rfl rfl ?zo ?zk
    case zo =>
      repeat' apply AllP.cons
      all_goals first | exact trivial | exact Nat.le_of_ble_eq_true rfl | exact hchk
    case zk =>
    refine Aw.sm tab_ok mb0 [] rfl rfl ?zo ?zk
    case zo =>
      repeat' apply AllP.cons
      all_goals first | exact trivial
    case zk =>
    refine Aw.cond rfl (fun h => ?_) (fun h => by cases h)
    refine Aw.sm tab_ok mb0 [] rfl rfl ?zo ?zk
    case zo =>
      repeat' apply AllP.cons
      all_goals first | exact trivial
    case zk =>
    exact Aw.ret ⟨_, .cons (.tmp _) (.cons (.tmp _) .nil), rfl⟩
  have e2 : b.chk = 0 := by unfold Book.chk; rw [if_pos hbo]
  have hB := Book.ok_iff.1 hbo
  have hn := hB.n
  have hbl2 := hB.l
  rw [e2] at hchk
  refine Aw.seq ?_
  refine Aw.sm tab_ok mb0 [(1, [.int 0])] rfl rfl ?zo ?zk
  case zo =>
    repeat' apply AllP.cons
    all_goals first | exact trivial | exact Nat.le_of_ble_eq_true rfl | exact hchk
  case zk =>
  refine Aw.sm tab_ok mb0 [] rfl rfl ?zo ?zk
  case zo =>
    repeat' apply AllP.cons
    all_goals first | exact trivial
  case zk =>
  refine Aw.cond rfl (fun h => by cases h) (fun h => Aw.skip ?_)
  refine Aw.seq ?_
  refine Aw.sm tab_ok mb0 [] rfl rfl ?zo ?zk
  case zo =>
    repeat' apply AllP.cons
    all_goals first | exact trivial | exact Nat.le_of_ble_eq_true rfl
  case zk =>
  refine Aw.cond rfl (fun h1 => ?_) (fun h1 => Aw.skip ?_)
  · have h1 : (((ints cs).length : Int) != ((b.ms.map Mv.c).length : Int)) = true := h1
    rw [lc, lm] at h1
    have h1 : ((cs.length : Nat) : Int) ≠ b.ms.length := by simpa using h1
    have e : CountsR b cs = (false, 64) := by unfold CountsR; rw [if_pos hbo, if_neg (by omega)]
    rw [e]
    refine Aw.sm tab_ok mb0 [] rfl rfl ?zo ?zk
    case zo =>
      repeat' apply AllP.cons
      all_goals first | exact trivial
    case zk =>
    exact Aw.ret ⟨_, .cons (.tmp _) (.cons (.tmp _) .nil), rfl⟩
  have h1 : (((ints cs).length : Int) != ((b.ms.map Mv.c).length : Int)) = false := h1
  rw [lc, lm] at h1
  have hcl : b.ms.length = cs.length := by have : (cs.length : Int) = b.ms.length := by simpa using h1
                                           omega
  have e : CountsR b cs = (okS b.ms cs b.n.toNat, 0) := by
    unfold CountsR
    rw [if_pos hbo, if_pos hcl.symm]
    obtain ⟨q, hq⟩ : ∃ q, b.n.toNat = q + 1 := ⟨b.n.toNat - 1, by omega⟩
    rw [hq, okS_is]
    unfold ovL
    rw [hq, List.all_map]
    by_cases h2 : allIn b.ms cs = true
    · rw [if_pos h2, h2]; rfl
    · rw [if_neg h2]
      have h2 : allIn b.ms cs = false := by simpa using h2
      rw [h2]; rfl
  rw [e]
  refine Aw.sm tab_ok mb0 [] rfl rfl ?zo ?zk
  case zo =>
    repeat' apply AllP.cons
    all_goals first | exact trivial
  case zk =>
  refine Aw.seq ?_
  refine Aw.sm tab_ok mb0 [] rfl rfl ?zo ?zk
  case zo =>
    repeat' apply AllP.cons
    all_goals first | exact trivial
  case zk =>
  refine Aw.block (Aw.rounds 0 hE [(1, .sl cb .any (ints cs)), (2, .pt b.c)] (fun s : Nat => [(7, .bool (okS b.ms cs s)), (8, .int s)]) (fun s => []) (fun s => s ≤ b.n.toNat) (fun s => b.n.toNat - s) 0 ?zg ⟨?zc, ?zv, ?zh, Nat.le_of_ble_eq_true rfl⟩ ?zu (fun s zhk => ?zw) (fun s zhk => ?zx) fun s hk => ?zr)
  case zg =>
    (repeat' (first | exact Nat.zero_le _))
  case zc =>
    (repeat' (first | (refine And.intro ?_ ?_) | exact trivial | exact A.Le.refl _))
  case zv =>
    (repeat' (first | (refine And.intro ?_ ?_) | exact trivial | exact A.Le.refl _))
  case zh =>
    (repeat' (first | exact trivial))
  case zu =>
    (repeat' (first | exact trivial | exact (free_ints _ _ _).under | exact ub | (refine And.intro ?_ ?_)))
  case zw =>
    (repeat' (first | exact trivial | exact Under.s _ | (refine And.intro ?_ ?_)))
  case zx =>
    (repeat' (first | exact trivial))
  case zr =>
  refine Aw.seq ?_
  refine Aw.sm tab_ok mb0 [] rfl rfl ?zo ?zk
  case zo =>
    repeat' apply AllP.cons
    all_goals first | exact trivial | exact Nat.le_of_ble_eq_true rfl
  case zk =>
  refine Aw.cond rfl (fun h2 => Aw.skip ?_) (fun h2 => ?_)
  · have hlt : s < b.n.toNat := by have := of_decide_eq_true h2; omega
    have hoS : okS b.ms cs (s + 1) = cond (cond (okS b.ms cs s) (allIn b.ms cs) false) (ov b.ms cs s == 0) false := rfl
    generalize hv1 : okS b.ms cs (s + 1) = v1 at *
    generalize okS b.ms cs s = o at *
    refine Aw.seq (Aw.block ?_)
    refine Aw.sm tab_ok mb0 [] rfl rfl ?zo ?zk
    case zo =>
      repeat' apply AllP.cons
      all_goals first | exact trivial
    case zk =>
    refine Aw.seq ?_
    refine Aw.sm tab_ok mb0 [] rfl rfl ?zo ?zk
    case zo =>
      repeat' apply AllP.cons
      all_goals first | exact trivial
    case zk =>
    refine Aw.block (Aw.rounds 0 hE [(1, .sl cb .any (ints cs)), (2, .pt b.c), (8, .int s)] (fun i : (Nat×Int) => [(7, .bool (cond o (inK b.ms cs i.1) false)), (9, .int i.2), (10, .int i.1)]) (fun i => []) (fun i => i.1 ≤ b.ms.length ∧ (cond o (inK b.ms cs i.1) false = true → i.2 = ov (b.ms.take i.1) (cs.take i.1) s)) (fun i => b.ms.length - i.1) (0, 0) ?zg ⟨?zc, ?zv, ?zh, Nat.le_of_ble_eq_true rfl⟩ ?zu (fun i zhk => ?zw) (fun i zhk => ?zx) fun i hk => ?zr)
    case zg =>
      (repeat' (first | exact ⟨Nat.zero_le _, fun _ => rfl⟩))
    case zc =>
      (repeat' (first | (refine And.intro ?_ ?_) | exact trivial | exact A.Le.refl _))
    case zv =>
      (repeat' (first | (refine And.intro ?_ ?_) | exact trivial | exact A.Le.refl _ | exact .of_eq (by cases o <;> rfl)))
    case zh =>
      (repeat' (first | exact trivial))
    case zu =>
      (repeat' (first | exact trivial | exact Under.s _ | exact (free_ints _ _ _).under | exact ub | (refine And.intro ?_ ?_)))
    case zw =>
      (repeat' (first | exact trivial | exact Under.s _ | (refine And.intro ?_ ?_)))
    case zx =>
      (repeat' (first | exact trivial))
    case zr =>
    obtain ⟨i, nv⟩ := i
    obtain ⟨hk, hnv⟩ := hk
    simp only at hk hnv
    refine Aw.seq ?_
    refine Aw.sm tab_ok mb0 [] rfl rfl ?zo ?zk
    case zo =>
      repeat' apply AllP.cons
      all_goals first | exact trivial | exact Nat.le_of_ble_eq_true rfl
    case zk =>
    refine Aw.cond rfl (fun h3 => Aw.skip ?_) (fun h3 => ?_)
    · have hlt2 : i < b.ms.length := by have := of_decide_eq_true h3; omega
      have hg := mvk_at hlt2
      have hgc := ints_getD (l := cs) (k := i) (by omega)
      have hmo := hB.m _ (mvk_mem hlt2)
      have hot := ov_take hcl hlt2 s
      have hin := inK_succ b.ms cs i
      rw [inB_mvk] at hin
      have hbd := fun h => ov_bd (ms := b.ms.take i) (inK_bd hB.m hcl (Nat.le_of_lt hlt2) h) s
      have htl : (b.ms.take i).length ≤ 10 := by rw [List.length_take]; omega
      generalize mvk b.ms i = m at *
      generalize cs.getD i 0 = c at *
      generalize hI1 : inK b.ms cs (i + 1) = I1 at *
      generalize inK b.ms cs i = I at *
      generalize hO1 : ov (b.ms.take (i + 1)) (cs.take (i + 1)) s = O1 at *
      generalize ov (b.ms.take i) (cs.take i) s = O at *
      have hmk := hmo.k
      have hmne := hmo.ne
      have ump : ∀ {n : Nat}, Under n (A.pt m.c) := (Free.pt _ m.free).under
      have hob : cond o (cond I (wi c m.lo m.hi) false) false = cond (cond o I false) (wi c m.lo m.hi) false := by cases o <;> cases I <;> rfl
      have hoc : cond o I1 false = true → (nv = O ∧ 0 ≤ c ∧ c ≤ 1000) ∧ -10000 ≤ O ∧ O ≤ 10000 := fun h => by
        rw [hin, hob] at h
        have h4 := ac1 h
        have h5 := wi_iff.1 (ac2 h)
        have h6 := hbd (ac2 h4)
        exact ⟨⟨hnv h4, by omega, by omega⟩, by omega, by omega⟩
      refine Aw.seq (Aw.block ?_)
      refine Aw.sm tab_ok mb0 [(3, m.c)] rfl rfl ?zo ?zk
      case zo =>
        repeat' apply AllP.cons
        all_goals first | exact trivial | exact rfl | exact Nat.le_of_ble_eq_true rfl | exact Int.natCast_nonneg _ | exact hg
      case zk =>
      refine Aw.freeze (id := 0) (t := 11) (cs := m.c) rfl rfl ?_
      refine Aw.keep (n := 0) (cst := [(1, .sl cb .any (ints cs)), (2, .pt b.c), (8, .int s), (11, .pt m.c), (7, .bool (cond o I false)), (9, .int nv), (10, .int i)]) (v := []) (Hl := []) hE ?zu ?zw ?zx ⟨?zc, ?zv, ?zh, Nat.le_of_ble_eq_true rfl⟩ ?zr
      case zu =>
        (repeat' (first | exact trivial | exact Under.s _ | exact (free_ints _ _ _).under | exact ub | exact ump | (refine And.intro ?_ ?_)))
      case zw =>
        (repeat' (first | exact trivial))
      case zx =>
        (repeat' (first | exact trivial))
      case zc =>
        (repeat' (first | (refine And.intro ?_ ?_) | exact trivial | exact A.Le.refl _))
      case zv =>
        (repeat' (first | exact trivial))
      case zh =>
        (repeat' (first | exact trivial))
      case zr =>
      refine Aw.sd tab_ok mixed mb0 [(6, [.int c]), (8, [.bool (wi c m.lo m.hi)])] rfl (by kernel_rfl) rfl rfl ?zo ?zk
      case zo =>
        repeat' apply AllP.cons
        all_goals first | exact trivial | exact id | exact fun _ => rfl | exact fun _ => Nat.le_of_ble_eq_true rfl | exact fun _ => Int.natCast_nonneg _ | exact fun _ => hgc | exact fun _ => holds_l ⟨m.lo, m.hi⟩ c
      case zk =>
      refine Aw.join1 0 hE [(1, .sl cb .any (ints cs)), (2, .pt b.c), (8, .int s), (11, .pt m.c), (10, .int i), (7, .bool (cond o I1 false))] [(9, .int (if m.to = s then IntKind.i64.wrap (nv + c) else nv))] [] ⟨uc, ub, .s _, ump, .s _, .s _, trivial⟩ ⟨.s _, trivial⟩ trivial ?_ ?_
      · refine Aw.sm tab_ok mb0 [] rfl rfl ?zo ?zk
        case zo =>
          repeat' apply AllP.cons
          all_goals first | exact trivial | exact Nat.le_of_ble_eq_true rfl
        case zk =>
        have hoe : A.Le (.bool (cond o I1 false)) (.bool (cond (cond o I false) (wi c m.lo m.hi) false)) := .of_eq (congrArg A.bool (by rw [hin, hob]))
        refine Aw.cond rfl (fun h4 => ?_) (fun h4 => Aw.skip ?_)
        · have h4 : m.to = (s : Int) := by have h4 : (m.to == (s : Int)) = true := h4; simpa using h4
          rw [if_pos h4]
          refine Aw.em tab_ok mb0 [(3, [.int c]), (5, [.int (IntKind.i64.wrap (nv + c))])] rfl rfl ?zo ?zk
          case zo =>
            repeat' apply AllP.cons
            all_goals first | exact trivial | exact rfl | exact Nat.le_of_ble_eq_true rfl | exact Int.natCast_nonneg _ | exact hgc | exact add_wrap _ _ _ _
          case zk =>
          exact ⟨⟨.refl _, .refl _, .refl _, .refl _, .refl _, hoe, trivial⟩, ⟨.refl _, trivial⟩, trivial, Nat.le_of_ble_eq_true rfl⟩
        · have h4 : m.to ≠ (s : Int) := by have h4 : (m.to == (s : Int)) = false := h4; simpa using h4
          rw [if_neg h4]
          exact ⟨⟨.refl _, .refl _, .refl _, .refl _, .refl _, hoe, trivial⟩, ⟨.refl _, trivial⟩, trivial, Nat.le_of_ble_eq_true rfl⟩
      have hw : cond o I1 false = true → (if m.to = s then IntKind.i64.wrap (nv + c) else nv) = O + (if m.to = s then c else 0) := fun h => by
        obtain ⟨⟨h4, h5⟩, h6⟩ := hoc h
        split
        · rw [h4, wrap_in (by simp only [inR]; omega)]
        · omega
      generalize (if m.to = s then IntKind.i64.wrap (nv + c) else nv) = w at *
      refine Aw.sm tab_ok mb0 [] rfl rfl ?zo ?zk
      case zo =>
        repeat' apply AllP.cons
        all_goals first | exact trivial | exact Nat.le_of_ble_eq_true rfl
      case zk =>
      refine Aw.cond rfl (fun h4 => ?_) (fun h4 => Aw.skip ?_)
      · have h4 : m.fr = (s : Int) := by have h4 : (m.fr == (s : Int)) = true := h4; simpa using h4
        refine Aw.em tab_ok mb0 [(3, [.int c]), (5, [.int (IntKind.i64.wrap (w - c))])] rfl rfl ?zo ?zk
        case zo =>
          repeat' apply AllP.cons
          all_goals first | exact trivial | exact rfl | exact Nat.le_of_ble_eq_true rfl | exact Int.natCast_nonneg _ | exact hgc | exact sub_wrap _ _ _ _
        case zk =>
        refine Aw.em tab_ok mb0 [] rfl rfl ?zo ?zk
        case zo =>
          repeat' apply AllP.cons
          all_goals first | exact trivial | exact inrk i (by omega)
        case zk =>
        refine ⟨(i + 1, IntKind.i64.wrap (w - c)), ?zg, ?zm, ⟨?zc, ?zv, ?zh, Nat.le_of_ble_eq_true rfl⟩⟩
        case zg =>
          (repeat' (first | exact ⟨hlt2, fun h => (by show _ = ov (b.ms.take (i + 1)) (cs.take (i + 1)) s; rw [hO1, hot, if_pos h4]; have h5 := hoc (hI1 ▸ h); have h6 := hw (hI1 ▸ h); rw [if_neg (fun e => hmne (h4.trans e.symm))] at h6 ⊢; rw [wrap_in (by simp only [inR]; omega)]; omega)⟩))
        case zm =>
          (repeat' (first | omega))
        case zc =>
          (repeat' (first | (refine And.intro ?_ ?_) | exact trivial | exact A.Le.refl _))
        case zv =>
          (repeat' (first | (refine And.intro ?_ ?_) | exact trivial | exact A.Le.refl _ | exact .of_eq (show A.bool (cond o (inK b.ms cs (i + 1)) false) = A.bool (cond o I1 false) by rw [hI1])))
        case zh =>
          (repeat' (first | exact trivial))
      · have h4 : m.fr ≠ (s : Int) := by have h4 : (m.fr == (s : Int)) = false := h4; simpa using h4
        refine Aw.em tab_ok mb0 [] rfl rfl ?zo ?zk
        case zo =>
          repeat' apply AllP.cons
          all_goals first | exact trivial | exact inrk i (by omega)
        case zk =>
        refine ⟨(i + 1, w), ?zg, ?zm, ⟨?zc, ?zv, ?zh, Nat.le_of_ble_eq_true rfl⟩⟩
        case zg =>
          (repeat' (first | exact ⟨hlt2, fun h => (by show _ = ov (b.ms.take (i + 1)) (cs.take (i + 1)) s; rw [hO1, hot, if_neg h4]; have h6 := hw (hI1 ▸ h); omega)⟩))
        case zm =>
          (repeat' (first | omega))
        case zc =>
          (repeat' (first | (refine And.intro ?_ ?_) | exact trivial | exact A.Le.refl _))
        case zv =>
          (repeat' (first | (refine And.intro ?_ ?_) | exact trivial | exact A.Le.refl _ | exact .of_eq (show A.bool (cond o (inK b.ms cs (i + 1)) false) = A.bool (cond o I1 false) by rw [hI1])))
        case zh =>
          (repeat' (first | exact trivial))
    · have hle : i = b.ms.length := by have := of_decide_eq_false h3; omega
      subst hle
      have hA : inK b.ms cs b.ms.length = allIn b.ms cs := rfl
      rw [hA] at hnv ⊢
      rw [List.take_length, hcl, List.take_length] at hnv
      refine Aw.exit2 ?_
      refine Aw.em tab_ok mb0 [] rfl rfl ?zo ?zk
      case zo =>
        repeat' apply AllP.cons
        all_goals first | exact trivial | exact id | exact fun _ => rfl
      case zk =>
      refine Aw.em tab_ok mb0 [] rfl rfl ?zo ?zk
      case zo =>
        repeat' apply AllP.cons
        all_goals first | exact trivial | exact inrk s (by omega)
      case zk =>
      have hres : cond (cond o (allIn b.ms cs) false) (nv == 0) false = v1 := by
        rw [hoS]
        cases hc : cond o (allIn b.ms cs) false with
        | false => rfl
        | true => rw [hnv hc]
      refine ⟨s + 1, ?zg, ?zm, ⟨?zc, ?zv, ?zh, Nat.le_of_ble_eq_true rfl⟩⟩
      case zg =>
        (repeat' (first | assumption))
      case zm =>
        (repeat' (first | omega))
      case zc =>
        (repeat' (first | (refine And.intro ?_ ?_) | exact trivial | exact A.Le.refl _))
      case zv =>
        (repeat' (first | (refine And.intro ?_ ?_) | exact trivial | exact A.Le.refl _ | exact .of_eq (congrArg A.bool (hv1.trans hres.symm))))
      case zh =>
        (repeat' (first | exact trivial))
  have hle : s = b.n.toNat := by have := of_decide_eq_false h2; omega
  subst hle
  refine Aw.exit2 ?_
  refine Aw.sm tab_ok mb0 [] rfl rfl ?zo ?zk
  case zo =>
    repeat' apply AllP.cons
    all_goals first | exact trivial
  case zk =>
  exact Aw.ret ⟨_, .cons (.tmp _) (.cons (.tmp _) .nil), rfl⟩
end Go.Proofs.Ytampldajinhenaa

namespace Go.Proofs.Ytampldajinhenaa
open Go Go.AL Go.AL.Q Go.AL.Br
theorem grSp_le (l : List Sp) : A.Le (spW l) (grSp l) := by cases l <;> exact .any _ _ _
set_option maxHeartbeats 2000000 in
theorem rbalance_t (b : Book) (hbl : (b.ms.length : Int) ≤ 9223372036854775806) : Ans Try.prog 38 [.agg b.c] (.tup [spW (rBalanceR b).1, .int (rBalanceR b).2]) := by
  have hchk := rbook_chk b hbl
  have hfr : Free (.tup [spW (rBalanceR b).1, .int (rBalanceR b).2]) := .tup _ (allC (spW_free _) (all1 (.s _)))
  refine told Try.func38 rfl rfl (Pure.of tab_ok Try.func38 rfl Try.ntmps38 rfl (all1 (.agg _ b.free)) (all1 fun _ => rfl) hfr fun E hE => ?_)
  have h1e : ∀ id, 1 ≤ id → E.φ0 id = none := fun id _ => hE id (by omega)
  refine Aw.sm tab_ok mb0 [] rfl rfl ?zo ?zk
  case zo =>
    repeat' apply AllP.cons
    all_goals first | exact trivial
  case zk =>
  by_cases hbo : b.ok = true
  rotate_left
  · have e : rBalanceR b = ([], 63) := by unfold rBalanceR; rw [if_neg hbo]
    have e2 : b.chk = 63 := by unfold Book.chk; rw [if_neg hbo]
    rw [e2] at hchk
    rw [e]
    refine Aw.seq ?_
    refine Aw.sm tab_ok mb0 [(1, [.int 63])] rfl rfl ?zo ?zk
    case zo =>
      repeat' apply AllP.cons
      all_goals first | exact trivial | exact Nat.le_of_ble_eq_true rfl | exact hchk
    case zk =>
    refine Aw.sm tab_ok mb0 [] rfl rfl ?zo ?zk
    case zo =>
      repeat' apply AllP.cons
      all_goals first | exact trivial
    case zk =>
    refine Aw.cond rfl (fun h => ?_) (fun h => by cases h)
    refine Aw.sm tab_ok mb0 [] rfl rfl ?zo ?zk
    case zo =>
      repeat' apply AllP.cons
      all_goals first | exact trivial
    case zk =>
    refine Aw.keep (n := 0) (cst := [(2, .sl true .any []), (3, .int 63)]) (v := []) (Hl := []) hE ?zu ?zw ?zx ⟨?zc, ?zv, ?zh, Nat.le_of_ble_eq_true rfl⟩ ?zr
    case zu =>
      (repeat' (first | exact trivial | exact Under.s _ | exact (Free.sl _ _ _ (fun _ h => by cases h)).under | (refine And.intro ?_ ?_)))
    case zw =>
      (repeat' (first | exact trivial))
    case zx =>
      (repeat' (first | exact trivial))
    case zc =>
      (repeat' (first | (refine And.intro ?_ ?_) | exact trivial | exact A.Le.refl _ | exact A.Le.any _ _ _))
    case zv =>
      (repeat' (first | exact trivial))
    case zh =>
      (repeat' (first | exact trivial))
    case zr =>
    exact Aw.ret ⟨_, .cons (.tmp _) (.cons (.tmp _) .nil), rfl⟩
  have e2 : b.chk = 0 := by unfold Book.chk; rw [if_pos hbo]
  have hB := Book.ok_iff.1 hbo
  have hn := hB.n
  have hbl2 := hB.l
  rw [e2] at hchk
  refine Aw.seq ?_
  refine Aw.sm tab_ok mb0 [(1, [.int 0])] rfl rfl ?zo ?zk
  case zo =>
    repeat' apply AllP.cons
    all_goals first | exact trivial | exact Nat.le_of_ble_eq_true rfl | exact hchk
  case zk =>
  refine Aw.sm tab_ok mb0 [] rfl rfl ?zo ?zk
  case zo =>
    repeat' apply AllP.cons
    all_goals first | exact trivial
  case zk =>
  refine Aw.cond rfl (fun h => by cases h) (fun h => Aw.skip ?_)
  have hpr := rproof_t b hB
  refine Aw.seq ?_
  refine Aw.sm tab_ok mb0 [(1, [.int (proofS b.n b.ms)])] rfl rfl ?zo ?zk
  case zo =>
    repeat' apply AllP.cons
    all_goals first | exact trivial | exact Nat.le_of_ble_eq_true rfl | exact hpr
  case zk =>
  by_cases hpo : proofS b.n b.ms ≥ 0
  · have e : rBalanceR b = ([], 65) := by unfold rBalanceR; rw [if_pos hbo, if_pos hpo]
    rw [e]
    refine Aw.cond rfl (fun h => ?_) (fun h => absurd hpo (of_decide_eq_false h))
    refine Aw.sm tab_ok mb0 [] rfl rfl ?zo ?zk
    case zo =>
      repeat' apply AllP.cons
      all_goals first | exact trivial
    case zk =>
    refine Aw.keep (n := 0) (cst := [(2, .sl true .any []), (3, .int 65)]) (v := []) (Hl := []) hE ?zu ?zw ?zx ⟨?zc, ?zv, ?zh, Nat.le_of_ble_eq_true rfl⟩ ?zr
    case zu =>
      (repeat' (first | exact trivial | exact Under.s _ | exact (Free.sl _ _ _ (fun _ h => by cases h)).under | (refine And.intro ?_ ?_)))
    case zw =>
      (repeat' (first | exact trivial))
    case zx =>
      (repeat' (first | exact trivial))
    case zc =>
      (repeat' (first | (refine And.intro ?_ ?_) | exact trivial | exact A.Le.refl _ | exact A.Le.any _ _ _))
    case zv =>
      (repeat' (first | exact trivial))
    case zh =>
      (repeat' (first | exact trivial))
    case zr =>
    exact Aw.ret ⟨_, .cons (.tmp _) (.cons (.tmp _) .nil), rfl⟩
  have e : rBalanceR b = ((List.range b.ms.length).map (bdS b.n b.ms), 0) := by unfold rBalanceR; rw [if_pos hbo, if_neg hpo]
  rw [e]
  refine Aw.cond rfl (fun h => absurd (of_decide_eq_true h) hpo) (fun h => Aw.skip ?_)
  clear e hfr
  have lm : ((b.ms.map Mv.c).length : Int) = b.ms.length := by simp
  have ub : ∀ {n : Nat}, Under n (A.pt b.c) := (Free.pt _ b.free).under
  have hFS : ∀ k, (List.range (k + 1)).map (bdS b.n b.ms) = (List.range k).map (bdS b.n b.ms) ++ [bdS b.n b.ms k] := fun k => by rw [List.range_succ, List.map_append]; rfl
  have hFl : ∀ k, ((List.range k).map (bdS b.n b.ms)).length = k := fun k => by simp
  have hpow := pow_bd (n := b.n.toNat) (by omega)
  have hsh := shl_n (n := b.n.toNat) (by omega)
  have hpe : ((2 ^ b.n.toNat : Nat) : Int) = 2 ^ b.n.toNat := by push_cast; rfl
  refine Aw.sm tab_ok mb0 [] rfl rfl ?zo ?zk
  case zo =>
    repeat' apply AllP.cons
    all_goals first | exact trivial
  case zk =>
  refine Aw.seq ?_
  refine Aw.sm tab_ok mb0 [] rfl rfl ?zo ?zk
  case zo =>
    repeat' apply AllP.cons
    all_goals first | exact trivial
  case zk =>
  refine Aw.block (Aw.rounds 0 hE [(1, .pt b.c)] (fun i : Nat => [(5, grSp ((List.range i).map (bdS b.n b.ms))), (6, .int i)]) (fun i => []) (fun i => i ≤ b.ms.length) (fun i => b.ms.length - i) 0 ?zg ⟨?zc, ?zv, ?zh, Nat.le_of_ble_eq_true rfl⟩ ?zu (fun i zhk => ?zw) (fun i zhk => ?zx) fun i hk => ?zr)
  case zg =>
    (repeat' (first | exact Nat.zero_le _))
  case zc =>
    (repeat' (first | (refine And.intro ?_ ?_) | exact trivial | exact A.Le.refl _))
  case zv =>
    (repeat' (first | (refine And.intro ?_ ?_) | exact trivial | exact A.Le.refl _))
  case zh =>
    (repeat' (first | exact trivial))
  case zu =>
    (repeat' (first | exact trivial | exact ub | (refine And.intro ?_ ?_)))
  case zw =>
    (repeat' (first | exact trivial | exact Under.s _ | exact grSp_under _ | (refine And.intro ?_ ?_)))
  case zx =>
    (repeat' (first | exact trivial))
  case zr =>
  refine Aw.seq ?_
  refine Aw.sm tab_ok mb0 [] rfl rfl ?zo ?zk
  case zo =>
    repeat' apply AllP.cons
    all_goals first | exact trivial | exact Nat.le_of_ble_eq_true rfl
  case zk =>
  refine Aw.cond rfl (fun h1 => Aw.skip ?_) (fun h1 => ?_)
  · have hlt : i < b.ms.length := by have := of_decide_eq_true h1; omega
    have hSk := hFS i
    have hlk := hFl i
    have hg := mvk_at hlt
    have hmo := hB.m _ (mvk_mem hlt)
    generalize hF1 : (List.range (i + 1)).map (bdS b.n b.ms) = F1 at *
    generalize (List.range i).map (bdS b.n b.ms) = F at *
    have hb0 : bdK b.ms i 0 = ((mvk b.ms i).lo, (mvk b.ms i).hi) := rfl
    have hbs := fun k => show bdK b.ms i (k + 1) = bd2 b.ms i k (bd1 b.ms i k (bdK b.ms i k)) from rfl
    unfold bd1 bd2 at hbs
    have hbi := bdK_in hB.m hbl2.2 hlt
    have hmb := fun (set : Nat) => more_bd (set := (set : Int)) (wo := (i : Int)) hB.m hbl2.2
    have hmt := fun (set : Nat) => more_t b hB set i
    have hSi : bdS b.n b.ms i = ⟨(bdK b.ms i (2 ^ b.n.toNat)).1, (bdK b.ms i (2 ^ b.n.toNat)).2⟩ := rfl
    generalize bdS b.n b.ms i = S at *
    generalize bdK b.ms i = D at *
    generalize mvk b.ms i = m at *
    have ump : ∀ {n : Nat}, Under n (A.pt m.c) := (Free.pt _ m.free).under
    have ubx : ∀ (p : Int × Int) {n : Nat}, UnderB n (.cells [.int p.1, .int p.2]) := fun p n => .cells _ (allC (.s _) (all1 (.s _)))
    have hf := hmo.f
    have ht := hmo.t
    have hone : ∀ w ∈ [Sp.c S], w.length = 2 := sp_two [S]
    have hl1 : (F.map Sp.c).length ≤ 10 := by rw [List.length_map]; omega
    have hz := sp_two F
    have hSc0 : Sp.c S = [.int (D (2 ^ b.n.toNat)).1, .int (D (2 ^ b.n.toNat)).2] := by rw [hSi]; rfl
    rcases (show (grSp F = .sl true .exact [] ∧ F = []) ∨ grSp F = .sl false (.own 68) (F.map Sp.c) by cases F with | nil => exact .inl ⟨rfl, rfl⟩ | cons x t => exact .inr rfl) with ⟨hgr, hnl⟩ | hgr
    · have ugr : ∀ {n : Nat}, Under n (A.sl true .exact []) := fun {n} => hgr ▸ grSp_under F (n := n)
      rw [hgr]
      refine Aw.seq (Aw.block ?_)
      refine Aw.sm tab_ok mb0 [(3, m.c)] rfl rfl ?zo ?zk
      case zo =>
        repeat' apply AllP.cons
        all_goals first | exact trivial | exact rfl | exact Nat.le_of_ble_eq_true rfl | exact Int.natCast_nonneg _ | exact hg
      case zk =>
      refine Aw.freeze (id := 0) (t := 7) (cs := m.c) rfl rfl ?_
      refine Aw.keep (n := 0) (cst := [(1, .pt b.c), (5, .sl true .exact []), (6, .int i), (7, .pt m.c)]) (v := []) (Hl := []) hE ?zu ?zw ?zx ⟨?zc, ?zv, ?zh, Nat.le_of_ble_eq_true rfl⟩ ?zr
      case zu =>
        (repeat' (first | exact trivial | exact Under.s _ | exact ub | exact ugr | exact ump | (refine And.intro ?_ ?_)))
      case zw =>
        (repeat' (first | exact trivial))
      case zx =>
        (repeat' (first | exact trivial))
      case zc =>
        (repeat' (first | (refine And.intro ?_ ?_) | exact trivial | exact A.Le.refl _))
      case zv =>
        (repeat' (first | exact trivial))
      case zh =>
        (repeat' (first | exact trivial))
      case zr =>
      refine Aw.sm tab_ok mb0 [] rfl rfl ?zo ?zk
      case zo =>
        repeat' apply AllP.cons
        all_goals first | exact trivial | exact rfl | exact Nat.le_of_ble_eq_true rfl
      case zk =>
      refine Aw.seq ?_
      refine Aw.sm tab_ok mb0 [] rfl rfl ?zo ?zk
      case zo =>
        repeat' apply AllP.cons
        all_goals first | exact trivial
      case zk =>
      refine Aw.block (Aw.rounds 1 h1e [(1, .pt b.c), (5, .sl true .exact []), (6, .int i), (7, .pt m.c), (8, .ref 0 0)] (fun set : Nat => [(9, .int set)]) (fun set => [(0, .cells [.int (D set).1, .int (D set).2])]) (fun set => set ≤ 2 ^ b.n.toNat) (fun set => 2 ^ b.n.toNat - set) 0 ?zg ⟨?zc, ?zv, ?zh, Nat.le_of_ble_eq_true rfl⟩ ?zu (fun set zhk => ?zw) (fun set zhk => ?zx) fun set hk => ?zr)
      case zg =>
        (repeat' (first | exact Nat.zero_le _))
      case zc =>
        (repeat' (first | (refine And.intro ?_ ?_) | exact trivial | exact A.Le.refl _))
      case zv =>
        (repeat' (first | (refine And.intro ?_ ?_) | exact trivial | exact A.Le.refl _))
      case zh =>
        (repeat' (first | (refine And.intro ?_ ?_) | exact trivial | exact (by rw [hb0]; rfl)))
      case zu =>
        (repeat' (first | exact trivial | exact Under.s _ | exact Under.ref _ _ (by decide) | exact ub | exact ugr | exact ump | (refine And.intro ?_ ?_)))
      case zw =>
        (repeat' (first | exact trivial | exact Under.s _ | (refine And.intro ?_ ?_)))
      case zx =>
        (repeat' (first | exact trivial | exact Nat.le_of_ble_eq_true rfl | exact ubx _ | (refine And.intro ?_ ?_)))
      case zr =>
      refine Aw.seq ?_
      refine Aw.sm tab_ok mb0 [] rfl rfl ?zo ?zk
      case zo =>
        repeat' apply AllP.cons
        all_goals first | exact trivial | exact Nat.le_of_ble_eq_true rfl | exact (by simp only [Ob.of]; omega)
      case zk =>
      refine Aw.cond rfl (fun h2 => Aw.skip ?_) (fun h2 => ?_)
      · have h2 : decide ((set : Int) < IntKind.i64.wrap (1 * 2 ^ min b.n.toNat 64)) = true := h2
        rw [hsh] at h2
        have hlt2 : set < 2 ^ b.n.toNat := by have := of_decide_eq_true h2; omega
        have hst := hbs set
        have hpi := hbi set
        have hq := hmb set
        have hqt := hmt set
        generalize hD1 : D (set + 1) = D1 at *
        generalize D set = p at *
        generalize moreF (set : Int) (i : Int) b.ms = q at *
        obtain ⟨lo, hi⟩ := p
        obtain ⟨hp1, hp2⟩ := hpi
        simp only at hst hp1 hp2
        refine Aw.seq (Aw.block ?_)
        refine Aw.sd tab_ok mixed mb0 [(3, [.bool (bitB set m.fr)]), (7, [.bool (bitB set m.to)])] rfl (by kernel_rfl) rfl rfl ?zo ?zk
        case zo =>
          repeat' apply AllP.cons
          all_goals first | exact trivial | exact Nat.le_of_ble_eq_true rfl | exact bit_t _ _ hf.1 | exact bit_t _ _ ht.1
        case zk =>
        generalize bitB set m.fr = x at *
        generalize bitB set m.to = z at *
        have hmn := mnL_bd hp2 (show -10000 ≤ -q ∧ -q ≤ 10000 by omega)
        have hst2 : D1 = (if cond z (!x) false = true then mxL lo q else lo, if cond x (!z) false = true then mnL hi (-q) else hi) := by
          rw [hst]; cases x <;> cases z <;> rfl
        refine Aw.join1 1 h1e [(1, .pt b.c), (5, .sl true .exact []), (6, .int i), (7, .pt m.c), (8, .ref 0 0), (9, .int set), (10, .bool x), (11, .bool z)] [] [(0, .cells [.int lo, .int (if cond x (!z) false = true then mnL hi (-q) else hi)])] ⟨ub, ugr, .s _, ump, .ref _ _ (by decide), .s _, .s _, .s _, trivial⟩ trivial ⟨⟨by decide, ubx (lo, _)⟩, trivial⟩ ?_ ?_
        · refine Aw.sm tab_ok mb0 [] rfl rfl ?zo ?zk
          case zo =>
            repeat' apply AllP.cons
            all_goals first | exact trivial | exact id | exact fun _ => rfl
          case zk =>
          refine Aw.cond rfl (fun h4 => ?_) (fun h4 => Aw.skip ?_)
          · rw [if_pos h4]
            refine Aw.ed tab_ok mixed mb0 [(5, [.int q])] rfl (by kernel_rfl) rfl rfl ?zo ?zk
            case zo =>
              repeat' apply AllP.cons
              all_goals first | exact trivial | exact rfl | exact Nat.le_of_ble_eq_true rfl | exact hqt | exact (show inR (-q) by simp only [inR]; omega)
            case zk =>
            exact ⟨⟨.refl _, .refl _, .refl _, .refl _, .refl _, .refl _, .refl _, .refl _, trivial⟩, trivial, ⟨rfl, trivial⟩, Nat.le_of_ble_eq_true rfl⟩
          · rw [if_neg (by rw [show _ = false from h4]; decide)]
            exact ⟨⟨.refl _, .refl _, .refl _, .refl _, .refl _, .refl _, .refl _, .refl _, trivial⟩, trivial, ⟨rfl, trivial⟩, Nat.le_of_ble_eq_true rfl⟩
        generalize (if cond x (!z) false = true then mnL hi (-q) else hi) = hi2 at *
        refine Aw.sm tab_ok mb0 [] rfl rfl ?zo ?zk
        case zo =>
          repeat' apply AllP.cons
          all_goals first | exact trivial | exact id | exact fun _ => rfl
        case zk =>
        refine Aw.cond rfl (fun h4 => ?_) (fun h4 => Aw.skip ?_)
        · rw [if_pos h4] at hst2
          refine Aw.ed tab_ok mixed mb0 [(5, [.int q])] rfl (by kernel_rfl) rfl rfl ?zo ?zk
          case zo =>
            repeat' apply AllP.cons
            all_goals first | exact trivial | exact rfl | exact Nat.le_of_ble_eq_true rfl | exact hqt
          case zk =>
          refine Aw.em tab_ok mb0 [] rfl rfl ?zo ?zk
          case zo =>
            repeat' apply AllP.cons
            all_goals first | exact trivial | exact inrk set (by omega)
          case zk =>
          refine ⟨set + 1, ?zg, ?zm, ⟨?zc, ?zv, ?zh, Nat.le_of_ble_eq_true rfl⟩⟩
          case zg =>
            (repeat' (first | assumption))
          case zm =>
            (repeat' (first | omega))
          case zc =>
            (repeat' (first | (refine And.intro ?_ ?_) | exact trivial | exact A.Le.refl _))
          case zv =>
            (repeat' (first | (refine And.intro ?_ ?_) | exact trivial | exact A.Le.refl _))
          case zh =>
            (repeat' (first | (refine And.intro ?_ ?_) | exact trivial | exact (by rw [hD1, hst2]; rfl)))
        · rw [if_neg (by rw [show _ = false from h4]; decide)] at hst2
          refine Aw.em tab_ok mb0 [] rfl rfl ?zo ?zk
          case zo =>
            repeat' apply AllP.cons
            all_goals first | exact trivial | exact inrk set (by omega)
          case zk =>
          refine ⟨set + 1, ?zg, ?zm, ⟨?zc, ?zv, ?zh, Nat.le_of_ble_eq_true rfl⟩⟩
          case zg =>
            (repeat' (first | assumption))
          case zm =>
            (repeat' (first | omega))
          case zc =>
            (repeat' (first | (refine And.intro ?_ ?_) | exact trivial | exact A.Le.refl _))
          case zv =>
            (repeat' (first | (refine And.intro ?_ ?_) | exact trivial | exact A.Le.refl _))
          case zh =>
            (repeat' (first | (refine And.intro ?_ ?_) | exact trivial | exact (by rw [hD1, hst2]; rfl)))
      · have h2 : decide ((set : Int) < IntKind.i64.wrap (1 * 2 ^ min b.n.toNat 64)) = false := h2
        rw [hsh] at h2
        have hle : set = 2 ^ b.n.toNat := by have := of_decide_eq_false h2; omega
        subst hle
        refine Aw.exit2 ?_
        rw [← hSc0]
        refine Aw.em tab_ok mb0 [] rfl rfl ?zo ?zk
        case zo =>
          repeat' apply AllP.cons
          all_goals first | exact trivial | exact Nat.le_of_ble_eq_true rfl | exact hone
        case zk =>
        refine Aw.em tab_ok mb0 [] rfl rfl ?zo ?zk
        case zo =>
          repeat' apply AllP.cons
          all_goals first | exact trivial | exact inrk i (by omega)
        case zk =>
        refine ⟨i + 1, ?zg, ?zm, ⟨?zc, ?zv, ?zh, Nat.le_of_ble_eq_true rfl⟩⟩
        case zg =>
          (repeat' (first | assumption))
        case zm =>
          (repeat' (first | omega))
        case zc =>
          (repeat' (first | (refine And.intro ?_ ?_) | exact trivial | exact A.Le.refl _))
        case zv =>
          (repeat' (first | (refine And.intro ?_ ?_) | exact trivial | exact A.Le.refl _ | exact .of_eq (by rw [hF1, hSk, hnl]; rfl)))
        case zh =>
          (repeat' (first | exact trivial))
    · have ugr : ∀ {n : Nat}, Under n (A.sl false (.own 68) (F.map Sp.c)) := fun {n} => hgr ▸ grSp_under F (n := n)
      rw [hgr]
      refine Aw.seq (Aw.block ?_)
      refine Aw.sm tab_ok mb0 [(3, m.c)] rfl rfl ?zo ?zk
      case zo =>
        repeat' apply AllP.cons
        all_goals first | exact trivial | exact rfl | exact Nat.le_of_ble_eq_true rfl | exact Int.natCast_nonneg _ | exact hg
      case zk =>
      refine Aw.freeze (id := 0) (t := 7) (cs := m.c) rfl rfl ?_
      refine Aw.keep (n := 0) (cst := [(1, .pt b.c), (5, .sl false (.own 68) (F.map Sp.c)), (6, .int i), (7, .pt m.c)]) (v := []) (Hl := []) hE ?zu ?zw ?zx ⟨?zc, ?zv, ?zh, Nat.le_of_ble_eq_true rfl⟩ ?zr
      case zu =>
        (repeat' (first | exact trivial | exact Under.s _ | exact ub | exact ugr | exact ump | (refine And.intro ?_ ?_)))
      case zw =>
        (repeat' (first | exact trivial))
      case zx =>
        (repeat' (first | exact trivial))
      case zc =>
        (repeat' (first | (refine And.intro ?_ ?_) | exact trivial | exact A.Le.refl _))
      case zv =>
        (repeat' (first | exact trivial))
      case zh =>
        (repeat' (first | exact trivial))
      case zr =>
      refine Aw.sm tab_ok mb0 [] rfl rfl ?zo ?zk
      case zo =>
        repeat' apply AllP.cons
        all_goals first | exact trivial | exact rfl | exact Nat.le_of_ble_eq_true rfl
      case zk =>
      refine Aw.seq ?_
      refine Aw.sm tab_ok mb0 [] rfl rfl ?zo ?zk
      case zo =>
        repeat' apply AllP.cons
        all_goals first | exact trivial
      case zk =>
      refine Aw.block (Aw.rounds 1 h1e [(1, .pt b.c), (5, .sl false (.own 68) (F.map Sp.c)), (6, .int i), (7, .pt m.c), (8, .ref 0 0)] (fun set : Nat => [(9, .int set)]) (fun set => [(0, .cells [.int (D set).1, .int (D set).2])]) (fun set => set ≤ 2 ^ b.n.toNat) (fun set => 2 ^ b.n.toNat - set) 0 ?zg ⟨?zc, ?zv, ?zh, Nat.le_of_ble_eq_true rfl⟩ ?zu (fun set zhk => ?zw) (fun set zhk => ?zx) fun set hk => ?zr)
      case zg =>
        (repeat' (first | exact Nat.zero_le _))
      case zc =>
        (repeat' (first | (refine And.intro ?_ ?_) | exact trivial | exact A.Le.refl _))
      case zv =>
        (repeat' (first | (refine And.intro ?_ ?_) | exact trivial | exact A.Le.refl _))
      case zh =>
        (repeat' (first | (refine And.intro ?_ ?_) | exact trivial | exact (by rw [hb0]; rfl)))
      case zu =>
        (repeat' (first | exact trivial | exact Under.s _ | exact Under.ref _ _ (by decide) | exact ub | exact ugr | exact ump | (refine And.intro ?_ ?_)))
      case zw =>
        (repeat' (first | exact trivial | exact Under.s _ | (refine And.intro ?_ ?_)))
      case zx =>
        (repeat' (first | exact trivial | exact Nat.le_of_ble_eq_true rfl | exact ubx _ | (refine And.intro ?_ ?_)))
      case zr =>
      refine Aw.seq ?_
      refine Aw.sm tab_ok mb0 [] rfl rfl ?zo ?zk
      case zo =>
        repeat' apply AllP.cons
        all_goals first | exact trivial | exact Nat.le_of_ble_eq_true rfl | exact (by simp only [Ob.of]; omega)
      case zk =>
      refine Aw.cond rfl (fun h2 => Aw.skip ?_) (fun h2 => ?_)
      · have h2 : decide ((set : Int) < IntKind.i64.wrap (1 * 2 ^ min b.n.toNat 64)) = true := h2
        rw [hsh] at h2
        have hlt2 : set < 2 ^ b.n.toNat := by have := of_decide_eq_true h2; omega
        have hst := hbs set
        have hpi := hbi set
        have hq := hmb set
        have hqt := hmt set
        generalize hD1 : D (set + 1) = D1 at *
        generalize D set = p at *
        generalize moreF (set : Int) (i : Int) b.ms = q at *
        obtain ⟨lo, hi⟩ := p
        obtain ⟨hp1, hp2⟩ := hpi
        simp only at hst hp1 hp2
        refine Aw.seq (Aw.block ?_)
        refine Aw.sd tab_ok mixed mb0 [(3, [.bool (bitB set m.fr)]), (7, [.bool (bitB set m.to)])] rfl (by kernel_rfl) rfl rfl ?zo ?zk
        case zo =>
          repeat' apply AllP.cons
          all_goals first | exact trivial | exact Nat.le_of_ble_eq_true rfl | exact bit_t _ _ hf.1 | exact bit_t _ _ ht.1
        case zk =>
        generalize bitB set m.fr = x at *
        generalize bitB set m.to = z at *
        have hmn := mnL_bd hp2 (show -10000 ≤ -q ∧ -q ≤ 10000 by omega)
        have hst2 : D1 = (if cond z (!x) false = true then mxL lo q else lo, if cond x (!z) false = true then mnL hi (-q) else hi) := by
          rw [hst]; cases x <;> cases z <;> rfl
        refine Aw.join1 1 h1e [(1, .pt b.c), (5, .sl false (.own 68) (F.map Sp.c)), (6, .int i), (7, .pt m.c), (8, .ref 0 0), (9, .int set), (10, .bool x), (11, .bool z)] [] [(0, .cells [.int lo, .int (if cond x (!z) false = true then mnL hi (-q) else hi)])] ⟨ub, ugr, .s _, ump, .ref _ _ (by decide), .s _, .s _, .s _, trivial⟩ trivial ⟨⟨by decide, ubx (lo, _)⟩, trivial⟩ ?_ ?_
        · refine Aw.sm tab_ok mb0 [] rfl rfl ?zo ?zk
          case zo =>
            repeat' apply AllP.cons
            all_goals first | exact trivial | exact id | exact fun _ => rfl
          case zk =>
          refine Aw.cond rfl (fun h4 => ?_) (fun h4 => Aw.skip ?_)
          · rw [if_pos h4]
            refine Aw.ed tab_ok mixed mb0 [(5, [.int q])] rfl (by kernel_rfl) rfl rfl ?zo ?zk
            case zo =>
              repeat' apply AllP.cons
              all_goals first | exact trivial | exact rfl | exact Nat.le_of_ble_eq_true rfl | exact hqt | exact (show inR (-q) by simp only [inR]; omega)
            case zk =>
            exact ⟨⟨.refl _, .refl _, .refl _, .refl _, .refl _, .refl _, .refl _, .refl _, trivial⟩, trivial, ⟨rfl, trivial⟩, Nat.le_of_ble_eq_true rfl⟩
          · rw [if_neg (by rw [show _ = false from h4]; decide)]
            exact ⟨⟨.refl _, .refl _, .refl _, .refl _, .refl _, .refl _, .refl _, .refl _, trivial⟩, trivial, ⟨rfl, trivial⟩, Nat.le_of_ble_eq_true rfl⟩
        generalize (if cond x (!z) false = true then mnL hi (-q) else hi) = hi2 at *
        refine Aw.sm tab_ok mb0 [] rfl rfl ?zo ?zk
        case zo =>
          repeat' apply AllP.cons
          all_goals first | exact trivial | exact id | exact fun _ => rfl
        case zk =>
        refine Aw.cond rfl (fun h4 => ?_) (fun h4 => Aw.skip ?_)
        · rw [if_pos h4] at hst2
          refine Aw.ed tab_ok mixed mb0 [(5, [.int q])] rfl (by kernel_rfl) rfl rfl ?zo ?zk
          case zo =>
            repeat' apply AllP.cons
            all_goals first | exact trivial | exact rfl | exact Nat.le_of_ble_eq_true rfl | exact hqt
          case zk =>
          refine Aw.em tab_ok mb0 [] rfl rfl ?zo ?zk
          case zo =>
            repeat' apply AllP.cons
            all_goals first | exact trivial | exact inrk set (by omega)
          case zk =>
          refine ⟨set + 1, ?zg, ?zm, ⟨?zc, ?zv, ?zh, Nat.le_of_ble_eq_true rfl⟩⟩
          case zg =>
            (repeat' (first | assumption))
          case zm =>
            (repeat' (first | omega))
          case zc =>
            (repeat' (first | (refine And.intro ?_ ?_) | exact trivial | exact A.Le.refl _))
          case zv =>
            (repeat' (first | (refine And.intro ?_ ?_) | exact trivial | exact A.Le.refl _))
          case zh =>
            (repeat' (first | (refine And.intro ?_ ?_) | exact trivial | exact (by rw [hD1, hst2]; rfl)))
        · rw [if_neg (by rw [show _ = false from h4]; decide)] at hst2
          refine Aw.em tab_ok mb0 [] rfl rfl ?zo ?zk
          case zo =>
            repeat' apply AllP.cons
            all_goals first | exact trivial | exact inrk set (by omega)
          case zk =>
          refine ⟨set + 1, ?zg, ?zm, ⟨?zc, ?zv, ?zh, Nat.le_of_ble_eq_true rfl⟩⟩
          case zg =>
            (repeat' (first | assumption))
          case zm =>
            (repeat' (first | omega))
          case zc =>
            (repeat' (first | (refine And.intro ?_ ?_) | exact trivial | exact A.Le.refl _))
          case zv =>
            (repeat' (first | (refine And.intro ?_ ?_) | exact trivial | exact A.Le.refl _))
          case zh =>
            (repeat' (first | (refine And.intro ?_ ?_) | exact trivial | exact (by rw [hD1, hst2]; rfl)))
      · have h2 : decide ((set : Int) < IntKind.i64.wrap (1 * 2 ^ min b.n.toNat 64)) = false := h2
        rw [hsh] at h2
        have hle : set = 2 ^ b.n.toNat := by have := of_decide_eq_false h2; omega
        subst hle
        refine Aw.exit2 ?_
        rw [← hSc0]
        refine Aw.em tab_ok mb0 [] rfl rfl ?zo ?zk
        case zo =>
          repeat' apply AllP.cons
          all_goals first | exact trivial | exact Nat.le_of_ble_eq_true rfl | exact hone | exact hz | exact (show ((F.map Sp.c).length + 1) * 16 ≤ 140737488355328 by omega) | exact (show (F.map Sp.c).length + 1 ≤ maxLen by unfold maxLen; omega)
        case zk =>
        refine Aw.em tab_ok mb0 [] rfl rfl ?zo ?zk
        case zo =>
          repeat' apply AllP.cons
          all_goals first | exact trivial | exact inrk i (by omega)
        case zk =>
        refine ⟨i + 1, ?zg, ?zm, ⟨?zc, ?zv, ?zh, Nat.le_of_ble_eq_true rfl⟩⟩
        case zg =>
          (repeat' (first | assumption))
        case zm =>
          (repeat' (first | omega))
        case zc =>
          (repeat' (first | (refine And.intro ?_ ?_) | exact trivial | exact A.Le.refl _))
        case zv =>
          (repeat' (first | (refine And.intro ?_ ?_) | exact trivial | exact A.Le.refl _ | exact .of_eq (show grSp ((List.range (i + 1)).map (bdS b.n b.ms)) = A.sl false (.own 68) (F.map Sp.c ++ [Sp.c S]) by rw [hF1, hSk, grSp_ne (by simp)]; simp)))
        case zh =>
          (repeat' (first | exact trivial))
  have hle : i = b.ms.length := by have := of_decide_eq_false h1; omega
  subst hle
  refine Aw.exit2 ?_
  have hlen := hFl b.ms.length
  generalize (List.range b.ms.length).map (bdS b.n b.ms) = F at *
  refine Aw.keep (n := 0) (cst := [(5, spW F)]) (v := []) (Hl := []) hE ?zu ?zw ?zx ⟨?zc, ?zv, ?zh, Nat.le_of_ble_eq_true rfl⟩ ?zr
  case zu =>
    (repeat' (first | exact trivial | exact (spW_free F).under | (refine And.intro ?_ ?_)))
  case zw =>
    (repeat' (first | exact trivial))
  case zx =>
    (repeat' (first | exact trivial))
  case zc =>
    (repeat' (first | (refine And.intro ?_ ?_) | exact trivial | exact grSp_le F))
  case zv =>
    (repeat' (first | exact trivial))
  case zh =>
    (repeat' (first | exact trivial))
  case zr =>
  refine Aw.sm tab_ok mb0 [] rfl rfl ?zo ?zk
  case zo =>
    repeat' apply AllP.cons
    all_goals first | exact trivial
  case zk =>
  exact Aw.ret ⟨_, .cons (.tmp _) (.cons (.tmp _) .nil), rfl⟩
end Go.Proofs.Ytampldajinhenaa

namespace Go.Proofs.Ytampldajinhenaa
open Go Go.AL Go.AL.Q Go.AL.Br
theorem BalanceR_len (b : Book) : (BalanceR b).1.length ≤ 10 := by
  rw [balance_is]
  unfold rBalanceR
  by_cases hbo : b.ok = true
  · rw [if_pos hbo]
    split
    · exact Nat.zero_le _
    · have := (Book.ok_iff.1 hbo).l
      show ((List.range b.ms.length).map _).length ≤ 10
      rw [List.length_map, List.length_range]; omega
  · rw [if_neg hbo]; exact Nat.zero_le _
set_option maxHeartbeats 1000000 in
theorem books_l (b : Book) (cb : Bool) (cs : List Int) (hbl : (b.ms.length : Int) ≤ 9223372036854775806) (_ : (cs.length : Int) ≤ 9223372036854775806) : Ans Try.prog 6 [.agg b.c, .sl cb .any (ints cs)] (.bool true) := by
  have fc : Free (.sl cb .any (ints cs)) := free_ints _ _ _
  have c1 := counts_t b hbl cb cs
  have c2 := rcounts_t b hbl cb cs
  have c3 := book_chk b hbl
  have c4 := rbook_chk b hbl
  have c5 := Balance_w b hbl
  have c6 := rbalance_t b hbl
  rw [← balance_is] at c6
  have hl := BalanceR_len b
  generalize BalanceR b = P at *
  obtain ⟨L, e⟩ := P
  have c7 := sameSpans_t L.isEmpty L.isEmpty L L (by have hl : L.length ≤ 10 := hl; omega)
  rw [show (L == L) = true from by simp] at c7
  generalize CountsR b cs = R at *
  obtain ⟨r1, r2⟩ := R
  generalize b.chk = k at *
  refine told Try.func6 rfl rfl (Pure.of tab_ok Try.func6 rfl Try.ntmps6 rfl (allC (.agg _ b.free) (all1 (fc))) (allC (fun _ => rfl) (all1 (fun _ => rfl))) (by first | exact .s _ | assumption | exact .tup _ (by intro x hx; simp only [List.mem_cons, List.not_mem_nil, or_false] at hx; rcases hx with rfl | rfl | rfl | rfl <;> first | exact .s _ | (simp_all; done))) fun E hE => ?_)
  refine Aw.sm tab_ok mb0 [] rfl rfl ?zo ?zk
  case zo =>
    repeat' apply AllP.cons
    all_goals first | exact trivial
  case zk =>
  refine Aw.sm tab_ok mb0 [(2, [.tup [.bool r1, .int r2]])] rfl rfl ?zo ?zk
  case zo =>
    repeat' apply AllP.cons
    all_goals first | exact trivial | exact Nat.le_of_ble_eq_true rfl | exact c1
  case zk =>
  refine Aw.sm tab_ok mb0 [(2, [.tup [.bool r1, .int r2]])] rfl rfl ?zo ?zk
  case zo =>
    repeat' apply AllP.cons
    all_goals first | exact trivial | exact Nat.le_of_ble_eq_true rfl | exact c2
  case zk =>
  refine Aw.seq ?_
  refine Aw.sd tab_ok mixed mb0 [(10, [.int k]), (12, [.int k])] rfl (by kernel_rfl) rfl rfl ?zo ?zk
  case zo =>
    repeat' apply AllP.cons
    all_goals first | exact trivial | exact id | exact fun _ => rfl | exact fun _ => Nat.le_of_ble_eq_true rfl | exact gq_f | exact fun _ => c3 | exact fun _ => c4
  case zk =>
  refine Aw.cond rfl (fun h => absurd h (by show ¬ (cond (cond (r1 != r1) true (r2 != r2)) true (k != k)) = true; simp)) (fun h => Aw.skip ?_)
  refine Aw.sm tab_ok mb0 [(1, [.tup [spW L, .int e]])] rfl rfl ?zo ?zk
  case zo =>
    repeat' apply AllP.cons
    all_goals first | exact trivial | exact Nat.le_of_ble_eq_true rfl | exact c5
  case zk =>
  refine Aw.sm tab_ok mb0 [(1, [.tup [spW L, .int e]])] rfl rfl ?zo ?zk
  case zo =>
    repeat' apply AllP.cons
    all_goals first | exact trivial | exact Nat.le_of_ble_eq_true rfl | exact c6
  case zk =>
  refine Aw.sm tab_ok mb0 [(2, [.bool true]), (9, [.bool true])] rfl rfl ?zo ?zk
  case zo =>
    repeat' apply AllP.cons
    all_goals first | exact trivial | exact id | exact fun _ => rfl | exact fun _ => works_t | exact c7
  case zk =>
  exact Aw.ret ⟨_, .cons (.tmp _) .nil, by show A.bool (cond (cond true (e == e) false) true false) = A.bool true; simp⟩
end Go.Proofs.Ytampldajinhenaa

namespace Go.Proofs.Ytampldajinhenaa
open Go Go.AL Go.ChangeShapes Go.WideShapes Go.ChangeAt Go.RowKit
set_option maxRecDepth 100000 in
theorem barrelBooks_lifted (os : Os) (started : os.Started) (H : Type) (enc : TypeId × Value → H) :
    ReturnsInHanded {} Try.checked os 6 .any (Rows.barrelBooksSpec.pre6 enc Try.prog Try.f6 [] false) (Rows.barrelBooksSpec.post enc Try.prog Try.f6 false true false false) := by
  refine lifted2 (tb := 4) (C := Try.checked) own started (by kernel_rfl) Try.func6
    (ChangeSpec.witness6 (enc := enc) (C := Try.checked) false ⟨#[], #[.agg #[.int .i64 0, .slice none 0 0], .slice none 0 0], []⟩ 8 (by kernel_rfl) (by kernel_rfl) (by kernel_rfl) (by kernel_rfl))
    laidOut ?_ rfl rfl (by kernel_rfl) uBool ?_ ?_
  · rw [Try.params6]; exact all2t (p := fun t => Try.prog.readableRec t = true ∧ t < Try.prog.types.size) t49 t22
  · intro ds hd
    rw [Try.params6] at hd
    match ds, hd with
    | [d0, d1], _ => rfl
  · intro W base args ds p hval hA hwt
    rw [Try.params6] at hA hval
    obtain ⟨v0, v1, d0, d1, p0, p1, rfl, rfl, rfl, h0, h1⟩ := trodAll_two hA
    obtain ⟨y0, q0, s0⟩ := arg_book (φ := fun _ => none) (hval 0 49 v0 rfl rfl) h0 fun k hk => hwt k (List.mem_append.2 (.inl hk))
    obtain ⟨b1, y1, q1, s1⟩ := arg_ints (φ := fun _ => none) (hval 1 22 v1 rfl rfl) h1 fun k hk => hwt k (List.mem_append.2 (.inr (List.mem_append.2 (.inl hk))))
    exact ⟨_, _, vrs2 q0 q1, books_l y0 b1 y1 s0 s1⟩
theorem barrelBooks_holds : Rows.BarrelBooksSaid :=
  OpenClaim.holds_of_wide 6 Try.f6 rfl rfl rfl rfl rfl rfl rfl ⟨rfl, rfl, rfl, rfl, rfl⟩ rfl rfl rfl rfl rfl (by kernel_rfl) Try.func6 (by kernel_rfl)
    (of_decide_eq_true (by kernel_rfl)) (by unfold Func.isWrapper; first | (rw [if_pos (by decide +kernel)]; kernel_rfl) | (rw [if_neg (by decide +kernel)]; exact ⟨rfl, rfl⟩))
    (fun os started H enc _ => barrelBooks_lifted os started H enc)
end Go.Proofs.Ytampldajinhenaa

