/- BarrelTrue holds: counts that are true balance, and lie within what is returned; no set proves otherwise. No condition. -/
import Derived.Test.YtampldajinhenaaK6
set_option linter.all false
namespace Go.AL.Br
open Go Go.AL Go.AL.Q
def bitB (set k : Int) : Bool := bitV set k == 1
def mr1 (set wo : Int) (i : Nat) (m : Mv) (n : Int) : Int := if cond (cond ((i : Int) != wo) (bitB set m.fr) false) (!bitB set m.to) false then n + m.lo else n
def mr2 (set wo : Int) (i : Nat) (m : Mv) (n : Int) : Int := if cond (cond ((i : Int) != wo) (bitB set m.to) false) (!bitB set m.fr) false then n - m.hi else n
def mrStep (set wo : Int) (ms : List Mv) (n : Int) (i : Nat) : Int := mr2 set wo i (mvk ms i) (mr1 set wo i (mvk ms i) n)
def moreK (set wo : Int) (ms : List Mv) (k : Nat) : Int := (List.range k).foldl (mrStep set wo ms) 0
def moreF (set wo : Int) (ms : List Mv) : Int := moreK set wo ms ms.length
theorem moreK_succ (set wo : Int) (ms : List Mv) (k : Nat) : moreK set wo ms (k + 1) = mr2 set wo k (mvk ms k) (mr1 set wo k (mvk ms k) (moreK set wo ms k)) := by
  unfold moreK; rw [List.range_succ, List.foldl_append]; rfl
def prGo (ms : List Mv) : Nat → Nat → Int
  | 0, _ => -1
  | f + 1, s => if moreF s (-1) ms > 0 then s else prGo ms f (s + 1)
def proofS (n : Int) (ms : List Mv) : Int := prGo ms (2 ^ n.toNat) 0
theorem prGo_neg {ms : List Mv} : ∀ (f s : Nat), prGo ms f s < 0 ↔ ∀ t, s ≤ t → t < s + f → ¬ moreF t (-1) ms > 0
  | 0, s => ⟨fun _ t h1 h2 => by omega, fun _ => (show (-1 : Int) < 0 by decide)⟩
  | f + 1, s => by
    rw [prGo]
    have ih := prGo_neg (ms := ms) f (s + 1)
    split
    · rename_i h
      exact ⟨fun h1 => by omega, fun h1 => absurd h (h1 s (Nat.le_refl _) (by omega))⟩
    · rename_i h
      rw [ih]
      exact ⟨fun h1 t h2 h3 => by
        rcases Nat.eq_or_lt_of_le h2 with e | h4
        · exact e ▸ h
        · exact h1 t h4 (by omega), fun h1 t h2 h3 => h1 t (by omega) (by omega)⟩
def rProvesR (b : Book) (set : Int) : Bool × Int :=
  if b.ok then if wi set 0 (2 ^ b.n.toNat - 1) then (decide (moreF set (-1) b.ms > 0), 0) else (false, 64) else (false, 63)
end Go.AL.Br

namespace Go.AL.Br
open Go Go.AL Go.AL.Q
def sumN (f : Nat → Int) : Nat → Int
  | 0 => 0
  | n + 1 => sumN f n + f n
def ifc (b : Bool) (c : Int) : Int := if b then c else 0
def flK (q : Int → Bool) (ms : List Mv) (cs : List Int) : Nat → Int
  | 0 => 0
  | k + 1 => flK q ms cs k + ifc (q (mvk ms k).to) (cs.getD k 0) - ifc (q (mvk ms k).fr) (cs.getD k 0)
theorem ov_flK {ms : List Mv} {cs : List Int} (hl : ms.length = cs.length) (s : Int) : ∀ k, k ≤ ms.length → ov (ms.take k) (cs.take k) s = flK (fun t => decide (t = s)) ms cs k
  | 0, _ => by simp [ov, flK]
  | k + 1, hk => by
    have h1 : k < ms.length := by omega
    have h2 : k < cs.length := by omega
    have ih := ov_flK hl s k (by omega)
    rw [List.take_succ_eq_append_getElem h1, List.take_succ_eq_append_getElem h2, ov_snoc _ _ _ (by rw [List.length_take, List.length_take]; omega), ih, flK, mvk_get h1]
    have e : cs.getD k 0 = cs[k] := by simp [List.getD_eq_getElem?_getD, h2]
    rw [e]
    unfold ifc
    simp only [decide_eq_true_eq]
theorem ov_fl {ms : List Mv} {cs : List Int} (hl : ms.length = cs.length) (s : Int) : ov ms cs s = flK (fun t => decide (t = s)) ms cs ms.length := by
  have := ov_flK hl s ms.length (Nat.le_refl _)
  rwa [List.take_length, hl, List.take_length, ← hl] at this
theorem sum_step (q : Int → Bool) (X : Nat → Int) (to fr c : Int) : ∀ n : Nat, sumN (fun s => ifc (q s) (X s + ifc (decide (to = (s : Int))) c - ifc (decide (fr = (s : Int))) c)) n = sumN (fun s => ifc (q s) (X s)) n + ifc (decide (0 ≤ to ∧ to < n) && q to) c - ifc (decide (0 ≤ fr ∧ fr < n) && q fr) c
  | 0 => by
    have h1 : ∀ t : Int, decide (0 ≤ t ∧ t < ((0 : Nat) : Int)) = false := fun t => decide_eq_false (by omega)
    rw [h1, h1]; simp [sumN, ifc]
  | n + 1 => by
    have ih := sum_step q X to fr c n
    have key : ∀ t : Int, ifc (decide (0 ≤ t ∧ t < ((n + 1 : Nat) : Int)) && q t) c = ifc (decide (0 ≤ t ∧ t < (n : Int)) && q t) c + ifc (decide (t = (n : Int)) && q n) c := fun t => by
      by_cases e : t = (n : Int)
      · subst e
        rw [decide_eq_true (show 0 ≤ (n : Int) ∧ (n : Int) < ((n + 1 : Nat) : Int) by omega), decide_eq_false (show ¬ (0 ≤ (n : Int) ∧ (n : Int) < (n : Int)) by omega), decide_eq_true rfl]
        simp [ifc]
      · rw [decide_eq_false e]
        by_cases h : 0 ≤ t ∧ t < (n : Int)
        · rw [decide_eq_true h, decide_eq_true (show 0 ≤ t ∧ t < ((n + 1 : Nat) : Int) by omega)]; simp [ifc]
        · rw [decide_eq_false h, decide_eq_false (show ¬ (0 ≤ t ∧ t < ((n + 1 : Nat) : Int)) by omega)]; simp [ifc]
    rw [sumN, sumN, ih, key to, key fr]
    by_cases hq : q n = true
    · rw [hq]; simp only [Bool.and_true]
      show _ + (X n + ifc (decide (to = n)) c - ifc (decide (fr = n)) c) = _ + X n + _ - _
      generalize ifc (decide (to = n)) c = u
      generalize ifc (decide (fr = n)) c = v
      show _ = _
      omega
    · have hq : q n = false := by simpa using hq
      rw [hq]; simp [ifc]
theorem sum_fl {n : Nat} {q : Int → Bool} {ms : List Mv} {cs : List Int} (h : ∀ m ∈ ms, (0 ≤ m.fr ∧ m.fr < n) ∧ 0 ≤ m.to ∧ m.to < n) : ∀ k, k ≤ ms.length → sumN (fun s => ifc (q s) (flK (fun t => decide (t = (s : Int))) ms cs k)) n = flK q ms cs k
  | 0, _ => by
    have : ∀ n, sumN (fun s => ifc (q s) (flK (fun t => decide (t = (s : Int))) ms cs 0)) n = 0 := by
      intro n
      induction n with
      | zero => rfl
      | succ n ih => rw [sumN, ih]; unfold ifc flK; split <;> rfl
    exact this n
  | k + 1, hk => by
    have ih := sum_fl h k (by omega) (q := q) (cs := cs)
    have hm := h _ (mvk_mem (show k < ms.length by omega))
    have := sum_step q (fun s => flK (fun t => decide (t = (s : Int))) ms cs k) (mvk ms k).to (mvk ms k).fr (cs.getD k 0) n
    rw [ih, decide_eq_true hm.1, decide_eq_true hm.2, Bool.true_and, Bool.true_and] at this
    exact this
theorem sum_cut {n : Int} (hn : 0 ≤ n) {q : Int → Bool} {ms : List Mv} {cs : List Int} (hl : ms.length = cs.length) (h : ∀ m ∈ ms, m.Ok n) : sumN (fun s => ifc (q s) (ov ms cs s)) n.toNat = flK q ms cs ms.length := by
  have e : (fun s : Nat => ifc (q s) (ov ms cs s)) = fun s : Nat => ifc (q s) (flK (fun t => decide (t = (s : Int))) ms cs ms.length) := funext fun s => by rw [ov_fl hl]
  rw [e]
  refine sum_fl (fun m hm => ?_) ms.length (Nat.le_refl _)
  have h1 := (h m hm).f
  have h2 := (h m hm).t
  omega
theorem flK_true (ms : List Mv) (cs : List Int) : ∀ k, flK (fun _ => true) ms cs k = 0
  | 0 => rfl
  | k + 1 => by rw [flK, flK_true ms cs k]; simp [ifc]
theorem sumN_neg {f : Nat → Int} : ∀ {n : Nat}, (∀ i, i < n → f i ≤ 0) → sumN f n ≤ 0
  | 0, _ => Int.le_refl _
  | n + 1, h => by
    have := sumN_neg (f := f) (n := n) fun i hi => h i (by omega)
    have := h n (by omega)
    rw [sumN]; omega
theorem sumN_zero {f : Nat → Int} : ∀ {n : Nat}, (∀ i, i < n → f i ≤ 0) → sumN f n = 0 → ∀ i, i < n → f i = 0
  | 0, _, _, i, hi => by omega
  | n + 1, h, e, i, hi => by
    rw [sumN] at e
    have h1 := sumN_neg (f := f) (n := n) fun i hi => h i (by omega)
    have h2 := h n (by omega)
    rcases Nat.lt_succ_iff_lt_or_eq.1 hi with h3 | rfl
    · exact sumN_zero (fun i hi => h i (by omega)) (by omega) i h3
    · omega
theorem sumN_pos {f : Nat → Int} : ∀ {n : Nat}, (∀ i, i < n → 0 ≤ f i) → ∀ i, i < n → f i ≤ sumN f n
  | 0, _, i, hi => by omega
  | n + 1, h, i, hi => by
    have h0 : ∀ m, m ≤ n → 0 ≤ sumN f m := by
      intro m
      induction m with
      | zero => intro _; exact Int.le_refl _
      | succ m ih => intro hm; rw [sumN]; have := ih (by omega); have := h m (by omega); omega
    rw [sumN]
    rcases Nat.lt_succ_iff_lt_or_eq.1 hi with h3 | rfl
    · have := sumN_pos (f := f) (n := n) (fun i hi => h i (by omega)) i h3
      have := h n (by omega)
      omega
    · have := h0 i (Nat.le_refl _)
      omega
theorem sumN_split {q : Int → Bool} {X : Nat → Int} : ∀ n : Nat, sumN (fun s => ifc (q s) (X s)) n + sumN (fun s => ifc (!q s) (X s)) n = sumN (fun s => ifc true (X s)) n
  | 0 => rfl
  | n + 1 => by
    have ih := sumN_split (q := q) (X := X) n
    simp only [sumN]
    cases q n <;> simp [ifc] at ih ⊢ <;> omega
def cutK (q : Int → Bool) (ms : List Mv) : Nat → Int
  | 0 => 0
  | k + 1 => cutK q ms k + ifc (q (mvk ms k).fr && !q (mvk ms k).to) (mvk ms k).lo - ifc (q (mvk ms k).to && !q (mvk ms k).fr) (mvk ms k).hi
theorem more_cut (set : Int) (ms : List Mv) : ∀ k, moreK set (-1) ms k = cutK (bitB set) ms k
  | 0 => rfl
  | k + 1 => by
    rw [moreK_succ, more_cut set ms k, cutK]
    have e : ((k : Int) != -1) = true := by simp
    unfold mr2 mr1
    rw [e]
    cases bitB set (mvk ms k).fr <;> cases bitB set (mvk ms k).to <;> simp [ifc]
theorem cut_le {q : Int → Bool} {ms : List Mv} {cs : List Int} (hf : Feas ms cs) : ∀ k, k ≤ ms.length → cutK q ms k ≤ - flK q ms cs k
  | 0, _ => by simp [cutK, flK]
  | k + 1, hk => by
    have ih := cut_le (q := q) hf k (by omega)
    have hb := hf.b k (by omega)
    rw [cutK, flK]
    generalize cs.getD k 0 = c at *
    cases q (mvk ms k).fr <;> cases q (mvk ms k).to <;> simp [ifc] <;> omega
theorem cut_eq {q : Int → Bool} {ms : List Mv} {cs : List Int} (h : ∀ k, k < ms.length → (q (mvk ms k).fr = true → q (mvk ms k).to = false → cs.getD k 0 = (mvk ms k).lo) ∧ (q (mvk ms k).to = true → q (mvk ms k).fr = false → cs.getD k 0 = (mvk ms k).hi)) : ∀ k, k ≤ ms.length → cutK q ms k = - flK q ms cs k
  | 0, _ => by simp [cutK, flK]
  | k + 1, hk => by
    have ih := cut_eq (q := q) h k (by omega)
    have hb := h k (by omega)
    rw [cutK, flK]
    generalize cs.getD k 0 = c at *
    cases h1 : q (mvk ms k).fr <;> cases h2 : q (mvk ms k).to <;> simp [ifc]
    · omega
    · have := hb.2 h2 h1; omega
    · have := hb.1 h1 h2; omega
    · omega
theorem feas_more {n : Int} (hn : 2 ≤ n ∧ n ≤ 6) {ms : List Mv} (hms : ∀ m ∈ ms, m.Ok n) {cs : List Int} (hf : Feas ms cs) (hz : ∀ s : Nat, s < n.toNat → ov ms cs s = 0) (set : Int) : moreF set (-1) ms ≤ 0 := by
  unfold moreF
  rw [more_cut]
  have h1 := cut_le (q := bitB set) hf ms.length (Nat.le_refl _)
  have h2 := sum_cut (n := n) (by omega) (q := bitB set) hf.l hms
  have h3 : sumN (fun s => ifc (bitB set s) (ov ms cs s)) n.toNat = 0 := by
    have : ∀ m, m ≤ n.toNat → sumN (fun s => ifc (bitB set s) (ov ms cs s)) m = 0 := by
      intro m
      induction m with
      | zero => intro _; rfl
      | succ m ih => intro hm; rw [sumN, ih (by omega), hz m (by omega)]; unfold ifc; split <;> rfl
    exact this _ (Nat.le_refl _)
  omega
theorem fin_zero {n : Int} (hn : 2 ≤ n ∧ n ≤ 6) {ms : List Mv} (hms : ∀ m ∈ ms, m.Ok n) {cs : List Int} (hf : Feas ms cs) (h : ∀ s : Nat, s < n.toNat → ov ms cs s ≤ 0) : ∀ s : Nat, s < n.toNat → ov ms cs s = 0 := by
  have h2 := sum_cut (n := n) (by omega) (q := fun _ => true) hf.l hms
  rw [flK_true] at h2
  have := sumN_zero (f := fun s : Nat => ifc true (ov ms cs s)) (n := n.toNat) (fun i hi => by show ifc true (ov ms cs i) ≤ 0; unfold ifc; rw [if_pos rfl]; exact h i hi) h2
  intro s hs
  have := this s hs
  unfold ifc at this
  rwa [if_pos rfl] at this
theorem negGo_none {ms : List Mv} {cs L : List Int} {a : Int} : ∀ (ss : List Nat) (rch : List Int), (negGo ms cs L a ss rch).1 = none →
    (∀ s ∈ ss, L.getD s 0 < 0 → (wayW ms cs a s (-1)).1 = none) ∧ ((∀ s ∈ ss, ¬ L.getD s 0 < 0) ∧ (negGo ms cs L a ss rch).2 = rch ∨ ∃ s ∈ ss, L.getD s 0 < 0 ∧ (negGo ms cs L a ss rch).2 = (wayW ms cs a s (-1)).2)
  | [], rch, _ => ⟨fun s h => (by cases h), .inl ⟨fun s h => (by cases h), rfl⟩⟩
  | s :: ss, rch, h => by
    rw [negGo] at h ⊢
    by_cases h1 : L.getD s 0 ≥ 0
    · rw [if_pos h1] at h ⊢
      obtain ⟨k1, k2⟩ := negGo_none ss rch h
      refine ⟨fun t ht hn => ?_, ?_⟩
      · rcases List.mem_cons.1 ht with rfl | ht
        · omega
        · exact k1 t ht hn
      · rcases k2 with ⟨k2, k3⟩ | ⟨t, ht, k2, k3⟩
        · refine .inl ⟨fun t ht => ?_, k3⟩
          rcases List.mem_cons.1 ht with rfl | ht
          · omega
          · exact k2 t ht
        · exact .inr ⟨t, List.mem_cons_of_mem _ ht, k2, k3⟩
    · rw [if_neg h1] at h ⊢
      cases hw : (wayW ms cs a s (-1)).1 with
      | some l => rw [hw] at h; cases h
      | none =>
        rw [hw] at h
        simp only at h ⊢
        obtain ⟨k1, k2⟩ := negGo_none ss _ h
        refine ⟨fun t ht hn => ?_, ?_⟩
        · rcases List.mem_cons.1 ht with rfl | ht
          · exact hw
          · exact k1 t ht hn
        · rcases k2 with ⟨k2, k3⟩ | ⟨t, ht, k2, k3⟩
          · exact .inr ⟨s, List.mem_cons_self .., by omega, k3⟩
          · exact .inr ⟨t, List.mem_cons_of_mem _ ht, k2, k3⟩
theorem stuck_more {n : Int} (hn : 2 ≤ n ∧ n ≤ 6) {ms : List Mv} (hms : ∀ m ∈ ms, m.Ok n) {cs : List Int} (hf : Feas ms cs) {a : Nat} (ha : firstPos (ovL n ms cs) = some a)
    (hg : (negGo ms cs (ovL n ms cs) a (List.range n.toNat) []).1 = none) {set : Int} (hs : ∀ s : Nat, s < n.toNat → bitB set s = !(negGo ms cs (ovL n ms cs) a (List.range n.toNat) []).2.contains (s : Int)) : moreF set (-1) ms > 0 := by
  obtain ⟨h1, h2⟩ := firstPos_some ha
  rw [ovL_len] at h1
  have gL : ∀ s : Nat, s < n.toNat → (ovL n ms cs).getD s 0 = ov ms cs s := fun s hs => by
    have := ovL_get (n := n) (ms := ms) (cs := cs) (s := (s : Int)) (by omega)
    rwa [Int.toNat_natCast] at this
  rw [gL a h1] at h2
  obtain ⟨k1, k2⟩ := negGo_none _ _ hg
  have hain : 0 ≤ (a : Int) ∧ (a : Int) < n := by omega
  have hw : ∀ s : Nat, s < n.toNat → ov ms cs s < 0 → WayIs n ms cs a s (-1) ∧ (wayW ms cs a s (-1)).1 = none := fun s hs hneg =>
    ⟨way_is hn hms hf (fr := (a : Int)) (to := (s : Int)) (wo := -1) hain (fun e => by rw [e] at h2; omega), k1 s (List.mem_range.2 hs) (by rw [gL s hs]; exact hneg)⟩
  rcases k2 with ⟨k2, _⟩ | ⟨t, ht, k2, k3⟩
  · exfalso
    have hz : ∀ s : Nat, s < n.toNat → 0 ≤ ov ms cs s := fun s hs => by
      have := k2 s (List.mem_range.2 hs)
      rw [gL s hs] at this; omega
    have h3 := sum_cut (n := n) (by omega) (q := fun _ => true) hf.l hms
    rw [flK_true] at h3
    have h4 := sumN_pos (f := fun s : Nat => ifc true (ov ms cs s)) (n := n.toNat) (fun i hi => by show 0 ≤ ifc true (ov ms cs i); unfold ifc; rw [if_pos rfl]; exact hz i hi) a h1
    have h5 : ifc true (ov ms cs a) = ov ms cs a := by unfold ifc; rw [if_pos rfl]
    rw [h5] at h4
    omega
  · have ht := List.mem_range.1 ht
    rw [gL t ht] at k2
    rw [k3] at hs
    obtain ⟨wt, wn⟩ := hw t ht k2
    have hcl := (wt.not wn).2
    have hno : ∀ s : Nat, s < n.toNat → ov ms cs s < 0 → (s : Int) ∉ (wayW ms cs a t (-1)).2 := fun s hs hneg hin => by
      obtain ⟨ws, wsn⟩ := hw s hs hneg
      have hc := ws.not wsn
      have := wt.min (fun x => x ∈ (wayW ms cs a s (-1)).2) (fun x hx => hc.2 x hx) ws.fr' s hin
      exact hc.1 this
    have hfr := wt.fr'
    generalize (wayW ms cs a t (-1)).2 = rch at *
    have hbq : ∀ s : Int, 0 ≤ s ∧ s < n → (bitB set s = false ↔ s ∈ rch) := fun s h => by
      have := hs s.toNat (by omega)
      rw [show ((s.toNat : Nat) : Int) = s by omega] at this
      rw [this, Bool.not_eq_false', List.contains_iff_mem]
    unfold moreF
    rw [more_cut, cut_eq (q := bitB set) (cs := cs) (fun k hk => ?_) ms.length (Nat.le_refl _)]
    rotate_left
    · have hmo := hms _ (mvk_mem hk)
      have hb := hf.b k hk
      have hfi := hmo.f
      have hti := hmo.t
      refine ⟨fun x1 x2 => ?_, fun x1 x2 => ?_⟩
      · have y2 := (hbq _ hti).1 x2
        have y1 : (mvk ms k).fr ∉ rch := fun h => by have := (hbq _ hfi).2 h; rw [x1] at this; cases this
        have := hcl _ y2 k hk
        refine Classical.byContradiction fun hne => y1 ?_
        have h9 := this ⟨by omega, .inr ⟨rfl, by omega⟩⟩
        unfold nxS at h9
        rwa [if_pos rfl] at h9
      · have y2 := (hbq _ hfi).1 x2
        have y1 : (mvk ms k).to ∉ rch := fun h => by have := (hbq _ hti).2 h; rw [x1] at this; cases this
        have := hcl _ y2 k hk
        refine Classical.byContradiction fun hne => y1 ?_
        have h9 := this ⟨by omega, .inl ⟨rfl, by omega⟩⟩
        unfold nxS at h9
        rwa [if_neg hmo.ne] at h9
    · have h3 := sum_cut (n := n) (by omega) (q := bitB set) hf.l hms
      have h4 := sum_cut (n := n) (by omega) (q := fun _ => true) hf.l hms
      rw [flK_true] at h4
      have h5 := sumN_split (q := bitB set) (X := fun s => ov ms cs s) n.toNat
      have h6 := sumN_pos (f := fun s : Nat => ifc (!bitB set s) (ov ms cs s)) (n := n.toNat) (fun i hi => by
        show 0 ≤ ifc (!bitB set i) (ov ms cs i)
        unfold ifc
        split
        · rename_i hb
          have hb : bitB set i = false := by simpa using hb
          have h7 := (hbq i (by omega)).1 hb
          by_cases h8 : ov ms cs i < 0
          · exact absurd h7 (hno i hi h8)
          · omega
        · exact Int.le_refl _) a h1
      have h7 : bitB set a = false := (hbq a hain).2 hfr
      have h8 : ifc (!bitB set a) (ov ms cs a) = ov ms cs a := by rw [h7]; rfl
      rw [h8] at h6
      have h5' : sumN (fun s => ifc (bitB set s) (ov ms cs s)) n.toNat + sumN (fun s => ifc (!bitB set s) (ov ms cs s)) n.toNat = sumN (fun s => ifc true (ov ms cs s)) n.toNat := h5
      omega
end Go.AL.Br

namespace Go.AL.Br
open Go Go.AL Go.AL.Q
theorem bits : ∀ k : Nat, k < 6 → ∀ p : Nat, p < 2 ^ k → (∀ i : Nat, i < k → bitV ((p : Int) + 2 ^ k) i = bitV p i) ∧ bitV ((p : Int) + 2 ^ k) k = 1 ∧ bitV p k = 0 := by decide +kernel
theorem bit01 : ∀ p : Nat, p < 64 → ∀ i : Nat, i < 6 → bitV p i = 0 ∨ bitV p i = 1 := by decide +kernel
def prStep' (rch : List Int) (p : Int) (s : Nat) : Int := if rch.contains (s : Int) then p else p + 2 ^ s
theorem prf_bits (rch : List Int) : ∀ k : Nat, k ≤ 6 → ∃ p : Nat, (List.range k).foldl (prStep' rch) 0 = p ∧ p < 2 ^ k ∧ ∀ s : Nat, s < k → bitB p s = !rch.contains (s : Int)
  | 0, _ => ⟨0, rfl, by decide, fun s h => by omega⟩
  | k + 1, h => by
    obtain ⟨p, e, hp, hb⟩ := prf_bits rch k (by omega)
    obtain ⟨h1, h2, h3⟩ := bits k (by omega) p hp
    have hpow : 2 ^ (k + 1) = 2 ^ k * 2 := Nat.pow_succ ..
    rw [List.range_succ, List.foldl_append, e]
    by_cases hc : rch.contains (k : Int) = true
    · refine ⟨p, by show prStep' rch p k = p; unfold prStep'; rw [if_pos hc], by omega, fun s hs => ?_⟩
      rcases Nat.lt_succ_iff_lt_or_eq.1 hs with h4 | rfl
      · exact hb s h4
      · rw [hc]; unfold bitB; rw [h3]; rfl
    · refine ⟨p + 2 ^ k, by show prStep' rch p k = _; unfold prStep'; rw [if_neg hc]; push_cast; rfl, by omega, fun s hs => ?_⟩
      have ec : ((p + 2 ^ k : Nat) : Int) = (p : Int) + 2 ^ k := by push_cast; rfl
      rw [ec]
      rcases Nat.lt_succ_iff_lt_or_eq.1 hs with h4 | rfl
      · have := hb s h4
        unfold bitB at this ⊢
        rw [h1 s h4]; exact this
      · have hc : rch.contains (s : Int) = false := by simpa using hc
        rw [hc]; unfold bitB; rw [h2]; rfl
theorem balF_none {n : Int} (hn : 2 ≤ n ∧ n ≤ 6) {ms : List Mv} (hms : ∀ m ∈ ms, m.Ok n) : ∀ (f : Nat) (cs : List Int), Feas ms cs → phi n ms cs < f → (balF n ms f cs).1 = none → moreF (balF n ms f cs).2 (-1) ms > 0 ∧ 0 ≤ (balF n ms f cs).2 ∧ (balF n ms f cs).2 < 2 ^ n.toNat
  | 0, cs, hf, hp, h => by omega
  | f + 1, cs, hf, hp, h => by
    rw [balF] at h ⊢
    cases hfp : firstPos (ovL n ms cs) with
    | none => rw [hfp] at h; cases h
    | some a =>
      rw [hfp] at h
      simp only at h ⊢
      cases hg : (negGo ms cs (ovL n ms cs) a (List.range n.toNat) []).1 with
      | some l =>
        rw [hg] at h
        simp only at h ⊢
        have hst := bal_step hn hms hf hfp hg
        exact balF_none hn hms f _ hst.1 (by omega) h
      | none =>
        simp only
        obtain ⟨p, e, hp2, hb⟩ := prf_bits (negGo ms cs (ovL n ms cs) a (List.range n.toNat) []).2 n.toNat (by omega)
        have e2 : prfV n (negGo ms cs (ovL n ms cs) a (List.range n.toNat) []).2 = p := e
        rw [e2]
        refine ⟨stuck_more hn hms hf hfp hg hb, by omega, ?_⟩
        have : ((2 ^ n.toNat : Nat) : Int) = 2 ^ n.toNat := by push_cast; rfl
        omega
theorem balF_some {n : Int} (hn : 2 ≤ n ∧ n ≤ 6) {ms : List Mv} (hms : ∀ m ∈ ms, m.Ok n) : ∀ (f : Nat) (cs : List Int), Feas ms cs → ∀ l, (balF n ms f cs).1 = some l → Feas ms l ∧ ∀ s : Nat, s < n.toNat → ov ms l s = 0
  | 0, cs, hf, l, h => by cases h
  | f + 1, cs, hf, l, h => by
    rw [balF] at h
    cases hp : firstPos (ovL n ms cs) with
    | none =>
      rw [hp] at h
      have h : some cs = some l := h
      cases h
      refine ⟨hf, fin_zero hn hms hf fun s hs => ?_⟩
      have h1 := List.findIdx?_eq_none_iff.1 hp
      have h2 := ovL_get (n := n) (ms := ms) (cs := cs) (s := (s : Int)) (by omega)
      rw [Int.toNat_natCast] at h2
      have hl := ovL_len n ms cs
      have e : (ovL n ms cs).getD s 0 = (ovL n ms cs)[s]'(by omega) := by simp [List.getD_eq_getElem?_getD, show s < (ovL n ms cs).length by omega]
      have := h1 _ (List.getElem_mem (show s < (ovL n ms cs).length by omega))
      rw [← e, h2] at this
      simpa using this
    | some a =>
      rw [hp] at h
      simp only at h
      cases hg : (negGo ms cs (ovL n ms cs) a (List.range n.toNat) []).1 with
      | none => rw [hg] at h; cases h
      | some st =>
        rw [hg] at h
        exact balF_some hn hms f _ (bal_step hn hms hf hp hg).1 l h
theorem BalW_some {b : Book} (hb : b.Ok) {cs : List Int} (h : (BalW b).1 = some cs) : Feas b.ms cs ∧ ∀ s : Nat, s < b.n.toNat → ov b.ms cs s = 0 := balF_some hb.n hb.m _ _ (lows_feas hb.m) cs h
theorem BalW_none {b : Book} (hb : b.Ok) (h : (BalW b).1 = none) : moreF (BalW b).2 (-1) b.ms > 0 ∧ 0 ≤ (BalW b).2 ∧ (BalW b).2 < 2 ^ b.n.toNat := balF_none hb.n hb.m _ _ (lows_feas hb.m) (Nat.lt_succ_self _) h
theorem pv_more {n : Int} (hn : 2 ≤ n ∧ n ≤ 6) {ms : List Mv} (hms : ∀ m ∈ ms, m.Ok n) {set : Int} (hs : 0 ≤ set ∧ set < 64) : ∀ k, k ≤ ms.length → (ms.take k).foldl (pvStep set) 0 = moreK set (-1) ms k
  | 0, _ => rfl
  | k + 1, hk => by
    have hlt : k < ms.length := by omega
    have ih := pv_more hn hms hs k (by omega)
    have hmo := hms _ (mvk_mem hlt)
    rw [List.take_succ_eq_append_getElem hlt, List.foldl_append, ih, moreK_succ]
    rw [mvk_get hlt] at hmo ⊢
    generalize ms[k] = m at *
    generalize moreK set (-1) ms k = v at *
    have hf := hmo.f
    have ht := hmo.t
    have f01 := bit01 set.toNat (by omega) m.fr.toNat (by omega)
    have t01 := bit01 set.toNat (by omega) m.to.toNat (by omega)
    rw [show ((set.toNat : Nat) : Int) = set by omega, show ((m.fr.toNat : Nat) : Int) = m.fr by omega] at f01
    rw [show ((set.toNat : Nat) : Int) = set by omega, show ((m.to.toNat : Nat) : Int) = m.to by omega] at t01
    show pvStep set v m = _
    have e : ((k : Int) != -1) = true := by simp
    unfold pvStep mr2 mr1 bitB
    rw [e]
    rcases f01 with f | f <;> rcases t01 with t | t <;> rw [f, t] <;> simp
theorem proves_is (b : Book) (set : Int) : rProvesR b set = ProvesR b set := by
  unfold rProvesR ProvesR
  by_cases h1 : b.ok = true
  · rw [if_pos h1, if_pos h1]
    have hb := Book.ok_iff.1 h1
    have hn := hb.n
    by_cases h2 : wi set 0 (2 ^ b.n.toNat - 1) = true
    · rw [if_pos h2, if_pos h2]
      have h3 := wi_iff.1 h2
      have hp : (2 : Int) ^ b.n.toNat ≤ 64 := by
        rcases (show b.n.toNat = 2 ∨ b.n.toNat = 3 ∨ b.n.toNat = 4 ∨ b.n.toNat = 5 ∨ b.n.toNat = 6 by omega) with e | e | e | e | e <;> rw [e] <;> decide
      have := pv_more hn hb.m (set := set) (by omega) b.ms.length (Nat.le_refl _)
      rw [List.take_length] at this
      unfold moreF pvF
      rw [this]
    · rw [if_neg h2, if_neg h2]
  · rw [if_neg h1, if_neg h1]
theorem proof_neg {b : Book} (hb : b.Ok) {cs : List Int} (h : (BalW b).1 = some cs) : proofS b.n b.ms < 0 := by
  obtain ⟨h1, h2⟩ := BalW_some hb h
  refine (prGo_neg _ _).2 fun t _ _ => ?_
  have := feas_more hb.n hb.m h1 h2 t
  omega
theorem proof_pos {b : Book} (hb : b.Ok) (h : (BalW b).1 = none) : ¬ proofS b.n b.ms < 0 := by
  obtain ⟨h1, h2, h3⟩ := BalW_none hb h
  intro h4
  have h5 := (prGo_neg _ _).1 h4 (BalW b).2.toNat (Nat.zero_le _) (by
    have : ((2 ^ b.n.toNat : Nat) : Int) = 2 ^ b.n.toNat := by push_cast; rfl
    omega)
  rw [show (((BalW b).2.toNat : Nat) : Int) = (BalW b).2 by omega] at h5
  exact h5 h1
end Go.AL.Br

namespace Go.AL.Br
open Go Go.AL Go.AL.Q
def mnL (x y : Int) : Int := if y < x then y else x
def mxL (x y : Int) : Int := if y > x then y else x
def bd1 (ms : List Mv) (i : Nat) (set : Nat) (p : Int × Int) : Int × Int := if cond (bitB set (mvk ms i).fr) (!bitB set (mvk ms i).to) false = true then (p.1, mnL p.2 (-(moreF set i ms))) else p
def bd2 (ms : List Mv) (i : Nat) (set : Nat) (p : Int × Int) : Int × Int := if cond (bitB set (mvk ms i).to) (!bitB set (mvk ms i).fr) false = true then (mxL p.1 (moreF set i ms), p.2) else p
def bdK (ms : List Mv) (i : Nat) : Nat → Int × Int
  | 0 => ((mvk ms i).lo, (mvk ms i).hi)
  | k + 1 => bd2 ms i k (bd1 ms i k (bdK ms i k))
def bdS (n : Int) (ms : List Mv) (i : Nat) : Sp := ⟨(bdK ms i (2 ^ n.toNat)).1, (bdK ms i (2 ^ n.toNat)).2⟩
def rBalanceR (b : Book) : List Sp × Int := if b.ok then if proofS b.n b.ms ≥ 0 then ([], 65) else ((List.range b.ms.length).map (bdS b.n b.ms), 0) else ([], 63)
end Go.AL.Br

namespace Go.AL.Br
open Go Go.AL Go.AL.Q
def cutW (wo : Int) (q : Int → Bool) (ms : List Mv) : Nat → Int
  | 0 => 0
  | k + 1 => cutW wo q ms k + ifc ((k : Int) != wo) (ifc (q (mvk ms k).fr && !q (mvk ms k).to) (mvk ms k).lo - ifc (q (mvk ms k).to && !q (mvk ms k).fr) (mvk ms k).hi)
def flW (wo : Int) (q : Int → Bool) (ms : List Mv) (cs : List Int) : Nat → Int
  | 0 => 0
  | k + 1 => flW wo q ms cs k + ifc ((k : Int) != wo) (ifc (q (mvk ms k).to) (cs.getD k 0) - ifc (q (mvk ms k).fr) (cs.getD k 0))
theorem more_cutW (set wo : Int) (ms : List Mv) : ∀ k, moreK set wo ms k = cutW wo (bitB set) ms k
  | 0 => rfl
  | k + 1 => by
    rw [moreK_succ, more_cutW set wo ms k, cutW]
    unfold mr2 mr1
    cases (k : Int) != wo <;> cases bitB set (mvk ms k).fr <;> cases bitB set (mvk ms k).to <;> simp [ifc] <;> omega
theorem fl_flW (w : Nat) (q : Int → Bool) (ms : List Mv) (cs : List Int) : ∀ k, flK q ms cs k = flW w q ms cs k + ifc (decide (w < k)) (ifc (q (mvk ms w).to) (cs.getD w 0) - ifc (q (mvk ms w).fr) (cs.getD w 0))
  | 0 => by simp [flK, flW, ifc]
  | k + 1 => by
    rw [flK, fl_flW w q ms cs k, flW]
    by_cases e : w = k
    · subst e
      rw [decide_eq_false (show ¬ w < w by omega), decide_eq_true (show w < w + 1 by omega), show ((w : Int) != (w : Int)) = false by simp]
      simp only [ifc]
      simp
      generalize (if q (mvk ms w).to = true then cs[w]?.getD 0 else 0) = u
      generalize (if q (mvk ms w).fr = true then cs[w]?.getD 0 else 0) = v
      omega
    · rw [show ((k : Int) != (w : Int)) = true by simp; omega]
      by_cases h : w < k
      · rw [decide_eq_true h, decide_eq_true (show w < k + 1 by omega)]
        simp only [ifc, if_true]
        generalize (if q (mvk ms w).to = true then cs.getD w 0 else 0) = u
        generalize (if q (mvk ms w).fr = true then cs.getD w 0 else 0) = v
        generalize (if q (mvk ms k).to = true then cs.getD k 0 else 0) = u2
        generalize (if q (mvk ms k).fr = true then cs.getD k 0 else 0) = v2
        omega
      · rw [decide_eq_false h, decide_eq_false (show ¬ w < k + 1 by omega)]
        simp only [ifc, if_true]
        generalize (if q (mvk ms k).to = true then cs.getD k 0 else 0) = u2
        generalize (if q (mvk ms k).fr = true then cs.getD k 0 else 0) = v2
        simp
        omega
theorem cutW_le {wo : Int} {q : Int → Bool} {ms : List Mv} {cs : List Int} (hf : Feas ms cs) : ∀ k, k ≤ ms.length → cutW wo q ms k ≤ - flW wo q ms cs k
  | 0, _ => by simp [cutW, flW]
  | k + 1, hk => by
    have ih := cutW_le (wo := wo) (q := q) hf k (by omega)
    have hb := hf.b k (by omega)
    rw [cutW, flW]
    generalize cs.getD k 0 = c at *
    cases (k : Int) != wo <;> cases q (mvk ms k).fr <;> cases q (mvk ms k).to <;> simp [ifc] <;> omega
theorem cutW_eq {wo : Int} {q : Int → Bool} {ms : List Mv} {cs : List Int} (h : ∀ k : Nat, k < ms.length → (k : Int) ≠ wo → (q (mvk ms k).fr = true → q (mvk ms k).to = false → cs.getD k 0 = (mvk ms k).lo) ∧ (q (mvk ms k).to = true → q (mvk ms k).fr = false → cs.getD k 0 = (mvk ms k).hi)) : ∀ k, k ≤ ms.length → cutW wo q ms k = - flW wo q ms cs k
  | 0, _ => by simp [cutW, flW]
  | k + 1, hk => by
    have ih := cutW_eq (wo := wo) (q := q) h k (by omega)
    have hb := h k (by omega)
    rw [cutW, flW]
    generalize cs.getD k 0 = c at *
    by_cases e : (k : Int) = wo
    · rw [show ((k : Int) != wo) = false by simp [e]]; simp [ifc]; omega
    · rw [show ((k : Int) != wo) = true by simp [e]]
      have hb := hb e
      cases h1 : q (mvk ms k).fr <;> cases h2 : q (mvk ms k).to <;> simp [ifc]
      · omega
      · have := hb.2 h2 h1; omega
      · have := hb.1 h1 h2; omega
      · omega
def Even0 (n : Int) (ms : List Mv) (cs : List Int) : Prop := ∀ s : Nat, s < n.toNat → ov ms cs s = 0
theorem even_fl {n : Int} (hn : 2 ≤ n ∧ n ≤ 6) {ms : List Mv} (hms : ∀ m ∈ ms, m.Ok n) {cs : List Int} (hf : Feas ms cs) (he : Even0 n ms cs) (q : Int → Bool) : flK q ms cs ms.length = 0 := by
  rw [← sum_cut (n := n) (by omega) (q := q) hf.l hms]
  have : ∀ m, m ≤ n.toNat → sumN (fun s => ifc (q s) (ov ms cs s)) m = 0 := by
    intro m
    induction m with
    | zero => intro _; rfl
    | succ m ih => intro hm; rw [sumN, ih (by omega), he m (by omega)]; unfold ifc; split <;> rfl
  exact this _ (Nat.le_refl _)
theorem even_flW {n : Int} (hn : 2 ≤ n ∧ n ≤ 6) {ms : List Mv} (hms : ∀ m ∈ ms, m.Ok n) {cs : List Int} (hf : Feas ms cs) (he : Even0 n ms cs) (q : Int → Bool) {w : Nat} (hw : w < ms.length) :
    flW w q ms cs ms.length = ifc (q (mvk ms w).fr) (cs.getD w 0) - ifc (q (mvk ms w).to) (cs.getD w 0) := by
  have h1 := even_fl hn hms hf he q
  have h2 := fl_flW w q ms cs ms.length
  rw [h1, decide_eq_true hw] at h2
  unfold ifc at h2 ⊢
  rw [if_pos rfl] at h2
  omega
theorem ge_more {n : Int} (hn : 2 ≤ n ∧ n ≤ 6) {ms : List Mv} (hms : ∀ m ∈ ms, m.Ok n) {cs : List Int} (hf : Feas ms cs) (he : Even0 n ms cs) {w : Nat} (hw : w < ms.length) (set : Int) :
    (bitB set (mvk ms w).to = true → bitB set (mvk ms w).fr = false → moreF set w ms ≤ cs.getD w 0) ∧ (bitB set (mvk ms w).fr = true → bitB set (mvk ms w).to = false → cs.getD w 0 ≤ - moreF set w ms) := by
  have h1 := cutW_le (wo := w) (q := bitB set) hf ms.length (Nat.le_refl _)
  rw [even_flW hn hms hf he (bitB set) hw, ← more_cutW] at h1
  unfold moreF
  exact ⟨fun h2 h3 => by rw [h2, h3] at h1; simp only [ifc] at h1; simpa using h1, fun h2 h3 => by rw [h2, h3] at h1; simp [ifc] at h1 ⊢; omega⟩
end Go.AL.Br

namespace Go.AL.Br
open Go Go.AL Go.AL.Q
theorem push_end {n : Int} (hn : 2 ≤ n ∧ n ≤ 6) {ms : List Mv} (hms : ∀ m ∈ ms, m.Ok n) {k : Nat} (hk : k < ms.length) (fw : Bool) : ∀ (f : Nat) (l : List Int), Feas ms l → Even0 n ms l → dist ms k fw l < f →
    ∃ l', Feas ms l' ∧ Even0 n ms l' ∧ pushW ms k fw f l = l'.getD k 0 ∧ (l'.getD k 0 = limV (mvk ms k) fw ∨ (wayW ms l' (pFr (mvk ms k) fw) (pTo (mvk ms k) fw) k).1 = none)
  | 0, l, _, _, hd => by omega
  | f + 1, l, hf, he, hd => by
    rw [pushW]
    by_cases h1 : l.getD k 0 = limV (mvk ms k) fw
    · rw [if_pos (by simpa using h1)]
      exact ⟨l, hf, he, rfl, .inl h1⟩
    · rw [if_neg (by simpa using h1)]
      cases hw : (wayW ms l (pFr (mvk ms k) fw) (pTo (mvk ms k) fw) k).1 with
      | none => exact ⟨l, hf, he, rfl, .inr hw⟩
      | some st =>
        obtain ⟨p1, p2, p3, p4, _⟩ := push_step hn hms hk hf h1 hw
        exact push_end hn hms hk fw f _ p1 (fun s hs => by rw [p4]; exact he s hs) (by omega)
theorem stop_more {n : Int} (hn : 2 ≤ n ∧ n ≤ 6) {ms : List Mv} (hms : ∀ m ∈ ms, m.Ok n) {l : List Int} (hf : Feas ms l) (he : Even0 n ms l) {k : Nat} (hk : k < ms.length) {fr to : Int} (hfr : 0 ≤ fr ∧ fr < n) (hto : 0 ≤ to ∧ to < n) (hne : fr ≠ to)
    (hw : (wayW ms l fr to k).1 = none) : ∃ p : Nat, p < 2 ^ n.toNat ∧ bitB p to = true ∧ bitB p fr = false ∧ - moreF p k ms = ifc (bitB p (mvk ms k).fr) (l.getD k 0) - ifc (bitB p (mvk ms k).to) (l.getD k 0) := by
  have hwi := way_is hn hms hf (wo := (k : Int)) hfr hne
  obtain ⟨w1, w2⟩ := hwi.not hw
  have w3 := hwi.fr'
  generalize (wayW ms l fr to k).2 = rch at *
  obtain ⟨p, _, hp, hb⟩ := prf_bits rch n.toNat (by omega)
  have hbq : ∀ s : Int, 0 ≤ s ∧ s < n → (bitB p s = false ↔ s ∈ rch) := fun s h => by
    have := hb s.toNat (by omega)
    rw [show ((s.toNat : Nat) : Int) = s by omega] at this
    rw [this, Bool.not_eq_false', List.contains_iff_mem]
  refine ⟨p, hp, ?_, (hbq _ hfr).2 w3, ?_⟩
  · cases h : bitB p to with
    | true => rfl
    | false => exact absurd ((hbq _ hto).1 h) w1
  · unfold moreF
    rw [more_cutW, cutW_eq (q := bitB p) (cs := l) (fun j hj hjk => ?_) ms.length (Nat.le_refl _), even_flW hn hms hf he (bitB p) hk]
    · omega
    · have hmo := hms _ (mvk_mem hj)
      have hb := hf.b j hj
      have hfi := hmo.f
      have hti := hmo.t
      refine ⟨fun x1 x2 => ?_, fun x1 x2 => ?_⟩
      · have y2 := (hbq _ hti).1 x2
        have y1 : (mvk ms j).fr ∉ rch := fun h => by have := (hbq _ hfi).2 h; rw [x1] at this; cases this
        have := w2 _ y2 j hj
        refine Classical.byContradiction fun hne => y1 ?_
        have h9 := this ⟨hjk, .inr ⟨rfl, by omega⟩⟩
        unfold nxS at h9
        rwa [if_pos rfl] at h9
      · have y2 := (hbq _ hfi).1 x2
        have y1 : (mvk ms j).to ∉ rch := fun h => by have := (hbq _ hti).2 h; rw [x1] at this; cases this
        have := w2 _ y2 j hj
        refine Classical.byContradiction fun hne => y1 ?_
        have h9 := this ⟨hjk, .inl ⟨rfl, by omega⟩⟩
        unfold nxS at h9
        rwa [if_neg hmo.ne] at h9
theorem mxL_ge (x y : Int) : x ≤ mxL x y ∧ y ≤ mxL x y ∧ (mxL x y = x ∨ mxL x y = y) := by unfold mxL; split <;> omega
theorem mnL_le (x y : Int) : mnL x y ≤ x ∧ mnL x y ≤ y ∧ (mnL x y = x ∨ mnL x y = y) := by unfold mnL; split <;> omega
def inTo (ms : List Mv) (i : Nat) (s : Nat) : Prop := bitB s (mvk ms i).to = true ∧ bitB s (mvk ms i).fr = false
def outOf (ms : List Mv) (i : Nat) (s : Nat) : Prop := bitB s (mvk ms i).fr = true ∧ bitB s (mvk ms i).to = false
theorem c_in {a b : Bool} : cond a (!b) false = true ↔ a = true ∧ b = false := by cases a <;> cases b <;> simp
theorem bd_fst {ms : List Mv} {i : Nat} : ∀ K : Nat, (mvk ms i).lo ≤ (bdK ms i K).1 ∧ (∀ s : Nat, s < K → inTo ms i s → moreF s i ms ≤ (bdK ms i K).1) ∧ ((bdK ms i K).1 = (mvk ms i).lo ∨ ∃ s : Nat, s < K ∧ inTo ms i s ∧ (bdK ms i K).1 = moreF s i ms)
  | 0 => ⟨Int.le_refl _, fun s h => by omega, .inl rfl⟩
  | K + 1 => by
    obtain ⟨h1, h2, h3⟩ := bd_fst (ms := ms) (i := i) K
    have e : (bdK ms i (K + 1)).1 = if cond (bitB K (mvk ms i).to) (!bitB K (mvk ms i).fr) false = true then mxL (bdK ms i K).1 (moreF K i ms) else (bdK ms i K).1 := by
      rw [bdK]; unfold bd2 bd1
      split <;> split <;> rfl
    rw [e]
    by_cases hc : cond (bitB K (mvk ms i).to) (!bitB K (mvk ms i).fr) false = true
    · rw [if_pos hc]
      have hm := mxL_ge (bdK ms i K).1 (moreF K i ms)
      refine ⟨by omega, fun s hs hi => ?_, ?_⟩
      · rcases Nat.lt_succ_iff_lt_or_eq.1 hs with h4 | rfl
        · have := h2 s h4 hi; omega
        · exact hm.2.1
      · rcases hm.2.2 with h4 | h4
        · rw [h4]
          rcases h3 with h3 | ⟨s, h5, h6, h7⟩
          · exact .inl h3
          · exact .inr ⟨s, by omega, h6, h7⟩
        · exact .inr ⟨K, by omega, c_in.1 hc, h4⟩
    · rw [if_neg hc]
      refine ⟨h1, fun s hs hi => ?_, ?_⟩
      · rcases Nat.lt_succ_iff_lt_or_eq.1 hs with h4 | rfl
        · exact h2 s h4 hi
        · exact absurd (c_in.2 hi) hc
      · rcases h3 with h3 | ⟨s, h5, h6, h7⟩
        · exact .inl h3
        · exact .inr ⟨s, by omega, h6, h7⟩
theorem bd_snd {ms : List Mv} {i : Nat} : ∀ K : Nat, (bdK ms i K).2 ≤ (mvk ms i).hi ∧ (∀ s : Nat, s < K → outOf ms i s → (bdK ms i K).2 ≤ - moreF s i ms) ∧ ((bdK ms i K).2 = (mvk ms i).hi ∨ ∃ s : Nat, s < K ∧ outOf ms i s ∧ (bdK ms i K).2 = - moreF s i ms)
  | 0 => ⟨Int.le_refl _, fun s h => by omega, .inl rfl⟩
  | K + 1 => by
    obtain ⟨h1, h2, h3⟩ := bd_snd (ms := ms) (i := i) K
    have e : (bdK ms i (K + 1)).2 = if cond (bitB K (mvk ms i).fr) (!bitB K (mvk ms i).to) false = true then mnL (bdK ms i K).2 (-(moreF K i ms)) else (bdK ms i K).2 := by
      rw [bdK]; unfold bd2 bd1
      split <;> split <;> rfl
    rw [e]
    by_cases hc : cond (bitB K (mvk ms i).fr) (!bitB K (mvk ms i).to) false = true
    · rw [if_pos hc]
      have hm := mnL_le (bdK ms i K).2 (-(moreF K i ms))
      refine ⟨by omega, fun s hs hi => ?_, ?_⟩
      · rcases Nat.lt_succ_iff_lt_or_eq.1 hs with h4 | rfl
        · have := h2 s h4 hi; omega
        · exact hm.2.1
      · rcases hm.2.2 with h4 | h4
        · rw [h4]
          rcases h3 with h3 | ⟨s, h5, h6, h7⟩
          · exact .inl h3
          · exact .inr ⟨s, by omega, h6, h7⟩
        · exact .inr ⟨K, by omega, c_in.1 hc, h4⟩
    · rw [if_neg hc]
      refine ⟨h1, fun s hs hi => ?_, ?_⟩
      · rcases Nat.lt_succ_iff_lt_or_eq.1 hs with h4 | rfl
        · exact h2 s h4 hi
        · exact absurd (c_in.2 hi) hc
      · rcases h3 with h3 | ⟨s, h5, h6, h7⟩
        · exact .inl h3
        · exact .inr ⟨s, by omega, h6, h7⟩
theorem push_is {n : Int} (hn : 2 ≤ n ∧ n ≤ 6) {ms : List Mv} (hms : ∀ m ∈ ms, m.Ok n) {k : Nat} (hk : k < ms.length) {cs : List Int} (hf : Feas ms cs) (he : Even0 n ms cs) : pushF ms k true cs = (bdS n ms k).lo ∧ pushF ms k false cs = (bdS n ms k).hi := by
  have hmo := hms _ (mvk_mem hk)
  have hfi := hmo.f
  have hti := hmo.t
  constructor
  · obtain ⟨l, l1, l2, l3, l4⟩ := push_end hn hms hk true (dist ms k true cs + 1) cs hf he (Nat.lt_succ_self _)
    have l3 : pushF ms k true cs = l.getD k 0 := l3
    rw [l3]
    show _ = (bdK ms k (2 ^ n.toNat)).1
    obtain ⟨b1, b2, b3⟩ := bd_fst (ms := ms) (i := k) (2 ^ n.toNat)
    have hb := l1.b k hk
    have up : (bdK ms k (2 ^ n.toNat)).1 ≤ l.getD k 0 := by
      rcases b3 with b3 | ⟨s, _, h6, h7⟩
      · omega
      · have := (ge_more hn hms l1 l2 hk s).1 h6.1 h6.2; omega
    rcases l4 with l4 | l4
    · have l4 : l.getD k 0 = (mvk ms k).lo := l4
      omega
    · obtain ⟨p, hp, x1, x2, x3⟩ := stop_more hn hms l1 l2 hk (fr := (mvk ms k).fr) (to := (mvk ms k).to) hfi hti hmo.ne l4
      have := b2 p hp ⟨x1, x2⟩
      rw [x1, x2] at x3
      simp only [ifc] at x3
      simp at x3
      have e : l.getD k 0 = l[k]?.getD 0 := by simp [List.getD_eq_getElem?_getD]
      omega
  · obtain ⟨l, l1, l2, l3, l4⟩ := push_end hn hms hk false (dist ms k false cs + 1) cs hf he (Nat.lt_succ_self _)
    have l3 : pushF ms k false cs = l.getD k 0 := l3
    rw [l3]
    show _ = (bdK ms k (2 ^ n.toNat)).2
    obtain ⟨b1, b2, b3⟩ := bd_snd (ms := ms) (i := k) (2 ^ n.toNat)
    have hb := l1.b k hk
    have up : l.getD k 0 ≤ (bdK ms k (2 ^ n.toNat)).2 := by
      rcases b3 with b3 | ⟨s, _, h6, h7⟩
      · omega
      · have := (ge_more hn hms l1 l2 hk s).2 h6.1 h6.2; omega
    rcases l4 with l4 | l4
    · have l4 : l.getD k 0 = (mvk ms k).hi := l4
      omega
    · obtain ⟨p, hp, x1, x2, x3⟩ := stop_more hn hms l1 l2 hk (fr := (mvk ms k).to) (to := (mvk ms k).fr) hti hfi (fun e => hmo.ne e.symm) l4
      have := b2 p hp ⟨x1, x2⟩
      rw [x1, x2] at x3
      simp only [ifc] at x3
      simp at x3
      have e : l.getD k 0 = l[k]?.getD 0 := by simp [List.getD_eq_getElem?_getD]
      omega
theorem balance_is (b : Book) : BalanceR b = rBalanceR b := by
  unfold BalanceR rBalanceR
  by_cases hbo : b.ok = true
  · rw [if_pos hbo, if_pos hbo]
    have hB := Book.ok_iff.1 hbo
    cases hw : (BalW b).1 with
    | none =>
      have := proof_pos hB hw
      rw [if_pos (show proofS b.n b.ms ≥ 0 by omega)]
    | some cs =>
      have h1 := proof_neg hB hw
      obtain ⟨h2, h3⟩ := BalW_some hB hw
      rw [if_neg (show ¬ proofS b.n b.ms ≥ 0 by omega)]
      show ((List.range b.ms.length).map _, _) = _
      congr 1
      refine List.map_congr_left fun k hk => ?_
      have hk := List.mem_range.1 hk
      obtain ⟨h4, h5⟩ := push_is hB.n hB.m hk h2 h3
      rw [h4, h5]
  · rw [if_neg hbo, if_neg hbo]
end Go.AL.Br

namespace Go.AL
open Go Go.RowKit
section
variable {α : Type} {c : α → List A} {sz : Nat}
end
end Go.AL

namespace Go.AL.Br
open Go Go.AL Go.AL.Q
theorem bd_holds {n : Int} (hn : 2 ≤ n ∧ n ≤ 6) {ms : List Mv} (hms : ∀ m ∈ ms, m.Ok n) {l : List Int} (hf : Feas ms l) (he : Even0 n ms l) {k : Nat} (hk : k < ms.length) : (bdS n ms k).lo ≤ l.getD k 0 ∧ l.getD k 0 ≤ (bdS n ms k).hi := by
  have hb := hf.b k hk
  constructor
  · show (bdK ms k (2 ^ n.toNat)).1 ≤ _
    obtain ⟨b1, b2, b3⟩ := bd_fst (ms := ms) (i := k) (2 ^ n.toNat)
    rcases b3 with b3 | ⟨s, _, h6, h7⟩
    · omega
    · have := (ge_more hn hms hf he hk s).1 h6.1 h6.2; omega
  · show _ ≤ (bdK ms k (2 ^ n.toNat)).2
    obtain ⟨b1, b2, b3⟩ := bd_snd (ms := ms) (i := k) (2 ^ n.toNat)
    rcases b3 with b3 | ⟨s, _, h6, h7⟩
    · omega
    · have := (ge_more hn hms hf he hk s).2 h6.1 h6.2; omega
theorem bd_got {n : Int} (hn : 2 ≤ n ∧ n ≤ 6) {ms : List Mv} (hms : ∀ m ∈ ms, m.Ok n) {cs : List Int} (hf : Feas ms cs) (he : Even0 n ms cs) {k : Nat} (hk : k < ms.length) :
    (∃ l, Feas ms l ∧ Even0 n ms l ∧ l.getD k 0 = (bdS n ms k).lo) ∧ ∃ l, Feas ms l ∧ Even0 n ms l ∧ l.getD k 0 = (bdS n ms k).hi := by
  obtain ⟨p1, p2⟩ := push_is hn hms hk hf he
  obtain ⟨l, l1, l2, l3, _⟩ := push_end hn hms hk true (dist ms k true cs + 1) cs hf he (Nat.lt_succ_self _)
  obtain ⟨u, u1, u2, u3, _⟩ := push_end hn hms hk false (dist ms k false cs + 1) cs hf he (Nat.lt_succ_self _)
  exact ⟨⟨l, l1, l2, by rw [← p1]; exact l3.symm⟩, u, u1, u2, by rw [← p2]; exact u3.symm⟩
theorem bal_of {b : Book} (hb : b.Ok) {l : List Int} (hf : Feas b.ms l) (he : Even0 b.n b.ms l) : ∃ cs, (BalW b).1 = some cs := by
  cases h : (BalW b).1 with
  | some cs => exact ⟨cs, rfl⟩
  | none =>
    have h1 := (BalW_none hb h).1
    have h2 := feas_more hb.n hb.m hf he (BalW b).2
    omega
theorem BalanceR_some {b : Book} (hb : b.Ok) {cs : List Int} (h : (BalW b).1 = some cs) : BalanceR b = ((List.range b.ms.length).map (bdS b.n b.ms), 0) := by
  rw [balance_is]
  unfold rBalanceR
  have := proof_neg hb h
  rw [if_pos (Book.ok_iff.2 hb), if_neg (by omega)]
def fixM (ms : List Mv) (k : Nat) (v : Int) : List Mv := ms.set k ⟨(mvk ms k).fr, (mvk ms k).to, v, v⟩
theorem fixM_len (ms : List Mv) (k : Nat) (v : Int) : (fixM ms k v).length = ms.length := List.length_set ..
theorem fixM_get {ms : List Mv} {k : Nat} {v : Int} (hk : k < ms.length) (i : Nat) : mvk (fixM ms k v) i = if k = i then ⟨(mvk ms k).fr, (mvk ms k).to, v, v⟩ else mvk ms i := by
  unfold mvk fixM
  rw [List.getD_eq_getElem?_getD, List.getElem?_set]
  by_cases e : k = i
  · subst e; rw [if_pos rfl, if_pos rfl, if_pos hk]; rfl
  · rw [if_neg e, if_neg e, ← List.getD_eq_getElem?_getD]
theorem fixM_ok {n : Int} {ms : List Mv} (hms : ∀ m ∈ ms, m.Ok n) {k : Nat} (hk : k < ms.length) {v : Int} (hv : 0 ≤ v ∧ v ≤ 1000) : ∀ m ∈ fixM ms k v, m.Ok n := fun m hm => by
  rcases List.mem_or_eq_of_mem_set hm with h | h
  · exact hms m h
  · have hmo := hms _ (mvk_mem hk)
    subst h
    exact ⟨hmo.f, hmo.t, hmo.ne, ⟨hv.1, Int.le_refl _, hv.2⟩⟩
theorem ov_mv {ms ms' : List Mv} (h : ms'.length = ms.length) (hs : ∀ i, (mvk ms' i).fr = (mvk ms i).fr ∧ (mvk ms' i).to = (mvk ms i).to) {l : List Int} (hl : ms.length = l.length) (s : Int) : ov ms' l s = ov ms l s := by
  rw [ov_fl (by omega), ov_fl hl, h]
  have : ∀ k, flK (fun t => decide (t = s)) ms' l k = flK (fun t => decide (t = s)) ms l k := by
    intro k
    induction k with
    | zero => rfl
    | succ k ih => rw [flK, flK, ih, (hs k).1, (hs k).2]
  exact this _
theorem fix_same {ms : List Mv} {k : Nat} {v : Int} (hk : k < ms.length) (i : Nat) : (mvk (fixM ms k v) i).fr = (mvk ms i).fr ∧ (mvk (fixM ms k v) i).to = (mvk ms i).to := by
  rw [fixM_get hk]
  split
  · rename_i e; subst e; exact ⟨rfl, rfl⟩
  · exact ⟨rfl, rfl⟩
theorem fix_even {n : Int} {ms : List Mv} {k : Nat} {v : Int} (hk : k < ms.length) {l : List Int} (hl : ms.length = l.length) : Even0 n (fixM ms k v) l ↔ Even0 n ms l := by
  unfold Even0
  refine forall_congr' fun s => ?_
  rw [ov_mv (fixM_len ms k v) (fix_same hk) hl]
theorem fix_feas {ms : List Mv} {k : Nat} {v : Int} (hk : k < ms.length) {l : List Int} (hv : (mvk ms k).lo ≤ v ∧ v ≤ (mvk ms k).hi) : Feas (fixM ms k v) l ↔ Feas ms l ∧ l.getD k 0 = v := by
  constructor
  · rintro ⟨h1, h2⟩
    rw [fixM_len] at h1
    have hk2 := h2 k (by rw [fixM_len]; exact hk)
    rw [fixM_get hk, if_pos rfl] at hk2
    have hk2 : v ≤ l.getD k 0 ∧ l.getD k 0 ≤ v := hk2
    refine ⟨⟨h1, fun i hi => ?_⟩, by omega⟩
    have := h2 i (by rw [fixM_len]; exact hi)
    rw [fixM_get hk] at this
    by_cases e : k = i
    · subst e; omega
    · rwa [if_neg e] at this
  · rintro ⟨⟨h1, h2⟩, h3⟩
    refine ⟨by rw [fixM_len]; exact h1, fun i hi => ?_⟩
    rw [fixM_len] at hi
    rw [fixM_get hk]
    by_cases e : k = i
    · subst e; rw [if_pos rfl, h3]; exact ⟨Int.le_refl _, Int.le_refl _⟩
    · rw [if_neg e]; exact h2 i hi
end Go.AL.Br

namespace Go.AL.Br
open Go Go.AL Go.AL.Q
def fixBk (b : Book) (k : Nat) (v : Int) : Book := ⟨b.n, false, fixM b.ms k v⟩
theorem fixBk_ok {b : Book} (hb : b.Ok) {k : Nat} (hk : k < b.ms.length) {v : Int} (hv : (mvk b.ms k).lo ≤ v ∧ v ≤ (mvk b.ms k).hi) : (fixBk b k v).Ok := by
  have hmk := (hb.m _ (mvk_mem hk)).k
  refine ⟨hb.n, ?_, fixM_ok hb.m hk (by omega)⟩
  show 1 ≤ (fixM b.ms k v).length ∧ (fixM b.ms k v).length ≤ 10
  rw [fixM_len]; exact hb.l
end Go.AL.Br

namespace Go.AL.Br
open Go Go.AL Go.AL.Q
theorem CountsR_yes {b : Book} (hb : b.Ok) {l : List Int} (hf : Feas b.ms l) (he : Even0 b.n b.ms l) : CountsR b l = (true, 0) := by
  unfold CountsR
  have h1 : allIn b.ms l = true := List.all_eq_true.2 fun k hk => by
    have hk : k < b.ms.length := by simpa using hk
    exact wi_iff.2 (hf.b k hk)
  have h2 : (ovL b.n b.ms l).all (· == 0) = true := List.all_eq_true.2 fun x hx => by
    unfold ovL at hx
    obtain ⟨s, hs, rfl⟩ := List.mem_map.1 hx
    have hs : s < b.n.toNat := by simpa using hs
    simpa using he s (by omega)
  rw [if_pos (Book.ok_iff.2 hb), if_pos hf.l.symm, if_pos h1, h2]
structure Chain (b X : Book) (cs : List Int) : Prop where
  ok : X.Ok
  n : X.n = b.n
  l : X.ms.length = b.ms.length
  s : ∀ l, Feas X.ms l → Even0 X.n X.ms l → Feas b.ms l ∧ Even0 b.n b.ms l ∧ l.take cs.length = cs
  e : ∃ l, Feas X.ms l ∧ Even0 X.n X.ms l
theorem Chain.start {b : Book} (hb : b.Ok) {l : List Int} (hf : Feas b.ms l) (he : Even0 b.n b.ms l) : Chain b b [] :=
  ⟨hb, rfl, rfl, fun l h1 h2 => ⟨h1, h2, rfl⟩, l, hf, he⟩
theorem Chain.step {b X : Book} {cs : List Int} (h : Chain b X cs) (hk : cs.length < b.ms.length) : Chain b (fixBk X cs.length (bdS X.n X.ms cs.length).lo) (cs ++ [(bdS X.n X.ms cs.length).lo]) := by
  obtain ⟨l, h1, h2⟩ := h.e
  have hk' : cs.length < X.ms.length := by rw [h.l]; exact hk
  obtain ⟨⟨u, u1, u2, u3⟩, _⟩ := bd_got h.ok.n h.ok.m h1 h2 hk'
  have hv := u1.b _ hk'
  rw [u3] at hv
  refine ⟨fixBk_ok h.ok hk' hv, h.n, ?_, fun l g1 g2 => ?_, u, ?_, ?_⟩
  · show (fixM X.ms cs.length _).length = _
    rw [fixM_len]; exact h.l
  · obtain ⟨g3, g4⟩ := (fix_feas hk' hv).1 g1
    obtain ⟨g5, g6, g7⟩ := h.s l g3 ((fix_even hk' g3.l).1 g2)
    refine ⟨g5, g6, ?_⟩
    have hl : cs.length < l.length := by rw [← g5.l]; exact hk
    rw [List.length_append, List.length_singleton, List.take_succ_eq_append_getElem hl, g7]
    rw [List.getD_eq_getElem?_getD, List.getElem?_eq_getElem hl] at g4
    rw [show l[cs.length] = _ from g4]
  · exact (fix_feas hk' hv).2 ⟨u1, u3⟩
  · exact (fix_even hk' u1.l).2 u2
theorem Chain.fin {b X : Book} {cs : List Int} (h : Chain b X cs) (hb : b.Ok) (hk : cs.length = b.ms.length) : CountsR b cs = (true, 0) := by
  obtain ⟨l, h1, h2⟩ := h.e
  obtain ⟨g1, g2, g3⟩ := h.s l h1 h2
  rw [hk, g1.l, List.take_length] at g3
  subst g3
  exact CountsR_yes hb g1 g2
end Go.AL.Br

namespace Go.AL.Br
open Go Go.AL Go.AL.Q
def tSt (l : List Int) : Int := 3 + pickF l 0 % 4
def tMany (l : List Int) (r : Nat) : Int := pickF l ((r : Int) + 1) % 200
def tAt (l : List Int) (r : Nat) : Int := pickF l ((r : Int) + 4) % tSt l
def tNxt (l : List Int) (r k : Nat) (a : Int) : Int := if k = 2 then tAt l r else (a + 1 + pickF l r % 2 * ((k : Int) % 2)) % tSt l
def tMv (l : List Int) (r k : Nat) (a n : Int) : Mv := ⟨a, n, mx0 (tMany l r - pickF l ((r : Int) + k + 5) % 30), tMany l r + pickF l ((r : Int) + k + 2) % 30⟩
structure TS where
  a : Int
  ms : List Mv
  cs : List Int
def tStep (l : List Int) (r k : Nat) (s : TS) : TS :=
  if tNxt l r k s.a = s.a then ⟨tNxt l r k s.a, s.ms, s.cs⟩ else ⟨tNxt l r k s.a, s.ms ++ [tMv l r k s.a (tNxt l r k s.a)], s.cs ++ [tMany l r]⟩
def tIn (l : List Int) (r : Nat) (ms : List Mv) (cs : List Int) : Nat → TS
  | 0 => ⟨tAt l r, ms, cs⟩
  | k + 1 => tStep l r k (tIn l r ms cs k)
def tOut (l : List Int) : Nat → List Mv × List Int
  | 0 => ([], [])
  | r + 1 => ((tIn l r (tOut l r).1 (tOut l r).2 3).ms, (tIn l r (tOut l r).1 (tOut l r).2 3).cs)
theorem tSt_bd (l : List Int) : 3 ≤ tSt l ∧ tSt l ≤ 6 := by unfold tSt; omega
theorem tMany_bd (l : List Int) (r : Nat) : 0 ≤ tMany l r ∧ tMany l r ≤ 199 := by unfold tMany; omega
theorem mod_bd (x : Int) {n : Int} (h : 3 ≤ n) : 0 ≤ x % n ∧ x % n < n := ⟨Int.emod_nonneg _ (by omega), Int.emod_lt_of_pos _ (by omega)⟩
theorem tNxt_bd (l : List Int) (r k : Nat) (a : Int) : 0 ≤ tNxt l r k a ∧ tNxt l r k a < tSt l := by
  have h := (tSt_bd l).1
  unfold tNxt
  split
  · exact mod_bd _ h
  · exact mod_bd _ h
theorem tMv_ok (l : List Int) (r k : Nat) {a n : Int} (ha : 0 ≤ a ∧ a < tSt l) (hn : 0 ≤ n ∧ n < tSt l) (hne : ¬ n = a) : (tMv l r k a n).Ok (tSt l) ∧ (tMv l r k a n).lo ≤ tMany l r ∧ tMany l r ≤ (tMv l r k a n).hi := by
  have h1 := tMany_bd l r
  have h2 : 0 ≤ pickF l ((r : Int) + k + 5) % 30 ∧ pickF l ((r : Int) + k + 5) % 30 < 30 := by omega
  have h3 : 0 ≤ pickF l ((r : Int) + k + 2) % 30 ∧ pickF l ((r : Int) + k + 2) % 30 < 30 := by omega
  have h4 : 0 ≤ mx0 (tMany l r - pickF l ((r : Int) + k + 5) % 30) ∧ mx0 (tMany l r - pickF l ((r : Int) + k + 5) % 30) ≤ tMany l r := by unfold mx0; split <;> omega
  refine ⟨⟨?_, ?_, ?_, ?_⟩, ?_, ?_⟩
  · exact ha
  · exact hn
  · exact fun h => hne h.symm
  · show 0 ≤ mx0 _ ∧ mx0 _ ≤ tMany l r + _ ∧ tMany l r + _ ≤ 1000; omega
  · exact h4.2
  · show tMany l r ≤ tMany l r + _; omega
structure TOk (l : List Int) (N : Nat) (ms : List Mv) (cs : List Int) (f : Int → Int) : Prop where
  n : ms.length = cs.length
  u : ms.length ≤ N
  m : ∀ m ∈ ms, m.Ok (tSt l)
  b : ∀ k, k < ms.length → (mvk ms k).lo ≤ cs.getD k 0 ∧ cs.getD k 0 ≤ (mvk ms k).hi
  o : ∀ s, ov ms cs s = f s
def pt (x s : Int) (c : Int) : Int := if x = s then c else 0
theorem TOk.step {l : List Int} {N : Nat} {r k : Nat} {s : TS} {f : Int → Int} (h : TOk l N s.ms s.cs f) (ha : 0 ≤ s.a ∧ s.a < tSt l) :
    (0 ≤ (tStep l r k s).a ∧ (tStep l r k s).a < tSt l) ∧ TOk l (N + 1) (tStep l r k s).ms (tStep l r k s).cs fun x => f x + pt (tStep l r k s).a x (tMany l r) - pt s.a x (tMany l r) := by
  have hb := tNxt_bd l r k s.a
  unfold tStep
  by_cases e : tNxt l r k s.a = s.a
  · rw [if_pos e]
    exact ⟨hb, h.n, Nat.le_succ_of_le h.u, h.m, h.b, fun x => by show ov s.ms s.cs x = f x + pt (tNxt l r k s.a) x _ - pt s.a x _; rw [h.o, e]; omega⟩
  · rw [if_neg e]
    obtain ⟨hm, h1, h2⟩ := tMv_ok l r k ha hb e
    refine ⟨hb, ?_, ?_, fun m hmm => ?_, fun i hi => ?_, fun x => ?_⟩
    · show (s.ms ++ [_]).length = (s.cs ++ [_]).length
      rw [List.length_append, List.length_append, h.n]; rfl
    · show (s.ms ++ [_]).length ≤ _
      have := h.u
      rw [List.length_append, List.length_singleton]; omega
    · rcases List.mem_append.1 hmm with h3 | h3
      · exact h.m m h3
      · rw [List.mem_singleton] at h3
        subst h3; exact hm
    · have hi : i < s.ms.length + 1 := by
        have : (s.ms ++ [tMv l r k s.a (tNxt l r k s.a)]).length = s.ms.length + 1 := by simp
        rw [← this]; exact hi
      by_cases e2 : i < s.ms.length
      · have h3 := h.b i e2
        have e3 : mvk (s.ms ++ [tMv l r k s.a (tNxt l r k s.a)]) i = mvk s.ms i := by unfold mvk; rw [List.getD_eq_getElem?_getD, List.getD_eq_getElem?_getD, List.getElem?_append_left e2]
        have e4 : (s.cs ++ [tMany l r]).getD i 0 = s.cs.getD i 0 := by rw [List.getD_eq_getElem?_getD, List.getD_eq_getElem?_getD, List.getElem?_append_left (by have := h.n; omega)]
        show (mvk (s.ms ++ [_]) i).lo ≤ (s.cs ++ [_]).getD i 0 ∧ (s.cs ++ [_]).getD i 0 ≤ (mvk (s.ms ++ [_]) i).hi
        rw [e3, e4]; exact h3
      · have e5 : i = s.ms.length := by omega
        subst e5
        have e3 : mvk (s.ms ++ [tMv l r k s.a (tNxt l r k s.a)]) s.ms.length = tMv l r k s.a (tNxt l r k s.a) := by unfold mvk; rw [List.getD_eq_getElem?_getD, List.getElem?_append_right (Nat.le_refl _), Nat.sub_self]; rfl
        have e4 : (s.cs ++ [tMany l r]).getD s.ms.length 0 = tMany l r := by rw [h.n, List.getD_eq_getElem?_getD, List.getElem?_append_right (Nat.le_refl _), Nat.sub_self]; rfl
        show (mvk (s.ms ++ [_]) _).lo ≤ (s.cs ++ [_]).getD _ 0 ∧ (s.cs ++ [_]).getD _ 0 ≤ (mvk (s.ms ++ [_]) _).hi
        rw [e3, e4]; exact ⟨h1, h2⟩
    · show ov (s.ms ++ [_]) (s.cs ++ [_]) x = _
      rw [ov_snoc _ _ _ h.n, h.o]; rfl
theorem tIn_ok {l : List Int} {N : Nat} {r : Nat} {ms : List Mv} {cs : List Int} {f : Int → Int} (h : TOk l N ms cs f) : ∀ k, (0 ≤ (tIn l r ms cs k).a ∧ (tIn l r ms cs k).a < tSt l) ∧ TOk l (N + k) (tIn l r ms cs k).ms (tIn l r ms cs k).cs fun x => f x + pt (tIn l r ms cs k).a x (tMany l r) - pt (tAt l r) x (tMany l r)
  | 0 => ⟨mod_bd _ (tSt_bd l).1, h.n, h.u, h.m, h.b, fun x => by show ov ms cs x = f x + pt (tAt l r) x _ - pt (tAt l r) x _; rw [h.o]; omega⟩
  | k + 1 => by
    obtain ⟨h1, h2⟩ := tIn_ok h k
    obtain ⟨h3, h4⟩ := h2.step (r := r) (k := k) h1
    refine ⟨h3, h4.n, h4.u, h4.m, h4.b, fun x => ?_⟩
    have := h4.o x
    rw [show tIn l r ms cs (k + 1) = tStep l r k (tIn l r ms cs k) from rfl, this]
    omega
theorem tOut_ok (l : List Int) : ∀ r, TOk l (3 * r) (tOut l r).1 (tOut l r).2 fun _ => 0
  | 0 => ⟨rfl, Nat.le_refl _, (fun _ h => nomatch h), (fun k h => by simp [tOut] at h), fun _ => rfl⟩
  | r + 1 => by
    obtain ⟨_, h⟩ := tIn_ok (r := r) (tOut_ok l r) 3
    refine ⟨h.n, h.u, h.m, h.b, fun x => ?_⟩
    have := h.o x
    have e : (tIn l r (tOut l r).1 (tOut l r).2 3).a = tAt l r := by
      have e1 : ∀ s : TS, (tStep l r 2 s).a = tAt l r := fun s => by
        unfold tStep tNxt
        rw [if_pos rfl]
        split <;> rfl
      exact e1 _
    rw [e] at this
    show ov (tIn l r (tOut l r).1 (tOut l r).2 3).ms (tIn l r (tOut l r).1 (tOut l r).2 3).cs x = 0
    rw [this]; omega
def tBook (l : List Int) : Book := ⟨tSt l, (tOut l 3).1.isEmpty, (tOut l 3).1⟩
def tCs (l : List Int) : List Int := (tOut l 3).2
theorem tBook_feas (l : List Int) : (tBook l).ms.length = (tCs l).length ∧ (tBook l).ms.length ≤ 9 ∧ Feas (tBook l).ms (tCs l) ∧ Even0 (tBook l).n (tBook l).ms (tCs l) ∧ ((tCs l).length ≠ 0 → (tBook l).Ok) := by
  have h := tOut_ok l 3
  have hs := tSt_bd l
  refine ⟨h.n, h.u, ⟨h.n, h.b⟩, fun s _ => h.o s, fun hne => ⟨?_, ?_, h.m⟩⟩
  · show 2 ≤ tSt l ∧ tSt l ≤ 6; omega
  · show 1 ≤ (tOut l 3).1.length ∧ (tOut l 3).1.length ≤ 10
    have h1 := h.n
    have h2 := h.u
    have : (tOut l 3).2.length ≠ 0 := hne
    omega
end Go.AL.Br

namespace Go.Proofs.Ytampldajinhenaa
open Go Go.AL Go.AL.Q Go.AL.Br
theorem mvk_at {l : List Mv} {k : Nat} (h : k < l.length) : (l.map Mv.c)[k]? = some (mvk l k).c := by rw [mvk_get h]; exact get_map h
end Go.Proofs.Ytampldajinhenaa

namespace Go.Proofs.Ytampldajinhenaa
open Go Go.AL Go.AL.Q Go.AL.Br
end Go.Proofs.Ytampldajinhenaa

namespace Go.Proofs.Ytampldajinhenaa
open Go Go.AL Go.AL.Q Go.AL.Br
end Go.Proofs.Ytampldajinhenaa

namespace Go.Proofs.Ytampldajinhenaa
open Go Go.AL Go.AL.Q Go.AL.Br
end Go.Proofs.Ytampldajinhenaa

namespace Go.Proofs.Ytampldajinhenaa
open Go Go.AL Go.AL.Q Go.AL.Br
end Go.Proofs.Ytampldajinhenaa

namespace Go.Proofs.Ytampldajinhenaa
open Go Go.AL Go.AL.Q Go.AL.Br
end Go.Proofs.Ytampldajinhenaa

namespace Go.Proofs.Ytampldajinhenaa
open Go Go.AL Go.AL.Q Go.AL.Br
def grM : List Mv → A
  | [] => .sl true .exact []
  | x :: l => .sl false (.own 76) ((x :: l).map Mv.c)
theorem grM_under : ∀ (l : List Mv) {n : Nat}, Under n (grM l)
  | [], _ => .sl _ _ _ (fun _ h => nomatch h)
  | x :: l, _ => .sl _ _ _ fun e he v hv => by
    obtain ⟨m, _, rfl⟩ := List.mem_map.1 he
    exact (m.free v hv).under
theorem mv_four (l : List Mv) : ∀ z ∈ l.map Mv.c, z.length = 4 := fun z hz => by obtain ⟨m, _, rfl⟩ := List.mem_map.1 hz; rfl
def boxM (st : Int) (ms : List Mv) : B := .cells [.int st, grM ms]
theorem boxM_under (st : Int) (ms : List Mv) {n : Nat} : UnderB n (boxM st ms) := .cells _ (allC (.s _) (all1 (grM_under ms)))
theorem mul01 {a b : Int} (ha : 0 ≤ a ∧ a ≤ 1) (hb : 0 ≤ b ∧ b ≤ 1) : 0 ≤ a * b ∧ a * b ≤ 1 := by
  rcases (show a = 0 ∨ a = 1 by omega) with rfl | rfl <;> omega
def grZ : List Mv → A
  | [] => .sl true .exact []
  | x :: l => .sl false .any ((x :: l).map Mv.c)
theorem grZ_free : ∀ l : List Mv, Free (grZ l)
  | [] => .sl _ _ _ (fun _ h => nomatch h)
  | x :: l => free_map Mv.free _ _ _
set_option maxHeartbeats 4000000 in
set_option maxRecDepth 100000 in
theorem true6_x (lb : Bool) (bits : List Int) (hb : (bits.length : Int) ≤ 9223372036854775806) : Ans Try.prog 56 [.sl lb .any (ints bits)] (.tup [.agg [.int (tSt bits), grZ (tOut bits 3).1], outW (tCs bits)]) := by
  have fb : Free (.sl lb .any (ints bits)) := free_ints _ _ _
  have ub : ∀ {m : Nat}, Under m (A.sl lb .any (ints bits)) := fb.under
  have hfr : Free (.tup [.agg [.int (tSt bits), grZ (tOut bits 3).1], outW (tCs bits)]) := .tup _ (allC (.agg _ (allC (.s _) (all1 (grZ_free _)))) (all1 (outW_free _)))
  have hp := fun n => pick_t lb bits n (by omega)
  have hst := tSt_bd bits
  have h0 := hp 0
  have h1 : Ans Try.prog 41 [.int (pickF bits 0), .int 4] (.int (pickF bits 0 % 4)) := mod_t _ _ (by decide) (by decide)
  have h2 : 3 + pickF bits 0 % 4 = tSt bits := rfl
  have hat : ∀ r : Nat, Ans Try.prog 41 [.int (pickF bits ((r : Int) + 4)), .int (tSt bits)] (.int (tAt bits r)) := fun r => mod_t _ _ (by omega) (by omega)
  have hmy : ∀ r : Nat, Ans Try.prog 41 [.int (pickF bits ((r : Int) + 1)), .int 200] (.int (tMany bits r)) := fun r => mod_t _ _ (by decide) (by decide)
  have hout := tOut_ok bits
  refine told Try.func56 rfl rfl (Pure.of tab_ok Try.func56 rfl Try.ntmps56 rfl (all1 (fb)) (all1 (fun _ => rfl)) (by first | exact .s _ | assumption | exact .tup _ (by intro x hx; simp only [List.mem_cons, List.not_mem_nil, or_false] at hx; rcases hx with rfl | rfl | rfl | rfl <;> first | exact .s _ | (simp_all; done))) fun E hE => ?_)
  clear hfr
  refine Aw.sm tab_ok mb0 [] rfl rfl ?zo ?zk
  case zo =>
    repeat' apply AllP.cons
    all_goals first | exact trivial
  case zk =>
  refine Aw.sm tab_ok mb0 [(1, [.int (pickF bits 0)]), (2, [.int (pickF bits 0 % 4)])] rfl rfl ?zo ?zk
  case zo =>
    repeat' apply AllP.cons
    all_goals first | exact trivial | exact h0 | exact h1 | exact (show inR (3 + pickF bits 0 % 4) by simp only [inR]; omega)
  case zk =>
  refine Aw.sm tab_ok mb0 [] rfl rfl ?zo ?zk
  case zo =>
    repeat' apply AllP.cons
    all_goals first | exact trivial | exact rfl | exact Nat.le_of_ble_eq_true rfl
  case zk =>
  refine Aw.sm tab_ok mb0 [] rfl rfl ?zo ?zk
  case zo =>
    repeat' apply AllP.cons
    all_goals first | exact trivial
  case zk =>
  have h2e : ∀ id, 2 ≤ id → E.φ0 id = none := fun id _ => hE id (by omega)
  have un2 : ∀ {n : Nat}, UnderB n (.cells [.int 0, .sl true .exact []]) := .cells _ (allC (.s _) (all1 (Free.sl _ _ _ (fun _ h => by cases h)).under))
  refine Aw.keep (n := 2) (cst := [(0, .sl lb .any (ints bits)), (2, .ref 0 0), (4, .int (tSt bits)), (5, .ref 1 0), (6, grL 3 (tOut bits 0).2)]) (v := []) (Hl := [(0, .cells [.int 0, .sl true .exact []]), (1, boxM (tSt bits) (tOut bits 0).1)]) h2e ?zu ?zw ?zx ⟨?zc, ?zv, ?zh, Nat.le_of_ble_eq_true rfl⟩ ?zr
  case zu =>
    (repeat' (first | exact trivial | exact Under.s _ | exact (free_ints _ _ _).under | exact Under.ref _ _ (by decide) | exact grL_under _ | (refine And.intro ?_ ?_)))
  case zw =>
    (repeat' (first | exact trivial))
  case zx =>
    (repeat' (first | exact trivial | exact Nat.le_of_ble_eq_true rfl | exact un2 | exact boxM_under _ _ | (refine And.intro ?_ ?_)))
  case zc =>
    (repeat' (first | (refine And.intro ?_ ?_) | exact trivial | exact A.Le.refl _))
  case zv =>
    (repeat' (first | exact trivial))
  case zh =>
    (repeat' (first | (refine And.intro ?_ ?_) | exact trivial | exact rfl))
  case zr =>
  have hnx : ∀ (r k : Nat) (a : Int), tNxt bits r k a = if k = 2 then tAt bits r else (a + 1 + pickF bits r % 2 * ((k : Int) % 2)) % tSt bits := fun _ _ _ => rfl
  have hnb := tNxt_bd bits
  have hIn := fun r => tIn_ok (r := r) (hout r)
  have habd : ∀ r, 0 ≤ tAt bits r ∧ tAt bits r < tSt bits := fun r => mod_bd _ hst.1
  generalize hste : tSt bits = st at *
  refine Aw.seq ?_
  refine Aw.sm tab_ok mb0 [] rfl rfl ?zo ?zk
  case zo =>
    repeat' apply AllP.cons
    all_goals first | exact trivial
  case zk =>
  refine Aw.block (Aw.rounds 2 h2e [(0, .sl lb .any (ints bits)), (2, .ref 0 0), (4, .int st), (5, .ref 1 0)] (fun r : Nat => [(6, grL 3 (tOut bits r).2), (7, .int r)]) (fun r => [(0, .cells [.int 0, .sl true .exact []]), (1, boxM st (tOut bits r).1)]) (fun r => r ≤ 3) (fun r => 3 - r) 0 ?zg ⟨?zc, ?zv, ?zh, Nat.le_of_ble_eq_true rfl⟩ ?zu (fun r zhk => ?zw) (fun r zhk => ?zx) fun r hk => ?zr)
  case zg =>
    (repeat' (first | exact Nat.zero_le _))
  case zc =>
    (repeat' (first | (refine And.intro ?_ ?_) | exact trivial | exact A.Le.refl _))
  case zv =>
    (repeat' (first | (refine And.intro ?_ ?_) | exact trivial | exact A.Le.refl _))
  case zh =>
    (repeat' (first | (refine And.intro ?_ ?_) | exact trivial | exact rfl))
  case zu =>
    (repeat' (first | exact trivial | exact Under.s _ | exact (free_ints _ _ _).under | exact Under.ref _ _ (by decide) | (refine And.intro ?_ ?_)))
  case zw =>
    (repeat' (first | exact trivial | exact Under.s _ | exact grL_under _ | (refine And.intro ?_ ?_)))
  case zx =>
    (repeat' (first | exact trivial | exact Nat.le_of_ble_eq_true rfl | exact un2 | exact boxM_under _ _ | (refine And.intro ?_ ?_)))
  case zr =>
  refine Aw.seq ?_
  refine Aw.sm tab_ok mb0 [] rfl rfl ?zo ?zk
  case zo =>
    repeat' apply AllP.cons
    all_goals first | exact trivial
  case zk =>
  refine Aw.cond rfl (fun h1 => Aw.skip ?_) (fun h1 => ?_)
  rotate_left
  · have hle : r = 3 := by have := of_decide_eq_false h1; omega
    subst hle
    refine Aw.exit2 ?_
    have hcs : outW (tCs bits) = outW (tOut bits 3).2 := rfl
    rw [hcs]
    have hgr : A.Le (outW (tOut bits 3).2) (grL 3 (tOut bits 3).2) := by
      cases (tOut bits 3).2 with
      | nil => exact .any _ _ _
      | cons x t => exact .any _ _ _
    generalize (tOut bits 3).2 = CS at *
    have fW : ∀ {m : Nat}, Under m (outW CS) := (outW_free _).under
    cases hM : (tOut bits 3).1 with
    | nil =>
      refine Aw.keep (n := 2) (cst := [(2, .ref 0 0), (5, .ref 1 0), (6, outW CS)]) (v := []) (Hl := [(0, .cells [.int 0, .sl true .exact []]), (1, boxM st [])]) h2e ?zu ?zw ?zx ⟨?zc, ?zv, ?zh, Nat.le_of_ble_eq_true rfl⟩ ?zr
      case zu =>
        (repeat' (first | exact trivial | exact (free_ints _ _ _).under | exact Under.ref _ _ (by decide) | (refine And.intro ?_ ?_)))
      case zw =>
        (repeat' (first | exact trivial))
      case zx =>
        (repeat' (first | exact trivial | exact Nat.le_of_ble_eq_true rfl | exact un2 | exact boxM_under _ _ | (refine And.intro ?_ ?_)))
      case zc =>
        (repeat' (first | (refine And.intro ?_ ?_) | exact trivial | exact A.Le.refl _ | exact hgr))
      case zv =>
        (repeat' (first | exact trivial))
      case zh =>
        (repeat' (first | (refine And.intro ?_ ?_) | exact trivial | exact rfl))
      case zr =>
      refine Aw.sm tab_ok mb0 [] rfl rfl ?zo ?zk
      case zo =>
        repeat' apply AllP.cons
        all_goals first | exact trivial | exact rfl | exact Nat.le_of_ble_eq_true rfl
      case zk =>
      exact Aw.ret ⟨_, .cons (resC rfl rfl rfl rfl rfl) (.cons (.tmp _) .nil), rfl⟩
    | cons m0 mt =>
      refine Aw.keep (n := 2) (cst := [(2, .ref 0 0), (5, .ref 1 0), (6, outW CS)]) (v := []) (Hl := [(0, .cells [.int 0, .sl true .exact []]), (1, boxM st (m0 :: mt))]) h2e ?zu ?zw ?zx ⟨?zc, ?zv, ?zh, Nat.le_of_ble_eq_true rfl⟩ ?zr
      case zu =>
        (repeat' (first | exact trivial | exact (free_ints _ _ _).under | exact Under.ref _ _ (by decide) | (refine And.intro ?_ ?_)))
      case zw =>
        (repeat' (first | exact trivial))
      case zx =>
        (repeat' (first | exact trivial | exact Nat.le_of_ble_eq_true rfl | exact un2 | exact boxM_under _ _ | (refine And.intro ?_ ?_)))
      case zc =>
        (repeat' (first | (refine And.intro ?_ ?_) | exact trivial | exact A.Le.refl _ | exact hgr))
      case zv =>
        (repeat' (first | exact trivial))
      case zh =>
        (repeat' (first | (refine And.intro ?_ ?_) | exact trivial | exact rfl))
      case zr =>
      refine Aw.sm tab_ok mb0 [] rfl rfl ?zo ?zk
      case zo =>
        repeat' apply AllP.cons
        all_goals first | exact trivial | exact rfl | exact Nat.le_of_ble_eq_true rfl
      case zk =>
      exact Aw.ret ⟨_, .cons (resC rfl rfl rfl rfl rfl) (.cons (.tmp _) .nil), rfl⟩
  have hlt : r < 3 := by have := of_decide_eq_true h1; omega
  have hI := hIn r
  have hOs : tOut bits (r + 1) = ((tIn bits r (tOut bits r).1 (tOut bits r).2 3).ms, (tIn bits r (tOut bits r).1 (tOut bits r).2 3).cs) := rfl
  have hPS : ∀ k, tIn bits r (tOut bits r).1 (tOut bits r).2 (k + 1) = tStep bits r k (tIn bits r (tOut bits r).1 (tOut bits r).2 k) := fun k => rfl
  have hP0 : tIn bits r (tOut bits r).1 (tOut bits r).2 0 = ⟨tAt bits r, (tOut bits r).1, (tOut bits r).2⟩ := rfl
  generalize hPe : tIn bits r (tOut bits r).1 (tOut bits r).2 = P at *
  refine Aw.seq (Aw.block ?_)
  refine Aw.sm tab_ok mb0 [(3, [.int (pickF bits ((r : Int) + 1))]), (4, [.int (tMany bits r)])] rfl rfl ?zo ?zk
  case zo =>
    repeat' apply AllP.cons
    all_goals first | exact trivial | exact hp _ | exact hmy r | exact inrk r (by omega)
  case zk =>
  refine Aw.sm tab_ok mb0 [(3, [.int (pickF bits ((r : Int) + 4))]), (5, [.int (tAt bits r)])] rfl rfl ?zo ?zk
  case zo =>
    repeat' apply AllP.cons
    all_goals first | exact trivial | exact hp _ | exact hat r | exact (show inR ((r : Int) + 4) by simp only [inR]; omega)
  case zk =>
  refine Aw.sm tab_ok mb0 [] rfl rfl ?zo ?zk
  case zo =>
    repeat' apply AllP.cons
    all_goals first | exact trivial
  case zk =>
  refine Aw.block (Aw.rounds 2 h2e [(0, .sl lb .any (ints bits)), (2, .ref 0 0), (4, .int st), (5, .ref 1 0), (7, .int r), (8, .int (tMany bits r))] (fun k : Nat => [(6, grL 3 (P k).cs), (9, .int (P k).a), (10, .int k)]) (fun k => [(0, .cells [.int 0, .sl true .exact []]), (1, boxM st (P k).ms)]) (fun k => k ≤ 3) (fun k => 3 - k) 0 ?zg ⟨?zc, ?zv, ?zh, Nat.le_of_ble_eq_true rfl⟩ ?zu (fun k zhk => ?zw) (fun k zhk => ?zx) fun k hk => ?zr)
  case zg =>
    (repeat' (first | exact Nat.zero_le _))
  case zc =>
    (repeat' (first | (refine And.intro ?_ ?_) | exact trivial | exact A.Le.refl _))
  case zv =>
    (repeat' (first | (refine And.intro ?_ ?_) | exact trivial | exact A.Le.refl _ | exact .of_eq (by rw [hP0]; rfl)))
  case zh =>
    (repeat' (first | (refine And.intro ?_ ?_) | exact trivial | exact rfl | exact (by rw [hP0]; rfl)))
  case zu =>
    (repeat' (first | exact trivial | exact Under.s _ | exact (free_ints _ _ _).under | exact Under.ref _ _ (by decide) | (refine And.intro ?_ ?_)))
  case zw =>
    (repeat' (first | exact trivial | exact Under.s _ | exact grL_under _ | (refine And.intro ?_ ?_)))
  case zx =>
    (repeat' (first | exact trivial | exact Nat.le_of_ble_eq_true rfl | exact un2 | exact boxM_under _ _ | (refine And.intro ?_ ?_)))
  case zr =>
  refine Aw.seq ?_
  refine Aw.sm tab_ok mb0 [] rfl rfl ?zo ?zk
  case zo =>
    repeat' apply AllP.cons
    all_goals first | exact trivial
  case zk =>
  refine Aw.cond rfl (fun h2 => Aw.skip ?_) (fun h2 => ?_)
  rotate_left
  · have hle : k = 3 := by have := of_decide_eq_false h2; omega
    subst hle
    refine Aw.exit2 ?_
    refine Aw.em tab_ok mb0 [] rfl rfl ?zo ?zk
    case zo =>
      repeat' apply AllP.cons
      all_goals first | exact trivial | exact inrk r (by omega)
    case zk =>
    refine ⟨r + 1, ?zg, ?zm, ⟨?zc, ?zv, ?zh, Nat.le_of_ble_eq_true rfl⟩⟩
    case zg =>
      (repeat' (first | assumption))
    case zm =>
      (repeat' (first | omega))
    case zc =>
      (repeat' (first | (refine And.intro ?_ ?_) | exact trivial | exact A.Le.refl _))
    case zv =>
      (repeat' (first | (refine And.intro ?_ ?_) | exact trivial | exact A.Le.refl _ | exact .of_eq (congrArg (fun x => grL 3 x.2) hOs)))
    case zh =>
      (repeat' (first | (refine And.intro ?_ ?_) | exact trivial | exact rfl | exact congrArg (fun x => some (boxM st x.1)) hOs.symm))
  have hkl : k < 3 := by have := of_decide_eq_true h2; omega
  have hPk := hPS k
  obtain ⟨hIa, hIt⟩ := hI k
  have hIn1 := hIt.n
  have hIu := hIt.u
  clear hIt
  have hnk := fun a => hnx r k a
  have hnbk := fun a => hnb r k a
  generalize P k = S at *
  obtain ⟨a, ms, cs⟩ := S
  simp only at hIa hIn1 hIu
  have hnk := hnk a
  have hnbk := hnbk a
  have hmb := tMany_bd bits r
  have e1 : 0 ≤ pickF bits r % 2 ∧ pickF bits r % 2 ≤ 1 := by omega
  have e2 : 0 ≤ (k : Int) % 2 ∧ (k : Int) % 2 ≤ 1 := by omega
  have e3 := mul01 e1 e2
  have c4 : Ans Try.prog 41 [.int (pickF bits r), .int 2] (.int (pickF bits r % 2)) := mod_t _ _ (by decide) (by decide)
  have c5 : Ans Try.prog 41 [.int (k : Int), .int 2] (.int ((k : Int) % 2)) := mod_t _ _ (by decide) (by decide)
  have c6 : Ans Try.prog 41 [.int (a + 1 + pickF bits r % 2 * ((k : Int) % 2)), .int st] (.int ((a + 1 + pickF bits r % 2 * ((k : Int) % 2)) % st)) := mod_t _ _ (by omega) (by omega)
  refine Aw.seq (Aw.block ?_)
  refine Aw.sm tab_ok mb0 [(4, [.int (pickF bits r)]), (5, [.int (pickF bits r % 2)]), (7, [.int ((k : Int) % 2)]), (11, [.int ((a + 1 + pickF bits r % 2 * ((k : Int) % 2)) % st)])] rfl rfl ?zo ?zk
  case zo =>
    repeat' apply AllP.cons
    all_goals first | exact trivial | exact hp _ | exact c4 | exact c5 | exact c6 | exact (show inR (a + 1) by simp only [inR]; omega) | exact (show inR (pickF bits r % 2 * ((k : Int) % 2)) by simp only [inR]; omega) | exact (show inR (a + 1 + pickF bits r % 2 * ((k : Int) % 2)) by simp only [inR]; omega)
  case zk =>
  have hatr := hat r
  have hpr := hp ((r : Int) + 4)
  generalize hnv : tNxt bits r k a = nx at *
  refine Aw.join1 2 h2e [(0, .sl lb .any (ints bits)), (2, .ref 0 0), (4, .int st), (5, .ref 1 0), (6, grL 3 cs), (7, .int r), (8, .int (tMany bits r)), (9, .int a), (10, .int k)] [(11, .int nx)] [(0, .cells [.int 0, .sl true .exact []]), (1, boxM st ms)] ⟨ub, .ref _ _ (by decide), .s _, .ref _ _ (by decide), grL_under _, .s _, .s _, .s _, .s _, trivial⟩ ⟨.s _, trivial⟩ ⟨⟨by decide, un2⟩, ⟨by decide, boxM_under _ _⟩, trivial⟩ ?_ ?_
  · refine Aw.sm tab_ok mb0 [] rfl rfl ?zo ?zk
    case zo =>
      repeat' apply AllP.cons
      all_goals first | exact trivial
    case zk =>
    refine Aw.cond rfl (fun h3 => ?_) (fun h3 => Aw.skip ?_)
    · have h3 : ((k : Int) == 2) = true := h3
      have h3 : k = 2 := by rw [beq_iff_eq] at h3; omega
      rw [if_pos h3] at hnk
      rw [hnk]
      refine Aw.em tab_ok mb0 [(3, [.int (pickF bits ((r : Int) + 4))]), (5, [.int (tAt bits r)])] rfl rfl ?zo ?zk
      case zo =>
        repeat' apply AllP.cons
        all_goals first | exact trivial | exact hpr | exact hatr | exact (show inR ((r : Int) + 4) by simp only [inR]; omega)
      case zk =>
      exact ⟨⟨.refl _, .refl _, .refl _, .refl _, .refl _, .refl _, .refl _, .refl _, .refl _, trivial⟩, ⟨.refl _, trivial⟩, ⟨rfl, rfl, trivial⟩, Nat.le_of_ble_eq_true rfl⟩
    · have h3 : ((k : Int) == 2) = false := h3
      have h3 : ¬ k = 2 := fun h => by rw [h] at h3; cases h3
      rw [if_neg h3] at hnk
      rw [hnk]
      exact ⟨⟨.refl _, .refl _, .refl _, .refl _, .refl _, .refl _, .refl _, .refl _, .refl _, trivial⟩, ⟨.refl _, trivial⟩, ⟨rfl, rfl, trivial⟩, Nat.le_of_ble_eq_true rfl⟩
  refine Aw.seq ?_
  refine Aw.sm tab_ok mb0 [] rfl rfl ?zo ?zk
  case zo =>
    repeat' apply AllP.cons
    all_goals first | exact trivial
  case zk =>
  refine Aw.cond rfl (fun h4 => ?_) (fun h4 => Aw.skip ?_)
  rotate_left
  · have h4 : (nx != a) = false := h4
    have h4 : nx = a := by simpa using h4
    have hst2 : P (k + 1) = ⟨nx, ms, cs⟩ := by rw [hPk]; unfold tStep; rw [hnv, if_pos h4]
    refine Aw.em tab_ok mb0 [] rfl rfl ?zo ?zk
    case zo =>
      repeat' apply AllP.cons
      all_goals first | exact trivial
    case zk =>
    refine Aw.em tab_ok mb0 [] rfl rfl ?zo ?zk
    case zo =>
      repeat' apply AllP.cons
      all_goals first | exact trivial | exact inrk k (by omega)
    case zk =>
    refine ⟨k + 1, ?zg, ?zm, ⟨?zc, ?zv, ?zh, Nat.le_of_ble_eq_true rfl⟩⟩
    case zg =>
      (repeat' (first | assumption))
    case zm =>
      (repeat' (first | omega))
    case zc =>
      (repeat' (first | (refine And.intro ?_ ?_) | exact trivial | exact A.Le.refl _))
    case zv =>
      (repeat' (first | (refine And.intro ?_ ?_) | exact trivial | exact A.Le.refl _ | exact .of_eq (congrArg (fun x : TS => grL 3 x.cs) hst2) | exact .of_eq (congrArg (fun x : TS => A.int x.a) hst2)))
    case zh =>
      (repeat' (first | (refine And.intro ?_ ?_) | exact trivial | exact rfl | exact congrArg (fun x : TS => some (boxM st x.ms)) hst2.symm))
  have h4 : (nx != a) = true := h4
  have h4 : ¬ nx = a := by simpa using h4
  have hst2 : P (k + 1) = ⟨nx, ms ++ [tMv bits r k a nx], cs ++ [tMany bits r]⟩ := by rw [hPk]; unfold tStep; rw [hnv, if_neg h4]
  have hmv : tMv bits r k a nx = ⟨a, nx, mx0 (tMany bits r - pickF bits ((r : Int) + k + 5) % 30), tMany bits r + pickF bits ((r : Int) + k + 2) % 30⟩ := rfl
  have p1 := hp ((r : Int) + k + 5)
  have p2 := hp ((r : Int) + k + 2)
  have m1 : Ans Try.prog 41 [.int (pickF bits ((r : Int) + k + 5)), .int 30] (.int (pickF bits ((r : Int) + k + 5) % 30)) := mod_t _ _ (by decide) (by decide)
  have m2 : Ans Try.prog 41 [.int (pickF bits ((r : Int) + k + 2)), .int 30] (.int (pickF bits ((r : Int) + k + 2) % 30)) := mod_t _ _ (by decide) (by decide)
  have d1 : 0 ≤ pickF bits ((r : Int) + k + 5) % 30 ∧ pickF bits ((r : Int) + k + 5) % 30 < 30 := by omega
  have d2 : 0 ≤ pickF bits ((r : Int) + k + 2) % 30 ∧ pickF bits ((r : Int) + k + 2) % 30 < 30 := by omega
  generalize tMv bits r k a nx = mv at *
  generalize pickF bits ((r : Int) + k + 5) = q1 at *
  generalize pickF bits ((r : Int) + k + 2) = q2 at *
  generalize q1 % 30 = r1 at *
  generalize q2 % 30 = r2 at *
  generalize tMany bits r = my at *
  have t1 : Ans Try.prog 51 [.int (if my - r1 > 0 then my - r1 else 0), .int (my + r2)] (.agg (Sp.c ⟨mv.lo, mv.hi⟩)) := by rw [hmv]; exact to_t _ _
  have hmc : [A.int a, .int nx, .int mv.lo, .int mv.hi] = mv.c := by rw [hmv]; rfl
  have hone : ∀ z ∈ [[A.int a, .int nx, .int mv.lo, .int mv.hi]], z.length = 4 := fun z hz => by simp at hz; subst hz; rfl
  have hone1 : ∀ z ∈ [[A.int my]], z.length = 1 := fun z hz => by simp at hz; subst hz; rfl
  have i1 : inR ((r : Int) + k) := by simp only [inR]; omega
  have i2 : inR ((r : Int) + k + 5) := by simp only [inR]; omega
  have i3 : inR ((r : Int) + k + 2) := by simp only [inR]; omega
  have i4 : inR (my - r1) := by simp only [inR]; omega
  have i5 : inR (my + r2) := by simp only [inR]; omega
  cases ms with
  | nil =>
    cases cs with
    | cons x t => simp at hIn1
    | nil =>
      refine Aw.ed tab_ok mixed mb0 [(1, []), (10, [.int q1]), (11, [.int r1]), (20, [.int q2]), (21, [.int r2]), (23, [.agg (Sp.c ⟨mv.lo, mv.hi⟩)])] rfl (by kernel_rfl) rfl rfl ?zo ?zk
      case zo =>
        repeat' apply AllP.cons
        all_goals first | exact trivial | exact rfl | exact Nat.le_of_ble_eq_true rfl | exact p1 | exact p2 | exact m1 | exact m2 | exact t1 | exact hone | exact hone1 | exact i1 | exact i2 | exact i3 | exact i4 | exact i5
      case zk =>
      have b1 : boxM st (P (k + 1)).ms = .cells [.int st, .sl false (.own 76) [[A.int a, .int nx, .int mv.lo, .int mv.hi]]] := by rw [hst2, hmc]; rfl
      refine Aw.em tab_ok mb0 [] rfl rfl ?zo ?zk
      case zo =>
        repeat' apply AllP.cons
        all_goals first | exact trivial
      case zk =>
      refine Aw.em tab_ok mb0 [] rfl rfl ?zo ?zk
      case zo =>
        repeat' apply AllP.cons
        all_goals first | exact trivial | exact inrk k (by omega)
      case zk =>
      refine ⟨k + 1, ?zg, ?zm, ⟨?zc, ?zv, ?zh, Nat.le_of_ble_eq_true rfl⟩⟩
      case zg =>
        (repeat' (first | assumption))
      case zm =>
        (repeat' (first | omega))
      case zc =>
        (repeat' (first | (refine And.intro ?_ ?_) | exact trivial | exact A.Le.refl _))
      case zv =>
        (repeat' (first | (refine And.intro ?_ ?_) | exact trivial | exact A.Le.refl _ | exact .of_eq (show grL 3 (P (k + 1)).cs = A.sl false (.own 3) [[A.int my]] by rw [hst2]; rfl) | exact .of_eq (congrArg (fun x : TS => A.int x.a) hst2)))
      case zh =>
        (repeat' (first | (refine And.intro ?_ ?_) | exact trivial | exact rfl | exact congrArg some b1.symm))
  | cons m0 mt =>
    cases cs with
    | nil => simp at hIn1
    | cons c0 ct =>
      have hlm : ((m0 :: mt).map Mv.c).length ≤ 12 := by rw [List.length_map]; omega
      have hlc : (ints (c0 :: ct)).length ≤ 12 := by rw [ints_len]; omega
      have hz1 := mv_four (m0 :: mt)
      have hz2 := ints_one (c0 :: ct)
      refine Aw.ed tab_ok mixed mb0 [(1, []), (10, [.int q1]), (11, [.int r1]), (20, [.int q2]), (21, [.int r2]), (23, [.agg (Sp.c ⟨mv.lo, mv.hi⟩)])] rfl (by kernel_rfl) rfl rfl ?zo ?zk
      case zo =>
        repeat' apply AllP.cons
        all_goals first | exact trivial | exact rfl | exact Nat.le_of_ble_eq_true rfl | exact p1 | exact p2 | exact m1 | exact m2 | exact t1 | exact hone | exact hone1 | exact hz1 | exact hz2 | exact i1 | exact i2 | exact i3 | exact i4 | exact i5 | exact (show (((m0 :: mt).map Mv.c).length + 1) * 32 ≤ 140737488355328 by omega) | exact (show ((m0 :: mt).map Mv.c).length + 1 ≤ maxLen by unfold maxLen; omega) | exact (show ((ints (c0 :: ct)).length + 1) * 8 ≤ 140737488355328 by omega) | exact (show (ints (c0 :: ct)).length + 1 ≤ maxLen by unfold maxLen; omega)
      case zk =>
      have b1 : boxM st (P (k + 1)).ms = .cells [.int st, .sl false (.own 76) ((m0 :: mt).map Mv.c ++ [[A.int a, .int nx, .int mv.lo, .int mv.hi]])] := by
        rw [hst2, hmc]
        show B.cells [.int st, .sl false (.own 76) ((m0 :: (mt ++ [mv])).map Mv.c)] = _
        simp
      refine Aw.em tab_ok mb0 [] rfl rfl ?zo ?zk
      case zo =>
        repeat' apply AllP.cons
        all_goals first | exact trivial
      case zk =>
      refine Aw.em tab_ok mb0 [] rfl rfl ?zo ?zk
      case zo =>
        repeat' apply AllP.cons
        all_goals first | exact trivial | exact inrk k (by omega)
      case zk =>
      refine ⟨k + 1, ?zg, ?zm, ⟨?zc, ?zv, ?zh, Nat.le_of_ble_eq_true rfl⟩⟩
      case zg =>
        (repeat' (first | assumption))
      case zm =>
        (repeat' (first | omega))
      case zc =>
        (repeat' (first | (refine And.intro ?_ ?_) | exact trivial | exact A.Le.refl _))
      case zv =>
        (repeat' (first | (refine And.intro ?_ ?_) | exact trivial | exact A.Le.refl _ | exact .of_eq (show grL 3 (P (k + 1)).cs = A.sl false (.own 3) (ints (c0 :: ct) ++ [[A.int my]]) by rw [hst2]; simp [grL, ints]) | exact .of_eq (congrArg (fun x : TS => A.int x.a) hst2)))
      case zh =>
        (repeat' (first | (refine And.intro ?_ ?_) | exact trivial | exact rfl | exact congrArg some b1.symm))
theorem le_agg2 {a b a' b' : A} (h1 : A.Le a' a) (h2 : A.Le b' b) : A.Le (.agg [a', b']) (.agg [a, b]) :=
  ⟨fun φ Z w v hv => by
    obtain ⟨vs, e0, e1, e2, e3⟩ := inv_agg hv
    subst e0
    refine .agg _ _ e1 e2 fun i hi => ?_
    match i, hi with
    | 0, _ => exact h1.1 _ _ _ _ (e3 0 (by show 0 < 2; omega))
    | 1, _ => exact h2.1 _ _ _ _ (e3 1 (by show 1 < 2; omega)), fun v p e => by simp [spareOf] at e⟩
theorem true6_t (lb : Bool) (bits : List Int) (hb : (bits.length : Int) ≤ 9223372036854775806) : Ans Try.prog 56 [.sl lb .any (ints bits)] (.tup [.agg (tBook bits).c, outW (tCs bits)]) := by
  refine Ans_out (true6_x lb bits hb) (leT2 (le_agg2 (.refl _) ?_) (.refl _))
  show A.Le (.sl (tOut bits 3).1.isEmpty .any ((tOut bits 3).1.map Mv.c)) (grZ (tOut bits 3).1)
  cases (tOut bits 3).1 with
  | nil => exact .any _ _ _
  | cons x t => exact .refl _
set_option maxRecDepth 100000 in
set_option maxHeartbeats 4000000 in
theorem true_l (lb : Bool) (bits : List Int) (set : Int) (hb : (bits.length : Int) ≤ 9223372036854775806) : Ans Try.prog 13 [.sl lb .any (ints bits), .int set] (.bool true) := by
  have fb : Free (.sl lb .any (ints bits)) := free_ints _ _ _
  have c1 := true6_t lb bits hb
  obtain ⟨h1, h2, hf, he, hok⟩ := tBook_feas bits
  generalize tBook bits = b at *
  generalize tCs bits = C at *
  have lC := ints_lenI C
  have uC : ∀ {m : Nat}, Under m (outW C) := (outW_free _).under
  have ub : ∀ {n : Nat}, Under n (A.pt b.c) := (Free.pt _ b.free).under
  refine told Try.func13 rfl rfl (Pure.of tab_ok Try.func13 rfl Try.ntmps13 rfl (allC (fb) (all1 (.s _))) (allC (fun _ => rfl) (all1 (fun _ => rfl))) (by first | exact .s _ | assumption | exact .tup _ (by intro x hx; simp only [List.mem_cons, List.not_mem_nil, or_false] at hx; rcases hx with rfl | rfl | rfl | rfl <;> first | exact .s _ | (simp_all; done))) fun E hE => ?_)
  refine Aw.sm tab_ok mb0 [] rfl rfl ?zo ?zk
  case zo =>
    repeat' apply AllP.cons
    all_goals first | exact trivial
  case zk =>
  refine Aw.sm tab_ok mb0 [(1, [.tup [.agg b.c, outW C]])] rfl rfl ?zo ?zk
  case zo =>
    repeat' apply AllP.cons
    all_goals first | exact trivial | exact rfl | exact Nat.le_of_ble_eq_true rfl | exact c1
  case zk =>
  refine Aw.freeze (id := 0) (t := 5) (cs := b.c) rfl rfl ?_
  refine Aw.keep (n := 0) (cst := [(1, .int set), (5, .pt b.c), (6, outW C)]) (v := []) (Hl := []) hE ?zu ?zw ?zx ⟨?zc, ?zv, ?zh, Nat.le_of_ble_eq_true rfl⟩ ?zr
  case zu =>
    (repeat' (first | exact trivial | exact Under.s _ | exact (free_ints _ _ _).under | exact ub | (refine And.intro ?_ ?_)))
  case zw =>
    (repeat' (first | exact trivial))
  case zx =>
    (repeat' (first | exact trivial))
  case zc =>
    (repeat' (first | (refine And.intro ?_ ?_) | exact trivial | exact A.Le.refl _))
  case zv =>
    (repeat' (first | exact trivial))
  case zh =>
    (repeat' (first | exact trivial))
  case zr =>
  refine Aw.seq ?_
  refine Aw.sm tab_ok mb0 [] rfl rfl ?zo ?zk
  case zo =>
    repeat' apply AllP.cons
    all_goals first | exact trivial
  case zk =>
  by_cases h0 : C.length = 0
  · refine Aw.cond rfl (fun h => ?_) (fun h => absurd h (by show ¬ (((ints C).length : Int) == 0) = false; rw [lC, h0]; decide))
    refine Aw.sm tab_ok mb0 [(0, [.bool true])] rfl rfl ?zo ?zk
    case zo =>
      repeat' apply AllP.cons
      all_goals first | exact trivial | exact works_t
    case zk =>
    exact Aw.ret ⟨_, .cons (.tmp _) .nil, rfl⟩
  refine Aw.cond rfl (fun h => h0 (by have h : (((ints C).length : Int) == 0) = true := h; rw [lC, beq_iff_eq] at h; omega) |>.elim) (fun h => Aw.skip ?_)
  have hB := hok h0
  have hbo := Book.ok_iff.2 hB
  have hn := hB.n
  have hbl : (b.ms.length : Int) ≤ 9223372036854775806 := by omega
  have c2 := counts_t b hbl C.isEmpty C
  rw [CountsR_yes hB hf he] at c2
  obtain ⟨cs, hcs⟩ := bal_of hB hf he
  have c3 := Balance_w b hbl
  rw [BalanceR_some hB hcs] at c3
  have c4 := proof_t b hbl
  have hP : ProofR b = (0, 4) := by
    unfold ProofR
    rw [if_pos hbo, hcs]
  rw [hP] at c4
  have hpow := pow_bd (n := b.n.toNat) (by omega)
  have hsh := shl_n (n := b.n.toNat) (by omega)
  have hmod : Ans Try.prog 41 [.int set, .int (IntKind.i64.wrap (1 * 2 ^ min b.n.toNat 64))] (.int (set % 2 ^ b.n.toNat)) := by rw [hsh]; exact mod_t _ _ (by omega) (by omega)
  have ho1 := Int.emod_nonneg set (show (2 : Int) ^ b.n.toNat ≠ 0 by omega)
  have ho2 := Int.emod_lt_of_pos set (show 0 < (2 : Int) ^ b.n.toNat by omega)
  generalize set % 2 ^ b.n.toNat = o at *
  have c5 := proves_t b hbl o
  have hov := feas_more hB.n hB.m hf he o
  have e4 : ProvesR b o = (false, 0) := by
    rw [← proves_is]; unfold rProvesR
    rw [if_pos hbo, if_pos (wi_iff.2 (by omega)), decide_eq_false (by omega)]
  rw [e4] at c5
  have hLs : ((((List.range b.ms.length).map (bdS b.n b.ms)).map Sp.c).length : Int) = b.ms.length := by simp
  have hLg : ∀ i, i < b.ms.length → (((List.range b.ms.length).map (bdS b.n b.ms)).map Sp.c)[i]? = some (bdS b.n b.ms i).c := fun i hi => by simp [hi]
  refine Aw.sm tab_ok mb0 [(2, [.tup [.bool true, .int 0]])] rfl rfl ?zo ?zk
  case zo =>
    repeat' apply AllP.cons
    all_goals first | exact trivial | exact Nat.le_of_ble_eq_true rfl | exact c2
  case zk =>
  refine Aw.sm tab_ok mb0 [(1, [.tup [spW ((List.range b.ms.length).map (bdS b.n b.ms)), .int 0]])] rfl rfl ?zo ?zk
  case zo =>
    repeat' apply AllP.cons
    all_goals first | exact trivial | exact Nat.le_of_ble_eq_true rfl | exact c3
  case zk =>
  generalize (List.range b.ms.length).map (bdS b.n b.ms) = L at *
  have uL : ∀ {n : Nat}, Under n (spW L) := (spW_free L).under
  refine Aw.sm tab_ok mb0 [(1, [.tup [.int 0, .int 4]])] rfl rfl ?zo ?zk
  case zo =>
    repeat' apply AllP.cons
    all_goals first | exact trivial | exact Nat.le_of_ble_eq_true rfl | exact c4
  case zk =>
  refine Aw.sd tab_ok mixed mb0 [(5, [.int o]), (6, [.tup [.bool false, .int 0]])] rfl (by kernel_rfl) rfl rfl ?zo ?zk
  case zo =>
    repeat' apply AllP.cons
    all_goals first | exact trivial | exact Nat.le_of_ble_eq_true rfl | exact hmod | exact c5 | exact (by simp only [Ob.of]; omega)
  case zk =>
  refine Aw.seq ?_
  refine Aw.sm tab_ok mb0 [] rfl rfl ?zo ?zk
  case zo =>
    repeat' apply AllP.cons
    all_goals first | exact trivial | exact id | exact fun _ => rfl
  case zk =>
  refine Aw.cond rfl (fun h => absurd h (by
    show ¬ (cond (cond (cond (cond (cond (cond (cond ((0 : Int) != 0) true ((0 : Int) != 0)) true ((4 : Int) != 4)) true ((0 : Int) != 0)) true (!true)) true ((0 : Int) != 0)) true false) true (((L.map Sp.c).length : Int) != ((ints C).length : Int))) = true
    rw [hLs, lC, h1]; simp)) (fun h => Aw.skip ?_)
  refine Aw.keep (n := 0) (cst := [(5, .pt b.c), (6, outW C), (9, spW L)]) (v := []) (Hl := []) hE ?zu ?zw ?zx ⟨?zc, ?zv, ?zh, Nat.le_of_ble_eq_true rfl⟩ ?zr
  case zu =>
    (repeat' (first | exact trivial | exact (free_ints _ _ _).under | exact ub | exact uL | (refine And.intro ?_ ?_)))
  case zw =>
    (repeat' (first | exact trivial))
  case zx =>
    (repeat' (first | exact trivial))
  case zc =>
    (repeat' (first | (refine And.intro ?_ ?_) | exact trivial | exact A.Le.refl _))
  case zv =>
    (repeat' (first | exact trivial))
  case zh =>
    (repeat' (first | exact trivial))
  case zr =>
  refine Aw.seq ?_
  refine Aw.sm tab_ok mb0 [] rfl rfl ?zo ?zk
  case zo =>
    repeat' apply AllP.cons
    all_goals first | exact trivial
  case zk =>
  refine Aw.block (Aw.rounds 0 hE [(5, .pt b.c), (6, outW C), (9, spW L)] (fun i : Nat => [(15, .int i)]) (fun i => []) (fun i => i ≤ b.ms.length) (fun i => b.ms.length - i) 0 ?zg ⟨?zc, ?zv, ?zh, Nat.le_of_ble_eq_true rfl⟩ ?zu (fun i zhk => ?zw) (fun i zhk => ?zx) fun i hk => ?zr)
  case zg =>
    (repeat' (first | exact Nat.zero_le _))
  case zc =>
    (repeat' (first | (refine And.intro ?_ ?_) | exact trivial | exact A.Le.refl _))
  case zv =>
    (repeat' (first | (refine And.intro ?_ ?_) | exact trivial | exact A.Le.refl _))
  case zh =>
    (repeat' (first | exact trivial))
  case zu =>
    (repeat' (first | exact trivial | exact (free_ints _ _ _).under | exact ub | exact uL | (refine And.intro ?_ ?_)))
  case zw =>
    (repeat' (first | exact trivial | exact Under.s _ | (refine And.intro ?_ ?_)))
  case zx =>
    (repeat' (first | exact trivial))
  case zr =>
  refine Aw.seq ?_
  refine Aw.sm tab_ok mb0 [] rfl rfl ?zo ?zk
  case zo =>
    repeat' apply AllP.cons
    all_goals first | exact trivial
  case zk =>
  refine Aw.cond rfl (fun h1 => Aw.skip ?_) (fun h1 => ?_)
  rotate_left
  · refine Aw.exit2 ?_
    refine Aw.sm tab_ok mb0 [(0, [.bool true])] rfl rfl ?zo ?zk
    case zo =>
      repeat' apply AllP.cons
      all_goals first | exact trivial | exact works_t
    case zk =>
    exact Aw.ret ⟨_, .cons (.tmp _) .nil, rfl⟩
  have hlt : i < b.ms.length := by have := of_decide_eq_true h1; omega
  have g1 := hLg i hlt
  have g2 := ints_getD (l := C) (k := i) (by omega)
  have g3 := mvk_at hlt
  have g4 := bd_holds hB.n hB.m hf he hlt
  obtain ⟨⟨u, u1, u2, u3⟩, w, w1, w2, w3⟩ := bd_got hB.n hB.m hf he hlt
  have ubd := u1.b i hlt
  have wbd := w1.b i hlt
  rw [u3] at ubd
  rw [w3] at wbd
  generalize bdS b.n b.ms i = S at *
  generalize C.getD i 0 = c at *
  generalize mvk b.ms i = m at *
  have c6 := holds_l S c
  rw [wi_iff.2 g4] at c6
  refine Aw.seq (Aw.block ?_)
  refine Aw.sd tab_ok mixed mb0 [(2, S.c), (6, [.int c]), (8, [.bool true]), (13, S.c), (19, m.c), (28, S.c), (34, m.c)] rfl (by kernel_rfl) rfl rfl ?zo ?zk
  case zo =>
    repeat' apply AllP.cons
    all_goals first | exact trivial | exact id | exact rfl | exact fun _ => rfl | exact Nat.le_of_ble_eq_true rfl | exact fun _ => Nat.le_of_ble_eq_true rfl | exact Int.natCast_nonneg _ | exact fun _ => Int.natCast_nonneg _ | exact gq_f | exact g1 | exact g2 | exact c6 | exact fun _ => g1 | exact fun _ => g3
  case zk =>
  refine Aw.cond rfl (fun h => absurd h (by show ¬ (cond (cond (!true) true (decide (S.lo < m.lo))) true (decide (S.hi > m.hi))) = true; rw [decide_eq_false (by omega), decide_eq_false (by omega)]; decide)) (fun h => Aw.skip ?_)
  refine Aw.em tab_ok mb0 [] rfl rfl ?zo ?zk
  case zo =>
    repeat' apply AllP.cons
    all_goals first | exact trivial | exact inrk i (by omega)
  case zk =>
  refine ⟨i + 1, ?zg, ?zm, ⟨?zc, ?zv, ?zh, Nat.le_of_ble_eq_true rfl⟩⟩
  case zg =>
    (repeat' (first | assumption))
  case zm =>
    (repeat' (first | omega))
  case zc =>
    (repeat' (first | (refine And.intro ?_ ?_) | exact trivial | exact A.Le.refl _))
  case zv =>
    (repeat' (first | (refine And.intro ?_ ?_) | exact trivial | exact A.Le.refl _))
  case zh =>
    (repeat' (first | exact trivial))
end Go.Proofs.Ytampldajinhenaa

namespace Go.Proofs.Ytampldajinhenaa
open Go Go.AL Go.ChangeShapes Go.WideShapes Go.ChangeAt Go.RowKit
set_option maxRecDepth 100000 in
theorem barrelTrue_lifted (os : Os) (started : os.Started) (H : Type) (enc : TypeId × Value → H) :
    ReturnsInHanded {} Try.checked os 13 .any (Rows.barrelTrueSpec.pre6 enc Try.prog Try.f13 [] false) (Rows.barrelTrueSpec.post enc Try.prog Try.f13 false true false false) := by
  refine lifted2 (tb := 4) (C := Try.checked) own started (by kernel_rfl) Try.func13
    (ChangeSpec.witness6 (enc := enc) (C := Try.checked) false ⟨#[], #[.slice none 0 0, .int .i64 0], []⟩ 8 (by kernel_rfl) (by kernel_rfl) (by kernel_rfl) (by kernel_rfl))
    laidOut ?_ rfl rfl (by kernel_rfl) uBool ?_ ?_
  · rw [Try.params13]; exact all2t (p := fun t => Try.prog.readableRec t = true ∧ t < Try.prog.types.size) t22 t3
  · intro ds hd
    rw [Try.params13] at hd
    match ds, hd with
    | [d0, d1], _ => rfl
  · intro W base args ds p hval hA hwt
    rw [Try.params13] at hA hval
    obtain ⟨v0, v1, d0, d1, p0, p1, rfl, rfl, rfl, h0, h1⟩ := trodAll_two hA
    obtain ⟨b0, y0, q0, s0⟩ := arg_ints (φ := fun _ => none) (hval 0 22 v0 rfl rfl) h0 fun k hk => hwt k (List.mem_append.2 (.inl hk))
    obtain ⟨y1, q1⟩ := arg_int (φ := fun _ => none) (hval 1 3 v1 rfl rfl) h1 fun k hk => hwt k (List.mem_append.2 (.inr (List.mem_append.2 (.inl hk))))
    exact ⟨_, _, vrs2 q0 q1, true_l b0 y0 y1 s0⟩
theorem barrelTrue_holds : Rows.BarrelTrueSaid :=
  OpenClaim.holds_of_wide 13 Try.f13 rfl rfl rfl rfl rfl rfl rfl ⟨rfl, rfl, rfl, rfl, rfl⟩ rfl rfl rfl rfl rfl (by kernel_rfl) Try.func13 (by kernel_rfl)
    (of_decide_eq_true (by kernel_rfl)) (by unfold Func.isWrapper; first | (rw [if_pos (by decide +kernel)]; kernel_rfl) | (rw [if_neg (by decide +kernel)]; exact ⟨rfl, rfl⟩))
    (fun os started H enc _ => barrelTrue_lifted os started H enc)
end Go.Proofs.Ytampldajinhenaa

