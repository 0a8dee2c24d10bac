/- BarrelReached holds: each end of what is returned for a move is reached, and nothing beyond it. No condition. -/
import Derived.Test.YtampldajinhenaaK6
set_option linter.all false
namespace Go.AL.Br
open Go Go.AL Go.AL.Q
def bitB (set k : Int) : Bool := bitV set k == 1
def mr1 (set wo : Int) (i : Nat) (m : Mv) (n : Int) : Int := if cond (cond ((i : Int) != wo) (bitB set m.fr) false) (!bitB set m.to) false then n + m.lo else n
def mr2 (set wo : Int) (i : Nat) (m : Mv) (n : Int) : Int := if cond (cond ((i : Int) != wo) (bitB set m.to) false) (!bitB set m.fr) false then n - m.hi else n
def mrStep (set wo : Int) (ms : List Mv) (n : Int) (i : Nat) : Int := mr2 set wo i (mvk ms i) (mr1 set wo i (mvk ms i) n)
def moreK (set wo : Int) (ms : List Mv) (k : Nat) : Int := (List.range k).foldl (mrStep set wo ms) 0
def moreF (set wo : Int) (ms : List Mv) : Int := moreK set wo ms ms.length
theorem moreK_succ (set wo : Int) (ms : List Mv) (k : Nat) : moreK set wo ms (k + 1) = mr2 set wo k (mvk ms k) (mr1 set wo k (mvk ms k) (moreK set wo ms k)) := by
  unfold moreK; rw [List.range_succ, List.foldl_append]; rfl
def prGo (ms : List Mv) : Nat → Nat → Int
  | 0, _ => -1
  | f + 1, s => if moreF s (-1) ms > 0 then s else prGo ms f (s + 1)
def proofS (n : Int) (ms : List Mv) : Int := prGo ms (2 ^ n.toNat) 0
theorem prGo_neg {ms : List Mv} : ∀ (f s : Nat), prGo ms f s < 0 ↔ ∀ t, s ≤ t → t < s + f → ¬ moreF t (-1) ms > 0
  | 0, s => ⟨fun _ t h1 h2 => by omega, fun _ => (show (-1 : Int) < 0 by decide)⟩
  | f + 1, s => by
    rw [prGo]
    have ih := prGo_neg (ms := ms) f (s + 1)
    split
    · rename_i h
      exact ⟨fun h1 => by omega, fun h1 => absurd h (h1 s (Nat.le_refl _) (by omega))⟩
    · rename_i h
      rw [ih]
      exact ⟨fun h1 t h2 h3 => by
        rcases Nat.eq_or_lt_of_le h2 with e | h4
        · exact e ▸ h
        · exact h1 t h4 (by omega), fun h1 t h2 h3 => h1 t (by omega) (by omega)⟩
end Go.AL.Br

namespace Go.AL.Br
open Go Go.AL Go.AL.Q
def sumN (f : Nat → Int) : Nat → Int
  | 0 => 0
  | n + 1 => sumN f n + f n
def ifc (b : Bool) (c : Int) : Int := if b then c else 0
def flK (q : Int → Bool) (ms : List Mv) (cs : List Int) : Nat → Int
  | 0 => 0
  | k + 1 => flK q ms cs k + ifc (q (mvk ms k).to) (cs.getD k 0) - ifc (q (mvk ms k).fr) (cs.getD k 0)
theorem ov_flK {ms : List Mv} {cs : List Int} (hl : ms.length = cs.length) (s : Int) : ∀ k, k ≤ ms.length → ov (ms.take k) (cs.take k) s = flK (fun t => decide (t = s)) ms cs k
  | 0, _ => by simp [ov, flK]
  | k + 1, hk => by
    have h1 : k < ms.length := by omega
    have h2 : k < cs.length := by omega
    have ih := ov_flK hl s k (by omega)
    rw [List.take_succ_eq_append_getElem h1, List.take_succ_eq_append_getElem h2, ov_snoc _ _ _ (by rw [List.length_take, List.length_take]; omega), ih, flK, mvk_get h1]
    have e : cs.getD k 0 = cs[k] := by simp [List.getD_eq_getElem?_getD, h2]
    rw [e]
    unfold ifc
    simp only [decide_eq_true_eq]
theorem ov_fl {ms : List Mv} {cs : List Int} (hl : ms.length = cs.length) (s : Int) : ov ms cs s = flK (fun t => decide (t = s)) ms cs ms.length := by
  have := ov_flK hl s ms.length (Nat.le_refl _)
  rwa [List.take_length, hl, List.take_length, ← hl] at this
theorem sum_step (q : Int → Bool) (X : Nat → Int) (to fr c : Int) : ∀ n : Nat, sumN (fun s => ifc (q s) (X s + ifc (decide (to = (s : Int))) c - ifc (decide (fr = (s : Int))) c)) n = sumN (fun s => ifc (q s) (X s)) n + ifc (decide (0 ≤ to ∧ to < n) && q to) c - ifc (decide (0 ≤ fr ∧ fr < n) && q fr) c
  | 0 => by
    have h1 : ∀ t : Int, decide (0 ≤ t ∧ t < ((0 : Nat) : Int)) = false := fun t => decide_eq_false (by omega)
    rw [h1, h1]; simp [sumN, ifc]
  | n + 1 => by
    have ih := sum_step q X to fr c n
    have key : ∀ t : Int, ifc (decide (0 ≤ t ∧ t < ((n + 1 : Nat) : Int)) && q t) c = ifc (decide (0 ≤ t ∧ t < (n : Int)) && q t) c + ifc (decide (t = (n : Int)) && q n) c := fun t => by
      by_cases e : t = (n : Int)
      · subst e
        rw [decide_eq_true (show 0 ≤ (n : Int) ∧ (n : Int) < ((n + 1 : Nat) : Int) by omega), decide_eq_false (show ¬ (0 ≤ (n : Int) ∧ (n : Int) < (n : Int)) by omega), decide_eq_true rfl]
        simp [ifc]
      · rw [decide_eq_false e]
        by_cases h : 0 ≤ t ∧ t < (n : Int)
        · rw [decide_eq_true h, decide_eq_true (show 0 ≤ t ∧ t < ((n + 1 : Nat) : Int) by omega)]; simp [ifc]
        · rw [decide_eq_false h, decide_eq_false (show ¬ (0 ≤ t ∧ t < ((n + 1 : Nat) : Int)) by omega)]; simp [ifc]
    rw [sumN, sumN, ih, key to, key fr]
    by_cases hq : q n = true
    · rw [hq]; simp only [Bool.and_true]
      show _ + (X n + ifc (decide (to = n)) c - ifc (decide (fr = n)) c) = _ + X n + _ - _
      generalize ifc (decide (to = n)) c = u
      generalize ifc (decide (fr = n)) c = v
      show _ = _
      omega
    · have hq : q n = false := by simpa using hq
      rw [hq]; simp [ifc]
theorem sum_fl {n : Nat} {q : Int → Bool} {ms : List Mv} {cs : List Int} (h : ∀ m ∈ ms, (0 ≤ m.fr ∧ m.fr < n) ∧ 0 ≤ m.to ∧ m.to < n) : ∀ k, k ≤ ms.length → sumN (fun s => ifc (q s) (flK (fun t => decide (t = (s : Int))) ms cs k)) n = flK q ms cs k
  | 0, _ => by
    have : ∀ n, sumN (fun s => ifc (q s) (flK (fun t => decide (t = (s : Int))) ms cs 0)) n = 0 := by
      intro n
      induction n with
      | zero => rfl
      | succ n ih => rw [sumN, ih]; unfold ifc flK; split <;> rfl
    exact this n
  | k + 1, hk => by
    have ih := sum_fl h k (by omega) (q := q) (cs := cs)
    have hm := h _ (mvk_mem (show k < ms.length by omega))
    have := sum_step q (fun s => flK (fun t => decide (t = (s : Int))) ms cs k) (mvk ms k).to (mvk ms k).fr (cs.getD k 0) n
    rw [ih, decide_eq_true hm.1, decide_eq_true hm.2, Bool.true_and, Bool.true_and] at this
    exact this
theorem sum_cut {n : Int} (hn : 0 ≤ n) {q : Int → Bool} {ms : List Mv} {cs : List Int} (hl : ms.length = cs.length) (h : ∀ m ∈ ms, m.Ok n) : sumN (fun s => ifc (q s) (ov ms cs s)) n.toNat = flK q ms cs ms.length := by
  have e : (fun s : Nat => ifc (q s) (ov ms cs s)) = fun s : Nat => ifc (q s) (flK (fun t => decide (t = (s : Int))) ms cs ms.length) := funext fun s => by rw [ov_fl hl]
  rw [e]
  refine sum_fl (fun m hm => ?_) ms.length (Nat.le_refl _)
  have h1 := (h m hm).f
  have h2 := (h m hm).t
  omega
theorem flK_true (ms : List Mv) (cs : List Int) : ∀ k, flK (fun _ => true) ms cs k = 0
  | 0 => rfl
  | k + 1 => by rw [flK, flK_true ms cs k]; simp [ifc]
theorem sumN_neg {f : Nat → Int} : ∀ {n : Nat}, (∀ i, i < n → f i ≤ 0) → sumN f n ≤ 0
  | 0, _ => Int.le_refl _
  | n + 1, h => by
    have := sumN_neg (f := f) (n := n) fun i hi => h i (by omega)
    have := h n (by omega)
    rw [sumN]; omega
theorem sumN_zero {f : Nat → Int} : ∀ {n : Nat}, (∀ i, i < n → f i ≤ 0) → sumN f n = 0 → ∀ i, i < n → f i = 0
  | 0, _, _, i, hi => by omega
  | n + 1, h, e, i, hi => by
    rw [sumN] at e
    have h1 := sumN_neg (f := f) (n := n) fun i hi => h i (by omega)
    have h2 := h n (by omega)
    rcases Nat.lt_succ_iff_lt_or_eq.1 hi with h3 | rfl
    · exact sumN_zero (fun i hi => h i (by omega)) (by omega) i h3
    · omega
theorem sumN_pos {f : Nat → Int} : ∀ {n : Nat}, (∀ i, i < n → 0 ≤ f i) → ∀ i, i < n → f i ≤ sumN f n
  | 0, _, i, hi => by omega
  | n + 1, h, i, hi => by
    have h0 : ∀ m, m ≤ n → 0 ≤ sumN f m := by
      intro m
      induction m with
      | zero => intro _; exact Int.le_refl _
      | succ m ih => intro hm; rw [sumN]; have := ih (by omega); have := h m (by omega); omega
    rw [sumN]
    rcases Nat.lt_succ_iff_lt_or_eq.1 hi with h3 | rfl
    · have := sumN_pos (f := f) (n := n) (fun i hi => h i (by omega)) i h3
      have := h n (by omega)
      omega
    · have := h0 i (Nat.le_refl _)
      omega
theorem sumN_split {q : Int → Bool} {X : Nat → Int} : ∀ n : Nat, sumN (fun s => ifc (q s) (X s)) n + sumN (fun s => ifc (!q s) (X s)) n = sumN (fun s => ifc true (X s)) n
  | 0 => rfl
  | n + 1 => by
    have ih := sumN_split (q := q) (X := X) n
    simp only [sumN]
    cases q n <;> simp [ifc] at ih ⊢ <;> omega
def cutK (q : Int → Bool) (ms : List Mv) : Nat → Int
  | 0 => 0
  | k + 1 => cutK q ms k + ifc (q (mvk ms k).fr && !q (mvk ms k).to) (mvk ms k).lo - ifc (q (mvk ms k).to && !q (mvk ms k).fr) (mvk ms k).hi
theorem more_cut (set : Int) (ms : List Mv) : ∀ k, moreK set (-1) ms k = cutK (bitB set) ms k
  | 0 => rfl
  | k + 1 => by
    rw [moreK_succ, more_cut set ms k, cutK]
    have e : ((k : Int) != -1) = true := by simp
    unfold mr2 mr1
    rw [e]
    cases bitB set (mvk ms k).fr <;> cases bitB set (mvk ms k).to <;> simp [ifc]
theorem cut_le {q : Int → Bool} {ms : List Mv} {cs : List Int} (hf : Feas ms cs) : ∀ k, k ≤ ms.length → cutK q ms k ≤ - flK q ms cs k
  | 0, _ => by simp [cutK, flK]
  | k + 1, hk => by
    have ih := cut_le (q := q) hf k (by omega)
    have hb := hf.b k (by omega)
    rw [cutK, flK]
    generalize cs.getD k 0 = c at *
    cases q (mvk ms k).fr <;> cases q (mvk ms k).to <;> simp [ifc] <;> omega
theorem cut_eq {q : Int → Bool} {ms : List Mv} {cs : List Int} (h : ∀ k, k < ms.length → (q (mvk ms k).fr = true → q (mvk ms k).to = false → cs.getD k 0 = (mvk ms k).lo) ∧ (q (mvk ms k).to = true → q (mvk ms k).fr = false → cs.getD k 0 = (mvk ms k).hi)) : ∀ k, k ≤ ms.length → cutK q ms k = - flK q ms cs k
  | 0, _ => by simp [cutK, flK]
  | k + 1, hk => by
    have ih := cut_eq (q := q) h k (by omega)
    have hb := h k (by omega)
    rw [cutK, flK]
    generalize cs.getD k 0 = c at *
    cases h1 : q (mvk ms k).fr <;> cases h2 : q (mvk ms k).to <;> simp [ifc]
    · omega
    · have := hb.2 h2 h1; omega
    · have := hb.1 h1 h2; omega
    · omega
theorem feas_more {n : Int} (hn : 2 ≤ n ∧ n ≤ 6) {ms : List Mv} (hms : ∀ m ∈ ms, m.Ok n) {cs : List Int} (hf : Feas ms cs) (hz : ∀ s : Nat, s < n.toNat → ov ms cs s = 0) (set : Int) : moreF set (-1) ms ≤ 0 := by
  unfold moreF
  rw [more_cut]
  have h1 := cut_le (q := bitB set) hf ms.length (Nat.le_refl _)
  have h2 := sum_cut (n := n) (by omega) (q := bitB set) hf.l hms
  have h3 : sumN (fun s => ifc (bitB set s) (ov ms cs s)) n.toNat = 0 := by
    have : ∀ m, m ≤ n.toNat → sumN (fun s => ifc (bitB set s) (ov ms cs s)) m = 0 := by
      intro m
      induction m with
      | zero => intro _; rfl
      | succ m ih => intro hm; rw [sumN, ih (by omega), hz m (by omega)]; unfold ifc; split <;> rfl
    exact this _ (Nat.le_refl _)
  omega
theorem fin_zero {n : Int} (hn : 2 ≤ n ∧ n ≤ 6) {ms : List Mv} (hms : ∀ m ∈ ms, m.Ok n) {cs : List Int} (hf : Feas ms cs) (h : ∀ s : Nat, s < n.toNat → ov ms cs s ≤ 0) : ∀ s : Nat, s < n.toNat → ov ms cs s = 0 := by
  have h2 := sum_cut (n := n) (by omega) (q := fun _ => true) hf.l hms
  rw [flK_true] at h2
  have := sumN_zero (f := fun s : Nat => ifc true (ov ms cs s)) (n := n.toNat) (fun i hi => by show ifc true (ov ms cs i) ≤ 0; unfold ifc; rw [if_pos rfl]; exact h i hi) h2
  intro s hs
  have := this s hs
  unfold ifc at this
  rwa [if_pos rfl] at this
theorem negGo_none {ms : List Mv} {cs L : List Int} {a : Int} : ∀ (ss : List Nat) (rch : List Int), (negGo ms cs L a ss rch).1 = none →
    (∀ s ∈ ss, L.getD s 0 < 0 → (wayW ms cs a s (-1)).1 = none) ∧ ((∀ s ∈ ss, ¬ L.getD s 0 < 0) ∧ (negGo ms cs L a ss rch).2 = rch ∨ ∃ s ∈ ss, L.getD s 0 < 0 ∧ (negGo ms cs L a ss rch).2 = (wayW ms cs a s (-1)).2)
  | [], rch, _ => ⟨fun s h => (by cases h), .inl ⟨fun s h => (by cases h), rfl⟩⟩
  | s :: ss, rch, h => by
    rw [negGo] at h ⊢
    by_cases h1 : L.getD s 0 ≥ 0
    · rw [if_pos h1] at h ⊢
      obtain ⟨k1, k2⟩ := negGo_none ss rch h
      refine ⟨fun t ht hn => ?_, ?_⟩
      · rcases List.mem_cons.1 ht with rfl | ht
        · omega
        · exact k1 t ht hn
      · rcases k2 with ⟨k2, k3⟩ | ⟨t, ht, k2, k3⟩
        · refine .inl ⟨fun t ht => ?_, k3⟩
          rcases List.mem_cons.1 ht with rfl | ht
          · omega
          · exact k2 t ht
        · exact .inr ⟨t, List.mem_cons_of_mem _ ht, k2, k3⟩
    · rw [if_neg h1] at h ⊢
      cases hw : (wayW ms cs a s (-1)).1 with
      | some l => rw [hw] at h; cases h
      | none =>
        rw [hw] at h
        simp only at h ⊢
        obtain ⟨k1, k2⟩ := negGo_none ss _ h
        refine ⟨fun t ht hn => ?_, ?_⟩
        · rcases List.mem_cons.1 ht with rfl | ht
          · exact hw
          · exact k1 t ht hn
        · rcases k2 with ⟨k2, k3⟩ | ⟨t, ht, k2, k3⟩
          · exact .inr ⟨s, List.mem_cons_self .., by omega, k3⟩
          · exact .inr ⟨t, List.mem_cons_of_mem _ ht, k2, k3⟩
theorem stuck_more {n : Int} (hn : 2 ≤ n ∧ n ≤ 6) {ms : List Mv} (hms : ∀ m ∈ ms, m.Ok n) {cs : List Int} (hf : Feas ms cs) {a : Nat} (ha : firstPos (ovL n ms cs) = some a)
    (hg : (negGo ms cs (ovL n ms cs) a (List.range n.toNat) []).1 = none) {set : Int} (hs : ∀ s : Nat, s < n.toNat → bitB set s = !(negGo ms cs (ovL n ms cs) a (List.range n.toNat) []).2.contains (s : Int)) : moreF set (-1) ms > 0 := by
  obtain ⟨h1, h2⟩ := firstPos_some ha
  rw [ovL_len] at h1
  have gL : ∀ s : Nat, s < n.toNat → (ovL n ms cs).getD s 0 = ov ms cs s := fun s hs => by
    have := ovL_get (n := n) (ms := ms) (cs := cs) (s := (s : Int)) (by omega)
    rwa [Int.toNat_natCast] at this
  rw [gL a h1] at h2
  obtain ⟨k1, k2⟩ := negGo_none _ _ hg
  have hain : 0 ≤ (a : Int) ∧ (a : Int) < n := by omega
  have hw : ∀ s : Nat, s < n.toNat → ov ms cs s < 0 → WayIs n ms cs a s (-1) ∧ (wayW ms cs a s (-1)).1 = none := fun s hs hneg =>
    ⟨way_is hn hms hf (fr := (a : Int)) (to := (s : Int)) (wo := -1) hain (fun e => by rw [e] at h2; omega), k1 s (List.mem_range.2 hs) (by rw [gL s hs]; exact hneg)⟩
  rcases k2 with ⟨k2, _⟩ | ⟨t, ht, k2, k3⟩
  · exfalso
    have hz : ∀ s : Nat, s < n.toNat → 0 ≤ ov ms cs s := fun s hs => by
      have := k2 s (List.mem_range.2 hs)
      rw [gL s hs] at this; omega
    have h3 := sum_cut (n := n) (by omega) (q := fun _ => true) hf.l hms
    rw [flK_true] at h3
    have h4 := sumN_pos (f := fun s : Nat => ifc true (ov ms cs s)) (n := n.toNat) (fun i hi => by show 0 ≤ ifc true (ov ms cs i); unfold ifc; rw [if_pos rfl]; exact hz i hi) a h1
    have h5 : ifc true (ov ms cs a) = ov ms cs a := by unfold ifc; rw [if_pos rfl]
    rw [h5] at h4
    omega
  · have ht := List.mem_range.1 ht
    rw [gL t ht] at k2
    rw [k3] at hs
    obtain ⟨wt, wn⟩ := hw t ht k2
    have hcl := (wt.not wn).2
    have hno : ∀ s : Nat, s < n.toNat → ov ms cs s < 0 → (s : Int) ∉ (wayW ms cs a t (-1)).2 := fun s hs hneg hin => by
      obtain ⟨ws, wsn⟩ := hw s hs hneg
      have hc := ws.not wsn
      have := wt.min (fun x => x ∈ (wayW ms cs a s (-1)).2) (fun x hx => hc.2 x hx) ws.fr' s hin
      exact hc.1 this
    have hfr := wt.fr'
    generalize (wayW ms cs a t (-1)).2 = rch at *
    have hbq : ∀ s : Int, 0 ≤ s ∧ s < n → (bitB set s = false ↔ s ∈ rch) := fun s h => by
      have := hs s.toNat (by omega)
      rw [show ((s.toNat : Nat) : Int) = s by omega] at this
      rw [this, Bool.not_eq_false', List.contains_iff_mem]
    unfold moreF
    rw [more_cut, cut_eq (q := bitB set) (cs := cs) (fun k hk => ?_) ms.length (Nat.le_refl _)]
    rotate_left
    · have hmo := hms _ (mvk_mem hk)
      have hb := hf.b k hk
      have hfi := hmo.f
      have hti := hmo.t
      refine ⟨fun x1 x2 => ?_, fun x1 x2 => ?_⟩
      · have y2 := (hbq _ hti).1 x2
        have y1 : (mvk ms k).fr ∉ rch := fun h => by have := (hbq _ hfi).2 h; rw [x1] at this; cases this
        have := hcl _ y2 k hk
        refine Classical.byContradiction fun hne => y1 ?_
        have h9 := this ⟨by omega, .inr ⟨rfl, by omega⟩⟩
        unfold nxS at h9
        rwa [if_pos rfl] at h9
      · have y2 := (hbq _ hfi).1 x2
        have y1 : (mvk ms k).to ∉ rch := fun h => by have := (hbq _ hti).2 h; rw [x1] at this; cases this
        have := hcl _ y2 k hk
        refine Classical.byContradiction fun hne => y1 ?_
        have h9 := this ⟨by omega, .inl ⟨rfl, by omega⟩⟩
        unfold nxS at h9
        rwa [if_neg hmo.ne] at h9
    · have h3 := sum_cut (n := n) (by omega) (q := bitB set) hf.l hms
      have h4 := sum_cut (n := n) (by omega) (q := fun _ => true) hf.l hms
      rw [flK_true] at h4
      have h5 := sumN_split (q := bitB set) (X := fun s => ov ms cs s) n.toNat
      have h6 := sumN_pos (f := fun s : Nat => ifc (!bitB set s) (ov ms cs s)) (n := n.toNat) (fun i hi => by
        show 0 ≤ ifc (!bitB set i) (ov ms cs i)
        unfold ifc
        split
        · rename_i hb
          have hb : bitB set i = false := by simpa using hb
          have h7 := (hbq i (by omega)).1 hb
          by_cases h8 : ov ms cs i < 0
          · exact absurd h7 (hno i hi h8)
          · omega
        · exact Int.le_refl _) a h1
      have h7 : bitB set a = false := (hbq a hain).2 hfr
      have h8 : ifc (!bitB set a) (ov ms cs a) = ov ms cs a := by rw [h7]; rfl
      rw [h8] at h6
      have h5' : sumN (fun s => ifc (bitB set s) (ov ms cs s)) n.toNat + sumN (fun s => ifc (!bitB set s) (ov ms cs s)) n.toNat = sumN (fun s => ifc true (ov ms cs s)) n.toNat := h5
      omega
end Go.AL.Br

namespace Go.AL.Br
open Go Go.AL Go.AL.Q
theorem bits : ∀ k : Nat, k < 6 → ∀ p : Nat, p < 2 ^ k → (∀ i : Nat, i < k → bitV ((p : Int) + 2 ^ k) i = bitV p i) ∧ bitV ((p : Int) + 2 ^ k) k = 1 ∧ bitV p k = 0 := by decide +kernel
def prStep' (rch : List Int) (p : Int) (s : Nat) : Int := if rch.contains (s : Int) then p else p + 2 ^ s
theorem prf_bits (rch : List Int) : ∀ k : Nat, k ≤ 6 → ∃ p : Nat, (List.range k).foldl (prStep' rch) 0 = p ∧ p < 2 ^ k ∧ ∀ s : Nat, s < k → bitB p s = !rch.contains (s : Int)
  | 0, _ => ⟨0, rfl, by decide, fun s h => by omega⟩
  | k + 1, h => by
    obtain ⟨p, e, hp, hb⟩ := prf_bits rch k (by omega)
    obtain ⟨h1, h2, h3⟩ := bits k (by omega) p hp
    have hpow : 2 ^ (k + 1) = 2 ^ k * 2 := Nat.pow_succ ..
    rw [List.range_succ, List.foldl_append, e]
    by_cases hc : rch.contains (k : Int) = true
    · refine ⟨p, by show prStep' rch p k = p; unfold prStep'; rw [if_pos hc], by omega, fun s hs => ?_⟩
      rcases Nat.lt_succ_iff_lt_or_eq.1 hs with h4 | rfl
      · exact hb s h4
      · rw [hc]; unfold bitB; rw [h3]; rfl
    · refine ⟨p + 2 ^ k, by show prStep' rch p k = _; unfold prStep'; rw [if_neg hc]; push_cast; rfl, by omega, fun s hs => ?_⟩
      have ec : ((p + 2 ^ k : Nat) : Int) = (p : Int) + 2 ^ k := by push_cast; rfl
      rw [ec]
      rcases Nat.lt_succ_iff_lt_or_eq.1 hs with h4 | rfl
      · have := hb s h4
        unfold bitB at this ⊢
        rw [h1 s h4]; exact this
      · have hc : rch.contains (s : Int) = false := by simpa using hc
        rw [hc]; unfold bitB; rw [h2]; rfl
theorem balF_none {n : Int} (hn : 2 ≤ n ∧ n ≤ 6) {ms : List Mv} (hms : ∀ m ∈ ms, m.Ok n) : ∀ (f : Nat) (cs : List Int), Feas ms cs → phi n ms cs < f → (balF n ms f cs).1 = none → moreF (balF n ms f cs).2 (-1) ms > 0 ∧ 0 ≤ (balF n ms f cs).2 ∧ (balF n ms f cs).2 < 2 ^ n.toNat
  | 0, cs, hf, hp, h => by omega
  | f + 1, cs, hf, hp, h => by
    rw [balF] at h ⊢
    cases hfp : firstPos (ovL n ms cs) with
    | none => rw [hfp] at h; cases h
    | some a =>
      rw [hfp] at h
      simp only at h ⊢
      cases hg : (negGo ms cs (ovL n ms cs) a (List.range n.toNat) []).1 with
      | some l =>
        rw [hg] at h
        simp only at h ⊢
        have hst := bal_step hn hms hf hfp hg
        exact balF_none hn hms f _ hst.1 (by omega) h
      | none =>
        simp only
        obtain ⟨p, e, hp2, hb⟩ := prf_bits (negGo ms cs (ovL n ms cs) a (List.range n.toNat) []).2 n.toNat (by omega)
        have e2 : prfV n (negGo ms cs (ovL n ms cs) a (List.range n.toNat) []).2 = p := e
        rw [e2]
        refine ⟨stuck_more hn hms hf hfp hg hb, by omega, ?_⟩
        have : ((2 ^ n.toNat : Nat) : Int) = 2 ^ n.toNat := by push_cast; rfl
        omega
theorem balF_some {n : Int} (hn : 2 ≤ n ∧ n ≤ 6) {ms : List Mv} (hms : ∀ m ∈ ms, m.Ok n) : ∀ (f : Nat) (cs : List Int), Feas ms cs → ∀ l, (balF n ms f cs).1 = some l → Feas ms l ∧ ∀ s : Nat, s < n.toNat → ov ms l s = 0
  | 0, cs, hf, l, h => by cases h
  | f + 1, cs, hf, l, h => by
    rw [balF] at h
    cases hp : firstPos (ovL n ms cs) with
    | none =>
      rw [hp] at h
      have h : some cs = some l := h
      cases h
      refine ⟨hf, fin_zero hn hms hf fun s hs => ?_⟩
      have h1 := List.findIdx?_eq_none_iff.1 hp
      have h2 := ovL_get (n := n) (ms := ms) (cs := cs) (s := (s : Int)) (by omega)
      rw [Int.toNat_natCast] at h2
      have hl := ovL_len n ms cs
      have e : (ovL n ms cs).getD s 0 = (ovL n ms cs)[s]'(by omega) := by simp [List.getD_eq_getElem?_getD, show s < (ovL n ms cs).length by omega]
      have := h1 _ (List.getElem_mem (show s < (ovL n ms cs).length by omega))
      rw [← e, h2] at this
      simpa using this
    | some a =>
      rw [hp] at h
      simp only at h
      cases hg : (negGo ms cs (ovL n ms cs) a (List.range n.toNat) []).1 with
      | none => rw [hg] at h; cases h
      | some st =>
        rw [hg] at h
        exact balF_some hn hms f _ (bal_step hn hms hf hp hg).1 l h
theorem BalW_some {b : Book} (hb : b.Ok) {cs : List Int} (h : (BalW b).1 = some cs) : Feas b.ms cs ∧ ∀ s : Nat, s < b.n.toNat → ov b.ms cs s = 0 := balF_some hb.n hb.m _ _ (lows_feas hb.m) cs h
theorem BalW_none {b : Book} (hb : b.Ok) (h : (BalW b).1 = none) : moreF (BalW b).2 (-1) b.ms > 0 ∧ 0 ≤ (BalW b).2 ∧ (BalW b).2 < 2 ^ b.n.toNat := balF_none hb.n hb.m _ _ (lows_feas hb.m) (Nat.lt_succ_self _) h
theorem proof_neg {b : Book} (hb : b.Ok) {cs : List Int} (h : (BalW b).1 = some cs) : proofS b.n b.ms < 0 := by
  obtain ⟨h1, h2⟩ := BalW_some hb h
  refine (prGo_neg _ _).2 fun t _ _ => ?_
  have := feas_more hb.n hb.m h1 h2 t
  omega
theorem proof_pos {b : Book} (hb : b.Ok) (h : (BalW b).1 = none) : ¬ proofS b.n b.ms < 0 := by
  obtain ⟨h1, h2, h3⟩ := BalW_none hb h
  intro h4
  have h5 := (prGo_neg _ _).1 h4 (BalW b).2.toNat (Nat.zero_le _) (by
    have : ((2 ^ b.n.toNat : Nat) : Int) = 2 ^ b.n.toNat := by push_cast; rfl
    omega)
  rw [show (((BalW b).2.toNat : Nat) : Int) = (BalW b).2 by omega] at h5
  exact h5 h1
end Go.AL.Br

namespace Go.AL.Br
open Go Go.AL Go.AL.Q
def mnL (x y : Int) : Int := if y < x then y else x
def mxL (x y : Int) : Int := if y > x then y else x
def bd1 (ms : List Mv) (i : Nat) (set : Nat) (p : Int × Int) : Int × Int := if cond (bitB set (mvk ms i).fr) (!bitB set (mvk ms i).to) false = true then (p.1, mnL p.2 (-(moreF set i ms))) else p
def bd2 (ms : List Mv) (i : Nat) (set : Nat) (p : Int × Int) : Int × Int := if cond (bitB set (mvk ms i).to) (!bitB set (mvk ms i).fr) false = true then (mxL p.1 (moreF set i ms), p.2) else p
def bdK (ms : List Mv) (i : Nat) : Nat → Int × Int
  | 0 => ((mvk ms i).lo, (mvk ms i).hi)
  | k + 1 => bd2 ms i k (bd1 ms i k (bdK ms i k))
def bdS (n : Int) (ms : List Mv) (i : Nat) : Sp := ⟨(bdK ms i (2 ^ n.toNat)).1, (bdK ms i (2 ^ n.toNat)).2⟩
def rBalanceR (b : Book) : List Sp × Int := if b.ok then if proofS b.n b.ms ≥ 0 then ([], 65) else ((List.range b.ms.length).map (bdS b.n b.ms), 0) else ([], 63)
end Go.AL.Br

namespace Go.AL.Br
open Go Go.AL Go.AL.Q
def cutW (wo : Int) (q : Int → Bool) (ms : List Mv) : Nat → Int
  | 0 => 0
  | k + 1 => cutW wo q ms k + ifc ((k : Int) != wo) (ifc (q (mvk ms k).fr && !q (mvk ms k).to) (mvk ms k).lo - ifc (q (mvk ms k).to && !q (mvk ms k).fr) (mvk ms k).hi)
def flW (wo : Int) (q : Int → Bool) (ms : List Mv) (cs : List Int) : Nat → Int
  | 0 => 0
  | k + 1 => flW wo q ms cs k + ifc ((k : Int) != wo) (ifc (q (mvk ms k).to) (cs.getD k 0) - ifc (q (mvk ms k).fr) (cs.getD k 0))
theorem more_cutW (set wo : Int) (ms : List Mv) : ∀ k, moreK set wo ms k = cutW wo (bitB set) ms k
  | 0 => rfl
  | k + 1 => by
    rw [moreK_succ, more_cutW set wo ms k, cutW]
    unfold mr2 mr1
    cases (k : Int) != wo <;> cases bitB set (mvk ms k).fr <;> cases bitB set (mvk ms k).to <;> simp [ifc] <;> omega
theorem fl_flW (w : Nat) (q : Int → Bool) (ms : List Mv) (cs : List Int) : ∀ k, flK q ms cs k = flW w q ms cs k + ifc (decide (w < k)) (ifc (q (mvk ms w).to) (cs.getD w 0) - ifc (q (mvk ms w).fr) (cs.getD w 0))
  | 0 => by simp [flK, flW, ifc]
  | k + 1 => by
    rw [flK, fl_flW w q ms cs k, flW]
    by_cases e : w = k
    · subst e
      rw [decide_eq_false (show ¬ w < w by omega), decide_eq_true (show w < w + 1 by omega), show ((w : Int) != (w : Int)) = false by simp]
      simp only [ifc]
      simp
      generalize (if q (mvk ms w).to = true then cs[w]?.getD 0 else 0) = u
      generalize (if q (mvk ms w).fr = true then cs[w]?.getD 0 else 0) = v
      omega
    · rw [show ((k : Int) != (w : Int)) = true by simp; omega]
      by_cases h : w < k
      · rw [decide_eq_true h, decide_eq_true (show w < k + 1 by omega)]
        simp only [ifc, if_true]
        generalize (if q (mvk ms w).to = true then cs.getD w 0 else 0) = u
        generalize (if q (mvk ms w).fr = true then cs.getD w 0 else 0) = v
        generalize (if q (mvk ms k).to = true then cs.getD k 0 else 0) = u2
        generalize (if q (mvk ms k).fr = true then cs.getD k 0 else 0) = v2
        omega
      · rw [decide_eq_false h, decide_eq_false (show ¬ w < k + 1 by omega)]
        simp only [ifc, if_true]
        generalize (if q (mvk ms k).to = true then cs.getD k 0 else 0) = u2
        generalize (if q (mvk ms k).fr = true then cs.getD k 0 else 0) = v2
        simp
        omega
theorem cutW_le {wo : Int} {q : Int → Bool} {ms : List Mv} {cs : List Int} (hf : Feas ms cs) : ∀ k, k ≤ ms.length → cutW wo q ms k ≤ - flW wo q ms cs k
  | 0, _ => by simp [cutW, flW]
  | k + 1, hk => by
    have ih := cutW_le (wo := wo) (q := q) hf k (by omega)
    have hb := hf.b k (by omega)
    rw [cutW, flW]
    generalize cs.getD k 0 = c at *
    cases (k : Int) != wo <;> cases q (mvk ms k).fr <;> cases q (mvk ms k).to <;> simp [ifc] <;> omega
theorem cutW_eq {wo : Int} {q : Int → Bool} {ms : List Mv} {cs : List Int} (h : ∀ k : Nat, k < ms.length → (k : Int) ≠ wo → (q (mvk ms k).fr = true → q (mvk ms k).to = false → cs.getD k 0 = (mvk ms k).lo) ∧ (q (mvk ms k).to = true → q (mvk ms k).fr = false → cs.getD k 0 = (mvk ms k).hi)) : ∀ k, k ≤ ms.length → cutW wo q ms k = - flW wo q ms cs k
  | 0, _ => by simp [cutW, flW]
  | k + 1, hk => by
    have ih := cutW_eq (wo := wo) (q := q) h k (by omega)
    have hb := h k (by omega)
    rw [cutW, flW]
    generalize cs.getD k 0 = c at *
    by_cases e : (k : Int) = wo
    · rw [show ((k : Int) != wo) = false by simp [e]]; simp [ifc]; omega
    · rw [show ((k : Int) != wo) = true by simp [e]]
      have hb := hb e
      cases h1 : q (mvk ms k).fr <;> cases h2 : q (mvk ms k).to <;> simp [ifc]
      · omega
      · have := hb.2 h2 h1; omega
      · have := hb.1 h1 h2; omega
      · omega
def Even0 (n : Int) (ms : List Mv) (cs : List Int) : Prop := ∀ s : Nat, s < n.toNat → ov ms cs s = 0
theorem even_fl {n : Int} (hn : 2 ≤ n ∧ n ≤ 6) {ms : List Mv} (hms : ∀ m ∈ ms, m.Ok n) {cs : List Int} (hf : Feas ms cs) (he : Even0 n ms cs) (q : Int → Bool) : flK q ms cs ms.length = 0 := by
  rw [← sum_cut (n := n) (by omega) (q := q) hf.l hms]
  have : ∀ m, m ≤ n.toNat → sumN (fun s => ifc (q s) (ov ms cs s)) m = 0 := by
    intro m
    induction m with
    | zero => intro _; rfl
    | succ m ih => intro hm; rw [sumN, ih (by omega), he m (by omega)]; unfold ifc; split <;> rfl
  exact this _ (Nat.le_refl _)
theorem even_flW {n : Int} (hn : 2 ≤ n ∧ n ≤ 6) {ms : List Mv} (hms : ∀ m ∈ ms, m.Ok n) {cs : List Int} (hf : Feas ms cs) (he : Even0 n ms cs) (q : Int → Bool) {w : Nat} (hw : w < ms.length) :
    flW w q ms cs ms.length = ifc (q (mvk ms w).fr) (cs.getD w 0) - ifc (q (mvk ms w).to) (cs.getD w 0) := by
  have h1 := even_fl hn hms hf he q
  have h2 := fl_flW w q ms cs ms.length
  rw [h1, decide_eq_true hw] at h2
  unfold ifc at h2 ⊢
  rw [if_pos rfl] at h2
  omega
theorem ge_more {n : Int} (hn : 2 ≤ n ∧ n ≤ 6) {ms : List Mv} (hms : ∀ m ∈ ms, m.Ok n) {cs : List Int} (hf : Feas ms cs) (he : Even0 n ms cs) {w : Nat} (hw : w < ms.length) (set : Int) :
    (bitB set (mvk ms w).to = true → bitB set (mvk ms w).fr = false → moreF set w ms ≤ cs.getD w 0) ∧ (bitB set (mvk ms w).fr = true → bitB set (mvk ms w).to = false → cs.getD w 0 ≤ - moreF set w ms) := by
  have h1 := cutW_le (wo := w) (q := bitB set) hf ms.length (Nat.le_refl _)
  rw [even_flW hn hms hf he (bitB set) hw, ← more_cutW] at h1
  unfold moreF
  exact ⟨fun h2 h3 => by rw [h2, h3] at h1; simp only [ifc] at h1; simpa using h1, fun h2 h3 => by rw [h2, h3] at h1; simp [ifc] at h1 ⊢; omega⟩
end Go.AL.Br

namespace Go.AL.Br
open Go Go.AL Go.AL.Q
theorem push_end {n : Int} (hn : 2 ≤ n ∧ n ≤ 6) {ms : List Mv} (hms : ∀ m ∈ ms, m.Ok n) {k : Nat} (hk : k < ms.length) (fw : Bool) : ∀ (f : Nat) (l : List Int), Feas ms l → Even0 n ms l → dist ms k fw l < f →
    ∃ l', Feas ms l' ∧ Even0 n ms l' ∧ pushW ms k fw f l = l'.getD k 0 ∧ (l'.getD k 0 = limV (mvk ms k) fw ∨ (wayW ms l' (pFr (mvk ms k) fw) (pTo (mvk ms k) fw) k).1 = none)
  | 0, l, _, _, hd => by omega
  | f + 1, l, hf, he, hd => by
    rw [pushW]
    by_cases h1 : l.getD k 0 = limV (mvk ms k) fw
    · rw [if_pos (by simpa using h1)]
      exact ⟨l, hf, he, rfl, .inl h1⟩
    · rw [if_neg (by simpa using h1)]
      cases hw : (wayW ms l (pFr (mvk ms k) fw) (pTo (mvk ms k) fw) k).1 with
      | none => exact ⟨l, hf, he, rfl, .inr hw⟩
      | some st =>
        obtain ⟨p1, p2, p3, p4, _⟩ := push_step hn hms hk hf h1 hw
        exact push_end hn hms hk fw f _ p1 (fun s hs => by rw [p4]; exact he s hs) (by omega)
theorem stop_more {n : Int} (hn : 2 ≤ n ∧ n ≤ 6) {ms : List Mv} (hms : ∀ m ∈ ms, m.Ok n) {l : List Int} (hf : Feas ms l) (he : Even0 n ms l) {k : Nat} (hk : k < ms.length) {fr to : Int} (hfr : 0 ≤ fr ∧ fr < n) (hto : 0 ≤ to ∧ to < n) (hne : fr ≠ to)
    (hw : (wayW ms l fr to k).1 = none) : ∃ p : Nat, p < 2 ^ n.toNat ∧ bitB p to = true ∧ bitB p fr = false ∧ - moreF p k ms = ifc (bitB p (mvk ms k).fr) (l.getD k 0) - ifc (bitB p (mvk ms k).to) (l.getD k 0) := by
  have hwi := way_is hn hms hf (wo := (k : Int)) hfr hne
  obtain ⟨w1, w2⟩ := hwi.not hw
  have w3 := hwi.fr'
  generalize (wayW ms l fr to k).2 = rch at *
  obtain ⟨p, _, hp, hb⟩ := prf_bits rch n.toNat (by omega)
  have hbq : ∀ s : Int, 0 ≤ s ∧ s < n → (bitB p s = false ↔ s ∈ rch) := fun s h => by
    have := hb s.toNat (by omega)
    rw [show ((s.toNat : Nat) : Int) = s by omega] at this
    rw [this, Bool.not_eq_false', List.contains_iff_mem]
  refine ⟨p, hp, ?_, (hbq _ hfr).2 w3, ?_⟩
  · cases h : bitB p to with
    | true => rfl
    | false => exact absurd ((hbq _ hto).1 h) w1
  · unfold moreF
    rw [more_cutW, cutW_eq (q := bitB p) (cs := l) (fun j hj hjk => ?_) ms.length (Nat.le_refl _), even_flW hn hms hf he (bitB p) hk]
    · omega
    · have hmo := hms _ (mvk_mem hj)
      have hb := hf.b j hj
      have hfi := hmo.f
      have hti := hmo.t
      refine ⟨fun x1 x2 => ?_, fun x1 x2 => ?_⟩
      · have y2 := (hbq _ hti).1 x2
        have y1 : (mvk ms j).fr ∉ rch := fun h => by have := (hbq _ hfi).2 h; rw [x1] at this; cases this
        have := w2 _ y2 j hj
        refine Classical.byContradiction fun hne => y1 ?_
        have h9 := this ⟨hjk, .inr ⟨rfl, by omega⟩⟩
        unfold nxS at h9
        rwa [if_pos rfl] at h9
      · have y2 := (hbq _ hfi).1 x2
        have y1 : (mvk ms j).to ∉ rch := fun h => by have := (hbq _ hti).2 h; rw [x1] at this; cases this
        have := w2 _ y2 j hj
        refine Classical.byContradiction fun hne => y1 ?_
        have h9 := this ⟨hjk, .inl ⟨rfl, by omega⟩⟩
        unfold nxS at h9
        rwa [if_neg hmo.ne] at h9
theorem mxL_ge (x y : Int) : x ≤ mxL x y ∧ y ≤ mxL x y ∧ (mxL x y = x ∨ mxL x y = y) := by unfold mxL; split <;> omega
theorem mnL_le (x y : Int) : mnL x y ≤ x ∧ mnL x y ≤ y ∧ (mnL x y = x ∨ mnL x y = y) := by unfold mnL; split <;> omega
def inTo (ms : List Mv) (i : Nat) (s : Nat) : Prop := bitB s (mvk ms i).to = true ∧ bitB s (mvk ms i).fr = false
def outOf (ms : List Mv) (i : Nat) (s : Nat) : Prop := bitB s (mvk ms i).fr = true ∧ bitB s (mvk ms i).to = false
theorem c_in {a b : Bool} : cond a (!b) false = true ↔ a = true ∧ b = false := by cases a <;> cases b <;> simp
theorem bd_fst {ms : List Mv} {i : Nat} : ∀ K : Nat, (mvk ms i).lo ≤ (bdK ms i K).1 ∧ (∀ s : Nat, s < K → inTo ms i s → moreF s i ms ≤ (bdK ms i K).1) ∧ ((bdK ms i K).1 = (mvk ms i).lo ∨ ∃ s : Nat, s < K ∧ inTo ms i s ∧ (bdK ms i K).1 = moreF s i ms)
  | 0 => ⟨Int.le_refl _, fun s h => by omega, .inl rfl⟩
  | K + 1 => by
    obtain ⟨h1, h2, h3⟩ := bd_fst (ms := ms) (i := i) K
    have e : (bdK ms i (K + 1)).1 = if cond (bitB K (mvk ms i).to) (!bitB K (mvk ms i).fr) false = true then mxL (bdK ms i K).1 (moreF K i ms) else (bdK ms i K).1 := by
      rw [bdK]; unfold bd2 bd1
      split <;> split <;> rfl
    rw [e]
    by_cases hc : cond (bitB K (mvk ms i).to) (!bitB K (mvk ms i).fr) false = true
    · rw [if_pos hc]
      have hm := mxL_ge (bdK ms i K).1 (moreF K i ms)
      refine ⟨by omega, fun s hs hi => ?_, ?_⟩
      · rcases Nat.lt_succ_iff_lt_or_eq.1 hs with h4 | rfl
        · have := h2 s h4 hi; omega
        · exact hm.2.1
      · rcases hm.2.2 with h4 | h4
        · rw [h4]
          rcases h3 with h3 | ⟨s, h5, h6, h7⟩
          · exact .inl h3
          · exact .inr ⟨s, by omega, h6, h7⟩
        · exact .inr ⟨K, by omega, c_in.1 hc, h4⟩
    · rw [if_neg hc]
      refine ⟨h1, fun s hs hi => ?_, ?_⟩
      · rcases Nat.lt_succ_iff_lt_or_eq.1 hs with h4 | rfl
        · exact h2 s h4 hi
        · exact absurd (c_in.2 hi) hc
      · rcases h3 with h3 | ⟨s, h5, h6, h7⟩
        · exact .inl h3
        · exact .inr ⟨s, by omega, h6, h7⟩
theorem bd_snd {ms : List Mv} {i : Nat} : ∀ K : Nat, (bdK ms i K).2 ≤ (mvk ms i).hi ∧ (∀ s : Nat, s < K → outOf ms i s → (bdK ms i K).2 ≤ - moreF s i ms) ∧ ((bdK ms i K).2 = (mvk ms i).hi ∨ ∃ s : Nat, s < K ∧ outOf ms i s ∧ (bdK ms i K).2 = - moreF s i ms)
  | 0 => ⟨Int.le_refl _, fun s h => by omega, .inl rfl⟩
  | K + 1 => by
    obtain ⟨h1, h2, h3⟩ := bd_snd (ms := ms) (i := i) K
    have e : (bdK ms i (K + 1)).2 = if cond (bitB K (mvk ms i).fr) (!bitB K (mvk ms i).to) false = true then mnL (bdK ms i K).2 (-(moreF K i ms)) else (bdK ms i K).2 := by
      rw [bdK]; unfold bd2 bd1
      split <;> split <;> rfl
    rw [e]
    by_cases hc : cond (bitB K (mvk ms i).fr) (!bitB K (mvk ms i).to) false = true
    · rw [if_pos hc]
      have hm := mnL_le (bdK ms i K).2 (-(moreF K i ms))
      refine ⟨by omega, fun s hs hi => ?_, ?_⟩
      · rcases Nat.lt_succ_iff_lt_or_eq.1 hs with h4 | rfl
        · have := h2 s h4 hi; omega
        · exact hm.2.1
      · rcases hm.2.2 with h4 | h4
        · rw [h4]
          rcases h3 with h3 | ⟨s, h5, h6, h7⟩
          · exact .inl h3
          · exact .inr ⟨s, by omega, h6, h7⟩
        · exact .inr ⟨K, by omega, c_in.1 hc, h4⟩
    · rw [if_neg hc]
      refine ⟨h1, fun s hs hi => ?_, ?_⟩
      · rcases Nat.lt_succ_iff_lt_or_eq.1 hs with h4 | rfl
        · exact h2 s h4 hi
        · exact absurd (c_in.2 hi) hc
      · rcases h3 with h3 | ⟨s, h5, h6, h7⟩
        · exact .inl h3
        · exact .inr ⟨s, by omega, h6, h7⟩
theorem push_is {n : Int} (hn : 2 ≤ n ∧ n ≤ 6) {ms : List Mv} (hms : ∀ m ∈ ms, m.Ok n) {k : Nat} (hk : k < ms.length) {cs : List Int} (hf : Feas ms cs) (he : Even0 n ms cs) : pushF ms k true cs = (bdS n ms k).lo ∧ pushF ms k false cs = (bdS n ms k).hi := by
  have hmo := hms _ (mvk_mem hk)
  have hfi := hmo.f
  have hti := hmo.t
  constructor
  · obtain ⟨l, l1, l2, l3, l4⟩ := push_end hn hms hk true (dist ms k true cs + 1) cs hf he (Nat.lt_succ_self _)
    have l3 : pushF ms k true cs = l.getD k 0 := l3
    rw [l3]
    show _ = (bdK ms k (2 ^ n.toNat)).1
    obtain ⟨b1, b2, b3⟩ := bd_fst (ms := ms) (i := k) (2 ^ n.toNat)
    have hb := l1.b k hk
    have up : (bdK ms k (2 ^ n.toNat)).1 ≤ l.getD k 0 := by
      rcases b3 with b3 | ⟨s, _, h6, h7⟩
      · omega
      · have := (ge_more hn hms l1 l2 hk s).1 h6.1 h6.2; omega
    rcases l4 with l4 | l4
    · have l4 : l.getD k 0 = (mvk ms k).lo := l4
      omega
    · obtain ⟨p, hp, x1, x2, x3⟩ := stop_more hn hms l1 l2 hk (fr := (mvk ms k).fr) (to := (mvk ms k).to) hfi hti hmo.ne l4
      have := b2 p hp ⟨x1, x2⟩
      rw [x1, x2] at x3
      simp only [ifc] at x3
      simp at x3
      have e : l.getD k 0 = l[k]?.getD 0 := by simp [List.getD_eq_getElem?_getD]
      omega
  · obtain ⟨l, l1, l2, l3, l4⟩ := push_end hn hms hk false (dist ms k false cs + 1) cs hf he (Nat.lt_succ_self _)
    have l3 : pushF ms k false cs = l.getD k 0 := l3
    rw [l3]
    show _ = (bdK ms k (2 ^ n.toNat)).2
    obtain ⟨b1, b2, b3⟩ := bd_snd (ms := ms) (i := k) (2 ^ n.toNat)
    have hb := l1.b k hk
    have up : l.getD k 0 ≤ (bdK ms k (2 ^ n.toNat)).2 := by
      rcases b3 with b3 | ⟨s, _, h6, h7⟩
      · omega
      · have := (ge_more hn hms l1 l2 hk s).2 h6.1 h6.2; omega
    rcases l4 with l4 | l4
    · have l4 : l.getD k 0 = (mvk ms k).hi := l4
      omega
    · obtain ⟨p, hp, x1, x2, x3⟩ := stop_more hn hms l1 l2 hk (fr := (mvk ms k).to) (to := (mvk ms k).fr) hti hfi (fun e => hmo.ne e.symm) l4
      have := b2 p hp ⟨x1, x2⟩
      rw [x1, x2] at x3
      simp only [ifc] at x3
      simp at x3
      have e : l.getD k 0 = l[k]?.getD 0 := by simp [List.getD_eq_getElem?_getD]
      omega
theorem balance_is (b : Book) : BalanceR b = rBalanceR b := by
  unfold BalanceR rBalanceR
  by_cases hbo : b.ok = true
  · rw [if_pos hbo, if_pos hbo]
    have hB := Book.ok_iff.1 hbo
    cases hw : (BalW b).1 with
    | none =>
      have := proof_pos hB hw
      rw [if_pos (show proofS b.n b.ms ≥ 0 by omega)]
    | some cs =>
      have h1 := proof_neg hB hw
      obtain ⟨h2, h3⟩ := BalW_some hB hw
      rw [if_neg (show ¬ proofS b.n b.ms ≥ 0 by omega)]
      show ((List.range b.ms.length).map _, _) = _
      congr 1
      refine List.map_congr_left fun k hk => ?_
      have hk := List.mem_range.1 hk
      obtain ⟨h4, h5⟩ := push_is hB.n hB.m hk h2 h3
      rw [h4, h5]
  · rw [if_neg hbo, if_neg hbo]
end Go.AL.Br

namespace Go.AL
open Go Go.RowKit
theorem rows_of {ys : List (List A)} {sz : Nat} (hs : ∀ y ∈ ys, y.length = sz) (hd : ys.flatten.map A.down = ys.flatten) : RowsAre ys.flatten ys sz := by
  refine ⟨hs, by rw [flat_len hs]; exact Nat.le_refl _, fun i j hi hj => ?_⟩
  have hk : i * sz + j < ys.length * sz := by
    have : (i + 1) * sz ≤ ys.length * sz := Nat.mul_le_mul_right _ hi
    rw [Nat.add_mul, Nat.one_mul] at this; omega
  have h0 : 0 < sz := by omega
  have e1 : (i * sz + j) / sz = i := by rw [Nat.mul_comm, Nat.mul_add_div h0, Nat.div_eq_of_lt hj]; rfl
  have e2 : (i * sz + j) % sz = j := by rw [Nat.mul_comm, Nat.mul_add_mod, Nat.mod_eq_of_lt hj]
  have e3 := flat_get hs (i * sz + j) hk
  rw [e1, e2] at e3
  have hl : i * sz + j < ys.flatten.length := by rw [flat_len hs]; exact hk
  have e4 : (ys.flatten.getD (i * sz + j) .un).down = ys.flatten.getD (i * sz + j) .un := by
    have := congrArg (fun l => l.getD (i * sz + j) .un) hd
    simp only [List.getD_eq_getElem?_getD, List.getElem?_map, List.getElem?_eq_getElem hl] at this ⊢
    exact this
  rw [e4, e3]
section
variable {α : Type} {c : α → List A} {sz : Nat}
theorem flat_down (hd : ∀ a, (c a).map A.down = c a) (l : List α) : (l.map c).flatten.map A.down = (l.map c).flatten := by
  rw [List.map_flatten, List.map_map]
  congr 1
  exact List.map_congr_left fun a _ => hd a
theorem rows_all (hc : ∀ a, (c a).length = sz) (hd : ∀ a, (c a).map A.down = c a) (l : List α) : RowsAre (l.map c).flatten (l.map c) sz := rows_of (fun y hy => by obtain ⟨b, _, rfl⟩ := List.mem_map.1 hy; exact hc b) (flat_down hd l)
end
end Go.AL

namespace Go.AL.Br
open Go Go.AL Go.AL.Q
theorem bd_holds {n : Int} (hn : 2 ≤ n ∧ n ≤ 6) {ms : List Mv} (hms : ∀ m ∈ ms, m.Ok n) {l : List Int} (hf : Feas ms l) (he : Even0 n ms l) {k : Nat} (hk : k < ms.length) : (bdS n ms k).lo ≤ l.getD k 0 ∧ l.getD k 0 ≤ (bdS n ms k).hi := by
  have hb := hf.b k hk
  constructor
  · show (bdK ms k (2 ^ n.toNat)).1 ≤ _
    obtain ⟨b1, b2, b3⟩ := bd_fst (ms := ms) (i := k) (2 ^ n.toNat)
    rcases b3 with b3 | ⟨s, _, h6, h7⟩
    · omega
    · have := (ge_more hn hms hf he hk s).1 h6.1 h6.2; omega
  · show _ ≤ (bdK ms k (2 ^ n.toNat)).2
    obtain ⟨b1, b2, b3⟩ := bd_snd (ms := ms) (i := k) (2 ^ n.toNat)
    rcases b3 with b3 | ⟨s, _, h6, h7⟩
    · omega
    · have := (ge_more hn hms hf he hk s).2 h6.1 h6.2; omega
theorem bd_got {n : Int} (hn : 2 ≤ n ∧ n ≤ 6) {ms : List Mv} (hms : ∀ m ∈ ms, m.Ok n) {cs : List Int} (hf : Feas ms cs) (he : Even0 n ms cs) {k : Nat} (hk : k < ms.length) :
    (∃ l, Feas ms l ∧ Even0 n ms l ∧ l.getD k 0 = (bdS n ms k).lo) ∧ ∃ l, Feas ms l ∧ Even0 n ms l ∧ l.getD k 0 = (bdS n ms k).hi := by
  obtain ⟨p1, p2⟩ := push_is hn hms hk hf he
  obtain ⟨l, l1, l2, l3, _⟩ := push_end hn hms hk true (dist ms k true cs + 1) cs hf he (Nat.lt_succ_self _)
  obtain ⟨u, u1, u2, u3, _⟩ := push_end hn hms hk false (dist ms k false cs + 1) cs hf he (Nat.lt_succ_self _)
  exact ⟨⟨l, l1, l2, by rw [← p1]; exact l3.symm⟩, u, u1, u2, by rw [← p2]; exact u3.symm⟩
theorem bal_of {b : Book} (hb : b.Ok) {l : List Int} (hf : Feas b.ms l) (he : Even0 b.n b.ms l) : ∃ cs, (BalW b).1 = some cs := by
  cases h : (BalW b).1 with
  | some cs => exact ⟨cs, rfl⟩
  | none =>
    have h1 := (BalW_none hb h).1
    have h2 := feas_more hb.n hb.m hf he (BalW b).2
    omega
theorem BalanceR_some {b : Book} (hb : b.Ok) {cs : List Int} (h : (BalW b).1 = some cs) : BalanceR b = ((List.range b.ms.length).map (bdS b.n b.ms), 0) := by
  rw [balance_is]
  unfold rBalanceR
  have := proof_neg hb h
  rw [if_pos (Book.ok_iff.2 hb), if_neg (by omega)]
theorem BalanceR_none {b : Book} (hb : b.Ok) (h : (BalW b).1 = none) : BalanceR b = ([], 65) := by
  unfold BalanceR
  rw [if_pos (Book.ok_iff.2 hb), h]
def fixM (ms : List Mv) (k : Nat) (v : Int) : List Mv := ms.set k ⟨(mvk ms k).fr, (mvk ms k).to, v, v⟩
theorem fixM_len (ms : List Mv) (k : Nat) (v : Int) : (fixM ms k v).length = ms.length := List.length_set ..
theorem fixM_get {ms : List Mv} {k : Nat} {v : Int} (hk : k < ms.length) (i : Nat) : mvk (fixM ms k v) i = if k = i then ⟨(mvk ms k).fr, (mvk ms k).to, v, v⟩ else mvk ms i := by
  unfold mvk fixM
  rw [List.getD_eq_getElem?_getD, List.getElem?_set]
  by_cases e : k = i
  · subst e; rw [if_pos rfl, if_pos rfl, if_pos hk]; rfl
  · rw [if_neg e, if_neg e, ← List.getD_eq_getElem?_getD]
theorem fixM_ok {n : Int} {ms : List Mv} (hms : ∀ m ∈ ms, m.Ok n) {k : Nat} (hk : k < ms.length) {v : Int} (hv : 0 ≤ v ∧ v ≤ 1000) : ∀ m ∈ fixM ms k v, m.Ok n := fun m hm => by
  rcases List.mem_or_eq_of_mem_set hm with h | h
  · exact hms m h
  · have hmo := hms _ (mvk_mem hk)
    subst h
    exact ⟨hmo.f, hmo.t, hmo.ne, ⟨hv.1, Int.le_refl _, hv.2⟩⟩
theorem ov_mv {ms ms' : List Mv} (h : ms'.length = ms.length) (hs : ∀ i, (mvk ms' i).fr = (mvk ms i).fr ∧ (mvk ms' i).to = (mvk ms i).to) {l : List Int} (hl : ms.length = l.length) (s : Int) : ov ms' l s = ov ms l s := by
  rw [ov_fl (by omega), ov_fl hl, h]
  have : ∀ k, flK (fun t => decide (t = s)) ms' l k = flK (fun t => decide (t = s)) ms l k := by
    intro k
    induction k with
    | zero => rfl
    | succ k ih => rw [flK, flK, ih, (hs k).1, (hs k).2]
  exact this _
theorem fix_same {ms : List Mv} {k : Nat} {v : Int} (hk : k < ms.length) (i : Nat) : (mvk (fixM ms k v) i).fr = (mvk ms i).fr ∧ (mvk (fixM ms k v) i).to = (mvk ms i).to := by
  rw [fixM_get hk]
  split
  · rename_i e; subst e; exact ⟨rfl, rfl⟩
  · exact ⟨rfl, rfl⟩
theorem fix_even {n : Int} {ms : List Mv} {k : Nat} {v : Int} (hk : k < ms.length) {l : List Int} (hl : ms.length = l.length) : Even0 n (fixM ms k v) l ↔ Even0 n ms l := by
  unfold Even0
  refine forall_congr' fun s => ?_
  rw [ov_mv (fixM_len ms k v) (fix_same hk) hl]
theorem fix_feas {ms : List Mv} {k : Nat} {v : Int} (hk : k < ms.length) {l : List Int} (hv : (mvk ms k).lo ≤ v ∧ v ≤ (mvk ms k).hi) : Feas (fixM ms k v) l ↔ Feas ms l ∧ l.getD k 0 = v := by
  constructor
  · rintro ⟨h1, h2⟩
    rw [fixM_len] at h1
    have hk2 := h2 k (by rw [fixM_len]; exact hk)
    rw [fixM_get hk, if_pos rfl] at hk2
    have hk2 : v ≤ l.getD k 0 ∧ l.getD k 0 ≤ v := hk2
    refine ⟨⟨h1, fun i hi => ?_⟩, by omega⟩
    have := h2 i (by rw [fixM_len]; exact hi)
    rw [fixM_get hk] at this
    by_cases e : k = i
    · subst e; omega
    · rwa [if_neg e] at this
  · rintro ⟨⟨h1, h2⟩, h3⟩
    refine ⟨by rw [fixM_len]; exact h1, fun i hi => ?_⟩
    rw [fixM_len] at hi
    rw [fixM_get hk]
    by_cases e : k = i
    · subst e; rw [if_pos rfl, h3]; exact ⟨Int.le_refl _, Int.le_refl _⟩
    · rw [if_neg e]; exact h2 i hi
end Go.AL.Br

namespace Go.AL.Br
open Go Go.AL Go.AL.Q
def fixBk (b : Book) (k : Nat) (v : Int) : Book := ⟨b.n, false, fixM b.ms k v⟩
theorem fixBk_ok {b : Book} (hb : b.Ok) {k : Nat} (hk : k < b.ms.length) {v : Int} (hv : (mvk b.ms k).lo ≤ v ∧ v ≤ (mvk b.ms k).hi) : (fixBk b k v).Ok := by
  have hmk := (hb.m _ (mvk_mem hk)).k
  refine ⟨hb.n, ?_, fixM_ok hb.m hk (by omega)⟩
  show 1 ≤ (fixM b.ms k v).length ∧ (fixM b.ms k v).length ≤ 10
  rw [fixM_len]; exact hb.l
theorem fix_some {b : Book} (hb : b.Ok) {k : Nat} (hk : k < b.ms.length) {l : List Int} (hf : Feas b.ms l) (he : Even0 b.n b.ms l) :
    BalanceR (fixBk b k (l.getD k 0)) = ((List.range b.ms.length).map (bdS b.n (fixM b.ms k (l.getD k 0))), 0) ∧ bdS b.n (fixM b.ms k (l.getD k 0)) k = ⟨l.getD k 0, l.getD k 0⟩ ∧
    ∀ i, i < b.ms.length → (bdS b.n b.ms i).lo ≤ (bdS b.n (fixM b.ms k (l.getD k 0)) i).lo ∧ (bdS b.n (fixM b.ms k (l.getD k 0)) i).hi ≤ (bdS b.n b.ms i).hi := by
  have hv := hf.b k hk
  have hB := fixBk_ok hb hk hv
  have h1 : Feas (fixM b.ms k (l.getD k 0)) l := (fix_feas hk hv).2 ⟨hf, rfl⟩
  have h2 : Even0 b.n (fixM b.ms k (l.getD k 0)) l := (fix_even hk hf.l).2 he
  obtain ⟨cs, hcs⟩ := bal_of (b := fixBk b k (l.getD k 0)) hB h1 h2
  have h3 := BalanceR_some hB hcs
  have hlen : (fixBk b k (l.getD k 0)).ms.length = b.ms.length := fixM_len _ _ _
  rw [hlen] at h3
  refine ⟨h3, ?_, fun i hi => ?_⟩
  · obtain ⟨⟨u, u1, _, u3⟩, w, w1, _, w3⟩ := bd_got (n := b.n) hb.n (ms := fixM b.ms k (l.getD k 0)) hB.m h1 h2 (k := k) (by rw [fixM_len]; exact hk)
    have e1 := ((fix_feas hk hv).1 u1).2
    have e2 := ((fix_feas hk hv).1 w1).2
    rw [u3] at e1
    rw [w3] at e2
    generalize bdS b.n (fixM b.ms k (l.getD k 0)) k = S at *
    obtain ⟨x, y⟩ := S
    simp only at e1 e2
    rw [e1, e2]
  · obtain ⟨⟨u, u1, u2, u3⟩, w, w1, w2, w3⟩ := bd_got (n := b.n) hb.n (ms := fixM b.ms k (l.getD k 0)) hB.m h1 h2 (k := i) (by rw [fixM_len]; exact hi)
    have f1 := ((fix_feas hk hv).1 u1).1
    have f2 := ((fix_feas hk hv).1 w1).1
    have g1 := bd_holds hb.n hb.m f1 ((fix_even hk f1.l).1 u2) hi
    have g2 := bd_holds hb.n hb.m f2 ((fix_even hk f2.l).1 w2) hi
    rw [← u3, ← w3]
    exact ⟨g1.1, g2.2⟩
theorem fix_none {b : Book} (hb : b.Ok) {k : Nat} (hk : k < b.ms.length) {v : Int} (hv : (mvk b.ms k).lo ≤ v ∧ v ≤ (mvk b.ms k).hi) (h : v < (bdS b.n b.ms k).lo ∨ (bdS b.n b.ms k).hi < v) : BalanceR (fixBk b k v) = ([], 65) := by
  have hB := fixBk_ok hb hk hv
  cases hw : (BalW (fixBk b k v)).1 with
  | none => exact BalanceR_none hB hw
  | some cs =>
    obtain ⟨h1, h2⟩ := BalW_some hB hw
    have h3 := (fix_feas hk hv).1 h1
    have h4 := bd_holds hb.n hb.m h3.1 ((fix_even hk h3.1.l).1 h2) hk
    rw [h3.2] at h4
    omega
end Go.AL.Br

namespace Go.Proofs.Ytampldajinhenaa
open Go Go.AL Go.AL.Q Go.AL.Br
theorem mvk_at {l : List Mv} {k : Nat} (h : k < l.length) : (l.map Mv.c)[k]? = some (mvk l k).c := by rw [mvk_get h]; exact get_map h
end Go.Proofs.Ytampldajinhenaa

namespace Go.Proofs.Ytampldajinhenaa
open Go Go.AL Go.AL.Q Go.AL.Br
end Go.Proofs.Ytampldajinhenaa

namespace Go.Proofs.Ytampldajinhenaa
open Go Go.AL Go.AL.Q Go.AL.Br
end Go.Proofs.Ytampldajinhenaa

namespace Go.Proofs.Ytampldajinhenaa
open Go Go.AL Go.AL.Q Go.AL.Br
end Go.Proofs.Ytampldajinhenaa

namespace Go.Proofs.Ytampldajinhenaa
open Go Go.AL Go.AL.Q Go.AL.Br
theorem whole_t (b : Book) (hbl : (b.ms.length : Int) ≤ 9223372036854775806) : Ans Try.prog 49 [.agg b.c] (.bool b.ok) := by
  have lm : ((b.ms.map Mv.c).length : Int) = b.ms.length := by simp
  have c1 := book_chk b hbl
  have hk : b.chk = if b.ok then 0 else 63 := rfl
  have hw : b.ok = true → wi b.n 2 6 = true ∧ wi b.ms.length 1 10 = true := fun h => by
    have hb := Book.ok_iff.1 h
    have := hb.n
    have := hb.l
    exact ⟨wi_iff.2 (by omega), wi_iff.2 (by omega)⟩
  refine told Try.func49 rfl rfl (Pure.of tab_ok Try.func49 rfl Try.ntmps49 rfl (all1 (.agg _ b.free)) (all1 (fun _ => rfl)) (by first | exact .s _ | assumption | exact .tup _ (by intro x hx; simp only [List.mem_cons, List.not_mem_nil, or_false] at hx; rcases hx with rfl | rfl | rfl | rfl <;> first | exact .s _ | (simp_all; done))) fun E hE => ?_)
  refine Aw.sm tab_ok mb0 [] rfl rfl ?zo ?zk
  case zo =>
    repeat' apply AllP.cons
    all_goals first | exact trivial
  case zk =>
  refine Aw.sm tab_ok mb0 [(1, [.int b.chk]), (6, [.bool (wi b.n 2 6)]), (12, [.bool (wi b.ms.length 1 10)])] rfl rfl ?zo ?zk
  case zo =>
    repeat' apply AllP.cons
    all_goals first | exact trivial | exact id | exact fun _ => rfl | exact Nat.le_of_ble_eq_true rfl | exact fun _ => Nat.le_of_ble_eq_true rfl | exact (in_t _ _ _).un | exact c1 | exact (by rw [lm]; exact fun _ => in_t _ _ _)
  case zk =>
  refine Aw.ret ⟨_, .cons (.tmp _) .nil, ?_⟩
  show A.bool (cond (cond (b.chk == 0) (wi b.n 2 6) false) (wi b.ms.length 1 10) false) = A.bool b.ok
  rw [hk]
  cases h : b.ok with
  | true => rw [(hw h).1, (hw h).2]; rfl
  | false => rfl
def fixB (b : Book) (k : Nat) (v : Int) : Book := ⟨b.n, false, b.ms.set k ⟨(mvk b.ms k).fr, (mvk b.ms k).to, v, v⟩⟩
theorem fixed_t (b : Book) (hl : 1 ≤ b.ms.length ∧ b.ms.length ≤ 10) (k : Nat) (hk : k < b.ms.length) (v : Int) : Ans Try.prog 50 [.agg b.c, .int k, .int v] (.agg (fixB b k v).c) := by
  have lm : ((b.ms.map Mv.c).length : Int) = b.ms.length := by simp
  have hfr : Free (.agg (fixB b k v).c) := .agg _ (fixB b k v).free
  have hone : ∀ w ∈ b.ms.map Mv.c, w.length = 4 := fun w hw => by obtain ⟨m, _, rfl⟩ := List.mem_map.1 hw; rfl
  have hne : b.ms.map Mv.c ≠ [] := fun h => by have := congrArg List.length h; simp at this; rw [this] at hl; simp at hl
  have hll : (b.ms.map Mv.c).length ≤ 10 := by rw [List.length_map]; exact hl.2
  have q1 : 0 + k * 4 + 4 ≤ (b.ms.map Mv.c).flatten.length := by rw [flat_len hone, List.length_map]; omega
  refine told Try.func50 rfl rfl (Pure.of tab_ok Try.func50 rfl Try.ntmps50 rfl (allC (.agg _ b.free) (allC (.s _) (all1 (.s _)))) (allC (fun _ => rfl) (allC (fun _ => rfl) (all1 (fun _ => rfl)))) (by first | exact .s _ | assumption | exact .tup _ (by intro x hx; simp only [List.mem_cons, List.not_mem_nil, or_false] at hx; rcases hx with rfl | rfl | rfl | rfl <;> first | exact .s _ | (simp_all; done))) fun E hE => ?_)
  refine Aw.sm tab_ok mb0 [] rfl rfl ?zo ?zk
  case zo =>
    repeat' apply AllP.cons
    all_goals first | exact trivial
  case zk =>
  refine Aw.sm tab_ok mb0 [] rfl rfl ?zo ?zk
  case zo =>
    repeat' apply AllP.cons
    all_goals first | exact trivial | exact rfl | exact Nat.le_of_ble_eq_true rfl
  case zk =>
  refine Aw.sm tab_ok mb0 [(3, [.ms 0 0 0])] rfl rfl ?zo ?zk
  case zo =>
    repeat' apply AllP.cons
    all_goals first | exact trivial | exact rfl | exact Nat.le_of_ble_eq_true rfl | exact hone | exact hne | exact (show (b.ms.map Mv.c).length * 32 ≤ 140737488355328 by omega) | exact (show (b.ms.map Mv.c).length ≤ maxLen by unfold maxLen; omega)
  case zk =>
  have h3e : ∀ id, 3 ≤ id → E.φ0 id = none := fun id _ => hE id (by omega)
  have hfl : (b.ms.map Mv.c).flatten.map A.down = (b.ms.map Mv.c).flatten := flat_down (fun m => rfl) _
  have umB : ∀ {n : Nat}, UnderB n (.cells (b.ms.map Mv.c).flatten) := .cells _ fun x hx => by
    obtain ⟨z, hz, hx⟩ := List.mem_flatten.1 hx
    obtain ⟨m, _, rfl⟩ := List.mem_map.1 hz
    exact (m.free x hx).under
  refine Aw.keep (n := 3) (cst := [(1, .int k), (2, .int v), (6, .ref 0 0), (7, .ref 1 0)]) (v := []) (Hl := [(0, .cells [.int 0, .sl true .exact []]), (1, .cells [.int b.n, .ms 2 0 b.ms.length]), (2, .cells (b.ms.map Mv.c).flatten)]) h3e ?zu ?zw ?zx ⟨?zc, ?zv, ?zh, Nat.le_of_ble_eq_true rfl⟩ ?zr
  case zu =>
    (repeat' (first | exact trivial | exact Under.s _ | exact Under.ref _ _ (by decide) | (refine And.intro ?_ ?_)))
  case zw =>
    (repeat' (first | exact trivial))
  case zx =>
    (repeat' (first | exact trivial | exact Nat.le_of_ble_eq_true rfl | exact umB | exact .cells _ (allC (.s _) (all1 (.ms _ _ _ (by decide)))) | exact .cells _ (allC (.s _) (all1 (Free.sl _ _ _ (fun _ h => by cases h)).under)) | (refine And.intro ?_ ?_)))
  case zc =>
    (repeat' (first | (refine And.intro ?_ ?_) | exact trivial | exact A.Le.refl _))
  case zv =>
    (repeat' (first | exact trivial))
  case zh =>
    (repeat' (first | (refine And.intro ?_ ?_) | exact trivial | exact rfl | exact congrArg (fun x => some (B.cells x)) hfl | exact (by rw [← List.length_map (f := Mv.c)]; rfl)))
  case zr =>
  have q2 : (k : Int) < (b.ms.length : Int) := by omega
  refine Aw.sd tab_ok mixed mb0 [(5, [.agg (Sp.c ⟨v, v⟩)])] rfl (by kernel_rfl) rfl rfl ?zo ?zk
  case zo =>
    repeat' apply AllP.cons
    all_goals first | exact trivial | exact rfl | exact Nat.le_of_ble_eq_true rfl | exact Int.natCast_nonneg _ | exact to_t _ _ | exact q2 | exact (show 0 + Int.toNat (k : Int) * 4 + 2 + 2 ≤ (b.ms.map Mv.c).flatten.length by rw [Int.toNat_natCast]; omega)
  case zk =>
  have hseg : setSeg (b.ms.map Mv.c).flatten (0 + Int.toNat (k : Int) * 4 + 2) (Sp.c ⟨v, v⟩) = ((fixB b k v).ms.map Mv.c).flatten := by
    have hm := mvk_get hk
    have e : b.ms = b.ms.take k ++ (b.ms[k] :: b.ms.drop (k + 1)) := by rw [← List.drop_eq_getElem_cons hk, List.take_append_drop]
    have h1 : ((b.ms.take k).map Mv.c).flatten.length = k * 4 := by
      rw [flat_len (sz := 4) fun w hw => by obtain ⟨m, _, rfl⟩ := List.mem_map.1 hw; rfl, List.length_map, List.length_take, Nat.min_eq_left (by omega)]
    have e2 : (fixB b k v).ms = b.ms.take k ++ (⟨(mvk b.ms k).fr, (mvk b.ms k).to, v, v⟩ :: b.ms.drop (k + 1)) := by
      show b.ms.set k _ = _
      rw [List.set_eq_take_append_cons_drop, if_pos hk]
    have e3 : (b.ms.map Mv.c).flatten = ((b.ms.take k).map Mv.c).flatten ++ (Mv.c b.ms[k] ++ ((b.ms.drop (k + 1)).map Mv.c).flatten) := by
      conv => lhs; rw [e]
      rw [List.map_append, List.flatten_append, List.map_cons, List.flatten_cons]
    rw [e2, e3, List.map_append, List.flatten_append, List.map_cons, List.flatten_cons, hm, Int.toNat_natCast, Nat.zero_add, ← h1]
    generalize ((b.ms.take k).map Mv.c).flatten = X
    generalize ((b.ms.drop (k + 1)).map Mv.c).flatten = Y
    unfold setSeg
    simp [Mv.c, Sp.c, List.take_append, List.drop_append]
    rw [List.take_of_length_le (by omega), List.drop_eq_nil_of_le (by omega), show X.length + 2 + 2 - X.length = 4 by omega]; rfl
  have hsl : (fixB b k v).ms.length = b.ms.length := List.length_set ..
  refine Aw.freezeC (id := 2) (id2 := 1) (j := 1) (n := b.ms.length) (sz := 4) (cs := ((fixB b k v).ms.map Mv.c).flatten) (cs2 := [.int b.n, .ms 2 0 b.ms.length]) ((fixB b k v).ms.map Mv.c) (congrArg (fun x => some (B.cells x)) hseg) rfl (by decide) (Nat.le_of_ble_eq_true rfl) rfl (rows_all (c := Mv.c) (sz := 4) (fun m => rfl) (fun m => rfl) (fixB b k v).ms) (by rw [List.length_map]; exact hsl) ?_
  refine Aw.sm tab_ok mb0 [] rfl rfl ?zo ?zk
  case zo =>
    repeat' apply AllP.cons
    all_goals first | exact trivial | exact rfl | exact Nat.le_of_ble_eq_true rfl
  case zk =>
  exact Aw.ret ⟨_, .cons (resC rfl rfl rfl rfl rfl) .nil, rfl⟩
end Go.Proofs.Ytampldajinhenaa

namespace Go.Proofs.Ytampldajinhenaa
open Go Go.AL Go.AL.Q Go.AL.Br
set_option maxRecDepth 100000 in
set_option maxHeartbeats 4000000 in
theorem reached_l (b : Book) (move : Int) (hbl : (b.ms.length : Int) ≤ 9223372036854775806) : Ans Try.prog 11 [.agg b.c, .int move] (.bool true) := by
  have c1 := Balance_w b hbl
  have c2 := whole_t b hbl
  have lm : ((b.ms.map Mv.c).length : Int) = b.ms.length := by simp
  refine told Try.func11 rfl rfl (Pure.of tab_ok Try.func11 rfl Try.ntmps11 rfl (allC (.agg _ b.free) (all1 (.s _))) (allC (fun _ => rfl) (all1 (fun _ => rfl))) (by first | exact .s _ | assumption | exact .tup _ (by intro x hx; simp only [List.mem_cons, List.not_mem_nil, or_false] at hx; rcases hx with rfl | rfl | rfl | rfl <;> first | exact .s _ | (simp_all; done))) fun E hE => ?_)
  refine Aw.sm tab_ok mb0 [] rfl rfl ?zo ?zk
  case zo =>
    repeat' apply AllP.cons
    all_goals first | exact trivial
  case zk =>
  by_cases hbo : b.ok = true
  rotate_left
  · have e : BalanceR b = ([], 63) := by unfold BalanceR; rw [if_neg hbo]
    rw [e] at c1
    have hbo : b.ok = false := by simpa using hbo
    rw [hbo] at c2
    refine Aw.sm tab_ok mb0 [(1, [.tup [spW [], .int 63]])] rfl rfl ?zo ?zk
    case zo =>
      repeat' apply AllP.cons
      all_goals first | exact trivial | exact Nat.le_of_ble_eq_true rfl | exact c1
    case zk =>
    refine Aw.seq ?_
    refine Aw.sm tab_ok mb0 [(4, [.bool false])] rfl rfl ?zo ?zk
    case zo =>
      repeat' apply AllP.cons
      all_goals first | exact trivial | exact id | exact fun _ => Nat.le_of_ble_eq_true rfl | exact gq_f | exact fun _ => c2
    case zk =>
    refine Aw.cond rfl (fun h => ?_) (fun h => by cases h)
    refine Aw.sm tab_ok mb0 [(8, [.bool true])] rfl rfl ?zo ?zk
    case zo =>
      repeat' apply AllP.cons
      all_goals first | exact trivial | exact id | exact fun _ => rfl | exact fun _ => works_t
    case zk =>
    exact Aw.ret ⟨_, .cons (.tmp _) .nil, rfl⟩
  have hB := Book.ok_iff.1 hbo
  rw [hbo] at c2
  cases hw : (BalW b).1 with
  | none =>
    rw [BalanceR_none hB hw] at c1
    refine Aw.sm tab_ok mb0 [(1, [.tup [spW [], .int 65]])] rfl rfl ?zo ?zk
    case zo =>
      repeat' apply AllP.cons
      all_goals first | exact trivial | exact Nat.le_of_ble_eq_true rfl | exact c1
    case zk =>
    refine Aw.seq ?_
    refine Aw.sm tab_ok mb0 [(4, [.bool true])] rfl rfl ?zo ?zk
    case zo =>
      repeat' apply AllP.cons
      all_goals first | exact trivial | exact id | exact fun _ => Nat.le_of_ble_eq_true rfl | exact gq_f | exact fun _ => c2
    case zk =>
    refine Aw.cond rfl (fun h => ?_) (fun h => by cases h)
    refine Aw.sm tab_ok mb0 [(8, [.bool true])] rfl rfl ?zo ?zk
    case zo =>
      repeat' apply AllP.cons
      all_goals first | exact trivial | exact id | exact fun _ => rfl | exact fun _ => works_t
    case zk =>
    exact Aw.ret ⟨_, .cons (.tmp _) .nil, rfl⟩
  | some cs =>
    obtain ⟨hf, he⟩ := BalW_some hB hw
    rw [BalanceR_some hB hw] at c1
    have hbl2 := hB.l
    have hLl : ((List.range b.ms.length).map (bdS b.n b.ms)).length = b.ms.length := by simp
    have hLg : ∀ i, i < b.ms.length → (((List.range b.ms.length).map (bdS b.n b.ms)).map Sp.c)[i]? = some (bdS b.n b.ms i).c := fun i hi => by simp [hi]
    have hLs : ((((List.range b.ms.length).map (bdS b.n b.ms)).map Sp.c).length : Int) = b.ms.length := by simp
    generalize hL : (List.range b.ms.length).map (bdS b.n b.ms) = L at *
    refine Aw.sm tab_ok mb0 [(1, [.tup [spW L, .int 0]])] rfl rfl ?zo ?zk
    case zo =>
      repeat' apply AllP.cons
      all_goals first | exact trivial | exact Nat.le_of_ble_eq_true rfl | exact c1
    case zk =>
    refine Aw.seq ?_
    refine Aw.sm tab_ok mb0 [(4, [.bool true])] rfl rfl ?zo ?zk
    case zo =>
      repeat' apply AllP.cons
      all_goals first | exact trivial | exact id | exact fun _ => rfl | exact fun _ => Nat.le_of_ble_eq_true rfl | exact fun _ => c2
    case zk =>
    refine Aw.cond rfl (fun h => absurd h (by show ¬ (cond (cond (0 != 0) true (!true)) true (((L.map Sp.c).length : Int) != ((b.ms.map Mv.c).length : Int))) = true; rw [hLs, lm]; simp)) (fun h => Aw.skip ?_)
    have hmod := mod_t move b.ms.length (by omega) (by omega)
    obtain ⟨k, hk⟩ : ∃ k : Nat, move % (b.ms.length : Int) = k := ⟨(move % (b.ms.length : Int)).toNat, by have := Int.emod_nonneg move (show (b.ms.length : Int) ≠ 0 by omega); omega⟩
    have hkl : k < b.ms.length := by have := Int.emod_lt_of_pos move (show 0 < (b.ms.length : Int) by omega); omega
    rw [hk] at hmod
    rw [← hLs] at hmod
    refine Aw.sm tab_ok mb0 [(3, [.int k])] rfl rfl ?zo ?zk
    case zo =>
      repeat' apply AllP.cons
      all_goals first | exact trivial | exact hmod
    case zk =>
    have hgS := hLg k hkl
    have hgm := mvk_at hkl
    obtain ⟨⟨u, u1, u2, u3⟩, w, w1, w2, w3⟩ := bd_got hB.n hB.m hf he hkl
    have hub := u1.b k hkl
    have hwb := w1.b k hkl
    have huw := bd_holds hB.n hB.m u1 u2 hkl
    obtain ⟨s1, s2, s3⟩ := fix_some hB hkl u1 u2
    obtain ⟨t1, t2, t3⟩ := fix_some hB hkl w1 w2
    have n1 := fun v h1 h2 => fix_none hB hkl (v := v) h1 h2
    rw [u3] at hub s1 s2 s3 huw
    rw [w3] at hwb t1 t2 t3
    have hxl : ∀ v, ((fixB b k v).ms.length : Int) ≤ 9223372036854775806 := fun v => by
      have : (fixB b k v).ms.length = b.ms.length := List.length_set ..
      omega
    have d1 := fun v => fixed_t b hbl2 k hkl v
    have d2 := fun v => Balance_w (fixB b k v) (hxl v)
    have s1 : BalanceR (fixB b k (bdS b.n b.ms k).lo) = _ := s1
    have t1 : BalanceR (fixB b k (bdS b.n b.ms k).hi) = _ := t1
    have n1 : ∀ v, _ → _ → BalanceR (fixB b k v) = ([], 65) := n1
    have d3 := d2 (bdS b.n b.ms k).lo
    have d4 := d2 (bdS b.n b.ms k).hi
    rw [s1] at d3
    rw [t1] at d4
    have hmk := (hB.m _ (mvk_mem hkl)).k
    generalize hS : bdS b.n b.ms k = S at *
    generalize mvk b.ms k = m at *
    refine Aw.sd tab_ok mixed mb0 [(2, S.c), (7, m.c)] rfl (by kernel_rfl) rfl rfl ?zo ?zk
    case zo =>
      repeat' apply AllP.cons
      all_goals first | exact trivial | exact rfl | exact Nat.le_of_ble_eq_true rfl | exact Int.natCast_nonneg _ | exact hgS | exact hgm
    case zk =>
    refine Aw.freeze (id := 10) (t := 8) (cs := S.c) rfl rfl ?_
    refine Aw.freeze (id := 11) (t := 9) (cs := Sp.c ⟨m.lo, m.hi⟩) rfl rfl ?_
    have ub : ∀ {n : Nat}, Under n (A.pt b.c) := (Free.pt _ b.free).under
    have uS : ∀ {n : Nat}, Under n (A.pt S.c) := (Free.pt _ S.free).under
    have um : ∀ {n : Nat}, Under n (A.pt (Sp.c ⟨m.lo, m.hi⟩)) := (Free.pt _ (Sp.free _)).under
    have uL : ∀ {n : Nat}, Under n (spW L) := (spW_free L).under
    refine Aw.keep (n := 0) (cst := [(2, .pt b.c), (5, spW L), (7, .int k), (8, .pt S.c), (9, .pt (Sp.c ⟨m.lo, m.hi⟩))]) (v := []) (Hl := []) hE ?zu ?zw ?zx ⟨?zc, ?zv, ?zh, Nat.le_of_ble_eq_true rfl⟩ ?zr
    case zu =>
      (repeat' (first | exact trivial | exact Under.s _ | exact ub | exact uS | exact um | exact uL | (refine And.intro ?_ ?_)))
    case zw =>
      (repeat' (first | exact trivial))
    case zx =>
      (repeat' (first | exact trivial))
    case zc =>
      (repeat' (first | (refine And.intro ?_ ?_) | exact trivial | exact A.Le.refl _))
    case zv =>
      (repeat' (first | exact trivial))
    case zh =>
      (repeat' (first | exact trivial))
    case zr =>
    refine Aw.seq ?_
    refine Aw.sm tab_ok mb0 [] rfl rfl ?zo ?zk
    case zo =>
      repeat' apply AllP.cons
      all_goals first | exact trivial | exact id | exact fun _ => rfl | exact Nat.le_of_ble_eq_true rfl | exact fun _ => Nat.le_of_ble_eq_true rfl | exact gq_f
    case zk =>
    refine Aw.cond rfl (fun h => absurd h (by show ¬ (cond (cond (decide (S.lo > S.hi)) true (decide (S.lo < m.lo))) true (decide (S.hi > m.hi))) = true; rw [decide_eq_false (by omega), decide_eq_false (by omega), decide_eq_false (by omega)]; decide)) (fun h => Aw.skip ?_)
    refine Aw.sm tab_ok mb0 [(4, [.agg (fixB b k S.lo).c]), (5, [.tup [spW ((List.range b.ms.length).map (bdS b.n (fixM b.ms k S.lo))), .int 0]])] rfl rfl ?zo ?zk
    case zo =>
      repeat' apply AllP.cons
      all_goals first | exact trivial | exact Nat.le_of_ble_eq_true rfl | exact d1 _ | exact d3
    case zk =>
    refine Aw.sm tab_ok mb0 [(4, [.agg (fixB b k S.hi).c]), (5, [.tup [spW ((List.range b.ms.length).map (bdS b.n (fixM b.ms k S.hi))), .int 0]])] rfl rfl ?zo ?zk
    case zo =>
      repeat' apply AllP.cons
      all_goals first | exact trivial | exact Nat.le_of_ble_eq_true rfl | exact d1 _ | exact d4
    case zk =>
    have gA : ∀ v i, i < b.ms.length → ((((List.range b.ms.length).map (bdS b.n (fixM b.ms k v)))).map Sp.c)[i]? = some (bdS b.n (fixM b.ms k v) i).c := fun v i hi => by simp [hi]
    have gA1 := gA S.lo
    have gB1 := gA S.hi
    have gAk := gA1 k hkl
    have gBk := gB1 k hkl
    rw [s2] at gAk
    rw [t2] at gBk
    have lA : ((((List.range b.ms.length).map (bdS b.n (fixM b.ms k S.lo))).map Sp.c).length : Int) = b.ms.length := by simp
    have lB : ((((List.range b.ms.length).map (bdS b.n (fixM b.ms k S.hi))).map Sp.c).length : Int) = b.ms.length := by simp
    generalize (List.range b.ms.length).map (bdS b.n (fixM b.ms k S.lo)) = La at *
    generalize (List.range b.ms.length).map (bdS b.n (fixM b.ms k S.hi)) = Lb at *
    have uA : ∀ {n : Nat}, Under n (spW La) := (spW_free La).under
    have e1 : (!((⟨S.lo, S.lo⟩ : Sp) == ⟨S.lo, S.lo⟩)) = false := by simp
    have e2 : (!((⟨S.hi, S.hi⟩ : Sp) == ⟨S.hi, S.hi⟩)) = false := by simp
    have x1 := fun x y => e1 ▸ neSp x y ⟨S.lo, S.lo⟩ ⟨S.lo, S.lo⟩
    have x2 := fun x y => e2 ▸ neSp x y ⟨S.hi, S.hi⟩ ⟨S.hi, S.hi⟩
    refine Aw.seq ?_
    refine Aw.sd tab_ok mixed mb0 [(23, Sp.c ⟨S.lo, S.lo⟩), (29, [.agg (Sp.c ⟨S.lo, S.lo⟩)]), (30, [.bool false]), (35, Sp.c ⟨S.hi, S.hi⟩), (41, [.agg (Sp.c ⟨S.hi, S.hi⟩)]), (42, [.bool false])] rfl (by kernel_rfl) rfl rfl ?zo ?zk
    case zo =>
      repeat' apply AllP.cons
      all_goals first | exact trivial | exact id | exact fun _ => rfl | exact fun _ => Nat.le_of_ble_eq_true rfl | exact fun _ => Int.natCast_nonneg _ | exact gq_f | exact fun _ => to_t _ _ | exact fun _ => gAk | exact fun _ => gBk | exact fun _ => x1 _ _ | exact fun _ => x2 _ _
    case zk =>
    refine Aw.cond rfl (fun h => absurd h (by show ¬ (cond (cond (cond (cond (cond (0 != 0) true (0 != 0)) true (((La.map Sp.c).length : Int) != ((L.map Sp.c).length : Int))) true (((Lb.map Sp.c).length : Int) != ((L.map Sp.c).length : Int))) true false) true false) = true; rw [lA, lB, hLs]; simp)) (fun h => Aw.skip ?_)
    refine Aw.seq ?_
    refine Aw.sm tab_ok mb0 [] rfl rfl ?zo ?zk
    case zo =>
      repeat' apply AllP.cons
      all_goals first | exact trivial
    case zk =>
    refine Aw.block (Aw.rounds 0 hE [(2, .pt b.c), (5, spW L), (7, .int k), (8, .pt S.c), (9, .pt (Sp.c ⟨m.lo, m.hi⟩)), (10, spW La)] (fun i : Nat => [(13, .int i)]) (fun i => []) (fun i => i ≤ b.ms.length) (fun i => b.ms.length - i) 0 ?zg ⟨?zc, ?zv, ?zh, Nat.le_of_ble_eq_true rfl⟩ ?zu (fun i zhk => ?zw) (fun i zhk => ?zx) fun i hk => ?zr)
    case zg =>
      (repeat' (first | exact Nat.zero_le _))
    case zc =>
      (repeat' (first | (refine And.intro ?_ ?_) | exact trivial | exact A.Le.refl _))
    case zv =>
      (repeat' (first | (refine And.intro ?_ ?_) | exact trivial | exact A.Le.refl _))
    case zh =>
      (repeat' (first | exact trivial))
    case zu =>
      (repeat' (first | exact trivial | exact Under.s _ | exact ub | exact uS | exact um | exact uL | exact uA | (refine And.intro ?_ ?_)))
    case zw =>
      (repeat' (first | exact trivial | exact Under.s _ | (refine And.intro ?_ ?_)))
    case zx =>
      (repeat' (first | exact trivial))
    case zr =>
    refine Aw.seq ?_
    refine Aw.sm tab_ok mb0 [] rfl rfl ?zo ?zk
    case zo =>
      repeat' apply AllP.cons
      all_goals first | exact trivial
    case zk =>
    refine Aw.cond rfl (fun h1 => Aw.skip ?_) (fun h1 => ?_)
    · have hlt : i < b.ms.length := by have := of_decide_eq_true h1; omega
      have q1 := gA1 i hlt
      have q2 := hLg i hlt
      have q3 := s3 i hlt
      generalize bdS b.n (fixM b.ms k S.lo) i = A1 at *
      generalize bdS b.n b.ms i = A2 at *
      refine Aw.seq (Aw.block ?_)
      refine Aw.sd tab_ok mixed mb0 [(2, A1.c), (7, A2.c), (14, A1.c), (19, A2.c)] rfl (by kernel_rfl) rfl rfl ?zo ?zk
      case zo =>
        repeat' apply AllP.cons
        all_goals first | exact trivial | exact id | exact rfl | exact fun _ => rfl | exact Nat.le_of_ble_eq_true rfl | exact fun _ => Nat.le_of_ble_eq_true rfl | exact Int.natCast_nonneg _ | exact fun _ => Int.natCast_nonneg _ | exact gq_f | exact q1 | exact q2 | exact fun _ => q1 | exact fun _ => q2
      case zk =>
      refine Aw.cond rfl (fun h => absurd h (by show ¬ (cond (decide (A1.lo < A2.lo)) true (decide (A1.hi > A2.hi))) = true; rw [decide_eq_false (by omega), decide_eq_false (by omega)]; decide)) (fun h => Aw.skip ?_)
      refine Aw.em tab_ok mb0 [] rfl rfl ?zo ?zk
      case zo =>
        repeat' apply AllP.cons
        all_goals first | exact trivial | exact inrk i (by omega)
      case zk =>
      refine ⟨i + 1, ?zg, ?zm, ⟨?zc, ?zv, ?zh, Nat.le_of_ble_eq_true rfl⟩⟩
      case zg =>
        (repeat' (first | assumption))
      case zm =>
        (repeat' (first | omega))
      case zc =>
        (repeat' (first | (refine And.intro ?_ ?_) | exact trivial | exact A.Le.refl _))
      case zv =>
        (repeat' (first | (refine And.intro ?_ ?_) | exact trivial | exact A.Le.refl _))
      case zh =>
        (repeat' (first | exact trivial))
    refine Aw.exit2 ?_
    refine Aw.keep (n := 0) (cst := [(2, .pt b.c), (7, .int k), (8, .pt S.c), (9, .pt (Sp.c ⟨m.lo, m.hi⟩))]) (v := []) (Hl := []) hE ?zu ?zw ?zx ⟨?zc, ?zv, ?zh, Nat.le_of_ble_eq_true rfl⟩ ?zr
    case zu =>
      (repeat' (first | exact trivial | exact Under.s _ | exact ub | exact uS | exact um | (refine And.intro ?_ ?_)))
    case zw =>
      (repeat' (first | exact trivial))
    case zx =>
      (repeat' (first | exact trivial))
    case zc =>
      (repeat' (first | (refine And.intro ?_ ?_) | exact trivial | exact A.Le.refl _))
    case zv =>
      (repeat' (first | exact trivial))
    case zh =>
      (repeat' (first | exact trivial))
    case zr =>
    refine Aw.join1 0 hE [(2, .pt b.c), (7, .int k), (8, .pt S.c), (9, .pt (Sp.c ⟨m.lo, m.hi⟩))] [] [] ⟨ub, .s _, uS, um, trivial⟩ trivial trivial ?_ ?_
    · refine Aw.sm tab_ok mb0 [] rfl rfl ?zo ?zk
      case zo =>
        repeat' apply AllP.cons
        all_goals first | exact trivial | exact Nat.le_of_ble_eq_true rfl
      case zk =>
      refine Aw.cond rfl (fun h4 => ?_) (fun h4 => Aw.skip ?_)
      · have h4 : S.lo > m.lo := of_decide_eq_true h4
        have d5 := d2 (S.lo - 1)
        rw [n1 (S.lo - 1) (by omega) (by omega)] at d5
        refine Aw.sm tab_ok mb0 [(5, [.agg (fixB b k (S.lo - 1)).c]), (6, [.tup [spW [], .int 65]])] rfl rfl ?zo ?zk
        case zo =>
          repeat' apply AllP.cons
          all_goals first | exact trivial | exact Nat.le_of_ble_eq_true rfl | exact d1 _ | exact d5 | exact (show inR (S.lo - 1) by simp only [inR]; omega)
        case zk =>
        refine Aw.sm tab_ok mb0 [] rfl rfl ?zo ?zk
        case zo =>
          repeat' apply AllP.cons
          all_goals first | exact trivial
        case zk =>
        refine Aw.cond rfl (fun h => by cases h) (fun h => Aw.skip ?_)
        exact ⟨⟨.refl _, .refl _, .refl _, .refl _, trivial⟩, trivial, trivial, Nat.le_of_ble_eq_true rfl⟩
      · exact ⟨⟨.refl _, .refl _, .refl _, .refl _, trivial⟩, trivial, trivial, Nat.le_of_ble_eq_true rfl⟩
    refine Aw.join1 0 hE [(2, .pt b.c), (7, .int k), (8, .pt S.c), (9, .pt (Sp.c ⟨m.lo, m.hi⟩))] [] [] ⟨ub, .s _, uS, um, trivial⟩ trivial trivial ?_ ?_
    · refine Aw.sm tab_ok mb0 [] rfl rfl ?zo ?zk
      case zo =>
        repeat' apply AllP.cons
        all_goals first | exact trivial | exact Nat.le_of_ble_eq_true rfl
      case zk =>
      refine Aw.cond rfl (fun h4 => ?_) (fun h4 => Aw.skip ?_)
      · have h4 : S.hi < m.hi := of_decide_eq_true h4
        have d5 := d2 (S.hi + 1)
        rw [n1 (S.hi + 1) (by omega) (by omega)] at d5
        refine Aw.sm tab_ok mb0 [(5, [.agg (fixB b k (S.hi + 1)).c]), (6, [.tup [spW [], .int 65]])] rfl rfl ?zo ?zk
        case zo =>
          repeat' apply AllP.cons
          all_goals first | exact trivial | exact Nat.le_of_ble_eq_true rfl | exact d1 _ | exact d5 | exact (show inR (S.hi + 1) by simp only [inR]; omega)
        case zk =>
        refine Aw.sm tab_ok mb0 [] rfl rfl ?zo ?zk
        case zo =>
          repeat' apply AllP.cons
          all_goals first | exact trivial
        case zk =>
        refine Aw.cond rfl (fun h => by cases h) (fun h => Aw.skip ?_)
        exact ⟨⟨.refl _, .refl _, .refl _, .refl _, trivial⟩, trivial, trivial, Nat.le_of_ble_eq_true rfl⟩
      · exact ⟨⟨.refl _, .refl _, .refl _, .refl _, trivial⟩, trivial, trivial, Nat.le_of_ble_eq_true rfl⟩
    refine Aw.sm tab_ok mb0 [(0, [.bool true])] rfl rfl ?zo ?zk
    case zo =>
      repeat' apply AllP.cons
      all_goals first | exact trivial | exact works_t
    case zk =>
    exact Aw.ret ⟨_, .cons (.tmp _) .nil, rfl⟩
end Go.Proofs.Ytampldajinhenaa

namespace Go.Proofs.Ytampldajinhenaa
open Go Go.AL Go.ChangeShapes Go.WideShapes Go.ChangeAt Go.RowKit
set_option maxRecDepth 100000 in
theorem barrelReached_lifted (os : Os) (started : os.Started) (H : Type) (enc : TypeId × Value → H) :
    ReturnsInHanded {} Try.checked os 11 .any (Rows.barrelReachedSpec.pre6 enc Try.prog Try.f11 [] false) (Rows.barrelReachedSpec.post enc Try.prog Try.f11 false true false false) := by
  refine lifted2 (tb := 4) (C := Try.checked) own started (by kernel_rfl) Try.func11
    (ChangeSpec.witness6 (enc := enc) (C := Try.checked) false ⟨#[], #[.agg #[.int .i64 0, .slice none 0 0], .int .i64 0], []⟩ 8 (by kernel_rfl) (by kernel_rfl) (by kernel_rfl) (by kernel_rfl))
    laidOut ?_ rfl rfl (by kernel_rfl) uBool ?_ ?_
  · rw [Try.params11]; exact all2t (p := fun t => Try.prog.readableRec t = true ∧ t < Try.prog.types.size) t49 t3
  · intro ds hd
    rw [Try.params11] at hd
    match ds, hd with
    | [d0, d1], _ => rfl
  · intro W base args ds p hval hA hwt
    rw [Try.params11] at hA hval
    obtain ⟨v0, v1, d0, d1, p0, p1, rfl, rfl, rfl, h0, h1⟩ := trodAll_two hA
    obtain ⟨y0, q0, s0⟩ := arg_book (φ := fun _ => none) (hval 0 49 v0 rfl rfl) h0 fun k hk => hwt k (List.mem_append.2 (.inl hk))
    obtain ⟨y1, q1⟩ := arg_int (φ := fun _ => none) (hval 1 3 v1 rfl rfl) h1 fun k hk => hwt k (List.mem_append.2 (.inr (List.mem_append.2 (.inl hk))))
    exact ⟨_, _, vrs2 q0 q1, reached_l y0 y1 s0⟩
theorem barrelReached_holds : Rows.BarrelReachedSaid :=
  OpenClaim.holds_of_wide 11 Try.f11 rfl rfl rfl rfl rfl rfl rfl ⟨rfl, rfl, rfl, rfl, rfl⟩ rfl rfl rfl rfl rfl (by kernel_rfl) Try.func11 (by kernel_rfl)
    (of_decide_eq_true (by kernel_rfl)) (by unfold Func.isWrapper; first | (rw [if_pos (by decide +kernel)]; kernel_rfl) | (rw [if_neg (by decide +kernel)]; exact ⟨rfl, rfl⟩))
    (fun os started H enc _ => barrelReached_lifted os started H enc)
end Go.Proofs.Ytampldajinhenaa

