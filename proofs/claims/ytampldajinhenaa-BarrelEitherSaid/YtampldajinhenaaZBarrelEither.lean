/- BarrelEither holds: a book balances if and only if no set proves that it does not; least numbers one after the other balance; a wider Count takes nothing away. No condition. -/
import Derived.Test.YtampldajinhenaaK6
set_option linter.all false
namespace Go.AL.Br
open Go Go.AL Go.AL.Q
def bitB (set k : Int) : Bool := bitV set k == 1
def mr1 (set wo : Int) (i : Nat) (m : Mv) (n : Int) : Int := if cond (cond ((i : Int) != wo) (bitB set m.fr) false) (!bitB set m.to) false then n + m.lo else n
def mr2 (set wo : Int) (i : Nat) (m : Mv) (n : Int) : Int := if cond (cond ((i : Int) != wo) (bitB set m.to) false) (!bitB set m.fr) false then n - m.hi else n
def mrStep (set wo : Int) (ms : List Mv) (n : Int) (i : Nat) : Int := mr2 set wo i (mvk ms i) (mr1 set wo i (mvk ms i) n)
def moreK (set wo : Int) (ms : List Mv) (k : Nat) : Int := (List.range k).foldl (mrStep set wo ms) 0
def moreF (set wo : Int) (ms : List Mv) : Int := moreK set wo ms ms.length
theorem moreK_succ (set wo : Int) (ms : List Mv) (k : Nat) : moreK set wo ms (k + 1) = mr2 set wo k (mvk ms k) (mr1 set wo k (mvk ms k) (moreK set wo ms k)) := by
  unfold moreK; rw [List.range_succ, List.foldl_append]; rfl
theorem mr1_bd {n : Int} {set wo : Int} {i : Nat} {m : Mv} (h : m.Ok n) (x : Int) : x ≤ mr1 set wo i m x ∧ mr1 set wo i m x ≤ x + 1000 := by
  have := h.k
  unfold mr1; split <;> omega
theorem mr2_bd {n : Int} {set wo : Int} {i : Nat} {m : Mv} (h : m.Ok n) (x : Int) : x - 1000 ≤ mr2 set wo i m x ∧ mr2 set wo i m x ≤ x := by
  have := h.k
  unfold mr2; split <;> omega
theorem moreK_bd {n : Int} {set wo : Int} {ms : List Mv} (h : ∀ m ∈ ms, m.Ok n) : ∀ k : Nat, k ≤ ms.length → -(1000 * (k : Int)) ≤ moreK set wo ms k ∧ moreK set wo ms k ≤ 1000 * (k : Int)
  | 0, _ => by simp [moreK]
  | k + 1, hk => by
    have ih := moreK_bd (set := set) (wo := wo) h k (by omega)
    have hm := h _ (mvk_mem (show k < ms.length by omega))
    rw [moreK_succ]
    have h1 := mr1_bd (set := set) (wo := wo) (i := k) hm (moreK set wo ms k)
    have h2 := mr2_bd (set := set) (wo := wo) (i := k) hm (mr1 set wo k (mvk ms k) (moreK set wo ms k))
    omega
def prGo (ms : List Mv) : Nat → Nat → Int
  | 0, _ => -1
  | f + 1, s => if moreF s (-1) ms > 0 then s else prGo ms f (s + 1)
def proofS (n : Int) (ms : List Mv) : Int := prGo ms (2 ^ n.toNat) 0
theorem prGo_neg {ms : List Mv} : ∀ (f s : Nat), prGo ms f s < 0 ↔ ∀ t, s ≤ t → t < s + f → ¬ moreF t (-1) ms > 0
  | 0, s => ⟨fun _ t h1 h2 => by omega, fun _ => (show (-1 : Int) < 0 by decide)⟩
  | f + 1, s => by
    rw [prGo]
    have ih := prGo_neg (ms := ms) f (s + 1)
    split
    · rename_i h
      exact ⟨fun h1 => by omega, fun h1 => absurd h (h1 s (Nat.le_refl _) (by omega))⟩
    · rename_i h
      rw [ih]
      exact ⟨fun h1 t h2 h3 => by
        rcases Nat.eq_or_lt_of_le h2 with e | h4
        · exact e ▸ h
        · exact h1 t h4 (by omega), fun h1 t h2 h3 => h1 t (by omega) (by omega)⟩
def rProvesR (b : Book) (set : Int) : Bool × Int :=
  if b.ok then if wi set 0 (2 ^ b.n.toNat - 1) then (decide (moreF set (-1) b.ms > 0), 0) else (false, 64) else (false, 63)
end Go.AL.Br

namespace Go.AL.Br
open Go Go.AL Go.AL.Q
def sumN (f : Nat → Int) : Nat → Int
  | 0 => 0
  | n + 1 => sumN f n + f n
def ifc (b : Bool) (c : Int) : Int := if b then c else 0
def flK (q : Int → Bool) (ms : List Mv) (cs : List Int) : Nat → Int
  | 0 => 0
  | k + 1 => flK q ms cs k + ifc (q (mvk ms k).to) (cs.getD k 0) - ifc (q (mvk ms k).fr) (cs.getD k 0)
theorem ov_flK {ms : List Mv} {cs : List Int} (hl : ms.length = cs.length) (s : Int) : ∀ k, k ≤ ms.length → ov (ms.take k) (cs.take k) s = flK (fun t => decide (t = s)) ms cs k
  | 0, _ => by simp [ov, flK]
  | k + 1, hk => by
    have h1 : k < ms.length := by omega
    have h2 : k < cs.length := by omega
    have ih := ov_flK hl s k (by omega)
    rw [List.take_succ_eq_append_getElem h1, List.take_succ_eq_append_getElem h2, ov_snoc _ _ _ (by rw [List.length_take, List.length_take]; omega), ih, flK, mvk_get h1]
    have e : cs.getD k 0 = cs[k] := by simp [List.getD_eq_getElem?_getD, h2]
    rw [e]
    unfold ifc
    simp only [decide_eq_true_eq]
theorem ov_fl {ms : List Mv} {cs : List Int} (hl : ms.length = cs.length) (s : Int) : ov ms cs s = flK (fun t => decide (t = s)) ms cs ms.length := by
  have := ov_flK hl s ms.length (Nat.le_refl _)
  rwa [List.take_length, hl, List.take_length, ← hl] at this
theorem sum_step (q : Int → Bool) (X : Nat → Int) (to fr c : Int) : ∀ n : Nat, sumN (fun s => ifc (q s) (X s + ifc (decide (to = (s : Int))) c - ifc (decide (fr = (s : Int))) c)) n = sumN (fun s => ifc (q s) (X s)) n + ifc (decide (0 ≤ to ∧ to < n) && q to) c - ifc (decide (0 ≤ fr ∧ fr < n) && q fr) c
  | 0 => by
    have h1 : ∀ t : Int, decide (0 ≤ t ∧ t < ((0 : Nat) : Int)) = false := fun t => decide_eq_false (by omega)
    rw [h1, h1]; simp [sumN, ifc]
  | n + 1 => by
    have ih := sum_step q X to fr c n
    have key : ∀ t : Int, ifc (decide (0 ≤ t ∧ t < ((n + 1 : Nat) : Int)) && q t) c = ifc (decide (0 ≤ t ∧ t < (n : Int)) && q t) c + ifc (decide (t = (n : Int)) && q n) c := fun t => by
      by_cases e : t = (n : Int)
      · subst e
        rw [decide_eq_true (show 0 ≤ (n : Int) ∧ (n : Int) < ((n + 1 : Nat) : Int) by omega), decide_eq_false (show ¬ (0 ≤ (n : Int) ∧ (n : Int) < (n : Int)) by omega), decide_eq_true rfl]
        simp [ifc]
      · rw [decide_eq_false e]
        by_cases h : 0 ≤ t ∧ t < (n : Int)
        · rw [decide_eq_true h, decide_eq_true (show 0 ≤ t ∧ t < ((n + 1 : Nat) : Int) by omega)]; simp [ifc]
        · rw [decide_eq_false h, decide_eq_false (show ¬ (0 ≤ t ∧ t < ((n + 1 : Nat) : Int)) by omega)]; simp [ifc]
    rw [sumN, sumN, ih, key to, key fr]
    by_cases hq : q n = true
    · rw [hq]; simp only [Bool.and_true]
      show _ + (X n + ifc (decide (to = n)) c - ifc (decide (fr = n)) c) = _ + X n + _ - _
      generalize ifc (decide (to = n)) c = u
      generalize ifc (decide (fr = n)) c = v
      show _ = _
      omega
    · have hq : q n = false := by simpa using hq
      rw [hq]; simp [ifc]
theorem sum_fl {n : Nat} {q : Int → Bool} {ms : List Mv} {cs : List Int} (h : ∀ m ∈ ms, (0 ≤ m.fr ∧ m.fr < n) ∧ 0 ≤ m.to ∧ m.to < n) : ∀ k, k ≤ ms.length → sumN (fun s => ifc (q s) (flK (fun t => decide (t = (s : Int))) ms cs k)) n = flK q ms cs k
  | 0, _ => by
    have : ∀ n, sumN (fun s => ifc (q s) (flK (fun t => decide (t = (s : Int))) ms cs 0)) n = 0 := by
      intro n
      induction n with
      | zero => rfl
      | succ n ih => rw [sumN, ih]; unfold ifc flK; split <;> rfl
    exact this n
  | k + 1, hk => by
    have ih := sum_fl h k (by omega) (q := q) (cs := cs)
    have hm := h _ (mvk_mem (show k < ms.length by omega))
    have := sum_step q (fun s => flK (fun t => decide (t = (s : Int))) ms cs k) (mvk ms k).to (mvk ms k).fr (cs.getD k 0) n
    rw [ih, decide_eq_true hm.1, decide_eq_true hm.2, Bool.true_and, Bool.true_and] at this
    exact this
theorem sum_cut {n : Int} (hn : 0 ≤ n) {q : Int → Bool} {ms : List Mv} {cs : List Int} (hl : ms.length = cs.length) (h : ∀ m ∈ ms, m.Ok n) : sumN (fun s => ifc (q s) (ov ms cs s)) n.toNat = flK q ms cs ms.length := by
  have e : (fun s : Nat => ifc (q s) (ov ms cs s)) = fun s : Nat => ifc (q s) (flK (fun t => decide (t = (s : Int))) ms cs ms.length) := funext fun s => by rw [ov_fl hl]
  rw [e]
  refine sum_fl (fun m hm => ?_) ms.length (Nat.le_refl _)
  have h1 := (h m hm).f
  have h2 := (h m hm).t
  omega
theorem flK_true (ms : List Mv) (cs : List Int) : ∀ k, flK (fun _ => true) ms cs k = 0
  | 0 => rfl
  | k + 1 => by rw [flK, flK_true ms cs k]; simp [ifc]
theorem sumN_neg {f : Nat → Int} : ∀ {n : Nat}, (∀ i, i < n → f i ≤ 0) → sumN f n ≤ 0
  | 0, _ => Int.le_refl _
  | n + 1, h => by
    have := sumN_neg (f := f) (n := n) fun i hi => h i (by omega)
    have := h n (by omega)
    rw [sumN]; omega
theorem sumN_zero {f : Nat → Int} : ∀ {n : Nat}, (∀ i, i < n → f i ≤ 0) → sumN f n = 0 → ∀ i, i < n → f i = 0
  | 0, _, _, i, hi => by omega
  | n + 1, h, e, i, hi => by
    rw [sumN] at e
    have h1 := sumN_neg (f := f) (n := n) fun i hi => h i (by omega)
    have h2 := h n (by omega)
    rcases Nat.lt_succ_iff_lt_or_eq.1 hi with h3 | rfl
    · exact sumN_zero (fun i hi => h i (by omega)) (by omega) i h3
    · omega
theorem sumN_pos {f : Nat → Int} : ∀ {n : Nat}, (∀ i, i < n → 0 ≤ f i) → ∀ i, i < n → f i ≤ sumN f n
  | 0, _, i, hi => by omega
  | n + 1, h, i, hi => by
    have h0 : ∀ m, m ≤ n → 0 ≤ sumN f m := by
      intro m
      induction m with
      | zero => intro _; exact Int.le_refl _
      | succ m ih => intro hm; rw [sumN]; have := ih (by omega); have := h m (by omega); omega
    rw [sumN]
    rcases Nat.lt_succ_iff_lt_or_eq.1 hi with h3 | rfl
    · have := sumN_pos (f := f) (n := n) (fun i hi => h i (by omega)) i h3
      have := h n (by omega)
      omega
    · have := h0 i (Nat.le_refl _)
      omega
theorem sumN_split {q : Int → Bool} {X : Nat → Int} : ∀ n : Nat, sumN (fun s => ifc (q s) (X s)) n + sumN (fun s => ifc (!q s) (X s)) n = sumN (fun s => ifc true (X s)) n
  | 0 => rfl
  | n + 1 => by
    have ih := sumN_split (q := q) (X := X) n
    simp only [sumN]
    cases q n <;> simp [ifc] at ih ⊢ <;> omega
def cutK (q : Int → Bool) (ms : List Mv) : Nat → Int
  | 0 => 0
  | k + 1 => cutK q ms k + ifc (q (mvk ms k).fr && !q (mvk ms k).to) (mvk ms k).lo - ifc (q (mvk ms k).to && !q (mvk ms k).fr) (mvk ms k).hi
theorem more_cut (set : Int) (ms : List Mv) : ∀ k, moreK set (-1) ms k = cutK (bitB set) ms k
  | 0 => rfl
  | k + 1 => by
    rw [moreK_succ, more_cut set ms k, cutK]
    have e : ((k : Int) != -1) = true := by simp
    unfold mr2 mr1
    rw [e]
    cases bitB set (mvk ms k).fr <;> cases bitB set (mvk ms k).to <;> simp [ifc]
theorem cut_le {q : Int → Bool} {ms : List Mv} {cs : List Int} (hf : Feas ms cs) : ∀ k, k ≤ ms.length → cutK q ms k ≤ - flK q ms cs k
  | 0, _ => by simp [cutK, flK]
  | k + 1, hk => by
    have ih := cut_le (q := q) hf k (by omega)
    have hb := hf.b k (by omega)
    rw [cutK, flK]
    generalize cs.getD k 0 = c at *
    cases q (mvk ms k).fr <;> cases q (mvk ms k).to <;> simp [ifc] <;> omega
theorem cut_eq {q : Int → Bool} {ms : List Mv} {cs : List Int} (h : ∀ k, k < ms.length → (q (mvk ms k).fr = true → q (mvk ms k).to = false → cs.getD k 0 = (mvk ms k).lo) ∧ (q (mvk ms k).to = true → q (mvk ms k).fr = false → cs.getD k 0 = (mvk ms k).hi)) : ∀ k, k ≤ ms.length → cutK q ms k = - flK q ms cs k
  | 0, _ => by simp [cutK, flK]
  | k + 1, hk => by
    have ih := cut_eq (q := q) h k (by omega)
    have hb := h k (by omega)
    rw [cutK, flK]
    generalize cs.getD k 0 = c at *
    cases h1 : q (mvk ms k).fr <;> cases h2 : q (mvk ms k).to <;> simp [ifc]
    · omega
    · have := hb.2 h2 h1; omega
    · have := hb.1 h1 h2; omega
    · omega
theorem feas_more {n : Int} (hn : 2 ≤ n ∧ n ≤ 6) {ms : List Mv} (hms : ∀ m ∈ ms, m.Ok n) {cs : List Int} (hf : Feas ms cs) (hz : ∀ s : Nat, s < n.toNat → ov ms cs s = 0) (set : Int) : moreF set (-1) ms ≤ 0 := by
  unfold moreF
  rw [more_cut]
  have h1 := cut_le (q := bitB set) hf ms.length (Nat.le_refl _)
  have h2 := sum_cut (n := n) (by omega) (q := bitB set) hf.l hms
  have h3 : sumN (fun s => ifc (bitB set s) (ov ms cs s)) n.toNat = 0 := by
    have : ∀ m, m ≤ n.toNat → sumN (fun s => ifc (bitB set s) (ov ms cs s)) m = 0 := by
      intro m
      induction m with
      | zero => intro _; rfl
      | succ m ih => intro hm; rw [sumN, ih (by omega), hz m (by omega)]; unfold ifc; split <;> rfl
    exact this _ (Nat.le_refl _)
  omega
theorem fin_zero {n : Int} (hn : 2 ≤ n ∧ n ≤ 6) {ms : List Mv} (hms : ∀ m ∈ ms, m.Ok n) {cs : List Int} (hf : Feas ms cs) (h : ∀ s : Nat, s < n.toNat → ov ms cs s ≤ 0) : ∀ s : Nat, s < n.toNat → ov ms cs s = 0 := by
  have h2 := sum_cut (n := n) (by omega) (q := fun _ => true) hf.l hms
  rw [flK_true] at h2
  have := sumN_zero (f := fun s : Nat => ifc true (ov ms cs s)) (n := n.toNat) (fun i hi => by show ifc true (ov ms cs i) ≤ 0; unfold ifc; rw [if_pos rfl]; exact h i hi) h2
  intro s hs
  have := this s hs
  unfold ifc at this
  rwa [if_pos rfl] at this
theorem negGo_none {ms : List Mv} {cs L : List Int} {a : Int} : ∀ (ss : List Nat) (rch : List Int), (negGo ms cs L a ss rch).1 = none →
    (∀ s ∈ ss, L.getD s 0 < 0 → (wayW ms cs a s (-1)).1 = none) ∧ ((∀ s ∈ ss, ¬ L.getD s 0 < 0) ∧ (negGo ms cs L a ss rch).2 = rch ∨ ∃ s ∈ ss, L.getD s 0 < 0 ∧ (negGo ms cs L a ss rch).2 = (wayW ms cs a s (-1)).2)
  | [], rch, _ => ⟨fun s h => (by cases h), .inl ⟨fun s h => (by cases h), rfl⟩⟩
  | s :: ss, rch, h => by
    rw [negGo] at h ⊢
    by_cases h1 : L.getD s 0 ≥ 0
    · rw [if_pos h1] at h ⊢
      obtain ⟨k1, k2⟩ := negGo_none ss rch h
      refine ⟨fun t ht hn => ?_, ?_⟩
      · rcases List.mem_cons.1 ht with rfl | ht
        · omega
        · exact k1 t ht hn
      · rcases k2 with ⟨k2, k3⟩ | ⟨t, ht, k2, k3⟩
        · refine .inl ⟨fun t ht => ?_, k3⟩
          rcases List.mem_cons.1 ht with rfl | ht
          · omega
          · exact k2 t ht
        · exact .inr ⟨t, List.mem_cons_of_mem _ ht, k2, k3⟩
    · rw [if_neg h1] at h ⊢
      cases hw : (wayW ms cs a s (-1)).1 with
      | some l => rw [hw] at h; cases h
      | none =>
        rw [hw] at h
        simp only at h ⊢
        obtain ⟨k1, k2⟩ := negGo_none ss _ h
        refine ⟨fun t ht hn => ?_, ?_⟩
        · rcases List.mem_cons.1 ht with rfl | ht
          · exact hw
          · exact k1 t ht hn
        · rcases k2 with ⟨k2, k3⟩ | ⟨t, ht, k2, k3⟩
          · exact .inr ⟨s, List.mem_cons_self .., by omega, k3⟩
          · exact .inr ⟨t, List.mem_cons_of_mem _ ht, k2, k3⟩
theorem stuck_more {n : Int} (hn : 2 ≤ n ∧ n ≤ 6) {ms : List Mv} (hms : ∀ m ∈ ms, m.Ok n) {cs : List Int} (hf : Feas ms cs) {a : Nat} (ha : firstPos (ovL n ms cs) = some a)
    (hg : (negGo ms cs (ovL n ms cs) a (List.range n.toNat) []).1 = none) {set : Int} (hs : ∀ s : Nat, s < n.toNat → bitB set s = !(negGo ms cs (ovL n ms cs) a (List.range n.toNat) []).2.contains (s : Int)) : moreF set (-1) ms > 0 := by
  obtain ⟨h1, h2⟩ := firstPos_some ha
  rw [ovL_len] at h1
  have gL : ∀ s : Nat, s < n.toNat → (ovL n ms cs).getD s 0 = ov ms cs s := fun s hs => by
    have := ovL_get (n := n) (ms := ms) (cs := cs) (s := (s : Int)) (by omega)
    rwa [Int.toNat_natCast] at this
  rw [gL a h1] at h2
  obtain ⟨k1, k2⟩ := negGo_none _ _ hg
  have hain : 0 ≤ (a : Int) ∧ (a : Int) < n := by omega
  have hw : ∀ s : Nat, s < n.toNat → ov ms cs s < 0 → WayIs n ms cs a s (-1) ∧ (wayW ms cs a s (-1)).1 = none := fun s hs hneg =>
    ⟨way_is hn hms hf (fr := (a : Int)) (to := (s : Int)) (wo := -1) hain (fun e => by rw [e] at h2; omega), k1 s (List.mem_range.2 hs) (by rw [gL s hs]; exact hneg)⟩
  rcases k2 with ⟨k2, _⟩ | ⟨t, ht, k2, k3⟩
  · exfalso
    have hz : ∀ s : Nat, s < n.toNat → 0 ≤ ov ms cs s := fun s hs => by
      have := k2 s (List.mem_range.2 hs)
      rw [gL s hs] at this; omega
    have h3 := sum_cut (n := n) (by omega) (q := fun _ => true) hf.l hms
    rw [flK_true] at h3
    have h4 := sumN_pos (f := fun s : Nat => ifc true (ov ms cs s)) (n := n.toNat) (fun i hi => by show 0 ≤ ifc true (ov ms cs i); unfold ifc; rw [if_pos rfl]; exact hz i hi) a h1
    have h5 : ifc true (ov ms cs a) = ov ms cs a := by unfold ifc; rw [if_pos rfl]
    rw [h5] at h4
    omega
  · have ht := List.mem_range.1 ht
    rw [gL t ht] at k2
    rw [k3] at hs
    obtain ⟨wt, wn⟩ := hw t ht k2
    have hcl := (wt.not wn).2
    have hno : ∀ s : Nat, s < n.toNat → ov ms cs s < 0 → (s : Int) ∉ (wayW ms cs a t (-1)).2 := fun s hs hneg hin => by
      obtain ⟨ws, wsn⟩ := hw s hs hneg
      have hc := ws.not wsn
      have := wt.min (fun x => x ∈ (wayW ms cs a s (-1)).2) (fun x hx => hc.2 x hx) ws.fr' s hin
      exact hc.1 this
    have hfr := wt.fr'
    generalize (wayW ms cs a t (-1)).2 = rch at *
    have hbq : ∀ s : Int, 0 ≤ s ∧ s < n → (bitB set s = false ↔ s ∈ rch) := fun s h => by
      have := hs s.toNat (by omega)
      rw [show ((s.toNat : Nat) : Int) = s by omega] at this
      rw [this, Bool.not_eq_false', List.contains_iff_mem]
    unfold moreF
    rw [more_cut, cut_eq (q := bitB set) (cs := cs) (fun k hk => ?_) ms.length (Nat.le_refl _)]
    rotate_left
    · have hmo := hms _ (mvk_mem hk)
      have hb := hf.b k hk
      have hfi := hmo.f
      have hti := hmo.t
      refine ⟨fun x1 x2 => ?_, fun x1 x2 => ?_⟩
      · have y2 := (hbq _ hti).1 x2
        have y1 : (mvk ms k).fr ∉ rch := fun h => by have := (hbq _ hfi).2 h; rw [x1] at this; cases this
        have := hcl _ y2 k hk
        refine Classical.byContradiction fun hne => y1 ?_
        have h9 := this ⟨by omega, .inr ⟨rfl, by omega⟩⟩
        unfold nxS at h9
        rwa [if_pos rfl] at h9
      · have y2 := (hbq _ hfi).1 x2
        have y1 : (mvk ms k).to ∉ rch := fun h => by have := (hbq _ hti).2 h; rw [x1] at this; cases this
        have := hcl _ y2 k hk
        refine Classical.byContradiction fun hne => y1 ?_
        have h9 := this ⟨by omega, .inl ⟨rfl, by omega⟩⟩
        unfold nxS at h9
        rwa [if_neg hmo.ne] at h9
    · have h3 := sum_cut (n := n) (by omega) (q := bitB set) hf.l hms
      have h4 := sum_cut (n := n) (by omega) (q := fun _ => true) hf.l hms
      rw [flK_true] at h4
      have h5 := sumN_split (q := bitB set) (X := fun s => ov ms cs s) n.toNat
      have h6 := sumN_pos (f := fun s : Nat => ifc (!bitB set s) (ov ms cs s)) (n := n.toNat) (fun i hi => by
        show 0 ≤ ifc (!bitB set i) (ov ms cs i)
        unfold ifc
        split
        · rename_i hb
          have hb : bitB set i = false := by simpa using hb
          have h7 := (hbq i (by omega)).1 hb
          by_cases h8 : ov ms cs i < 0
          · exact absurd h7 (hno i hi h8)
          · omega
        · exact Int.le_refl _) a h1
      have h7 : bitB set a = false := (hbq a hain).2 hfr
      have h8 : ifc (!bitB set a) (ov ms cs a) = ov ms cs a := by rw [h7]; rfl
      rw [h8] at h6
      have h5' : sumN (fun s => ifc (bitB set s) (ov ms cs s)) n.toNat + sumN (fun s => ifc (!bitB set s) (ov ms cs s)) n.toNat = sumN (fun s => ifc true (ov ms cs s)) n.toNat := h5
      omega
end Go.AL.Br

namespace Go.AL.Br
open Go Go.AL Go.AL.Q
theorem bits : ∀ k : Nat, k < 6 → ∀ p : Nat, p < 2 ^ k → (∀ i : Nat, i < k → bitV ((p : Int) + 2 ^ k) i = bitV p i) ∧ bitV ((p : Int) + 2 ^ k) k = 1 ∧ bitV p k = 0 := by decide +kernel
theorem bit01 : ∀ p : Nat, p < 64 → ∀ i : Nat, i < 6 → bitV p i = 0 ∨ bitV p i = 1 := by decide +kernel
def prStep' (rch : List Int) (p : Int) (s : Nat) : Int := if rch.contains (s : Int) then p else p + 2 ^ s
theorem prf_bits (rch : List Int) : ∀ k : Nat, k ≤ 6 → ∃ p : Nat, (List.range k).foldl (prStep' rch) 0 = p ∧ p < 2 ^ k ∧ ∀ s : Nat, s < k → bitB p s = !rch.contains (s : Int)
  | 0, _ => ⟨0, rfl, by decide, fun s h => by omega⟩
  | k + 1, h => by
    obtain ⟨p, e, hp, hb⟩ := prf_bits rch k (by omega)
    obtain ⟨h1, h2, h3⟩ := bits k (by omega) p hp
    have hpow : 2 ^ (k + 1) = 2 ^ k * 2 := Nat.pow_succ ..
    rw [List.range_succ, List.foldl_append, e]
    by_cases hc : rch.contains (k : Int) = true
    · refine ⟨p, by show prStep' rch p k = p; unfold prStep'; rw [if_pos hc], by omega, fun s hs => ?_⟩
      rcases Nat.lt_succ_iff_lt_or_eq.1 hs with h4 | rfl
      · exact hb s h4
      · rw [hc]; unfold bitB; rw [h3]; rfl
    · refine ⟨p + 2 ^ k, by show prStep' rch p k = _; unfold prStep'; rw [if_neg hc]; push_cast; rfl, by omega, fun s hs => ?_⟩
      have ec : ((p + 2 ^ k : Nat) : Int) = (p : Int) + 2 ^ k := by push_cast; rfl
      rw [ec]
      rcases Nat.lt_succ_iff_lt_or_eq.1 hs with h4 | rfl
      · have := hb s h4
        unfold bitB at this ⊢
        rw [h1 s h4]; exact this
      · have hc : rch.contains (s : Int) = false := by simpa using hc
        rw [hc]; unfold bitB; rw [h2]; rfl
theorem balF_none {n : Int} (hn : 2 ≤ n ∧ n ≤ 6) {ms : List Mv} (hms : ∀ m ∈ ms, m.Ok n) : ∀ (f : Nat) (cs : List Int), Feas ms cs → phi n ms cs < f → (balF n ms f cs).1 = none → moreF (balF n ms f cs).2 (-1) ms > 0 ∧ 0 ≤ (balF n ms f cs).2 ∧ (balF n ms f cs).2 < 2 ^ n.toNat
  | 0, cs, hf, hp, h => by omega
  | f + 1, cs, hf, hp, h => by
    rw [balF] at h ⊢
    cases hfp : firstPos (ovL n ms cs) with
    | none => rw [hfp] at h; cases h
    | some a =>
      rw [hfp] at h
      simp only at h ⊢
      cases hg : (negGo ms cs (ovL n ms cs) a (List.range n.toNat) []).1 with
      | some l =>
        rw [hg] at h
        simp only at h ⊢
        have hst := bal_step hn hms hf hfp hg
        exact balF_none hn hms f _ hst.1 (by omega) h
      | none =>
        simp only
        obtain ⟨p, e, hp2, hb⟩ := prf_bits (negGo ms cs (ovL n ms cs) a (List.range n.toNat) []).2 n.toNat (by omega)
        have e2 : prfV n (negGo ms cs (ovL n ms cs) a (List.range n.toNat) []).2 = p := e
        rw [e2]
        refine ⟨stuck_more hn hms hf hfp hg hb, by omega, ?_⟩
        have : ((2 ^ n.toNat : Nat) : Int) = 2 ^ n.toNat := by push_cast; rfl
        omega
theorem balF_some {n : Int} (hn : 2 ≤ n ∧ n ≤ 6) {ms : List Mv} (hms : ∀ m ∈ ms, m.Ok n) : ∀ (f : Nat) (cs : List Int), Feas ms cs → ∀ l, (balF n ms f cs).1 = some l → Feas ms l ∧ ∀ s : Nat, s < n.toNat → ov ms l s = 0
  | 0, cs, hf, l, h => by cases h
  | f + 1, cs, hf, l, h => by
    rw [balF] at h
    cases hp : firstPos (ovL n ms cs) with
    | none =>
      rw [hp] at h
      have h : some cs = some l := h
      cases h
      refine ⟨hf, fin_zero hn hms hf fun s hs => ?_⟩
      have h1 := List.findIdx?_eq_none_iff.1 hp
      have h2 := ovL_get (n := n) (ms := ms) (cs := cs) (s := (s : Int)) (by omega)
      rw [Int.toNat_natCast] at h2
      have hl := ovL_len n ms cs
      have e : (ovL n ms cs).getD s 0 = (ovL n ms cs)[s]'(by omega) := by simp [List.getD_eq_getElem?_getD, show s < (ovL n ms cs).length by omega]
      have := h1 _ (List.getElem_mem (show s < (ovL n ms cs).length by omega))
      rw [← e, h2] at this
      simpa using this
    | some a =>
      rw [hp] at h
      simp only at h
      cases hg : (negGo ms cs (ovL n ms cs) a (List.range n.toNat) []).1 with
      | none => rw [hg] at h; cases h
      | some st =>
        rw [hg] at h
        exact balF_some hn hms f _ (bal_step hn hms hf hp hg).1 l h
theorem BalW_some {b : Book} (hb : b.Ok) {cs : List Int} (h : (BalW b).1 = some cs) : Feas b.ms cs ∧ ∀ s : Nat, s < b.n.toNat → ov b.ms cs s = 0 := balF_some hb.n hb.m _ _ (lows_feas hb.m) cs h
theorem BalW_none {b : Book} (hb : b.Ok) (h : (BalW b).1 = none) : moreF (BalW b).2 (-1) b.ms > 0 ∧ 0 ≤ (BalW b).2 ∧ (BalW b).2 < 2 ^ b.n.toNat := balF_none hb.n hb.m _ _ (lows_feas hb.m) (Nat.lt_succ_self _) h
theorem pv_more {n : Int} (hn : 2 ≤ n ∧ n ≤ 6) {ms : List Mv} (hms : ∀ m ∈ ms, m.Ok n) {set : Int} (hs : 0 ≤ set ∧ set < 64) : ∀ k, k ≤ ms.length → (ms.take k).foldl (pvStep set) 0 = moreK set (-1) ms k
  | 0, _ => rfl
  | k + 1, hk => by
    have hlt : k < ms.length := by omega
    have ih := pv_more hn hms hs k (by omega)
    have hmo := hms _ (mvk_mem hlt)
    rw [List.take_succ_eq_append_getElem hlt, List.foldl_append, ih, moreK_succ]
    rw [mvk_get hlt] at hmo ⊢
    generalize ms[k] = m at *
    generalize moreK set (-1) ms k = v at *
    have hf := hmo.f
    have ht := hmo.t
    have f01 := bit01 set.toNat (by omega) m.fr.toNat (by omega)
    have t01 := bit01 set.toNat (by omega) m.to.toNat (by omega)
    rw [show ((set.toNat : Nat) : Int) = set by omega, show ((m.fr.toNat : Nat) : Int) = m.fr by omega] at f01
    rw [show ((set.toNat : Nat) : Int) = set by omega, show ((m.to.toNat : Nat) : Int) = m.to by omega] at t01
    show pvStep set v m = _
    have e : ((k : Int) != -1) = true := by simp
    unfold pvStep mr2 mr1 bitB
    rw [e]
    rcases f01 with f | f <;> rcases t01 with t | t <;> rw [f, t] <;> simp
theorem proves_is (b : Book) (set : Int) : rProvesR b set = ProvesR b set := by
  unfold rProvesR ProvesR
  by_cases h1 : b.ok = true
  · rw [if_pos h1, if_pos h1]
    have hb := Book.ok_iff.1 h1
    have hn := hb.n
    by_cases h2 : wi set 0 (2 ^ b.n.toNat - 1) = true
    · rw [if_pos h2, if_pos h2]
      have h3 := wi_iff.1 h2
      have hp : (2 : Int) ^ b.n.toNat ≤ 64 := by
        rcases (show b.n.toNat = 2 ∨ b.n.toNat = 3 ∨ b.n.toNat = 4 ∨ b.n.toNat = 5 ∨ b.n.toNat = 6 by omega) with e | e | e | e | e <;> rw [e] <;> decide
      have := pv_more hn hb.m (set := set) (by omega) b.ms.length (Nat.le_refl _)
      rw [List.take_length] at this
      unfold moreF pvF
      rw [this]
    · rw [if_neg h2, if_neg h2]
  · rw [if_neg h1, if_neg h1]
theorem proof_neg {b : Book} (hb : b.Ok) {cs : List Int} (h : (BalW b).1 = some cs) : proofS b.n b.ms < 0 := by
  obtain ⟨h1, h2⟩ := BalW_some hb h
  refine (prGo_neg _ _).2 fun t _ _ => ?_
  have := feas_more hb.n hb.m h1 h2 t
  omega
theorem proof_pos {b : Book} (hb : b.Ok) (h : (BalW b).1 = none) : ¬ proofS b.n b.ms < 0 := by
  obtain ⟨h1, h2, h3⟩ := BalW_none hb h
  intro h4
  have h5 := (prGo_neg _ _).1 h4 (BalW b).2.toNat (Nat.zero_le _) (by
    have : ((2 ^ b.n.toNat : Nat) : Int) = 2 ^ b.n.toNat := by push_cast; rfl
    omega)
  rw [show (((BalW b).2.toNat : Nat) : Int) = (BalW b).2 by omega] at h5
  exact h5 h1
end Go.AL.Br

namespace Go.AL.Br
open Go Go.AL Go.AL.Q
def mnL (x y : Int) : Int := if y < x then y else x
def mxL (x y : Int) : Int := if y > x then y else x
def bd1 (ms : List Mv) (i : Nat) (set : Nat) (p : Int × Int) : Int × Int := if cond (bitB set (mvk ms i).fr) (!bitB set (mvk ms i).to) false = true then (p.1, mnL p.2 (-(moreF set i ms))) else p
def bd2 (ms : List Mv) (i : Nat) (set : Nat) (p : Int × Int) : Int × Int := if cond (bitB set (mvk ms i).to) (!bitB set (mvk ms i).fr) false = true then (mxL p.1 (moreF set i ms), p.2) else p
def bdK (ms : List Mv) (i : Nat) : Nat → Int × Int
  | 0 => ((mvk ms i).lo, (mvk ms i).hi)
  | k + 1 => bd2 ms i k (bd1 ms i k (bdK ms i k))
def bdS (n : Int) (ms : List Mv) (i : Nat) : Sp := ⟨(bdK ms i (2 ^ n.toNat)).1, (bdK ms i (2 ^ n.toNat)).2⟩
def rBalanceR (b : Book) : List Sp × Int := if b.ok then if proofS b.n b.ms ≥ 0 then ([], 65) else ((List.range b.ms.length).map (bdS b.n b.ms), 0) else ([], 63)
end Go.AL.Br

namespace Go.AL.Br
open Go Go.AL Go.AL.Q
def cutW (wo : Int) (q : Int → Bool) (ms : List Mv) : Nat → Int
  | 0 => 0
  | k + 1 => cutW wo q ms k + ifc ((k : Int) != wo) (ifc (q (mvk ms k).fr && !q (mvk ms k).to) (mvk ms k).lo - ifc (q (mvk ms k).to && !q (mvk ms k).fr) (mvk ms k).hi)
def flW (wo : Int) (q : Int → Bool) (ms : List Mv) (cs : List Int) : Nat → Int
  | 0 => 0
  | k + 1 => flW wo q ms cs k + ifc ((k : Int) != wo) (ifc (q (mvk ms k).to) (cs.getD k 0) - ifc (q (mvk ms k).fr) (cs.getD k 0))
theorem more_cutW (set wo : Int) (ms : List Mv) : ∀ k, moreK set wo ms k = cutW wo (bitB set) ms k
  | 0 => rfl
  | k + 1 => by
    rw [moreK_succ, more_cutW set wo ms k, cutW]
    unfold mr2 mr1
    cases (k : Int) != wo <;> cases bitB set (mvk ms k).fr <;> cases bitB set (mvk ms k).to <;> simp [ifc] <;> omega
theorem fl_flW (w : Nat) (q : Int → Bool) (ms : List Mv) (cs : List Int) : ∀ k, flK q ms cs k = flW w q ms cs k + ifc (decide (w < k)) (ifc (q (mvk ms w).to) (cs.getD w 0) - ifc (q (mvk ms w).fr) (cs.getD w 0))
  | 0 => by simp [flK, flW, ifc]
  | k + 1 => by
    rw [flK, fl_flW w q ms cs k, flW]
    by_cases e : w = k
    · subst e
      rw [decide_eq_false (show ¬ w < w by omega), decide_eq_true (show w < w + 1 by omega), show ((w : Int) != (w : Int)) = false by simp]
      simp only [ifc]
      simp
      generalize (if q (mvk ms w).to = true then cs[w]?.getD 0 else 0) = u
      generalize (if q (mvk ms w).fr = true then cs[w]?.getD 0 else 0) = v
      omega
    · rw [show ((k : Int) != (w : Int)) = true by simp; omega]
      by_cases h : w < k
      · rw [decide_eq_true h, decide_eq_true (show w < k + 1 by omega)]
        simp only [ifc, if_true]
        generalize (if q (mvk ms w).to = true then cs.getD w 0 else 0) = u
        generalize (if q (mvk ms w).fr = true then cs.getD w 0 else 0) = v
        generalize (if q (mvk ms k).to = true then cs.getD k 0 else 0) = u2
        generalize (if q (mvk ms k).fr = true then cs.getD k 0 else 0) = v2
        omega
      · rw [decide_eq_false h, decide_eq_false (show ¬ w < k + 1 by omega)]
        simp only [ifc, if_true]
        generalize (if q (mvk ms k).to = true then cs.getD k 0 else 0) = u2
        generalize (if q (mvk ms k).fr = true then cs.getD k 0 else 0) = v2
        simp
        omega
theorem cutW_le {wo : Int} {q : Int → Bool} {ms : List Mv} {cs : List Int} (hf : Feas ms cs) : ∀ k, k ≤ ms.length → cutW wo q ms k ≤ - flW wo q ms cs k
  | 0, _ => by simp [cutW, flW]
  | k + 1, hk => by
    have ih := cutW_le (wo := wo) (q := q) hf k (by omega)
    have hb := hf.b k (by omega)
    rw [cutW, flW]
    generalize cs.getD k 0 = c at *
    cases (k : Int) != wo <;> cases q (mvk ms k).fr <;> cases q (mvk ms k).to <;> simp [ifc] <;> omega
theorem cutW_eq {wo : Int} {q : Int → Bool} {ms : List Mv} {cs : List Int} (h : ∀ k : Nat, k < ms.length → (k : Int) ≠ wo → (q (mvk ms k).fr = true → q (mvk ms k).to = false → cs.getD k 0 = (mvk ms k).lo) ∧ (q (mvk ms k).to = true → q (mvk ms k).fr = false → cs.getD k 0 = (mvk ms k).hi)) : ∀ k, k ≤ ms.length → cutW wo q ms k = - flW wo q ms cs k
  | 0, _ => by simp [cutW, flW]
  | k + 1, hk => by
    have ih := cutW_eq (wo := wo) (q := q) h k (by omega)
    have hb := h k (by omega)
    rw [cutW, flW]
    generalize cs.getD k 0 = c at *
    by_cases e : (k : Int) = wo
    · rw [show ((k : Int) != wo) = false by simp [e]]; simp [ifc]; omega
    · rw [show ((k : Int) != wo) = true by simp [e]]
      have hb := hb e
      cases h1 : q (mvk ms k).fr <;> cases h2 : q (mvk ms k).to <;> simp [ifc]
      · omega
      · have := hb.2 h2 h1; omega
      · have := hb.1 h1 h2; omega
      · omega
def Even0 (n : Int) (ms : List Mv) (cs : List Int) : Prop := ∀ s : Nat, s < n.toNat → ov ms cs s = 0
theorem even_fl {n : Int} (hn : 2 ≤ n ∧ n ≤ 6) {ms : List Mv} (hms : ∀ m ∈ ms, m.Ok n) {cs : List Int} (hf : Feas ms cs) (he : Even0 n ms cs) (q : Int → Bool) : flK q ms cs ms.length = 0 := by
  rw [← sum_cut (n := n) (by omega) (q := q) hf.l hms]
  have : ∀ m, m ≤ n.toNat → sumN (fun s => ifc (q s) (ov ms cs s)) m = 0 := by
    intro m
    induction m with
    | zero => intro _; rfl
    | succ m ih => intro hm; rw [sumN, ih (by omega), he m (by omega)]; unfold ifc; split <;> rfl
  exact this _ (Nat.le_refl _)
theorem even_flW {n : Int} (hn : 2 ≤ n ∧ n ≤ 6) {ms : List Mv} (hms : ∀ m ∈ ms, m.Ok n) {cs : List Int} (hf : Feas ms cs) (he : Even0 n ms cs) (q : Int → Bool) {w : Nat} (hw : w < ms.length) :
    flW w q ms cs ms.length = ifc (q (mvk ms w).fr) (cs.getD w 0) - ifc (q (mvk ms w).to) (cs.getD w 0) := by
  have h1 := even_fl hn hms hf he q
  have h2 := fl_flW w q ms cs ms.length
  rw [h1, decide_eq_true hw] at h2
  unfold ifc at h2 ⊢
  rw [if_pos rfl] at h2
  omega
theorem ge_more {n : Int} (hn : 2 ≤ n ∧ n ≤ 6) {ms : List Mv} (hms : ∀ m ∈ ms, m.Ok n) {cs : List Int} (hf : Feas ms cs) (he : Even0 n ms cs) {w : Nat} (hw : w < ms.length) (set : Int) :
    (bitB set (mvk ms w).to = true → bitB set (mvk ms w).fr = false → moreF set w ms ≤ cs.getD w 0) ∧ (bitB set (mvk ms w).fr = true → bitB set (mvk ms w).to = false → cs.getD w 0 ≤ - moreF set w ms) := by
  have h1 := cutW_le (wo := w) (q := bitB set) hf ms.length (Nat.le_refl _)
  rw [even_flW hn hms hf he (bitB set) hw, ← more_cutW] at h1
  unfold moreF
  exact ⟨fun h2 h3 => by rw [h2, h3] at h1; simp only [ifc] at h1; simpa using h1, fun h2 h3 => by rw [h2, h3] at h1; simp [ifc] at h1 ⊢; omega⟩
end Go.AL.Br

namespace Go.AL.Br
open Go Go.AL Go.AL.Q
theorem push_end {n : Int} (hn : 2 ≤ n ∧ n ≤ 6) {ms : List Mv} (hms : ∀ m ∈ ms, m.Ok n) {k : Nat} (hk : k < ms.length) (fw : Bool) : ∀ (f : Nat) (l : List Int), Feas ms l → Even0 n ms l → dist ms k fw l < f →
    ∃ l', Feas ms l' ∧ Even0 n ms l' ∧ pushW ms k fw f l = l'.getD k 0 ∧ (l'.getD k 0 = limV (mvk ms k) fw ∨ (wayW ms l' (pFr (mvk ms k) fw) (pTo (mvk ms k) fw) k).1 = none)
  | 0, l, _, _, hd => by omega
  | f + 1, l, hf, he, hd => by
    rw [pushW]
    by_cases h1 : l.getD k 0 = limV (mvk ms k) fw
    · rw [if_pos (by simpa using h1)]
      exact ⟨l, hf, he, rfl, .inl h1⟩
    · rw [if_neg (by simpa using h1)]
      cases hw : (wayW ms l (pFr (mvk ms k) fw) (pTo (mvk ms k) fw) k).1 with
      | none => exact ⟨l, hf, he, rfl, .inr hw⟩
      | some st =>
        obtain ⟨p1, p2, p3, p4, _⟩ := push_step hn hms hk hf h1 hw
        exact push_end hn hms hk fw f _ p1 (fun s hs => by rw [p4]; exact he s hs) (by omega)
theorem stop_more {n : Int} (hn : 2 ≤ n ∧ n ≤ 6) {ms : List Mv} (hms : ∀ m ∈ ms, m.Ok n) {l : List Int} (hf : Feas ms l) (he : Even0 n ms l) {k : Nat} (hk : k < ms.length) {fr to : Int} (hfr : 0 ≤ fr ∧ fr < n) (hto : 0 ≤ to ∧ to < n) (hne : fr ≠ to)
    (hw : (wayW ms l fr to k).1 = none) : ∃ p : Nat, p < 2 ^ n.toNat ∧ bitB p to = true ∧ bitB p fr = false ∧ - moreF p k ms = ifc (bitB p (mvk ms k).fr) (l.getD k 0) - ifc (bitB p (mvk ms k).to) (l.getD k 0) := by
  have hwi := way_is hn hms hf (wo := (k : Int)) hfr hne
  obtain ⟨w1, w2⟩ := hwi.not hw
  have w3 := hwi.fr'
  generalize (wayW ms l fr to k).2 = rch at *
  obtain ⟨p, _, hp, hb⟩ := prf_bits rch n.toNat (by omega)
  have hbq : ∀ s : Int, 0 ≤ s ∧ s < n → (bitB p s = false ↔ s ∈ rch) := fun s h => by
    have := hb s.toNat (by omega)
    rw [show ((s.toNat : Nat) : Int) = s by omega] at this
    rw [this, Bool.not_eq_false', List.contains_iff_mem]
  refine ⟨p, hp, ?_, (hbq _ hfr).2 w3, ?_⟩
  · cases h : bitB p to with
    | true => rfl
    | false => exact absurd ((hbq _ hto).1 h) w1
  · unfold moreF
    rw [more_cutW, cutW_eq (q := bitB p) (cs := l) (fun j hj hjk => ?_) ms.length (Nat.le_refl _), even_flW hn hms hf he (bitB p) hk]
    · omega
    · have hmo := hms _ (mvk_mem hj)
      have hb := hf.b j hj
      have hfi := hmo.f
      have hti := hmo.t
      refine ⟨fun x1 x2 => ?_, fun x1 x2 => ?_⟩
      · have y2 := (hbq _ hti).1 x2
        have y1 : (mvk ms j).fr ∉ rch := fun h => by have := (hbq _ hfi).2 h; rw [x1] at this; cases this
        have := w2 _ y2 j hj
        refine Classical.byContradiction fun hne => y1 ?_
        have h9 := this ⟨hjk, .inr ⟨rfl, by omega⟩⟩
        unfold nxS at h9
        rwa [if_pos rfl] at h9
      · have y2 := (hbq _ hfi).1 x2
        have y1 : (mvk ms j).to ∉ rch := fun h => by have := (hbq _ hti).2 h; rw [x1] at this; cases this
        have := w2 _ y2 j hj
        refine Classical.byContradiction fun hne => y1 ?_
        have h9 := this ⟨hjk, .inl ⟨rfl, by omega⟩⟩
        unfold nxS at h9
        rwa [if_neg hmo.ne] at h9
theorem mxL_ge (x y : Int) : x ≤ mxL x y ∧ y ≤ mxL x y ∧ (mxL x y = x ∨ mxL x y = y) := by unfold mxL; split <;> omega
theorem mnL_le (x y : Int) : mnL x y ≤ x ∧ mnL x y ≤ y ∧ (mnL x y = x ∨ mnL x y = y) := by unfold mnL; split <;> omega
def inTo (ms : List Mv) (i : Nat) (s : Nat) : Prop := bitB s (mvk ms i).to = true ∧ bitB s (mvk ms i).fr = false
def outOf (ms : List Mv) (i : Nat) (s : Nat) : Prop := bitB s (mvk ms i).fr = true ∧ bitB s (mvk ms i).to = false
theorem c_in {a b : Bool} : cond a (!b) false = true ↔ a = true ∧ b = false := by cases a <;> cases b <;> simp
theorem bd_fst {ms : List Mv} {i : Nat} : ∀ K : Nat, (mvk ms i).lo ≤ (bdK ms i K).1 ∧ (∀ s : Nat, s < K → inTo ms i s → moreF s i ms ≤ (bdK ms i K).1) ∧ ((bdK ms i K).1 = (mvk ms i).lo ∨ ∃ s : Nat, s < K ∧ inTo ms i s ∧ (bdK ms i K).1 = moreF s i ms)
  | 0 => ⟨Int.le_refl _, fun s h => by omega, .inl rfl⟩
  | K + 1 => by
    obtain ⟨h1, h2, h3⟩ := bd_fst (ms := ms) (i := i) K
    have e : (bdK ms i (K + 1)).1 = if cond (bitB K (mvk ms i).to) (!bitB K (mvk ms i).fr) false = true then mxL (bdK ms i K).1 (moreF K i ms) else (bdK ms i K).1 := by
      rw [bdK]; unfold bd2 bd1
      split <;> split <;> rfl
    rw [e]
    by_cases hc : cond (bitB K (mvk ms i).to) (!bitB K (mvk ms i).fr) false = true
    · rw [if_pos hc]
      have hm := mxL_ge (bdK ms i K).1 (moreF K i ms)
      refine ⟨by omega, fun s hs hi => ?_, ?_⟩
      · rcases Nat.lt_succ_iff_lt_or_eq.1 hs with h4 | rfl
        · have := h2 s h4 hi; omega
        · exact hm.2.1
      · rcases hm.2.2 with h4 | h4
        · rw [h4]
          rcases h3 with h3 | ⟨s, h5, h6, h7⟩
          · exact .inl h3
          · exact .inr ⟨s, by omega, h6, h7⟩
        · exact .inr ⟨K, by omega, c_in.1 hc, h4⟩
    · rw [if_neg hc]
      refine ⟨h1, fun s hs hi => ?_, ?_⟩
      · rcases Nat.lt_succ_iff_lt_or_eq.1 hs with h4 | rfl
        · exact h2 s h4 hi
        · exact absurd (c_in.2 hi) hc
      · rcases h3 with h3 | ⟨s, h5, h6, h7⟩
        · exact .inl h3
        · exact .inr ⟨s, by omega, h6, h7⟩
theorem bd_snd {ms : List Mv} {i : Nat} : ∀ K : Nat, (bdK ms i K).2 ≤ (mvk ms i).hi ∧ (∀ s : Nat, s < K → outOf ms i s → (bdK ms i K).2 ≤ - moreF s i ms) ∧ ((bdK ms i K).2 = (mvk ms i).hi ∨ ∃ s : Nat, s < K ∧ outOf ms i s ∧ (bdK ms i K).2 = - moreF s i ms)
  | 0 => ⟨Int.le_refl _, fun s h => by omega, .inl rfl⟩
  | K + 1 => by
    obtain ⟨h1, h2, h3⟩ := bd_snd (ms := ms) (i := i) K
    have e : (bdK ms i (K + 1)).2 = if cond (bitB K (mvk ms i).fr) (!bitB K (mvk ms i).to) false = true then mnL (bdK ms i K).2 (-(moreF K i ms)) else (bdK ms i K).2 := by
      rw [bdK]; unfold bd2 bd1
      split <;> split <;> rfl
    rw [e]
    by_cases hc : cond (bitB K (mvk ms i).fr) (!bitB K (mvk ms i).to) false = true
    · rw [if_pos hc]
      have hm := mnL_le (bdK ms i K).2 (-(moreF K i ms))
      refine ⟨by omega, fun s hs hi => ?_, ?_⟩
      · rcases Nat.lt_succ_iff_lt_or_eq.1 hs with h4 | rfl
        · have := h2 s h4 hi; omega
        · exact hm.2.1
      · rcases hm.2.2 with h4 | h4
        · rw [h4]
          rcases h3 with h3 | ⟨s, h5, h6, h7⟩
          · exact .inl h3
          · exact .inr ⟨s, by omega, h6, h7⟩
        · exact .inr ⟨K, by omega, c_in.1 hc, h4⟩
    · rw [if_neg hc]
      refine ⟨h1, fun s hs hi => ?_, ?_⟩
      · rcases Nat.lt_succ_iff_lt_or_eq.1 hs with h4 | rfl
        · exact h2 s h4 hi
        · exact absurd (c_in.2 hi) hc
      · rcases h3 with h3 | ⟨s, h5, h6, h7⟩
        · exact .inl h3
        · exact .inr ⟨s, by omega, h6, h7⟩
theorem push_is {n : Int} (hn : 2 ≤ n ∧ n ≤ 6) {ms : List Mv} (hms : ∀ m ∈ ms, m.Ok n) {k : Nat} (hk : k < ms.length) {cs : List Int} (hf : Feas ms cs) (he : Even0 n ms cs) : pushF ms k true cs = (bdS n ms k).lo ∧ pushF ms k false cs = (bdS n ms k).hi := by
  have hmo := hms _ (mvk_mem hk)
  have hfi := hmo.f
  have hti := hmo.t
  constructor
  · obtain ⟨l, l1, l2, l3, l4⟩ := push_end hn hms hk true (dist ms k true cs + 1) cs hf he (Nat.lt_succ_self _)
    have l3 : pushF ms k true cs = l.getD k 0 := l3
    rw [l3]
    show _ = (bdK ms k (2 ^ n.toNat)).1
    obtain ⟨b1, b2, b3⟩ := bd_fst (ms := ms) (i := k) (2 ^ n.toNat)
    have hb := l1.b k hk
    have up : (bdK ms k (2 ^ n.toNat)).1 ≤ l.getD k 0 := by
      rcases b3 with b3 | ⟨s, _, h6, h7⟩
      · omega
      · have := (ge_more hn hms l1 l2 hk s).1 h6.1 h6.2; omega
    rcases l4 with l4 | l4
    · have l4 : l.getD k 0 = (mvk ms k).lo := l4
      omega
    · obtain ⟨p, hp, x1, x2, x3⟩ := stop_more hn hms l1 l2 hk (fr := (mvk ms k).fr) (to := (mvk ms k).to) hfi hti hmo.ne l4
      have := b2 p hp ⟨x1, x2⟩
      rw [x1, x2] at x3
      simp only [ifc] at x3
      simp at x3
      have e : l.getD k 0 = l[k]?.getD 0 := by simp [List.getD_eq_getElem?_getD]
      omega
  · obtain ⟨l, l1, l2, l3, l4⟩ := push_end hn hms hk false (dist ms k false cs + 1) cs hf he (Nat.lt_succ_self _)
    have l3 : pushF ms k false cs = l.getD k 0 := l3
    rw [l3]
    show _ = (bdK ms k (2 ^ n.toNat)).2
    obtain ⟨b1, b2, b3⟩ := bd_snd (ms := ms) (i := k) (2 ^ n.toNat)
    have hb := l1.b k hk
    have up : l.getD k 0 ≤ (bdK ms k (2 ^ n.toNat)).2 := by
      rcases b3 with b3 | ⟨s, _, h6, h7⟩
      · omega
      · have := (ge_more hn hms l1 l2 hk s).2 h6.1 h6.2; omega
    rcases l4 with l4 | l4
    · have l4 : l.getD k 0 = (mvk ms k).hi := l4
      omega
    · obtain ⟨p, hp, x1, x2, x3⟩ := stop_more hn hms l1 l2 hk (fr := (mvk ms k).to) (to := (mvk ms k).fr) hti hfi (fun e => hmo.ne e.symm) l4
      have := b2 p hp ⟨x1, x2⟩
      rw [x1, x2] at x3
      simp only [ifc] at x3
      simp at x3
      have e : l.getD k 0 = l[k]?.getD 0 := by simp [List.getD_eq_getElem?_getD]
      omega
theorem balance_is (b : Book) : BalanceR b = rBalanceR b := by
  unfold BalanceR rBalanceR
  by_cases hbo : b.ok = true
  · rw [if_pos hbo, if_pos hbo]
    have hB := Book.ok_iff.1 hbo
    cases hw : (BalW b).1 with
    | none =>
      have := proof_pos hB hw
      rw [if_pos (show proofS b.n b.ms ≥ 0 by omega)]
    | some cs =>
      have h1 := proof_neg hB hw
      obtain ⟨h2, h3⟩ := BalW_some hB hw
      rw [if_neg (show ¬ proofS b.n b.ms ≥ 0 by omega)]
      show ((List.range b.ms.length).map _, _) = _
      congr 1
      refine List.map_congr_left fun k hk => ?_
      have hk := List.mem_range.1 hk
      obtain ⟨h4, h5⟩ := push_is hB.n hB.m hk h2 h3
      rw [h4, h5]
  · rw [if_neg hbo, if_neg hbo]
end Go.AL.Br

namespace Go.AL
open Go Go.RowKit
theorem rows_of {ys : List (List A)} {sz : Nat} (hs : ∀ y ∈ ys, y.length = sz) (hd : ys.flatten.map A.down = ys.flatten) : RowsAre ys.flatten ys sz := by
  refine ⟨hs, by rw [flat_len hs]; exact Nat.le_refl _, fun i j hi hj => ?_⟩
  have hk : i * sz + j < ys.length * sz := by
    have : (i + 1) * sz ≤ ys.length * sz := Nat.mul_le_mul_right _ hi
    rw [Nat.add_mul, Nat.one_mul] at this; omega
  have h0 : 0 < sz := by omega
  have e1 : (i * sz + j) / sz = i := by rw [Nat.mul_comm, Nat.mul_add_div h0, Nat.div_eq_of_lt hj]; rfl
  have e2 : (i * sz + j) % sz = j := by rw [Nat.mul_comm, Nat.mul_add_mod, Nat.mod_eq_of_lt hj]
  have e3 := flat_get hs (i * sz + j) hk
  rw [e1, e2] at e3
  have hl : i * sz + j < ys.flatten.length := by rw [flat_len hs]; exact hk
  have e4 : (ys.flatten.getD (i * sz + j) .un).down = ys.flatten.getD (i * sz + j) .un := by
    have := congrArg (fun l => l.getD (i * sz + j) .un) hd
    simp only [List.getD_eq_getElem?_getD, List.getElem?_map, List.getElem?_eq_getElem hl] at this ⊢
    exact this
  rw [e4, e3]
section
variable {α : Type} {c : α → List A} {sz : Nat}
theorem flat_down (hd : ∀ a, (c a).map A.down = c a) (l : List α) : (l.map c).flatten.map A.down = (l.map c).flatten := by
  rw [List.map_flatten, List.map_map]
  congr 1
  exact List.map_congr_left fun a _ => hd a
theorem rows_all (hc : ∀ a, (c a).length = sz) (hd : ∀ a, (c a).map A.down = c a) (l : List α) : RowsAre (l.map c).flatten (l.map c) sz := rows_of (fun y hy => by obtain ⟨b, _, rfl⟩ := List.mem_map.1 hy; exact hc b) (flat_down hd l)
end
end Go.AL

namespace Go.AL.Br
open Go Go.AL Go.AL.Q
theorem bd_holds {n : Int} (hn : 2 ≤ n ∧ n ≤ 6) {ms : List Mv} (hms : ∀ m ∈ ms, m.Ok n) {l : List Int} (hf : Feas ms l) (he : Even0 n ms l) {k : Nat} (hk : k < ms.length) : (bdS n ms k).lo ≤ l.getD k 0 ∧ l.getD k 0 ≤ (bdS n ms k).hi := by
  have hb := hf.b k hk
  constructor
  · show (bdK ms k (2 ^ n.toNat)).1 ≤ _
    obtain ⟨b1, b2, b3⟩ := bd_fst (ms := ms) (i := k) (2 ^ n.toNat)
    rcases b3 with b3 | ⟨s, _, h6, h7⟩
    · omega
    · have := (ge_more hn hms hf he hk s).1 h6.1 h6.2; omega
  · show _ ≤ (bdK ms k (2 ^ n.toNat)).2
    obtain ⟨b1, b2, b3⟩ := bd_snd (ms := ms) (i := k) (2 ^ n.toNat)
    rcases b3 with b3 | ⟨s, _, h6, h7⟩
    · omega
    · have := (ge_more hn hms hf he hk s).2 h6.1 h6.2; omega
theorem bd_got {n : Int} (hn : 2 ≤ n ∧ n ≤ 6) {ms : List Mv} (hms : ∀ m ∈ ms, m.Ok n) {cs : List Int} (hf : Feas ms cs) (he : Even0 n ms cs) {k : Nat} (hk : k < ms.length) :
    (∃ l, Feas ms l ∧ Even0 n ms l ∧ l.getD k 0 = (bdS n ms k).lo) ∧ ∃ l, Feas ms l ∧ Even0 n ms l ∧ l.getD k 0 = (bdS n ms k).hi := by
  obtain ⟨p1, p2⟩ := push_is hn hms hk hf he
  obtain ⟨l, l1, l2, l3, _⟩ := push_end hn hms hk true (dist ms k true cs + 1) cs hf he (Nat.lt_succ_self _)
  obtain ⟨u, u1, u2, u3, _⟩ := push_end hn hms hk false (dist ms k false cs + 1) cs hf he (Nat.lt_succ_self _)
  exact ⟨⟨l, l1, l2, by rw [← p1]; exact l3.symm⟩, u, u1, u2, by rw [← p2]; exact u3.symm⟩
theorem bal_of {b : Book} (hb : b.Ok) {l : List Int} (hf : Feas b.ms l) (he : Even0 b.n b.ms l) : ∃ cs, (BalW b).1 = some cs := by
  cases h : (BalW b).1 with
  | some cs => exact ⟨cs, rfl⟩
  | none =>
    have h1 := (BalW_none hb h).1
    have h2 := feas_more hb.n hb.m hf he (BalW b).2
    omega
theorem BalanceR_some {b : Book} (hb : b.Ok) {cs : List Int} (h : (BalW b).1 = some cs) : BalanceR b = ((List.range b.ms.length).map (bdS b.n b.ms), 0) := by
  rw [balance_is]
  unfold rBalanceR
  have := proof_neg hb h
  rw [if_pos (Book.ok_iff.2 hb), if_neg (by omega)]
theorem BalanceR_none {b : Book} (hb : b.Ok) (h : (BalW b).1 = none) : BalanceR b = ([], 65) := by
  unfold BalanceR
  rw [if_pos (Book.ok_iff.2 hb), h]
def fixM (ms : List Mv) (k : Nat) (v : Int) : List Mv := ms.set k ⟨(mvk ms k).fr, (mvk ms k).to, v, v⟩
theorem fixM_len (ms : List Mv) (k : Nat) (v : Int) : (fixM ms k v).length = ms.length := List.length_set ..
theorem fixM_get {ms : List Mv} {k : Nat} {v : Int} (hk : k < ms.length) (i : Nat) : mvk (fixM ms k v) i = if k = i then ⟨(mvk ms k).fr, (mvk ms k).to, v, v⟩ else mvk ms i := by
  unfold mvk fixM
  rw [List.getD_eq_getElem?_getD, List.getElem?_set]
  by_cases e : k = i
  · subst e; rw [if_pos rfl, if_pos rfl, if_pos hk]; rfl
  · rw [if_neg e, if_neg e, ← List.getD_eq_getElem?_getD]
theorem fixM_ok {n : Int} {ms : List Mv} (hms : ∀ m ∈ ms, m.Ok n) {k : Nat} (hk : k < ms.length) {v : Int} (hv : 0 ≤ v ∧ v ≤ 1000) : ∀ m ∈ fixM ms k v, m.Ok n := fun m hm => by
  rcases List.mem_or_eq_of_mem_set hm with h | h
  · exact hms m h
  · have hmo := hms _ (mvk_mem hk)
    subst h
    exact ⟨hmo.f, hmo.t, hmo.ne, ⟨hv.1, Int.le_refl _, hv.2⟩⟩
theorem ov_mv {ms ms' : List Mv} (h : ms'.length = ms.length) (hs : ∀ i, (mvk ms' i).fr = (mvk ms i).fr ∧ (mvk ms' i).to = (mvk ms i).to) {l : List Int} (hl : ms.length = l.length) (s : Int) : ov ms' l s = ov ms l s := by
  rw [ov_fl (by omega), ov_fl hl, h]
  have : ∀ k, flK (fun t => decide (t = s)) ms' l k = flK (fun t => decide (t = s)) ms l k := by
    intro k
    induction k with
    | zero => rfl
    | succ k ih => rw [flK, flK, ih, (hs k).1, (hs k).2]
  exact this _
theorem fix_same {ms : List Mv} {k : Nat} {v : Int} (hk : k < ms.length) (i : Nat) : (mvk (fixM ms k v) i).fr = (mvk ms i).fr ∧ (mvk (fixM ms k v) i).to = (mvk ms i).to := by
  rw [fixM_get hk]
  split
  · rename_i e; subst e; exact ⟨rfl, rfl⟩
  · exact ⟨rfl, rfl⟩
theorem fix_even {n : Int} {ms : List Mv} {k : Nat} {v : Int} (hk : k < ms.length) {l : List Int} (hl : ms.length = l.length) : Even0 n (fixM ms k v) l ↔ Even0 n ms l := by
  unfold Even0
  refine forall_congr' fun s => ?_
  rw [ov_mv (fixM_len ms k v) (fix_same hk) hl]
theorem fix_feas {ms : List Mv} {k : Nat} {v : Int} (hk : k < ms.length) {l : List Int} (hv : (mvk ms k).lo ≤ v ∧ v ≤ (mvk ms k).hi) : Feas (fixM ms k v) l ↔ Feas ms l ∧ l.getD k 0 = v := by
  constructor
  · rintro ⟨h1, h2⟩
    rw [fixM_len] at h1
    have hk2 := h2 k (by rw [fixM_len]; exact hk)
    rw [fixM_get hk, if_pos rfl] at hk2
    have hk2 : v ≤ l.getD k 0 ∧ l.getD k 0 ≤ v := hk2
    refine ⟨⟨h1, fun i hi => ?_⟩, by omega⟩
    have := h2 i (by rw [fixM_len]; exact hi)
    rw [fixM_get hk] at this
    by_cases e : k = i
    · subst e; omega
    · rwa [if_neg e] at this
  · rintro ⟨⟨h1, h2⟩, h3⟩
    refine ⟨by rw [fixM_len]; exact h1, fun i hi => ?_⟩
    rw [fixM_len] at hi
    rw [fixM_get hk]
    by_cases e : k = i
    · subst e; rw [if_pos rfl, h3]; exact ⟨Int.le_refl _, Int.le_refl _⟩
    · rw [if_neg e]; exact h2 i hi
end Go.AL.Br

namespace Go.AL.Br
open Go Go.AL Go.AL.Q
def fixBk (b : Book) (k : Nat) (v : Int) : Book := ⟨b.n, false, fixM b.ms k v⟩
theorem fixBk_ok {b : Book} (hb : b.Ok) {k : Nat} (hk : k < b.ms.length) {v : Int} (hv : (mvk b.ms k).lo ≤ v ∧ v ≤ (mvk b.ms k).hi) : (fixBk b k v).Ok := by
  have hmk := (hb.m _ (mvk_mem hk)).k
  refine ⟨hb.n, ?_, fixM_ok hb.m hk (by omega)⟩
  show 1 ≤ (fixM b.ms k v).length ∧ (fixM b.ms k v).length ≤ 10
  rw [fixM_len]; exact hb.l
end Go.AL.Br

namespace Go.AL.Br
open Go Go.AL Go.AL.Q
theorem CountsR_yes {b : Book} (hb : b.Ok) {l : List Int} (hf : Feas b.ms l) (he : Even0 b.n b.ms l) : CountsR b l = (true, 0) := by
  unfold CountsR
  have h1 : allIn b.ms l = true := List.all_eq_true.2 fun k hk => by
    have hk : k < b.ms.length := by simpa using hk
    exact wi_iff.2 (hf.b k hk)
  have h2 : (ovL b.n b.ms l).all (· == 0) = true := List.all_eq_true.2 fun x hx => by
    unfold ovL at hx
    obtain ⟨s, hs, rfl⟩ := List.mem_map.1 hx
    have hs : s < b.n.toNat := by simpa using hs
    simpa using he s (by omega)
  rw [if_pos (Book.ok_iff.2 hb), if_pos hf.l.symm, if_pos h1, h2]
theorem bd_sub {b y : Book} (hb : b.Ok) (hy : y.Ok) (hl : y.ms.length = b.ms.length) (hs : ∀ l, Feas b.ms l → Even0 b.n b.ms l → Feas y.ms l ∧ Even0 y.n y.ms l) {l : List Int} (hf : Feas b.ms l) (he : Even0 b.n b.ms l) :
    BalanceR y = ((List.range b.ms.length).map (bdS y.n y.ms), 0) ∧ ∀ i, i < b.ms.length → (bdS y.n y.ms i).lo ≤ (bdS b.n b.ms i).lo ∧ (bdS b.n b.ms i).hi ≤ (bdS y.n y.ms i).hi := by
  obtain ⟨h1, h2⟩ := hs l hf he
  obtain ⟨cs, hcs⟩ := bal_of hy h1 h2
  have h3 := BalanceR_some hy hcs
  rw [hl] at h3
  refine ⟨h3, fun i hi => ?_⟩
  obtain ⟨⟨u, u1, u2, u3⟩, w, w1, w2, w3⟩ := bd_got hb.n hb.m hf he hi
  have a1 := hs u u1 u2
  have a2 := hs w w1 w2
  have g1 := bd_holds hy.n hy.m a1.1 a1.2 (show i < y.ms.length by omega)
  have g2 := bd_holds hy.n hy.m a2.1 a2.2 (show i < y.ms.length by omega)
  rw [← u3, ← w3]
  exact ⟨g1.1, g2.2⟩
structure Chain (b X : Book) (cs : List Int) : Prop where
  ok : X.Ok
  n : X.n = b.n
  l : X.ms.length = b.ms.length
  s : ∀ l, Feas X.ms l → Even0 X.n X.ms l → Feas b.ms l ∧ Even0 b.n b.ms l ∧ l.take cs.length = cs
  e : ∃ l, Feas X.ms l ∧ Even0 X.n X.ms l
theorem Chain.start {b : Book} (hb : b.Ok) {l : List Int} (hf : Feas b.ms l) (he : Even0 b.n b.ms l) : Chain b b [] :=
  ⟨hb, rfl, rfl, fun l h1 h2 => ⟨h1, h2, rfl⟩, l, hf, he⟩
theorem Chain.bal {b X : Book} {cs : List Int} (h : Chain b X cs) : BalanceR X = ((List.range b.ms.length).map (bdS X.n X.ms), 0) := by
  obtain ⟨l, h1, h2⟩ := h.e
  obtain ⟨cs, hcs⟩ := bal_of h.ok h1 h2
  have h3 := BalanceR_some h.ok hcs
  rwa [h.l] at h3
theorem Chain.step {b X : Book} {cs : List Int} (h : Chain b X cs) (hk : cs.length < b.ms.length) : Chain b (fixBk X cs.length (bdS X.n X.ms cs.length).lo) (cs ++ [(bdS X.n X.ms cs.length).lo]) := by
  obtain ⟨l, h1, h2⟩ := h.e
  have hk' : cs.length < X.ms.length := by rw [h.l]; exact hk
  obtain ⟨⟨u, u1, u2, u3⟩, _⟩ := bd_got h.ok.n h.ok.m h1 h2 hk'
  have hv := u1.b _ hk'
  rw [u3] at hv
  refine ⟨fixBk_ok h.ok hk' hv, h.n, ?_, fun l g1 g2 => ?_, u, ?_, ?_⟩
  · show (fixM X.ms cs.length _).length = _
    rw [fixM_len]; exact h.l
  · obtain ⟨g3, g4⟩ := (fix_feas hk' hv).1 g1
    obtain ⟨g5, g6, g7⟩ := h.s l g3 ((fix_even hk' g3.l).1 g2)
    refine ⟨g5, g6, ?_⟩
    have hl : cs.length < l.length := by rw [← g5.l]; exact hk
    rw [List.length_append, List.length_singleton, List.take_succ_eq_append_getElem hl, g7]
    rw [List.getD_eq_getElem?_getD, List.getElem?_eq_getElem hl] at g4
    rw [show l[cs.length] = _ from g4]
  · exact (fix_feas hk' hv).2 ⟨u1, u3⟩
  · exact (fix_even hk' u1.l).2 u2
theorem Chain.fin {b X : Book} {cs : List Int} (h : Chain b X cs) (hb : b.Ok) (hk : cs.length = b.ms.length) : CountsR b cs = (true, 0) := by
  obtain ⟨l, h1, h2⟩ := h.e
  obtain ⟨g1, g2, g3⟩ := h.s l h1 h2
  rw [hk, g1.l, List.take_length] at g3
  subst g3
  exact CountsR_yes hb g1 g2
def wideM (ms : List Mv) (k : Nat) (lo hi : Int) : List Mv := ms.set k ⟨(mvk ms k).fr, (mvk ms k).to, lo, hi⟩
def wideB (b : Book) (k : Nat) (lo hi : Int) : Book := ⟨b.n, false, wideM b.ms k lo hi⟩
theorem wideM_len (ms : List Mv) (k : Nat) (lo hi : Int) : (wideM ms k lo hi).length = ms.length := List.length_set ..
theorem wideM_get {ms : List Mv} {k : Nat} {lo hi : Int} (hk : k < ms.length) (i : Nat) : mvk (wideM ms k lo hi) i = if k = i then ⟨(mvk ms k).fr, (mvk ms k).to, lo, hi⟩ else mvk ms i := by
  unfold mvk wideM
  rw [List.getD_eq_getElem?_getD, List.getElem?_set]
  by_cases e : k = i
  · subst e; rw [if_pos rfl, if_pos rfl, if_pos hk]; rfl
  · rw [if_neg e, if_neg e, ← List.getD_eq_getElem?_getD]
theorem wide_ok {b : Book} (hb : b.Ok) {k : Nat} (hk : k < b.ms.length) {lo hi : Int} (hv : 0 ≤ lo ∧ lo ≤ hi ∧ hi ≤ 1000) : (wideB b k lo hi).Ok := by
  refine ⟨hb.n, ?_, fun m hm => ?_⟩
  · show 1 ≤ (wideM b.ms k lo hi).length ∧ (wideM b.ms k lo hi).length ≤ 10
    rw [wideM_len]; exact hb.l
  · rcases List.mem_or_eq_of_mem_set hm with h | h
    · exact hb.m m h
    · have hmo := hb.m _ (mvk_mem hk)
      subst h
      exact ⟨hmo.f, hmo.t, hmo.ne, hv⟩
theorem wide_same {ms : List Mv} {k : Nat} {lo hi : Int} (hk : k < ms.length) (i : Nat) : (mvk (wideM ms k lo hi) i).fr = (mvk ms i).fr ∧ (mvk (wideM ms k lo hi) i).to = (mvk ms i).to := by
  rw [wideM_get hk]
  split
  · rename_i e; subst e; exact ⟨rfl, rfl⟩
  · exact ⟨rfl, rfl⟩
theorem wide_in {b : Book} {k : Nat} (hk : k < b.ms.length) {lo up : Int} (h1 : lo ≤ (mvk b.ms k).lo) (h2 : (mvk b.ms k).hi ≤ up) (l : List Int) (hf : Feas b.ms l) (he : Even0 b.n b.ms l) : Feas (wideB b k lo up).ms l ∧ Even0 (wideB b k lo up).n (wideB b k lo up).ms l := by
  refine ⟨⟨?_, fun i hi => ?_⟩, fun s hs => ?_⟩
  · show (wideM b.ms k lo up).length = _
    rw [wideM_len]; exact hf.l
  · have hi : i < b.ms.length := by rw [← wideM_len b.ms k lo]; exact hi
    have := hf.b i hi
    show (mvk (wideM b.ms k lo _) i).lo ≤ _ ∧ _ ≤ (mvk (wideM b.ms k lo _) i).hi
    rw [wideM_get hk]
    by_cases e : k = i
    · subst e; rw [if_pos rfl]; show lo ≤ l.getD k 0 ∧ l.getD k 0 ≤ up; omega
    · rwa [if_neg e]
  · show ov (wideM b.ms k lo up) l s = 0
    rw [ov_mv (wideM_len b.ms k lo up) (wide_same hk) hf.l]
    exact he s hs
theorem wide_bal {b : Book} (hb : b.Ok) {k : Nat} (hk : k < b.ms.length) {lo hi : Int} (h1 : 0 ≤ lo ∧ lo ≤ (mvk b.ms k).lo) (h2 : (mvk b.ms k).hi ≤ hi ∧ hi ≤ 1000) {l : List Int} (hf : Feas b.ms l) (he : Even0 b.n b.ms l) :
    BalanceR (wideB b k lo hi) = ((List.range b.ms.length).map (bdS b.n (wideM b.ms k lo hi)), 0) ∧ ∀ i, i < b.ms.length → (bdS b.n (wideM b.ms k lo hi) i).lo ≤ (bdS b.n b.ms i).lo ∧ (bdS b.n b.ms i).hi ≤ (bdS b.n (wideM b.ms k lo hi) i).hi := by
  have hmk := (hb.m _ (mvk_mem hk)).k
  exact bd_sub hb (y := wideB b k lo hi) (wide_ok hb hk (by omega)) (wideM_len b.ms k lo hi) (wide_in hk h1.2 h2.1) hf he
end Go.AL.Br

namespace Go.Proofs.Ytampldajinhenaa
open Go Go.AL Go.AL.Q Go.AL.Br
theorem mvk_at {l : List Mv} {k : Nat} (h : k < l.length) : (l.map Mv.c)[k]? = some (mvk l k).c := by rw [mvk_get h]; exact get_map h
end Go.Proofs.Ytampldajinhenaa

namespace Go.Proofs.Ytampldajinhenaa
open Go Go.AL Go.AL.Q Go.AL.Br
end Go.Proofs.Ytampldajinhenaa

namespace Go.Proofs.Ytampldajinhenaa
open Go Go.AL Go.AL.Q Go.AL.Br
end Go.Proofs.Ytampldajinhenaa

namespace Go.Proofs.Ytampldajinhenaa
open Go Go.AL Go.AL.Q Go.AL.Br
end Go.Proofs.Ytampldajinhenaa

namespace Go.Proofs.Ytampldajinhenaa
open Go Go.AL Go.AL.Q Go.AL.Br
theorem whole_t (b : Book) (hbl : (b.ms.length : Int) ≤ 9223372036854775806) : Ans Try.prog 49 [.agg b.c] (.bool b.ok) := by
  have lm : ((b.ms.map Mv.c).length : Int) = b.ms.length := by simp
  have c1 := book_chk b hbl
  have hk : b.chk = if b.ok then 0 else 63 := rfl
  have hw : b.ok = true → wi b.n 2 6 = true ∧ wi b.ms.length 1 10 = true := fun h => by
    have hb := Book.ok_iff.1 h
    have := hb.n
    have := hb.l
    exact ⟨wi_iff.2 (by omega), wi_iff.2 (by omega)⟩
  refine told Try.func49 rfl rfl (Pure.of tab_ok Try.func49 rfl Try.ntmps49 rfl (all1 (.agg _ b.free)) (all1 (fun _ => rfl)) (by first | exact .s _ | assumption | exact .tup _ (by intro x hx; simp only [List.mem_cons, List.not_mem_nil, or_false] at hx; rcases hx with rfl | rfl | rfl | rfl <;> first | exact .s _ | (simp_all; done))) fun E hE => ?_)
  refine Aw.sm tab_ok mb0 [] rfl rfl ?zo ?zk
  case zo =>
    repeat' apply AllP.cons
    all_goals first | exact trivial
  case zk =>
  refine Aw.sm tab_ok mb0 [(1, [.int b.chk]), (6, [.bool (wi b.n 2 6)]), (12, [.bool (wi b.ms.length 1 10)])] rfl rfl ?zo ?zk
  case zo =>
    repeat' apply AllP.cons
    all_goals first | exact trivial | exact id | exact fun _ => rfl | exact Nat.le_of_ble_eq_true rfl | exact fun _ => Nat.le_of_ble_eq_true rfl | exact (in_t _ _ _).un | exact c1 | exact (by rw [lm]; exact fun _ => in_t _ _ _)
  case zk =>
  refine Aw.ret ⟨_, .cons (.tmp _) .nil, ?_⟩
  show A.bool (cond (cond (b.chk == 0) (wi b.n 2 6) false) (wi b.ms.length 1 10) false) = A.bool b.ok
  rw [hk]
  cases h : b.ok with
  | true => rw [(hw h).1, (hw h).2]; rfl
  | false => rfl
def fixB (b : Book) (k : Nat) (v : Int) : Book := ⟨b.n, false, b.ms.set k ⟨(mvk b.ms k).fr, (mvk b.ms k).to, v, v⟩⟩
theorem fixed_t (b : Book) (hl : 1 ≤ b.ms.length ∧ b.ms.length ≤ 10) (k : Nat) (hk : k < b.ms.length) (v : Int) : Ans Try.prog 50 [.agg b.c, .int k, .int v] (.agg (fixB b k v).c) := by
  have lm : ((b.ms.map Mv.c).length : Int) = b.ms.length := by simp
  have hfr : Free (.agg (fixB b k v).c) := .agg _ (fixB b k v).free
  have hone : ∀ w ∈ b.ms.map Mv.c, w.length = 4 := fun w hw => by obtain ⟨m, _, rfl⟩ := List.mem_map.1 hw; rfl
  have hne : b.ms.map Mv.c ≠ [] := fun h => by have := congrArg List.length h; simp at this; rw [this] at hl; simp at hl
  have hll : (b.ms.map Mv.c).length ≤ 10 := by rw [List.length_map]; exact hl.2
  have q1 : 0 + k * 4 + 4 ≤ (b.ms.map Mv.c).flatten.length := by rw [flat_len hone, List.length_map]; omega
  refine told Try.func50 rfl rfl (Pure.of tab_ok Try.func50 rfl Try.ntmps50 rfl (allC (.agg _ b.free) (allC (.s _) (all1 (.s _)))) (allC (fun _ => rfl) (allC (fun _ => rfl) (all1 (fun _ => rfl)))) (by first | exact .s _ | assumption | exact .tup _ (by intro x hx; simp only [List.mem_cons, List.not_mem_nil, or_false] at hx; rcases hx with rfl | rfl | rfl | rfl <;> first | exact .s _ | (simp_all; done))) fun E hE => ?_)
  refine Aw.sm tab_ok mb0 [] rfl rfl ?zo ?zk
  case zo =>
    repeat' apply AllP.cons
    all_goals first | exact trivial
  case zk =>
  refine Aw.sm tab_ok mb0 [] rfl rfl ?zo ?zk
  case zo =>
    repeat' apply AllP.cons
    all_goals first | exact trivial | exact rfl | exact Nat.le_of_ble_eq_true rfl
  case zk =>
  refine Aw.sm tab_ok mb0 [(3, [.ms 0 0 0])] rfl rfl ?zo ?zk
  case zo =>
    repeat' apply AllP.cons
    all_goals first | exact trivial | exact rfl | exact Nat.le_of_ble_eq_true rfl | exact hone | exact hne | exact (show (b.ms.map Mv.c).length * 32 ≤ 140737488355328 by omega) | exact (show (b.ms.map Mv.c).length ≤ maxLen by unfold maxLen; omega)
  case zk =>
  have h3e : ∀ id, 3 ≤ id → E.φ0 id = none := fun id _ => hE id (by omega)
  have hfl : (b.ms.map Mv.c).flatten.map A.down = (b.ms.map Mv.c).flatten := flat_down (fun m => rfl) _
  have umB : ∀ {n : Nat}, UnderB n (.cells (b.ms.map Mv.c).flatten) := .cells _ fun x hx => by
    obtain ⟨z, hz, hx⟩ := List.mem_flatten.1 hx
    obtain ⟨m, _, rfl⟩ := List.mem_map.1 hz
    exact (m.free x hx).under
  refine Aw.keep (n := 3) (cst := [(1, .int k), (2, .int v), (6, .ref 0 0), (7, .ref 1 0)]) (v := []) (Hl := [(0, .cells [.int 0, .sl true .exact []]), (1, .cells [.int b.n, .ms 2 0 b.ms.length]), (2, .cells (b.ms.map Mv.c).flatten)]) h3e ?zu ?zw ?zx ⟨?zc, ?zv, ?zh, Nat.le_of_ble_eq_true rfl⟩ ?zr
  case zu =>
    (repeat' (first | exact trivial | exact Under.s _ | exact Under.ref _ _ (by decide) | (refine And.intro ?_ ?_)))
  case zw =>
    (repeat' (first | exact trivial))
  case zx =>
    (repeat' (first | exact trivial | exact Nat.le_of_ble_eq_true rfl | exact umB | exact .cells _ (allC (.s _) (all1 (.ms _ _ _ (by decide)))) | exact .cells _ (allC (.s _) (all1 (Free.sl _ _ _ (fun _ h => by cases h)).under)) | (refine And.intro ?_ ?_)))
  case zc =>
    (repeat' (first | (refine And.intro ?_ ?_) | exact trivial | exact A.Le.refl _))
  case zv =>
    (repeat' (first | exact trivial))
  case zh =>
    (repeat' (first | (refine And.intro ?_ ?_) | exact trivial | exact rfl | exact congrArg (fun x => some (B.cells x)) hfl | exact (by rw [← List.length_map (f := Mv.c)]; rfl)))
  case zr =>
  have q2 : (k : Int) < (b.ms.length : Int) := by omega
  refine Aw.sd tab_ok mixed mb0 [(5, [.agg (Sp.c ⟨v, v⟩)])] rfl (by kernel_rfl) rfl rfl ?zo ?zk
  case zo =>
    repeat' apply AllP.cons
    all_goals first | exact trivial | exact rfl | exact Nat.le_of_ble_eq_true rfl | exact Int.natCast_nonneg _ | exact to_t _ _ | exact q2 | exact (show 0 + Int.toNat (k : Int) * 4 + 2 + 2 ≤ (b.ms.map Mv.c).flatten.length by rw [Int.toNat_natCast]; omega)
  case zk =>
  have hseg : setSeg (b.ms.map Mv.c).flatten (0 + Int.toNat (k : Int) * 4 + 2) (Sp.c ⟨v, v⟩) = ((fixB b k v).ms.map Mv.c).flatten := by
    have hm := mvk_get hk
    have e : b.ms = b.ms.take k ++ (b.ms[k] :: b.ms.drop (k + 1)) := by rw [← List.drop_eq_getElem_cons hk, List.take_append_drop]
    have h1 : ((b.ms.take k).map Mv.c).flatten.length = k * 4 := by
      rw [flat_len (sz := 4) fun w hw => by obtain ⟨m, _, rfl⟩ := List.mem_map.1 hw; rfl, List.length_map, List.length_take, Nat.min_eq_left (by omega)]
    have e2 : (fixB b k v).ms = b.ms.take k ++ (⟨(mvk b.ms k).fr, (mvk b.ms k).to, v, v⟩ :: b.ms.drop (k + 1)) := by
      show b.ms.set k _ = _
      rw [List.set_eq_take_append_cons_drop, if_pos hk]
    have e3 : (b.ms.map Mv.c).flatten = ((b.ms.take k).map Mv.c).flatten ++ (Mv.c b.ms[k] ++ ((b.ms.drop (k + 1)).map Mv.c).flatten) := by
      conv => lhs; rw [e]
      rw [List.map_append, List.flatten_append, List.map_cons, List.flatten_cons]
    rw [e2, e3, List.map_append, List.flatten_append, List.map_cons, List.flatten_cons, hm, Int.toNat_natCast, Nat.zero_add, ← h1]
    generalize ((b.ms.take k).map Mv.c).flatten = X
    generalize ((b.ms.drop (k + 1)).map Mv.c).flatten = Y
    unfold setSeg
    simp [Mv.c, Sp.c, List.take_append, List.drop_append]
    rw [List.take_of_length_le (by omega), List.drop_eq_nil_of_le (by omega), show X.length + 2 + 2 - X.length = 4 by omega]; rfl
  have hsl : (fixB b k v).ms.length = b.ms.length := List.length_set ..
  refine Aw.freezeC (id := 2) (id2 := 1) (j := 1) (n := b.ms.length) (sz := 4) (cs := ((fixB b k v).ms.map Mv.c).flatten) (cs2 := [.int b.n, .ms 2 0 b.ms.length]) ((fixB b k v).ms.map Mv.c) (congrArg (fun x => some (B.cells x)) hseg) rfl (by decide) (Nat.le_of_ble_eq_true rfl) rfl (rows_all (c := Mv.c) (sz := 4) (fun m => rfl) (fun m => rfl) (fixB b k v).ms) (by rw [List.length_map]; exact hsl) ?_
  refine Aw.sm tab_ok mb0 [] rfl rfl ?zo ?zk
  case zo =>
    repeat' apply AllP.cons
    all_goals first | exact trivial | exact rfl | exact Nat.le_of_ble_eq_true rfl
  case zk =>
  exact Aw.ret ⟨_, .cons (resC rfl rfl rfl rfl rfl) .nil, rfl⟩
end Go.Proofs.Ytampldajinhenaa

namespace Go.Proofs.Ytampldajinhenaa
open Go Go.AL Go.AL.Q Go.AL.Br
theorem out_t (b : Book) (hb : b.Ok) (set : Int) : Ans Try.prog 58 [.agg b.c, .int set] (.int (moreF set (-1) b.ms)) := by
  have ll : ((b.ms.map Mv.c).length : Int) = b.ms.length := by simp
  have ub : ∀ {m : Nat}, Under m (A.pt b.c) := (Free.pt _ b.free).under
  have hl := hb.l
  refine told Try.func58 rfl rfl (Pure.of tab_ok Try.func58 rfl Try.ntmps58 rfl (allC (.agg _ b.free) (all1 (.s _))) (allC (fun _ => rfl) (all1 (fun _ => rfl))) (by first | exact .s _ | assumption | exact .tup _ (by intro x hx; simp only [List.mem_cons, List.not_mem_nil, or_false] at hx; rcases hx with rfl | rfl | rfl | rfl <;> first | exact .s _ | (simp_all; done))) fun E hE => ?_)
  refine Aw.sm tab_ok mb0 [] rfl rfl ?zo ?zk
  case zo =>
    repeat' apply AllP.cons
    all_goals first | exact trivial
  case zk =>
  refine Aw.sm tab_ok mb0 [] rfl rfl ?zo ?zk
  case zo =>
    repeat' apply AllP.cons
    all_goals first | exact trivial
  case zk =>
  refine Aw.seq ?_
  refine Aw.sm tab_ok mb0 [] rfl rfl ?zo ?zk
  case zo =>
    repeat' apply AllP.cons
    all_goals first | exact trivial
  case zk =>
  refine Aw.block (Aw.rounds 0 hE [(1, .int set), (2, .pt b.c)] (fun k : Nat => [(5, .int (moreK set (-1) b.ms k)), (6, .int k)]) (fun k => []) (fun k => k ≤ b.ms.length) (fun k => b.ms.length - k) 0 ?zg ⟨?zc, ?zv, ?zh, Nat.le_of_ble_eq_true rfl⟩ ?zu (fun k zhk => ?zw) (fun k zhk => ?zx) fun k hk => ?zr)
  case zg =>
    (repeat' (first | exact Nat.zero_le _))
  case zc =>
    (repeat' (first | (refine And.intro ?_ ?_) | exact trivial | exact A.Le.refl _))
  case zv =>
    (repeat' (first | (refine And.intro ?_ ?_) | exact trivial | exact A.Le.refl _))
  case zh =>
    (repeat' (first | exact trivial))
  case zu =>
    (repeat' (first | exact trivial | exact Under.s _ | exact ub | (refine And.intro ?_ ?_)))
  case zw =>
    (repeat' (first | exact trivial | exact Under.s _ | (refine And.intro ?_ ?_)))
  case zx =>
    (repeat' (first | exact trivial))
  case zr =>
  refine Aw.seq ?_
  refine Aw.sm tab_ok mb0 [] rfl rfl ?zo ?zk
  case zo =>
    repeat' apply AllP.cons
    all_goals first | exact trivial | exact Nat.le_of_ble_eq_true rfl
  case zk =>
  refine Aw.cond rfl (fun h1 => Aw.skip ?_) (fun h1 => ?_)
  · have hlt : k < b.ms.length := by have := of_decide_eq_true h1; omega
    have hg := mvk_at hlt
    have hmo := hb.m _ (mvk_mem hlt)
    have hst := moreK_succ set (-1) b.ms k
    have hbd := moreK_bd (set := set) (wo := -1) hb.m k hk
    generalize mvk b.ms k = m at *
    generalize hv1 : moreK set (-1) b.ms (k + 1) = v1 at *
    generalize moreK set (-1) b.ms k = v at *
    have hf := hmo.f
    have ht := hmo.t
    have hmk := hmo.k
    have ump : ∀ {n : Nat}, Under n (A.pt m.c) := (Free.pt _ m.free).under
    refine Aw.seq (Aw.block ?_)
    refine Aw.sm tab_ok mb0 [(3, m.c)] rfl rfl ?zo ?zk
    case zo =>
      repeat' apply AllP.cons
      all_goals first | exact trivial | exact rfl | exact Nat.le_of_ble_eq_true rfl | exact Int.natCast_nonneg _ | exact hg
    case zk =>
    refine Aw.freeze (id := 0) (t := 7) (cs := m.c) rfl rfl ?_
    refine Aw.keep (n := 0) (cst := [(1, .int set), (2, .pt b.c), (7, .pt m.c), (5, .int v), (6, .int k)]) (v := []) (Hl := []) hE ?zu ?zw ?zx ⟨?zc, ?zv, ?zh, Nat.le_of_ble_eq_true rfl⟩ ?zr
    case zu =>
      (repeat' (first | exact trivial | exact Under.s _ | exact ub | exact ump | (refine And.intro ?_ ?_)))
    case zw =>
      (repeat' (first | exact trivial))
    case zx =>
      (repeat' (first | exact trivial))
    case zc =>
      (repeat' (first | (refine And.intro ?_ ?_) | exact trivial | exact A.Le.refl _))
    case zv =>
      (repeat' (first | exact trivial))
    case zh =>
      (repeat' (first | exact trivial))
    case zr =>
    have hb1 := mr1_bd (set := set) (wo := -1) (i := k) hmo v
    have hko : (((k : Nat) : Int) != -1) = true := by simp
    refine Aw.join1 0 hE [(1, .int set), (2, .pt b.c), (7, .pt m.c), (6, .int k)] [(5, .int (mr1 set (-1) k m v))] [] ⟨.s _, ub, ump, .s _, trivial⟩ ⟨.s _, trivial⟩ trivial ?_ ?_
    · refine Aw.sm tab_ok mb0 [(3, [.bool (bitB set m.fr)]), (8, [.bool (bitB set m.to)])] rfl rfl ?zo ?zk
      case zo =>
        repeat' apply AllP.cons
        all_goals first | exact trivial | exact id | exact fun _ => rfl | exact Nat.le_of_ble_eq_true rfl | exact fun _ => Nat.le_of_ble_eq_true rfl | exact bit_t _ _ hf.1 | exact fun _ => bit_t _ _ ht.1
      case zk =>
      refine Aw.cond rfl (fun h2 => ?_) (fun h2 => Aw.skip ?_)
      · have e1 : mr1 set (-1) k m v = v + m.lo := by unfold mr1; rw [hko]; exact if_pos h2
        rw [e1]
        refine Aw.em tab_ok mb0 [] rfl rfl ?zo ?zk
        case zo =>
          repeat' apply AllP.cons
          all_goals first | exact trivial | exact Nat.le_of_ble_eq_true rfl | exact (show inR (v + m.lo) by simp only [inR]; omega)
        case zk =>
        exact ⟨⟨.refl _, .refl _, .refl _, .refl _, trivial⟩, ⟨.refl _, trivial⟩, trivial, Nat.le_of_ble_eq_true rfl⟩
      · have e1 : mr1 set (-1) k m v = v := by unfold mr1; rw [hko]; exact if_neg fun h => Bool.noConfusion (show true = false from h.symm.trans h2)
        rw [e1]
        exact ⟨⟨.refl _, .refl _, .refl _, .refl _, trivial⟩, ⟨.refl _, trivial⟩, trivial, Nat.le_of_ble_eq_true rfl⟩
    generalize mr1 set (-1) k m v = v2 at *
    refine Aw.sm tab_ok mb0 [(3, [.bool (bitB set m.to)]), (8, [.bool (bitB set m.fr)])] rfl rfl ?zo ?zk
    case zo =>
      repeat' apply AllP.cons
      all_goals first | exact trivial | exact id | exact fun _ => rfl | exact Nat.le_of_ble_eq_true rfl | exact fun _ => Nat.le_of_ble_eq_true rfl | exact bit_t _ _ ht.1 | exact fun _ => bit_t _ _ hf.1
    case zk =>
    refine Aw.cond rfl (fun h2 => ?_) (fun h2 => Aw.skip ?_)
    · have e1 : mr2 set (-1) k m v2 = v2 - m.hi := by unfold mr2; rw [hko]; exact if_pos h2
      rw [e1] at hst
      refine Aw.em tab_ok mb0 [] rfl rfl ?zo ?zk
      case zo =>
        repeat' apply AllP.cons
        all_goals first | exact trivial | exact Nat.le_of_ble_eq_true rfl | exact (show inR (v2 - m.hi) by simp only [inR]; omega)
      case zk =>
      refine Aw.em tab_ok mb0 [] rfl rfl ?zo ?zk
      case zo =>
        repeat' apply AllP.cons
        all_goals first | exact trivial | exact inrk k (by omega)
      case zk =>
      refine ⟨k + 1, ?zg, ?zm, ⟨?zc, ?zv, ?zh, Nat.le_of_ble_eq_true rfl⟩⟩
      case zg =>
        (repeat' (first | assumption))
      case zm =>
        (repeat' (first | omega))
      case zc =>
        (repeat' (first | (refine And.intro ?_ ?_) | exact trivial | exact A.Le.refl _))
      case zv =>
        (repeat' (first | (refine And.intro ?_ ?_) | exact trivial | exact A.Le.refl _ | exact .of_eq (congrArg A.int (hv1.trans hst))))
      case zh =>
        (repeat' (first | exact trivial))
    · have e1 : mr2 set (-1) k m v2 = v2 := by unfold mr2; rw [hko]; exact if_neg fun h => Bool.noConfusion (show true = false from h.symm.trans h2)
      rw [e1] at hst
      refine Aw.em tab_ok mb0 [] rfl rfl ?zo ?zk
      case zo =>
        repeat' apply AllP.cons
        all_goals first | exact trivial | exact inrk k (by omega)
      case zk =>
      refine ⟨k + 1, ?zg, ?zm, ⟨?zc, ?zv, ?zh, Nat.le_of_ble_eq_true rfl⟩⟩
      case zg =>
        (repeat' (first | assumption))
      case zm =>
        (repeat' (first | omega))
      case zc =>
        (repeat' (first | (refine And.intro ?_ ?_) | exact trivial | exact A.Le.refl _))
      case zv =>
        (repeat' (first | (refine And.intro ?_ ?_) | exact trivial | exact A.Le.refl _ | exact .of_eq (congrArg A.int (hv1.trans hst))))
      case zh =>
        (repeat' (first | exact trivial))
  have hle : k = b.ms.length := by have := of_decide_eq_false h1; omega
  subst hle
  refine Aw.exit2 ?_
  refine Aw.sm tab_ok mb0 [] rfl rfl ?zo ?zk
  case zo =>
    repeat' apply AllP.cons
    all_goals first | exact trivial
  case zk =>
  exact Aw.ret ⟨_, .cons (.tmp _) .nil, rfl⟩
theorem seg_wide (ms : List Mv) (k : Nat) (hk : k < ms.length) (lo hi : Int) : setSeg (ms.map Mv.c).flatten (0 + Int.toNat (k : Int) * 4 + 2) (Sp.c ⟨lo, hi⟩) = ((wideM ms k lo hi).map Mv.c).flatten := by
  have hm := mvk_get hk
  have e : ms = ms.take k ++ (ms[k] :: ms.drop (k + 1)) := by rw [← List.drop_eq_getElem_cons hk, List.take_append_drop]
  have h1 : ((ms.take k).map Mv.c).flatten.length = k * 4 := by
    rw [flat_len (sz := 4) fun w hw => by obtain ⟨m, _, rfl⟩ := List.mem_map.1 hw; rfl, List.length_map, List.length_take, Nat.min_eq_left (by omega)]
  have e2 : wideM ms k lo hi = ms.take k ++ (⟨(mvk ms k).fr, (mvk ms k).to, lo, hi⟩ :: ms.drop (k + 1)) := by
    show ms.set k _ = _
    rw [List.set_eq_take_append_cons_drop, if_pos hk]
  have e3 : (ms.map Mv.c).flatten = ((ms.take k).map Mv.c).flatten ++ (Mv.c ms[k] ++ ((ms.drop (k + 1)).map Mv.c).flatten) := by
    conv => lhs; rw [e]
    rw [List.map_append, List.flatten_append, List.map_cons, List.flatten_cons]
  rw [e2, e3, List.map_append, List.flatten_append, List.map_cons, List.flatten_cons, hm, Int.toNat_natCast, Nat.zero_add, ← h1]
  generalize ((ms.take k).map Mv.c).flatten = X
  generalize ((ms.drop (k + 1)).map Mv.c).flatten = Y
  unfold setSeg
  simp [Mv.c, Sp.c, List.take_append, List.drop_append]
  rw [List.take_of_length_le (by omega), List.drop_eq_nil_of_le (by omega), show X.length + 2 + 2 - X.length = 4 by omega]; rfl
theorem mvs_underB (ms : List Mv) {n : Nat} : UnderB n (.cells (ms.map Mv.c).flatten) := .cells _ fun x hx => by
  obtain ⟨z, hz, hx⟩ := List.mem_flatten.1 hx
  obtain ⟨m, _, rfl⟩ := List.mem_map.1 hz
  exact (m.free x hx).under
theorem fixed_m (b : Book) (hl : 1 ≤ b.ms.length ∧ b.ms.length ≤ 10) (k : Nat) (hk : k < b.ms.length) (v : Int) :
    SCall Try.prog 50 [.agg b.c, .int k, .int v] (ofH []) 0 fun w H' c' => c' = 12 ∧ w = .agg [.int b.n, .ms 2 0 b.ms.length] ∧ H' 2 = some (.cells ((wideM b.ms k v v).map Mv.c).flatten) := by
  have lm : ((b.ms.map Mv.c).length : Int) = b.ms.length := by simp
  have hone : ∀ w ∈ b.ms.map Mv.c, w.length = 4 := fun w hw => by obtain ⟨m, _, rfl⟩ := List.mem_map.1 hw; rfl
  have hne : b.ms.map Mv.c ≠ [] := fun h => by have := congrArg List.length h; simp at this; rw [this] at hl; simp at hl
  have hll : (b.ms.map Mv.c).length ≤ 10 := by rw [List.length_map]; exact hl.2
  have q1 : 0 + k * 4 + 4 ≤ (b.ms.map Mv.c).flatten.length := by rw [flat_len hone, List.length_map]; omega
  refine SCall.of_bodyN tab_ok Try.func50 rfl Try.ntmps50 (Nat.le_of_ble_eq_true rfl) (allC (fun _ => rfl) (allC (fun _ => rfl) (all1 fun _ => rfl))) fun E hE => ?_
  refine Aw.sm tab_ok mb0 [] rfl rfl ?zo ?zk
  case zo =>
    repeat' apply AllP.cons
    all_goals first | exact trivial
  case zk =>
  refine Aw.sm tab_ok mb0 [] rfl rfl ?zo ?zk
  case zo =>
    repeat' apply AllP.cons
    all_goals first | exact trivial | exact rfl | exact Nat.le_of_ble_eq_true rfl
  case zk =>
  refine Aw.sm tab_ok mb0 [(3, [.ms 0 0 0])] rfl rfl ?zo ?zk
  case zo =>
    repeat' apply AllP.cons
    all_goals first | exact trivial | exact rfl | exact Nat.le_of_ble_eq_true rfl | exact hone | exact hne | exact (show (b.ms.map Mv.c).length * 32 ≤ 140737488355328 by omega) | exact (show (b.ms.map Mv.c).length ≤ maxLen by unfold maxLen; omega)
  case zk =>
  have h3e : ∀ id, 3 ≤ id → E.φ0 id = none := fun id _ => hE id (by omega)
  have hfl : (b.ms.map Mv.c).flatten.map A.down = (b.ms.map Mv.c).flatten := flat_down (fun m => rfl) _
  have umB : ∀ {n : Nat}, UnderB n (.cells (b.ms.map Mv.c).flatten) := mvs_underB _
  refine Aw.keep (n := 3) (cst := [(1, .int k), (2, .int v), (6, .ref 0 0), (7, .ref 1 0)]) (v := []) (Hl := [(0, .cells [.int 0, .sl true .exact []]), (1, .cells [.int b.n, .ms 2 0 b.ms.length]), (2, .cells (b.ms.map Mv.c).flatten)]) h3e ?zu ?zw ?zx ⟨?zc, ?zv, ?zh, Nat.le_of_ble_eq_true rfl⟩ ?zr
  case zu =>
    (repeat' (first | exact trivial | exact Under.s _ | exact Under.ref _ _ (by decide) | (refine And.intro ?_ ?_)))
  case zw =>
    (repeat' (first | exact trivial))
  case zx =>
    (repeat' (first | exact trivial | exact Nat.le_of_ble_eq_true rfl | exact umB | exact .cells _ (allC (.s _) (all1 (.ms _ _ _ (by decide)))) | exact .cells _ (allC (.s _) (all1 (Free.sl _ _ _ (fun _ h => by cases h)).under)) | (refine And.intro ?_ ?_)))
  case zc =>
    (repeat' (first | (refine And.intro ?_ ?_) | exact trivial | exact A.Le.refl _))
  case zv =>
    (repeat' (first | exact trivial))
  case zh =>
    (repeat' (first | (refine And.intro ?_ ?_) | exact trivial | exact rfl | exact congrArg (fun x => some (B.cells x)) hfl | exact (by rw [← List.length_map (f := Mv.c)]; rfl)))
  case zr =>
  have q2 : (k : Int) < (b.ms.length : Int) := by omega
  refine Aw.sd tab_ok mixed mb0 [(5, [.agg (Sp.c ⟨v, v⟩)])] rfl (by kernel_rfl) rfl rfl ?zo ?zk
  case zo =>
    repeat' apply AllP.cons
    all_goals first | exact trivial | exact rfl | exact Nat.le_of_ble_eq_true rfl | exact Int.natCast_nonneg _ | exact to_t _ _ | exact q2 | exact (show 0 + Int.toNat (k : Int) * 4 + 2 + 2 ≤ (b.ms.map Mv.c).flatten.length by rw [Int.toNat_natCast]; omega)
  case zk =>
  have hseg := seg_wide b.ms k hk v v
  refine Aw.sm tab_ok mb0 [] rfl rfl ?zo ?zk
  case zo =>
    repeat' apply AllP.cons
    all_goals first | exact trivial | exact rfl | exact Nat.le_of_ble_eq_true rfl
  case zk =>
  refine Aw.ret ⟨_, .cons (resC rfl rfl rfl rfl rfl) .nil, ?_, rfl, congrArg (fun x => some (B.cells x)) hseg⟩
  exact rfl
end Go.Proofs.Ytampldajinhenaa

namespace Go.Proofs.Ytampldajinhenaa
open Go Go.AL Go.AL.Q Go.AL.Br
theorem proof_cases (b : Book) : (b.ok = false ∧ ProofR b = (0, 63)) ∨ (b.ok = true ∧ (∃ cs, (BalW b).1 = some cs) ∧ ProofR b = (0, 4)) ∨ (b.ok = true ∧ (BalW b).1 = none ∧ ∃ s, ProofR b = (s, 0) ∧ ProvesR b s = (true, 0) ∧ wi s 0 (2 ^ b.n.toNat - 1) = true ∧ moreF s (-1) b.ms > 0) := by
  unfold ProofR
  by_cases hbo : b.ok = true
  · rw [if_pos hbo]
    have hB := Book.ok_iff.1 hbo
    cases hw : (BalW b).1 with
    | some cs => exact .inr (.inl ⟨hbo, ⟨cs, rfl⟩, rfl⟩)
    | none =>
      obtain ⟨h1, h2, h3⟩ := BalW_none hB hw
      have h4 : wi (BalW b).2 0 (2 ^ b.n.toNat - 1) = true := wi_iff.2 (by omega)
      refine .inr (.inr ⟨hbo, rfl, _, rfl, ?_, h4, h1⟩)
      rw [← proves_is]
      unfold rProvesR
      rw [if_pos hbo, if_pos h4, decide_eq_true h1]
  · rw [if_neg hbo]
    exact .inl ⟨by simpa using hbo, rfl⟩
set_option maxRecDepth 100000 in
set_option maxHeartbeats 4000000 in
theorem either_l (b : Book) (n0 n1 n2 : Int) (hbl : (b.ms.length : Int) ≤ 9223372036854775806) : Ans Try.prog 14 [.agg b.c, .agg [.int n0, .int n1, .int n2]] (.bool true) := by
  have c1 := Balance_w b hbl
  have c2 := whole_t b hbl
  have c3 := proof_t b hbl
  have lm : ((b.ms.map Mv.c).length : Int) = b.ms.length := by simp
  have fn : Free (.agg [.int n0, .int n1, .int n2]) := .agg _ (allC (.s _) (allC (.s _) (all1 (.s _))))
  refine told Try.func14 rfl rfl (Pure.of tab_ok Try.func14 rfl Try.ntmps14 rfl (allC (.agg _ b.free) (all1 (fn))) (allC (fun _ => rfl) (all1 (fun _ => rfl))) (by first | exact .s _ | assumption | exact .tup _ (by intro x hx; simp only [List.mem_cons, List.not_mem_nil, or_false] at hx; rcases hx with rfl | rfl | rfl | rfl <;> first | exact .s _ | (simp_all; done))) fun E hE => ?_)
  refine Aw.sm tab_ok mb0 [] rfl rfl ?zo ?zk
  case zo =>
    repeat' apply AllP.cons
    all_goals first | exact trivial
  case zk =>
  rcases proof_cases b with ⟨hbo, hp⟩ | ⟨hbo, ⟨cs, hw⟩, hp⟩ | ⟨hbo, hw, s, hp, hs1, hs2, hs3⟩
  · have e : BalanceR b = ([], 63) := by unfold BalanceR; rw [if_neg (by rw [hbo]; decide)]
    rw [e] at c1
    rw [hbo] at c2
    rw [hp] at c3
    refine Aw.sm tab_ok mb0 [(1, [.tup [spW [], .int 63]])] rfl rfl ?zo ?zk
    case zo =>
      repeat' apply AllP.cons
      all_goals first | exact trivial | exact Nat.le_of_ble_eq_true rfl | exact c1
    case zk =>
    refine Aw.sm tab_ok mb0 [(1, [.tup [.int 0, .int 63]])] rfl rfl ?zo ?zk
    case zo =>
      repeat' apply AllP.cons
      all_goals first | exact trivial | exact Nat.le_of_ble_eq_true rfl | exact c3
    case zk =>
    refine Aw.seq ?_
    refine Aw.sm tab_ok mb0 [(1, [.bool false])] rfl rfl ?zo ?zk
    case zo =>
      repeat' apply AllP.cons
      all_goals first | exact trivial | exact Nat.le_of_ble_eq_true rfl | exact c2
    case zk =>
    refine Aw.cond rfl (fun h => ?_) (fun h => by cases h)
    refine Aw.sm tab_ok mb0 [(17, [.bool true])] rfl rfl ?zo ?zk
    case zo =>
      repeat' apply AllP.cons
      all_goals first | exact trivial | exact id | exact fun _ => rfl | exact fun _ => works_t
    case zk =>
    exact Aw.ret ⟨_, .cons (.tmp _) .nil, rfl⟩
  rotate_left
  · have hB := Book.ok_iff.1 hbo
    rw [BalanceR_none hB hw] at c1
    rw [hbo] at c2
    rw [hp] at c3
    have c4 := proves_t b hbl s
    rw [hs1] at c4
    have c5 := out_t b hB s
    have hn := hB.n
    have hpow := pow_bd (n := b.n.toNat) (by omega)
    have hsh := shl_n (n := b.n.toNat) (by omega)
    have hwi : Ans Try.prog 43 [.int s, .int 0, .int (IntKind.i64.wrap (1 * 2 ^ min b.n.toNat 64) - 1)] (.bool true) := by rw [hsh, ← hs2]; exact in_t _ _ _
    refine Aw.sm tab_ok mb0 [(1, [.tup [spW [], .int 65]])] rfl rfl ?zo ?zk
    case zo =>
      repeat' apply AllP.cons
      all_goals first | exact trivial | exact Nat.le_of_ble_eq_true rfl | exact c1
    case zk =>
    refine Aw.sm tab_ok mb0 [(1, [.tup [.int s, .int 0]])] rfl rfl ?zo ?zk
    case zo =>
      repeat' apply AllP.cons
      all_goals first | exact trivial | exact Nat.le_of_ble_eq_true rfl | exact c3
    case zk =>
    refine Aw.seq ?_
    refine Aw.sm tab_ok mb0 [(1, [.bool true])] rfl rfl ?zo ?zk
    case zo =>
      repeat' apply AllP.cons
      all_goals first | exact trivial | exact Nat.le_of_ble_eq_true rfl | exact c2
    case zk =>
    refine Aw.cond rfl (fun h => by cases h) (fun h => Aw.skip ?_)
    refine Aw.seq ?_
    refine Aw.sm tab_ok mb0 [] rfl rfl ?zo ?zk
    case zo =>
      repeat' apply AllP.cons
      all_goals first | exact trivial
    case zk =>
    refine Aw.cond rfl (fun h => ?_) (fun h => by cases h)
    refine Aw.sm tab_ok mb0 [(2, [.tup [.bool true, .int 0]])] rfl rfl ?zo ?zk
    case zo =>
      repeat' apply AllP.cons
      all_goals first | exact trivial | exact Nat.le_of_ble_eq_true rfl | exact c4
    case zk =>
    generalize moreF s (-1) b.ms = x at *
    refine Aw.sm tab_ok mb0 [(15, [.bool true]), (20, [.int x]), (24, [.bool true])] rfl rfl ?zo ?zk
    case zo =>
      repeat' apply AllP.cons
      all_goals first | exact trivial | exact id | exact fun _ => rfl | exact fun _ => Nat.le_of_ble_eq_true rfl | exact fun _ => works_t | exact fun _ => hwi | exact fun _ => c5 | exact fun _ => (show inR (IntKind.i64.wrap (1 * 2 ^ min b.n.toNat 64) - 1) by rw [hsh]; simp only [inR]; omega) | exact (by simp only [Ob.of]; omega)
    case zk =>
    exact Aw.ret ⟨_, .cons (.tmp _) .nil, by show A.bool (cond (decide (x > 0)) true false) = A.bool true; rw [decide_eq_true hs3]; rfl⟩
  have hB := Book.ok_iff.1 hbo
  obtain ⟨hf, he⟩ := BalW_some hB hw
  rw [BalanceR_some hB hw] at c1
  rw [hbo] at c2
  rw [hp] at c3
  have hn := hB.n
  have hbl2 := hB.l
  have hpow := pow_bd (n := b.n.toNat) (by omega)
  have hsh := shl_n (n := b.n.toNat) (by omega)
  have hLs : ((((List.range b.ms.length).map (bdS b.n b.ms)).map Sp.c).length : Int) = b.ms.length := by simp
  have hLg : ∀ i, i < b.ms.length → (((List.range b.ms.length).map (bdS b.n b.ms)).map Sp.c)[i]? = some (bdS b.n b.ms i).c := fun i hi => by simp [hi]
  refine Aw.sm tab_ok mb0 [(1, [.tup [spW ((List.range b.ms.length).map (bdS b.n b.ms)), .int 0]])] rfl rfl ?zo ?zk
  case zo =>
    repeat' apply AllP.cons
    all_goals first | exact trivial | exact Nat.le_of_ble_eq_true rfl | exact c1
  case zk =>
  generalize (List.range b.ms.length).map (bdS b.n b.ms) = L at *
  refine Aw.sm tab_ok mb0 [(1, [.tup [.int 0, .int 4]])] rfl rfl ?zo ?zk
  case zo =>
    repeat' apply AllP.cons
    all_goals first | exact trivial | exact Nat.le_of_ble_eq_true rfl | exact c3
  case zk =>
  refine Aw.seq ?_
  refine Aw.sm tab_ok mb0 [(1, [.bool true])] rfl rfl ?zo ?zk
  case zo =>
    repeat' apply AllP.cons
    all_goals first | exact trivial | exact Nat.le_of_ble_eq_true rfl | exact c2
  case zk =>
  refine Aw.cond rfl (fun h => by cases h) (fun h => Aw.skip ?_)
  refine Aw.seq ?_
  refine Aw.sm tab_ok mb0 [] rfl rfl ?zo ?zk
  case zo =>
    repeat' apply AllP.cons
    all_goals first | exact trivial
  case zk =>
  refine Aw.cond rfl (fun h => by cases h) (fun h => Aw.skip ?_)
  have hmod : Ans Try.prog 41 [.int n0, .int (IntKind.i64.wrap (1 * 2 ^ min b.n.toNat 64))] (.int (n0 % 2 ^ b.n.toNat)) := by rw [hsh]; exact mod_t _ _ (by omega) (by omega)
  have ho1 := Int.emod_nonneg n0 (show (2 : Int) ^ b.n.toNat ≠ 0 by omega)
  have ho2 := Int.emod_lt_of_pos n0 (show 0 < (2 : Int) ^ b.n.toNat by omega)
  generalize n0 % 2 ^ b.n.toNat = o at *
  have c4 := proves_t b hbl o
  have hov := feas_more hB.n hB.m hf he o
  have e4 : ProvesR b o = (false, 0) := by
    rw [← proves_is]; unfold rProvesR
    rw [if_pos hbo, if_pos (wi_iff.2 (by omega)), decide_eq_false (by omega)]
  rw [e4] at c4
  have c5 := out_t b hB o
  generalize moreF o (-1) b.ms = x at *
  refine Aw.sd tab_ok mixed mb0 [(5, [.int o])] rfl (by kernel_rfl) rfl rfl ?zo ?zk
  case zo =>
    repeat' apply AllP.cons
    all_goals first | exact trivial | exact Nat.le_of_ble_eq_true rfl | exact Int.natCast_nonneg _ | exact hmod | exact (by simp only [Ob.of]; omega)
  case zk =>
  refine Aw.sm tab_ok mb0 [(2, [.tup [.bool false, .int 0]])] rfl rfl ?zo ?zk
  case zo =>
    repeat' apply AllP.cons
    all_goals first | exact trivial | exact Nat.le_of_ble_eq_true rfl | exact c4
  case zk =>
  refine Aw.seq ?_
  refine Aw.sm tab_ok mb0 [(16, [.int x])] rfl rfl ?zo ?zk
  case zo =>
    repeat' apply AllP.cons
    all_goals first | exact trivial | exact id | exact fun _ => rfl | exact fun _ => Nat.le_of_ble_eq_true rfl | exact gq_f | exact fun _ => c5
  case zk =>
  refine Aw.cond rfl (fun h => absurd h (by show ¬ (cond (decide (x > 0)) true (((L.map Sp.c).length : Int) != ((b.ms.map Mv.c).length : Int))) = true; rw [hLs, lm, decide_eq_false (by omega)]; simp)) (fun h => Aw.skip ?_)
  have ub : ∀ {n : Nat}, Under n (A.pt b.c) := (Free.pt _ b.free).under
  have un : ∀ {n : Nat}, Under n (A.pt [.int n0, .int n1, .int n2]) := (Free.pt _ (allC (.s _) (allC (.s _) (all1 (.s _))))).under
  have uL : ∀ {n : Nat}, Under n (spW L) := (spW_free L).under
  have h1e : ∀ id, 1 ≤ id → E.φ0 id = none := fun id _ => hE id (by omega)
  have ubc : ∀ {n : Nat} (X : Book), UnderB n (.cells X.c) := fun X => .cells _ fun v hv => (X.free v hv).under
  refine Aw.keep (n := 0) (cst := [(2, .pt b.c), (3, .pt [.int n0, .int n1, .int n2]), (5, spW L)]) (v := []) (Hl := []) hE ?zu ?zw ?zx ⟨?zc, ?zv, ?zh, Nat.le_of_ble_eq_true rfl⟩ ?zr
  case zu =>
    (repeat' (first | exact trivial | exact ub | exact un | exact uL | (refine And.intro ?_ ?_)))
  case zw =>
    (repeat' (first | exact trivial))
  case zx =>
    (repeat' (first | exact trivial))
  case zc =>
    (repeat' (first | (refine And.intro ?_ ?_) | exact trivial | exact A.Le.refl _))
  case zv =>
    (repeat' (first | exact trivial))
  case zh =>
    (repeat' (first | exact trivial))
  case zr =>
  refine Aw.sm tab_ok mb0 [] rfl rfl ?zo ?zk
  case zo =>
    repeat' apply AllP.cons
    all_goals first | exact trivial | exact rfl | exact Nat.le_of_ble_eq_true rfl
  case zk =>
  refine Aw.sm tab_ok mb0 [] rfl rfl ?zo ?zk
  case zo =>
    repeat' apply AllP.cons
    all_goals first | exact trivial
  case zk =>
  refine Aw.seq ?_
  refine Aw.sm tab_ok mb0 [] rfl rfl ?zo ?zk
  case zo =>
    repeat' apply AllP.cons
    all_goals first | exact trivial
  case zk =>
  refine Aw.block (Aw.rounds 1 h1e [(2, .pt b.c), (3, .pt [.int n0, .int n1, .int n2]), (5, spW L), (14, .ref 0 0)] (fun i : (Book×List Int) => [(15, grL 3 i.2), (16, .int i.2.length)]) (fun i => [(0, .cells i.1.c)]) (fun i => i.2.length ≤ b.ms.length ∧ Chain b i.1 i.2) (fun i => b.ms.length - i.2.length) (b, []) ?zg ⟨?zc, ?zv, ?zh, Nat.le_of_ble_eq_true rfl⟩ ?zu (fun i zhk => ?zw) (fun i zhk => ?zx) fun i hk => ?zr)
  case zg =>
    (repeat' (first | exact ⟨Nat.zero_le _, Chain.start hB hf he⟩))
  case zc =>
    (repeat' (first | (refine And.intro ?_ ?_) | exact trivial | exact A.Le.refl _))
  case zv =>
    (repeat' (first | (refine And.intro ?_ ?_) | exact trivial | exact A.Le.refl _))
  case zh =>
    (repeat' (first | (refine And.intro ?_ ?_) | exact trivial | exact rfl))
  case zu =>
    (repeat' (first | exact trivial | exact Under.ref _ _ (by decide) | exact ub | exact un | exact uL | (refine And.intro ?_ ?_)))
  case zw =>
    (repeat' (first | exact trivial | exact Under.s _ | exact grL_under _ | (refine And.intro ?_ ?_)))
  case zx =>
    (repeat' (first | exact trivial | exact Nat.le_of_ble_eq_true rfl | exact ubc _ | (refine And.intro ?_ ?_)))
  case zr =>
  obtain ⟨X, cs⟩ := i
  obtain ⟨hk, hch⟩ := hk
  simp only at hk hch
  refine Aw.seq ?_
  refine Aw.sm tab_ok mb0 [] rfl rfl ?zo ?zk
  case zo =>
    repeat' apply AllP.cons
    all_goals first | exact trivial | exact Nat.le_of_ble_eq_true rfl
  case zk =>
  refine Aw.cond rfl (fun h1 => Aw.skip ?_) (fun h1 => ?_)
  · have h1 : decide ((cs.length : Int) < ((b.ms.map Mv.c).length : Int)) = true := h1
    have hlt : cs.length < b.ms.length := by have := of_decide_eq_true h1; omega
    have hch2 := hch.step hlt
    have hbal := hch.bal
    have hXl := hch.l
    have d1 := Balance_w X (by omega)
    rw [hbal] at d1
    have d2 := fun v => fixed_t X (by omega) cs.length (by omega) v
    have hXs : ((((List.range b.ms.length).map (bdS X.n X.ms)).map Sp.c).length : Int) = b.ms.length := by simp
    have hXg : (((List.range b.ms.length).map (bdS X.n X.ms)).map Sp.c)[cs.length]? = some (bdS X.n X.ms cs.length).c := by simp [hlt]
    generalize (List.range b.ms.length).map (bdS X.n X.ms) = LX at *
    generalize bdS X.n X.ms cs.length = S at *
    have d3 := d2 S.lo
    have hch2 : Chain b (fixB X cs.length S.lo) _ := hch2
    refine Aw.seq (Aw.block ?_)
    refine Aw.sm tab_ok mb0 [(1, [.tup [spW LX, .int 0]])] rfl rfl ?zo ?zk
    case zo =>
      repeat' apply AllP.cons
      all_goals first | exact trivial | exact Nat.le_of_ble_eq_true rfl | exact d1
    case zk =>
    refine Aw.seq ?_
    refine Aw.sm tab_ok mb0 [] rfl rfl ?zo ?zk
    case zo =>
      repeat' apply AllP.cons
      all_goals first | exact trivial | exact id | exact fun _ => rfl | exact fun _ => Nat.le_of_ble_eq_true rfl
    case zk =>
    refine Aw.cond rfl (fun h => absurd h (by show ¬ (((LX.map Sp.c).length : Int) != ((b.ms.map Mv.c).length : Int)) = true; rw [hXs, lm]; simp)) (fun h => Aw.skip ?_)
    have hone : ∀ z ∈ [[A.int S.lo]], z.length = 1 := fun z hz => by simp at hz; subst hz; rfl
    generalize fixB X cs.length S.lo = X2 at *
    cases cs with
    | nil =>
      refine Aw.sm tab_ok mb0 [(3, S.c)] rfl rfl ?zo ?zk
      case zo =>
        repeat' apply AllP.cons
        all_goals first | exact trivial | exact rfl | exact Nat.le_of_ble_eq_true rfl | exact Int.natCast_nonneg _ | exact hXg | exact hone
      case zk =>
      refine Aw.ed tab_ok mixed mb0 [(4, S.c), (7, [.agg X2.c])] rfl (by kernel_rfl) rfl rfl ?zo ?zk
      case zo =>
        repeat' apply AllP.cons
        all_goals first | exact trivial | exact rfl | exact Nat.le_of_ble_eq_true rfl | exact Int.natCast_nonneg _ | exact hXg | exact d3
      case zk =>
      refine Aw.em tab_ok mb0 [] rfl rfl ?zo ?zk
      case zo =>
        repeat' apply AllP.cons
        all_goals first | exact trivial | exact inrk 0 (by omega)
      case zk =>
      refine ⟨(X2, [S.lo]), ?zg, ?zm, ⟨?zc, ?zv, ?zh, Nat.le_of_ble_eq_true rfl⟩⟩
      case zg =>
        (repeat' (first | exact ⟨hlt, hch2⟩))
      case zm =>
        (repeat' (first | exact (by show b.ms.length - 1 < b.ms.length - 0; omega)))
      case zc =>
        (repeat' (first | (refine And.intro ?_ ?_) | exact trivial | exact A.Le.refl _))
      case zv =>
        (repeat' (first | (refine And.intro ?_ ?_) | exact trivial | exact A.Le.refl _))
      case zh =>
        (repeat' (first | (refine And.intro ?_ ?_) | exact trivial | exact rfl))
    | cons x t =>
      have hl1 : (ints (x :: t)).length ≤ 10 := by rw [ints_len]; omega
      have hz := ints_one (x :: t)
      refine Aw.sm tab_ok mb0 [(3, S.c)] rfl rfl ?zo ?zk
      case zo =>
        repeat' apply AllP.cons
        all_goals first | exact trivial | exact rfl | exact Nat.le_of_ble_eq_true rfl | exact Int.natCast_nonneg _ | exact hXg | exact hone | exact hz | exact (show ((ints (x :: t)).length + 1) * 8 ≤ 140737488355328 by omega) | exact (show (ints (x :: t)).length + 1 ≤ maxLen by unfold maxLen; omega)
      case zk =>
      refine Aw.ed tab_ok mixed mb0 [(4, S.c), (7, [.agg X2.c])] rfl (by kernel_rfl) rfl rfl ?zo ?zk
      case zo =>
        repeat' apply AllP.cons
        all_goals first | exact trivial | exact rfl | exact Nat.le_of_ble_eq_true rfl | exact Int.natCast_nonneg _ | exact hXg | exact d3
      case zk =>
      refine Aw.em tab_ok mb0 [] rfl rfl ?zo ?zk
      case zo =>
        repeat' apply AllP.cons
        all_goals first | exact trivial | exact inrk (t.length + 1) (by simp only [List.length_cons] at hk; omega)
      case zk =>
      refine ⟨(X2, (x :: t) ++ [S.lo]), ?zg, ?zm, ⟨?zc, ?zv, ?zh, Nat.le_of_ble_eq_true rfl⟩⟩
      case zg =>
        (repeat' (first | exact ⟨by simp only [List.length_append, List.length_singleton]; omega, hch2⟩))
      case zm =>
        (repeat' (first | exact (by simp only [List.length_append, List.length_singleton]; omega)))
      case zc =>
        (repeat' (first | (refine And.intro ?_ ?_) | exact trivial | exact A.Le.refl _))
      case zv =>
        (repeat' (first | (refine And.intro ?_ ?_) | exact trivial | exact .of_eq (show grL 3 ((x :: t) ++ [S.lo]) = A.sl false (.own 3) (ints (x :: t) ++ [[A.int S.lo]]) by simp [grL, ints]) | exact .of_eq (show A.int (((x :: t) ++ [S.lo]).length : Nat) = A.int (((x :: t).length : Int) + 1) by simp)))
      case zh =>
        (repeat' (first | (refine And.intro ?_ ?_) | exact trivial | exact rfl))
  have h1 : decide ((cs.length : Int) < ((b.ms.map Mv.c).length : Int)) = false := h1
  have hle : cs.length = b.ms.length := by have := of_decide_eq_false h1; omega
  have hcs := hch.fin hB hle
  have hgr : A.Le (.sl false .any (ints cs)) (grL 3 cs) := by
    cases cs with
    | nil => simp at hle; omega
    | cons x t => exact .any _ _ _
  refine Aw.exit2 ?_
  have uc : ∀ {n : Nat}, Under n (A.sl false .any (ints cs)) := (free_ints _ _ _).under
  refine Aw.keep (n := 0) (cst := [(2, .pt b.c), (3, .pt [.int n0, .int n1, .int n2]), (5, spW L), (15, .sl false .any (ints cs))]) (v := []) (Hl := []) hE ?zu ?zw ?zx ⟨?zc, ?zv, ?zh, Nat.le_of_ble_eq_true rfl⟩ ?zr
  case zu =>
    (repeat' (first | exact trivial | exact (free_ints _ _ _).under | exact ub | exact un | exact uL | (refine And.intro ?_ ?_)))
  case zw =>
    (repeat' (first | exact trivial))
  case zx =>
    (repeat' (first | exact trivial))
  case zc =>
    (repeat' (first | (refine And.intro ?_ ?_) | exact trivial | exact A.Le.refl _ | exact hgr))
  case zv =>
    (repeat' (first | exact trivial))
  case zh =>
    (repeat' (first | exact trivial))
  case zr =>
  have d4 := counts_t b hbl false cs
  rw [hcs] at d4
  refine Aw.seq ?_
  refine Aw.sm tab_ok mb0 [(2, [.tup [.bool true, .int 0]])] rfl rfl ?zo ?zk
  case zo =>
    repeat' apply AllP.cons
    all_goals first | exact trivial | exact Nat.le_of_ble_eq_true rfl | exact d4
  case zk =>
  refine Aw.sm tab_ok mb0 [] rfl rfl ?zo ?zk
  case zo =>
    repeat' apply AllP.cons
    all_goals first | exact trivial | exact id | exact fun _ => rfl
  case zk =>
  refine Aw.cond rfl (fun h => by cases h) (fun h => Aw.skip ?_)
  have hmod1 := mod_t n1 b.ms.length (by omega) (by omega)
  obtain ⟨k, hk⟩ : ∃ k : Nat, n1 % (b.ms.length : Int) = k := ⟨(n1 % (b.ms.length : Int)).toNat, by have := Int.emod_nonneg n1 (show (b.ms.length : Int) ≠ 0 by omega); omega⟩
  have hkl : k < b.ms.length := by have := Int.emod_lt_of_pos n1 (show 0 < (b.ms.length : Int) by omega); omega
  rw [hk] at hmod1
  rw [← lm] at hmod1
  refine Aw.sm tab_ok mb0 [(5, [.int k])] rfl rfl ?zo ?zk
  case zo =>
    repeat' apply AllP.cons
    all_goals first | exact trivial | exact Nat.le_of_ble_eq_true rfl | exact Int.natCast_nonneg _ | exact hmod1
  case zk =>
  have hgm := mvk_at hkl
  have hmk := (hB.m _ (mvk_mem hkl)).k
  have a1 := Int.emod_nonneg n2 (show (40 : Int) ≠ 0 by decide)
  have a2 := Int.emod_lt_of_pos n2 (show 0 < (40 : Int) by decide)
  have a3 := Int.emod_nonneg n2 (show (30 : Int) ≠ 0 by decide)
  have a4 := Int.emod_lt_of_pos n2 (show 0 < (30 : Int) by decide)
  have m1 := mod_t n2 40 (by decide) (by decide)
  have m2 := mod_t n2 30 (by decide) (by decide)
  generalize n2 % 40 = r1 at *
  generalize n2 % 30 = r2 at *
  have hx1 : 0 ≤ mx0 ((mvk b.ms k).lo - r1) ∧ mx0 ((mvk b.ms k).lo - r1) ≤ (mvk b.ms k).lo := by unfold mx0; split <;> omega
  have hx2 : (mvk b.ms k).hi ≤ mnL 1000 ((mvk b.ms k).hi + r2) ∧ mnL 1000 ((mvk b.ms k).hi + r2) ≤ 1000 := by unfold mnL; split <;> omega
  obtain ⟨g1, g2⟩ := wide_bal hB hkl hx1 hx2 hf he
  have hcall := fixed_m b hbl2 k hkl 0
  refine Aw.keep (n := 0) (cst := [(2, .pt b.c), (3, .pt [.int n0, .int n1, .int n2]), (5, spW L), (21, .int k)]) (v := []) (Hl := []) hE ?zu ?zw ?zx ⟨?zc, ?zv, ?zh, Nat.le_of_ble_eq_true rfl⟩ ?zr
  case zu =>
    (repeat' (first | exact trivial | exact Under.s _ | exact ub | exact un | exact uL | (refine And.intro ?_ ?_)))
  case zw =>
    (repeat' (first | exact trivial))
  case zx =>
    (repeat' (first | exact trivial))
  case zc =>
    (repeat' (first | (refine And.intro ?_ ?_) | exact trivial | exact A.Le.refl _))
  case zv =>
    (repeat' (first | exact trivial))
  case zh =>
    (repeat' (first | exact trivial))
  case zr =>
  refine Aw.ss rfl ?_
  refine RegL.partE tab_ok mb0 false 2 0 [] ?_
  conv => arg 5; whnf
  refine PartK.mk ?zo ?zk
  case zo =>
    repeat' apply AllP.cons
    all_goals first | exact trivial | exact Nat.le_of_ble_eq_true rfl
  case zk =>
  refine Does.raw rfl (DoesR.call (fst := []) (cap := []) rfl rfl (enters_of Try.func50 rfl rfl) hcall ?_)
  rintro v' H' c' ⟨rfl, rfl, hj⟩
  refine RegL.partE tab_ok mb0 false 2 3 [] ?_
  conv => arg 5; whnf
  refine PartK.mk ?zo ?zk
  case zo =>
    repeat' apply AllP.cons
    all_goals first | exact trivial | exact rfl | exact Nat.le_of_ble_eq_true rfl
  case zk =>
  have h13e : ∀ id, 13 ≤ id → E.φ0 id = none := fun id _ => hE id (by omega)
  have hlW : ((wideM b.ms k 0 0).map Mv.c).length = b.ms.length := by rw [List.length_map, wideM_len]
  have hkW : k < (wideM b.ms k 0 0).length := by rw [wideM_len]; exact hkl
  have hfW : ((wideM b.ms k 0 0).map Mv.c).flatten.length = b.ms.length * 4 := by rw [flat_len (sz := 4) fun w hw => by obtain ⟨m, _, rfl⟩ := List.mem_map.1 hw; rfl, hlW]
  have hseg := fun lo hi => seg_wide (wideM b.ms k 0 0) k hkW lo hi
  have hww : ∀ lo hi, wideM (wideM b.ms k 0 0) k lo hi = wideM b.ms k lo hi := fun lo hi => by
    have := wideM_get (lo := 0) (hi := 0) hkl k
    rw [if_pos rfl] at this
    show (wideM b.ms k 0 0).set k _ = _
    rw [this]
    unfold wideM
    rw [List.set_set]
  refine Aw.keep (n := 13) (cst := [(2, .pt b.c), (3, .pt [.int n0, .int n1, .int n2]), (5, spW L), (21, .int k), (22, .ref 12 0)]) (v := []) (Hl := [(2, .cells ((wideM b.ms k 0 0).map Mv.c).flatten), (12, .cells [.int b.n, .ms 2 0 b.ms.length])]) h13e ?zu ?zw ?zx ⟨?zc, ?zv, ?zh, Nat.le_of_ble_eq_true rfl⟩ ?zr
  case zu =>
    (repeat' (first | exact trivial | exact Under.s _ | exact Under.ref _ _ (by decide) | exact ub | exact un | exact uL | (refine And.intro ?_ ?_)))
  case zw =>
    (repeat' (first | exact trivial))
  case zx =>
    (repeat' (first | exact trivial | exact Nat.le_of_ble_eq_true rfl | exact mvs_underB _ | exact .cells _ (allC (.s _) (all1 (.ms _ _ _ (by decide)))) | (refine And.intro ?_ ?_)))
  case zc =>
    (repeat' (first | (refine And.intro ?_ ?_) | exact trivial | exact A.Le.refl _))
  case zv =>
    (repeat' (first | exact trivial))
  case zh =>
    (repeat' (first | (refine And.intro ?_ ?_) | exact trivial | exact rfl | exact hj))
  case zr =>
  generalize mvk b.ms k = m at *
  generalize hlo : mx0 (m.lo - r1) = lo at *
  generalize hhi : mnL 1000 (m.hi + r2) = hi at *
  have h1 : (if m.lo - r1 > 0 then m.lo - r1 else 0) = lo := hlo
  have h2 : (if m.hi + r2 < 1000 then m.hi + r2 else 1000) = hi := hhi
  have q2 : (k : Int) < (b.ms.length : Int) := by omega
  have t1 : Ans Try.prog 51 [.int (if m.lo - r1 > 0 then m.lo - r1 else 0), .int (if m.hi + r2 < 1000 then m.hi + r2 else 1000)] (.agg (Sp.c ⟨lo, hi⟩)) := by rw [h1, h2]; exact to_t _ _
  refine Aw.sd tab_ok mixed mb0 [(6, m.c), (12, [.int r1]), (18, m.c), (24, [.int r2]), (27, [.agg (Sp.c ⟨lo, hi⟩)])] rfl (by kernel_rfl) rfl rfl ?zo ?zk
  case zo =>
    repeat' apply AllP.cons
    all_goals first | exact trivial | exact rfl | exact Nat.le_of_ble_eq_true rfl | exact Int.natCast_nonneg _ | exact hgm | exact m1 | exact m2 | exact t1 | exact q2 | exact (show inR (m.lo - r1) by simp only [inR]; omega) | exact (show inR (m.hi + r2) by simp only [inR]; omega) | exact (show 0 + Int.toNat (k : Int) * 4 + 2 + 2 ≤ _ by rw [Int.toNat_natCast, hfW]; omega)
  case zk =>
  have hseg2 := (hseg lo hi).trans (by rw [hww])
  have hsl : (wideM b.ms k lo hi).length = b.ms.length := wideM_len ..
  have d6 := Balance_w (wideB b k lo hi) (show ((wideM b.ms k lo hi).length : Int) ≤ _ by omega)
  rw [g1] at d6
  refine Aw.freezeC (id := 2) (id2 := 12) (j := 1) (n := b.ms.length) (sz := 4) (cs := ((wideM b.ms k lo hi).map Mv.c).flatten) (cs2 := [.int b.n, .ms 2 0 b.ms.length]) ((wideM b.ms k lo hi).map Mv.c) (congrArg (fun x => some (B.cells x)) hseg2) rfl (by decide) (Nat.le_of_ble_eq_true rfl) rfl (rows_all (c := Mv.c) (sz := 4) (fun m => rfl) (fun m => rfl) (wideM b.ms k lo hi)) (by rw [List.length_map]; exact hsl) ?_
  have hMs : ((((List.range b.ms.length).map (bdS b.n (wideM b.ms k lo hi))).map Sp.c).length : Int) = b.ms.length := by simp
  have hMg : ∀ i, i < b.ms.length → (((List.range b.ms.length).map (bdS b.n (wideM b.ms k lo hi))).map Sp.c)[i]? = some (bdS b.n (wideM b.ms k lo hi) i).c := fun i hi => by simp [hi]
  generalize (List.range b.ms.length).map (bdS b.n (wideM b.ms k lo hi)) = M at *
  have uM : ∀ {n : Nat}, Under n (spW M) := (spW_free M).under
  refine Aw.sm tab_ok mb0 [(1, [.tup [spW M, .int 0]])] rfl rfl ?zo ?zk
  case zo =>
    repeat' apply AllP.cons
    all_goals first | exact trivial | exact Nat.le_of_ble_eq_true rfl | exact d6
  case zk =>
  refine Aw.seq ?_
  refine Aw.sm tab_ok mb0 [] rfl rfl ?zo ?zk
  case zo =>
    repeat' apply AllP.cons
    all_goals first | exact trivial | exact id | exact fun _ => rfl
  case zk =>
  refine Aw.cond rfl (fun h => absurd h (by show ¬ (((M.map Sp.c).length : Int) != ((L.map Sp.c).length : Int)) = true; rw [hMs, hLs]; simp)) (fun h => Aw.skip ?_)
  refine Aw.keep (n := 0) (cst := [(5, spW L), (23, spW M)]) (v := []) (Hl := []) hE ?zu ?zw ?zx ⟨?zc, ?zv, ?zh, Nat.le_of_ble_eq_true rfl⟩ ?zr
  case zu =>
    (repeat' (first | exact trivial | exact uL | exact uM | (refine And.intro ?_ ?_)))
  case zw =>
    (repeat' (first | exact trivial))
  case zx =>
    (repeat' (first | exact trivial))
  case zc =>
    (repeat' (first | (refine And.intro ?_ ?_) | exact trivial | exact A.Le.refl _))
  case zv =>
    (repeat' (first | exact trivial))
  case zh =>
    (repeat' (first | exact trivial))
  case zr =>
  refine Aw.seq ?_
  refine Aw.sm tab_ok mb0 [] rfl rfl ?zo ?zk
  case zo =>
    repeat' apply AllP.cons
    all_goals first | exact trivial
  case zk =>
  refine Aw.block (Aw.rounds 0 hE [(5, spW L), (23, spW M)] (fun i : Nat => [(24, .int i)]) (fun i => []) (fun i => i ≤ b.ms.length) (fun i => b.ms.length - i) 0 ?zg ⟨?zc, ?zv, ?zh, Nat.le_of_ble_eq_true rfl⟩ ?zu (fun i zhk => ?zw) (fun i zhk => ?zx) fun i hk => ?zr)
  case zg =>
    (repeat' (first | exact Nat.zero_le _))
  case zc =>
    (repeat' (first | (refine And.intro ?_ ?_) | exact trivial | exact A.Le.refl _))
  case zv =>
    (repeat' (first | (refine And.intro ?_ ?_) | exact trivial | exact A.Le.refl _))
  case zh =>
    (repeat' (first | exact trivial))
  case zu =>
    (repeat' (first | exact trivial | exact uL | exact uM | (refine And.intro ?_ ?_)))
  case zw =>
    (repeat' (first | exact trivial | exact Under.s _ | (refine And.intro ?_ ?_)))
  case zx =>
    (repeat' (first | exact trivial))
  case zr =>
  refine Aw.seq ?_
  refine Aw.sm tab_ok mb0 [] rfl rfl ?zo ?zk
  case zo =>
    repeat' apply AllP.cons
    all_goals first | exact trivial
  case zk =>
  refine Aw.cond rfl (fun h1 => Aw.skip ?_) (fun h1 => ?_)
  · have hlt : i < b.ms.length := by have := of_decide_eq_true h1; omega
    have q1 := hMg i hlt
    have q2 := hLg i hlt
    have q3 := g2 i hlt
    generalize bdS b.n (wideM b.ms k lo hi) i = A1 at *
    generalize bdS b.n b.ms i = A2 at *
    refine Aw.seq (Aw.block ?_)
    refine Aw.sd tab_ok mixed mb0 [(2, A1.c), (7, A2.c), (14, A1.c), (19, A2.c)] rfl (by kernel_rfl) rfl rfl ?zo ?zk
    case zo =>
      repeat' apply AllP.cons
      all_goals first | exact trivial | exact id | exact rfl | exact fun _ => rfl | exact Nat.le_of_ble_eq_true rfl | exact fun _ => Nat.le_of_ble_eq_true rfl | exact Int.natCast_nonneg _ | exact fun _ => Int.natCast_nonneg _ | exact gq_f | exact q1 | exact q2 | exact fun _ => q1 | exact fun _ => q2
    case zk =>
    refine Aw.cond rfl (fun h => absurd h (by show ¬ (cond (decide (A1.lo > A2.lo)) true (decide (A1.hi < A2.hi))) = true; rw [decide_eq_false (by omega), decide_eq_false (by omega)]; decide)) (fun h => Aw.skip ?_)
    refine Aw.em tab_ok mb0 [] rfl rfl ?zo ?zk
    case zo =>
      repeat' apply AllP.cons
      all_goals first | exact trivial | exact inrk i (by omega)
    case zk =>
    refine ⟨i + 1, ?zg, ?zm, ⟨?zc, ?zv, ?zh, Nat.le_of_ble_eq_true rfl⟩⟩
    case zg =>
      (repeat' (first | assumption))
    case zm =>
      (repeat' (first | omega))
    case zc =>
      (repeat' (first | (refine And.intro ?_ ?_) | exact trivial | exact A.Le.refl _))
    case zv =>
      (repeat' (first | (refine And.intro ?_ ?_) | exact trivial | exact A.Le.refl _))
    case zh =>
      (repeat' (first | exact trivial))
  refine Aw.exit2 ?_
  refine Aw.sm tab_ok mb0 [(0, [.bool true])] rfl rfl ?zo ?zk
  case zo =>
    repeat' apply AllP.cons
    all_goals first | exact trivial | exact works_t
  case zk =>
  exact Aw.ret ⟨_, .cons (.tmp _) .nil, rfl⟩
end Go.Proofs.Ytampldajinhenaa

namespace Go.Proofs.Ytampldajinhenaa
open Go Go.AL Go.ChangeShapes Go.WideShapes Go.ChangeAt Go.RowKit
set_option maxRecDepth 100000 in
theorem barrelEither_lifted (os : Os) (started : os.Started) (H : Type) (enc : TypeId × Value → H) :
    ReturnsInHanded {} Try.checked os 14 .any (Rows.barrelEitherSpec.pre6 enc Try.prog Try.f14 [] false) (Rows.barrelEitherSpec.post enc Try.prog Try.f14 false true false false) := by
  refine lifted2 (tb := 4) (C := Try.checked) own started (by kernel_rfl) Try.func14
    (ChangeSpec.witness6 (enc := enc) (C := Try.checked) false ⟨#[], #[.agg #[.int .i64 0, .slice none 0 0], .agg #[.int .i64 0, .int .i64 0, .int .i64 0]], []⟩ 8 (by kernel_rfl) (by kernel_rfl) (by kernel_rfl) (by kernel_rfl))
    laidOut ?_ rfl rfl (by kernel_rfl) uBool ?_ ?_
  · rw [Try.params14]; exact all2t (p := fun t => Try.prog.readableRec t = true ∧ t < Try.prog.types.size) t49 t88
  · intro ds hd
    rw [Try.params14] at hd
    match ds, hd with
    | [d0, d1], _ => rfl
  · intro W base args ds p hval hA hwt
    rw [Try.params14] at hA hval
    obtain ⟨v0, v1, d0, d1, p0, p1, rfl, rfl, rfl, h0, h1⟩ := trodAll_two hA
    obtain ⟨y0, q0, s0⟩ := arg_book (φ := fun _ => none) (hval 0 49 v0 rfl rfl) h0 fun k hk => hwt k (List.mem_append.2 (.inl hk))
    obtain ⟨y1, q1⟩ := arg_3 (φ := fun _ => none) (hval 1 88 v1 rfl rfl) h1 fun k hk => hwt k (List.mem_append.2 (.inr (List.mem_append.2 (.inl hk))))
    exact ⟨_, _, vrs2 q0 q1, either_l y0 y1.1 y1.2.1 y1.2.2 s0⟩
theorem barrelEither_holds : Rows.BarrelEitherSaid :=
  OpenClaim.holds_of_wide 14 Try.f14 rfl rfl rfl rfl rfl rfl rfl ⟨rfl, rfl, rfl, rfl, rfl⟩ rfl rfl rfl rfl rfl (by kernel_rfl) Try.func14 (by kernel_rfl)
    (of_decide_eq_true (by kernel_rfl)) (by unfold Func.isWrapper; first | (rw [if_pos (by decide +kernel)]; kernel_rfl) | (rw [if_neg (by decide +kernel)]; exact ⟨rfl, rfl⟩))
    (fun os started H enc _ => barrelEither_lifted os started H enc)
end Go.Proofs.Ytampldajinhenaa

