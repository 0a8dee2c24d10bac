/- BarrelProves holds: Proves returns what the specification says, and Proof a set that proves, unless the book balances. No condition. -/
import Derived.Test.YtampldajinhenaaK6
set_option linter.all false
namespace Go.AL.Br
open Go Go.AL Go.AL.Q
def bitB (set k : Int) : Bool := bitV set k == 1
def mr1 (set wo : Int) (i : Nat) (m : Mv) (n : Int) : Int := if cond (cond ((i : Int) != wo) (bitB set m.fr) false) (!bitB set m.to) false then n + m.lo else n
def mr2 (set wo : Int) (i : Nat) (m : Mv) (n : Int) : Int := if cond (cond ((i : Int) != wo) (bitB set m.to) false) (!bitB set m.fr) false then n - m.hi else n
def mrStep (set wo : Int) (ms : List Mv) (n : Int) (i : Nat) : Int := mr2 set wo i (mvk ms i) (mr1 set wo i (mvk ms i) n)
def moreK (set wo : Int) (ms : List Mv) (k : Nat) : Int := (List.range k).foldl (mrStep set wo ms) 0
def moreF (set wo : Int) (ms : List Mv) : Int := moreK set wo ms ms.length
theorem moreK_succ (set wo : Int) (ms : List Mv) (k : Nat) : moreK set wo ms (k + 1) = mr2 set wo k (mvk ms k) (mr1 set wo k (mvk ms k) (moreK set wo ms k)) := by
  unfold moreK; rw [List.range_succ, List.foldl_append]; rfl
theorem mr1_bd {n : Int} {set wo : Int} {i : Nat} {m : Mv} (h : m.Ok n) (x : Int) : x ≤ mr1 set wo i m x ∧ mr1 set wo i m x ≤ x + 1000 := by
  have := h.k
  unfold mr1; split <;> omega
theorem mr2_bd {n : Int} {set wo : Int} {i : Nat} {m : Mv} (h : m.Ok n) (x : Int) : x - 1000 ≤ mr2 set wo i m x ∧ mr2 set wo i m x ≤ x := by
  have := h.k
  unfold mr2; split <;> omega
theorem moreK_bd {n : Int} {set wo : Int} {ms : List Mv} (h : ∀ m ∈ ms, m.Ok n) : ∀ k : Nat, k ≤ ms.length → -(1000 * (k : Int)) ≤ moreK set wo ms k ∧ moreK set wo ms k ≤ 1000 * (k : Int)
  | 0, _ => by simp [moreK]
  | k + 1, hk => by
    have ih := moreK_bd (set := set) (wo := wo) h k (by omega)
    have hm := h _ (mvk_mem (show k < ms.length by omega))
    rw [moreK_succ]
    have h1 := mr1_bd (set := set) (wo := wo) (i := k) hm (moreK set wo ms k)
    have h2 := mr2_bd (set := set) (wo := wo) (i := k) hm (mr1 set wo k (mvk ms k) (moreK set wo ms k))
    omega
def prGo (ms : List Mv) : Nat → Nat → Int
  | 0, _ => -1
  | f + 1, s => if moreF s (-1) ms > 0 then s else prGo ms f (s + 1)
def proofS (n : Int) (ms : List Mv) : Int := prGo ms (2 ^ n.toNat) 0
theorem prGo_neg {ms : List Mv} : ∀ (f s : Nat), prGo ms f s < 0 ↔ ∀ t, s ≤ t → t < s + f → ¬ moreF t (-1) ms > 0
  | 0, s => ⟨fun _ t h1 h2 => by omega, fun _ => (show (-1 : Int) < 0 by decide)⟩
  | f + 1, s => by
    rw [prGo]
    have ih := prGo_neg (ms := ms) f (s + 1)
    split
    · rename_i h
      exact ⟨fun h1 => by omega, fun h1 => absurd h (h1 s (Nat.le_refl _) (by omega))⟩
    · rename_i h
      rw [ih]
      exact ⟨fun h1 t h2 h3 => by
        rcases Nat.eq_or_lt_of_le h2 with e | h4
        · exact e ▸ h
        · exact h1 t h4 (by omega), fun h1 t h2 h3 => h1 t (by omega) (by omega)⟩
def BalancesR (b : Book) : Bool × Int := if b.ok then (decide (proofS b.n b.ms < 0), 0) else (false, 63)
def rProvesR (b : Book) (set : Int) : Bool × Int :=
  if b.ok then if wi set 0 (2 ^ b.n.toNat - 1) then (decide (moreF set (-1) b.ms > 0), 0) else (false, 64) else (false, 63)
end Go.AL.Br

namespace Go.AL.Br
open Go Go.AL Go.AL.Q
def sumN (f : Nat → Int) : Nat → Int
  | 0 => 0
  | n + 1 => sumN f n + f n
def ifc (b : Bool) (c : Int) : Int := if b then c else 0
def flK (q : Int → Bool) (ms : List Mv) (cs : List Int) : Nat → Int
  | 0 => 0
  | k + 1 => flK q ms cs k + ifc (q (mvk ms k).to) (cs.getD k 0) - ifc (q (mvk ms k).fr) (cs.getD k 0)
theorem ov_flK {ms : List Mv} {cs : List Int} (hl : ms.length = cs.length) (s : Int) : ∀ k, k ≤ ms.length → ov (ms.take k) (cs.take k) s = flK (fun t => decide (t = s)) ms cs k
  | 0, _ => by simp [ov, flK]
  | k + 1, hk => by
    have h1 : k < ms.length := by omega
    have h2 : k < cs.length := by omega
    have ih := ov_flK hl s k (by omega)
    rw [List.take_succ_eq_append_getElem h1, List.take_succ_eq_append_getElem h2, ov_snoc _ _ _ (by rw [List.length_take, List.length_take]; omega), ih, flK, mvk_get h1]
    have e : cs.getD k 0 = cs[k] := by simp [List.getD_eq_getElem?_getD, h2]
    rw [e]
    unfold ifc
    simp only [decide_eq_true_eq]
theorem ov_fl {ms : List Mv} {cs : List Int} (hl : ms.length = cs.length) (s : Int) : ov ms cs s = flK (fun t => decide (t = s)) ms cs ms.length := by
  have := ov_flK hl s ms.length (Nat.le_refl _)
  rwa [List.take_length, hl, List.take_length, ← hl] at this
theorem sum_step (q : Int → Bool) (X : Nat → Int) (to fr c : Int) : ∀ n : Nat, sumN (fun s => ifc (q s) (X s + ifc (decide (to = (s : Int))) c - ifc (decide (fr = (s : Int))) c)) n = sumN (fun s => ifc (q s) (X s)) n + ifc (decide (0 ≤ to ∧ to < n) && q to) c - ifc (decide (0 ≤ fr ∧ fr < n) && q fr) c
  | 0 => by
    have h1 : ∀ t : Int, decide (0 ≤ t ∧ t < ((0 : Nat) : Int)) = false := fun t => decide_eq_false (by omega)
    rw [h1, h1]; simp [sumN, ifc]
  | n + 1 => by
    have ih := sum_step q X to fr c n
    have key : ∀ t : Int, ifc (decide (0 ≤ t ∧ t < ((n + 1 : Nat) : Int)) && q t) c = ifc (decide (0 ≤ t ∧ t < (n : Int)) && q t) c + ifc (decide (t = (n : Int)) && q n) c := fun t => by
      by_cases e : t = (n : Int)
      · subst e
        rw [decide_eq_true (show 0 ≤ (n : Int) ∧ (n : Int) < ((n + 1 : Nat) : Int) by omega), decide_eq_false (show ¬ (0 ≤ (n : Int) ∧ (n : Int) < (n : Int)) by omega), decide_eq_true rfl]
        simp [ifc]
      · rw [decide_eq_false e]
        by_cases h : 0 ≤ t ∧ t < (n : Int)
        · rw [decide_eq_true h, decide_eq_true (show 0 ≤ t ∧ t < ((n + 1 : Nat) : Int) by omega)]; simp [ifc]
        · rw [decide_eq_false h, decide_eq_false (show ¬ (0 ≤ t ∧ t < ((n + 1 : Nat) : Int)) by omega)]; simp [ifc]
    rw [sumN, sumN, ih, key to, key fr]
    by_cases hq : q n = true
    · rw [hq]; simp only [Bool.and_true]
      show _ + (X n + ifc (decide (to = n)) c - ifc (decide (fr = n)) c) = _ + X n + _ - _
      generalize ifc (decide (to = n)) c = u
      generalize ifc (decide (fr = n)) c = v
      show _ = _
      omega
    · have hq : q n = false := by simpa using hq
      rw [hq]; simp [ifc]
theorem sum_fl {n : Nat} {q : Int → Bool} {ms : List Mv} {cs : List Int} (h : ∀ m ∈ ms, (0 ≤ m.fr ∧ m.fr < n) ∧ 0 ≤ m.to ∧ m.to < n) : ∀ k, k ≤ ms.length → sumN (fun s => ifc (q s) (flK (fun t => decide (t = (s : Int))) ms cs k)) n = flK q ms cs k
  | 0, _ => by
    have : ∀ n, sumN (fun s => ifc (q s) (flK (fun t => decide (t = (s : Int))) ms cs 0)) n = 0 := by
      intro n
      induction n with
      | zero => rfl
      | succ n ih => rw [sumN, ih]; unfold ifc flK; split <;> rfl
    exact this n
  | k + 1, hk => by
    have ih := sum_fl h k (by omega) (q := q) (cs := cs)
    have hm := h _ (mvk_mem (show k < ms.length by omega))
    have := sum_step q (fun s => flK (fun t => decide (t = (s : Int))) ms cs k) (mvk ms k).to (mvk ms k).fr (cs.getD k 0) n
    rw [ih, decide_eq_true hm.1, decide_eq_true hm.2, Bool.true_and, Bool.true_and] at this
    exact this
theorem sum_cut {n : Int} (hn : 0 ≤ n) {q : Int → Bool} {ms : List Mv} {cs : List Int} (hl : ms.length = cs.length) (h : ∀ m ∈ ms, m.Ok n) : sumN (fun s => ifc (q s) (ov ms cs s)) n.toNat = flK q ms cs ms.length := by
  have e : (fun s : Nat => ifc (q s) (ov ms cs s)) = fun s : Nat => ifc (q s) (flK (fun t => decide (t = (s : Int))) ms cs ms.length) := funext fun s => by rw [ov_fl hl]
  rw [e]
  refine sum_fl (fun m hm => ?_) ms.length (Nat.le_refl _)
  have h1 := (h m hm).f
  have h2 := (h m hm).t
  omega
theorem flK_true (ms : List Mv) (cs : List Int) : ∀ k, flK (fun _ => true) ms cs k = 0
  | 0 => rfl
  | k + 1 => by rw [flK, flK_true ms cs k]; simp [ifc]
theorem sumN_neg {f : Nat → Int} : ∀ {n : Nat}, (∀ i, i < n → f i ≤ 0) → sumN f n ≤ 0
  | 0, _ => Int.le_refl _
  | n + 1, h => by
    have := sumN_neg (f := f) (n := n) fun i hi => h i (by omega)
    have := h n (by omega)
    rw [sumN]; omega
theorem sumN_zero {f : Nat → Int} : ∀ {n : Nat}, (∀ i, i < n → f i ≤ 0) → sumN f n = 0 → ∀ i, i < n → f i = 0
  | 0, _, _, i, hi => by omega
  | n + 1, h, e, i, hi => by
    rw [sumN] at e
    have h1 := sumN_neg (f := f) (n := n) fun i hi => h i (by omega)
    have h2 := h n (by omega)
    rcases Nat.lt_succ_iff_lt_or_eq.1 hi with h3 | rfl
    · exact sumN_zero (fun i hi => h i (by omega)) (by omega) i h3
    · omega
theorem sumN_pos {f : Nat → Int} : ∀ {n : Nat}, (∀ i, i < n → 0 ≤ f i) → ∀ i, i < n → f i ≤ sumN f n
  | 0, _, i, hi => by omega
  | n + 1, h, i, hi => by
    have h0 : ∀ m, m ≤ n → 0 ≤ sumN f m := by
      intro m
      induction m with
      | zero => intro _; exact Int.le_refl _
      | succ m ih => intro hm; rw [sumN]; have := ih (by omega); have := h m (by omega); omega
    rw [sumN]
    rcases Nat.lt_succ_iff_lt_or_eq.1 hi with h3 | rfl
    · have := sumN_pos (f := f) (n := n) (fun i hi => h i (by omega)) i h3
      have := h n (by omega)
      omega
    · have := h0 i (Nat.le_refl _)
      omega
theorem sumN_split {q : Int → Bool} {X : Nat → Int} : ∀ n : Nat, sumN (fun s => ifc (q s) (X s)) n + sumN (fun s => ifc (!q s) (X s)) n = sumN (fun s => ifc true (X s)) n
  | 0 => rfl
  | n + 1 => by
    have ih := sumN_split (q := q) (X := X) n
    simp only [sumN]
    cases q n <;> simp [ifc] at ih ⊢ <;> omega
def cutK (q : Int → Bool) (ms : List Mv) : Nat → Int
  | 0 => 0
  | k + 1 => cutK q ms k + ifc (q (mvk ms k).fr && !q (mvk ms k).to) (mvk ms k).lo - ifc (q (mvk ms k).to && !q (mvk ms k).fr) (mvk ms k).hi
theorem more_cut (set : Int) (ms : List Mv) : ∀ k, moreK set (-1) ms k = cutK (bitB set) ms k
  | 0 => rfl
  | k + 1 => by
    rw [moreK_succ, more_cut set ms k, cutK]
    have e : ((k : Int) != -1) = true := by simp
    unfold mr2 mr1
    rw [e]
    cases bitB set (mvk ms k).fr <;> cases bitB set (mvk ms k).to <;> simp [ifc]
theorem cut_le {q : Int → Bool} {ms : List Mv} {cs : List Int} (hf : Feas ms cs) : ∀ k, k ≤ ms.length → cutK q ms k ≤ - flK q ms cs k
  | 0, _ => by simp [cutK, flK]
  | k + 1, hk => by
    have ih := cut_le (q := q) hf k (by omega)
    have hb := hf.b k (by omega)
    rw [cutK, flK]
    generalize cs.getD k 0 = c at *
    cases q (mvk ms k).fr <;> cases q (mvk ms k).to <;> simp [ifc] <;> omega
theorem cut_eq {q : Int → Bool} {ms : List Mv} {cs : List Int} (h : ∀ k, k < ms.length → (q (mvk ms k).fr = true → q (mvk ms k).to = false → cs.getD k 0 = (mvk ms k).lo) ∧ (q (mvk ms k).to = true → q (mvk ms k).fr = false → cs.getD k 0 = (mvk ms k).hi)) : ∀ k, k ≤ ms.length → cutK q ms k = - flK q ms cs k
  | 0, _ => by simp [cutK, flK]
  | k + 1, hk => by
    have ih := cut_eq (q := q) h k (by omega)
    have hb := h k (by omega)
    rw [cutK, flK]
    generalize cs.getD k 0 = c at *
    cases h1 : q (mvk ms k).fr <;> cases h2 : q (mvk ms k).to <;> simp [ifc]
    · omega
    · have := hb.2 h2 h1; omega
    · have := hb.1 h1 h2; omega
    · omega
theorem feas_more {n : Int} (hn : 2 ≤ n ∧ n ≤ 6) {ms : List Mv} (hms : ∀ m ∈ ms, m.Ok n) {cs : List Int} (hf : Feas ms cs) (hz : ∀ s : Nat, s < n.toNat → ov ms cs s = 0) (set : Int) : moreF set (-1) ms ≤ 0 := by
  unfold moreF
  rw [more_cut]
  have h1 := cut_le (q := bitB set) hf ms.length (Nat.le_refl _)
  have h2 := sum_cut (n := n) (by omega) (q := bitB set) hf.l hms
  have h3 : sumN (fun s => ifc (bitB set s) (ov ms cs s)) n.toNat = 0 := by
    have : ∀ m, m ≤ n.toNat → sumN (fun s => ifc (bitB set s) (ov ms cs s)) m = 0 := by
      intro m
      induction m with
      | zero => intro _; rfl
      | succ m ih => intro hm; rw [sumN, ih (by omega), hz m (by omega)]; unfold ifc; split <;> rfl
    exact this _ (Nat.le_refl _)
  omega
theorem fin_zero {n : Int} (hn : 2 ≤ n ∧ n ≤ 6) {ms : List Mv} (hms : ∀ m ∈ ms, m.Ok n) {cs : List Int} (hf : Feas ms cs) (h : ∀ s : Nat, s < n.toNat → ov ms cs s ≤ 0) : ∀ s : Nat, s < n.toNat → ov ms cs s = 0 := by
  have h2 := sum_cut (n := n) (by omega) (q := fun _ => true) hf.l hms
  rw [flK_true] at h2
  have := sumN_zero (f := fun s : Nat => ifc true (ov ms cs s)) (n := n.toNat) (fun i hi => by show ifc true (ov ms cs i) ≤ 0; unfold ifc; rw [if_pos rfl]; exact h i hi) h2
  intro s hs
  have := this s hs
  unfold ifc at this
  rwa [if_pos rfl] at this
theorem negGo_none {ms : List Mv} {cs L : List Int} {a : Int} : ∀ (ss : List Nat) (rch : List Int), (negGo ms cs L a ss rch).1 = none →
    (∀ s ∈ ss, L.getD s 0 < 0 → (wayW ms cs a s (-1)).1 = none) ∧ ((∀ s ∈ ss, ¬ L.getD s 0 < 0) ∧ (negGo ms cs L a ss rch).2 = rch ∨ ∃ s ∈ ss, L.getD s 0 < 0 ∧ (negGo ms cs L a ss rch).2 = (wayW ms cs a s (-1)).2)
  | [], rch, _ => ⟨fun s h => (by cases h), .inl ⟨fun s h => (by cases h), rfl⟩⟩
  | s :: ss, rch, h => by
    rw [negGo] at h ⊢
    by_cases h1 : L.getD s 0 ≥ 0
    · rw [if_pos h1] at h ⊢
      obtain ⟨k1, k2⟩ := negGo_none ss rch h
      refine ⟨fun t ht hn => ?_, ?_⟩
      · rcases List.mem_cons.1 ht with rfl | ht
        · omega
        · exact k1 t ht hn
      · rcases k2 with ⟨k2, k3⟩ | ⟨t, ht, k2, k3⟩
        · refine .inl ⟨fun t ht => ?_, k3⟩
          rcases List.mem_cons.1 ht with rfl | ht
          · omega
          · exact k2 t ht
        · exact .inr ⟨t, List.mem_cons_of_mem _ ht, k2, k3⟩
    · rw [if_neg h1] at h ⊢
      cases hw : (wayW ms cs a s (-1)).1 with
      | some l => rw [hw] at h; cases h
      | none =>
        rw [hw] at h
        simp only at h ⊢
        obtain ⟨k1, k2⟩ := negGo_none ss _ h
        refine ⟨fun t ht hn => ?_, ?_⟩
        · rcases List.mem_cons.1 ht with rfl | ht
          · exact hw
          · exact k1 t ht hn
        · rcases k2 with ⟨k2, k3⟩ | ⟨t, ht, k2, k3⟩
          · exact .inr ⟨s, List.mem_cons_self .., by omega, k3⟩
          · exact .inr ⟨t, List.mem_cons_of_mem _ ht, k2, k3⟩
theorem stuck_more {n : Int} (hn : 2 ≤ n ∧ n ≤ 6) {ms : List Mv} (hms : ∀ m ∈ ms, m.Ok n) {cs : List Int} (hf : Feas ms cs) {a : Nat} (ha : firstPos (ovL n ms cs) = some a)
    (hg : (negGo ms cs (ovL n ms cs) a (List.range n.toNat) []).1 = none) {set : Int} (hs : ∀ s : Nat, s < n.toNat → bitB set s = !(negGo ms cs (ovL n ms cs) a (List.range n.toNat) []).2.contains (s : Int)) : moreF set (-1) ms > 0 := by
  obtain ⟨h1, h2⟩ := firstPos_some ha
  rw [ovL_len] at h1
  have gL : ∀ s : Nat, s < n.toNat → (ovL n ms cs).getD s 0 = ov ms cs s := fun s hs => by
    have := ovL_get (n := n) (ms := ms) (cs := cs) (s := (s : Int)) (by omega)
    rwa [Int.toNat_natCast] at this
  rw [gL a h1] at h2
  obtain ⟨k1, k2⟩ := negGo_none _ _ hg
  have hain : 0 ≤ (a : Int) ∧ (a : Int) < n := by omega
  have hw : ∀ s : Nat, s < n.toNat → ov ms cs s < 0 → WayIs n ms cs a s (-1) ∧ (wayW ms cs a s (-1)).1 = none := fun s hs hneg =>
    ⟨way_is hn hms hf (fr := (a : Int)) (to := (s : Int)) (wo := -1) hain (fun e => by rw [e] at h2; omega), k1 s (List.mem_range.2 hs) (by rw [gL s hs]; exact hneg)⟩
  rcases k2 with ⟨k2, _⟩ | ⟨t, ht, k2, k3⟩
  · exfalso
    have hz : ∀ s : Nat, s < n.toNat → 0 ≤ ov ms cs s := fun s hs => by
      have := k2 s (List.mem_range.2 hs)
      rw [gL s hs] at this; omega
    have h3 := sum_cut (n := n) (by omega) (q := fun _ => true) hf.l hms
    rw [flK_true] at h3
    have h4 := sumN_pos (f := fun s : Nat => ifc true (ov ms cs s)) (n := n.toNat) (fun i hi => by show 0 ≤ ifc true (ov ms cs i); unfold ifc; rw [if_pos rfl]; exact hz i hi) a h1
    have h5 : ifc true (ov ms cs a) = ov ms cs a := by unfold ifc; rw [if_pos rfl]
    rw [h5] at h4
    omega
  · have ht := List.mem_range.1 ht
    rw [gL t ht] at k2
    rw [k3] at hs
    obtain ⟨wt, wn⟩ := hw t ht k2
    have hcl := (wt.not wn).2
    have hno : ∀ s : Nat, s < n.toNat → ov ms cs s < 0 → (s : Int) ∉ (wayW ms cs a t (-1)).2 := fun s hs hneg hin => by
      obtain ⟨ws, wsn⟩ := hw s hs hneg
      have hc := ws.not wsn
      have := wt.min (fun x => x ∈ (wayW ms cs a s (-1)).2) (fun x hx => hc.2 x hx) ws.fr' s hin
      exact hc.1 this
    have hfr := wt.fr'
    generalize (wayW ms cs a t (-1)).2 = rch at *
    have hbq : ∀ s : Int, 0 ≤ s ∧ s < n → (bitB set s = false ↔ s ∈ rch) := fun s h => by
      have := hs s.toNat (by omega)
      rw [show ((s.toNat : Nat) : Int) = s by omega] at this
      rw [this, Bool.not_eq_false', List.contains_iff_mem]
    unfold moreF
    rw [more_cut, cut_eq (q := bitB set) (cs := cs) (fun k hk => ?_) ms.length (Nat.le_refl _)]
    rotate_left
    · have hmo := hms _ (mvk_mem hk)
      have hb := hf.b k hk
      have hfi := hmo.f
      have hti := hmo.t
      refine ⟨fun x1 x2 => ?_, fun x1 x2 => ?_⟩
      · have y2 := (hbq _ hti).1 x2
        have y1 : (mvk ms k).fr ∉ rch := fun h => by have := (hbq _ hfi).2 h; rw [x1] at this; cases this
        have := hcl _ y2 k hk
        refine Classical.byContradiction fun hne => y1 ?_
        have h9 := this ⟨by omega, .inr ⟨rfl, by omega⟩⟩
        unfold nxS at h9
        rwa [if_pos rfl] at h9
      · have y2 := (hbq _ hfi).1 x2
        have y1 : (mvk ms k).to ∉ rch := fun h => by have := (hbq _ hti).2 h; rw [x1] at this; cases this
        have := hcl _ y2 k hk
        refine Classical.byContradiction fun hne => y1 ?_
        have h9 := this ⟨by omega, .inl ⟨rfl, by omega⟩⟩
        unfold nxS at h9
        rwa [if_neg hmo.ne] at h9
    · have h3 := sum_cut (n := n) (by omega) (q := bitB set) hf.l hms
      have h4 := sum_cut (n := n) (by omega) (q := fun _ => true) hf.l hms
      rw [flK_true] at h4
      have h5 := sumN_split (q := bitB set) (X := fun s => ov ms cs s) n.toNat
      have h6 := sumN_pos (f := fun s : Nat => ifc (!bitB set s) (ov ms cs s)) (n := n.toNat) (fun i hi => by
        show 0 ≤ ifc (!bitB set i) (ov ms cs i)
        unfold ifc
        split
        · rename_i hb
          have hb : bitB set i = false := by simpa using hb
          have h7 := (hbq i (by omega)).1 hb
          by_cases h8 : ov ms cs i < 0
          · exact absurd h7 (hno i hi h8)
          · omega
        · exact Int.le_refl _) a h1
      have h7 : bitB set a = false := (hbq a hain).2 hfr
      have h8 : ifc (!bitB set a) (ov ms cs a) = ov ms cs a := by rw [h7]; rfl
      rw [h8] at h6
      have h5' : sumN (fun s => ifc (bitB set s) (ov ms cs s)) n.toNat + sumN (fun s => ifc (!bitB set s) (ov ms cs s)) n.toNat = sumN (fun s => ifc true (ov ms cs s)) n.toNat := h5
      omega
end Go.AL.Br

namespace Go.AL.Br
open Go Go.AL Go.AL.Q
theorem bits : ∀ k : Nat, k < 6 → ∀ p : Nat, p < 2 ^ k → (∀ i : Nat, i < k → bitV ((p : Int) + 2 ^ k) i = bitV p i) ∧ bitV ((p : Int) + 2 ^ k) k = 1 ∧ bitV p k = 0 := by decide +kernel
theorem bit01 : ∀ p : Nat, p < 64 → ∀ i : Nat, i < 6 → bitV p i = 0 ∨ bitV p i = 1 := by decide +kernel
def prStep' (rch : List Int) (p : Int) (s : Nat) : Int := if rch.contains (s : Int) then p else p + 2 ^ s
theorem prf_bits (rch : List Int) : ∀ k : Nat, k ≤ 6 → ∃ p : Nat, (List.range k).foldl (prStep' rch) 0 = p ∧ p < 2 ^ k ∧ ∀ s : Nat, s < k → bitB p s = !rch.contains (s : Int)
  | 0, _ => ⟨0, rfl, by decide, fun s h => by omega⟩
  | k + 1, h => by
    obtain ⟨p, e, hp, hb⟩ := prf_bits rch k (by omega)
    obtain ⟨h1, h2, h3⟩ := bits k (by omega) p hp
    have hpow : 2 ^ (k + 1) = 2 ^ k * 2 := Nat.pow_succ ..
    rw [List.range_succ, List.foldl_append, e]
    by_cases hc : rch.contains (k : Int) = true
    · refine ⟨p, by show prStep' rch p k = p; unfold prStep'; rw [if_pos hc], by omega, fun s hs => ?_⟩
      rcases Nat.lt_succ_iff_lt_or_eq.1 hs with h4 | rfl
      · exact hb s h4
      · rw [hc]; unfold bitB; rw [h3]; rfl
    · refine ⟨p + 2 ^ k, by show prStep' rch p k = _; unfold prStep'; rw [if_neg hc]; push_cast; rfl, by omega, fun s hs => ?_⟩
      have ec : ((p + 2 ^ k : Nat) : Int) = (p : Int) + 2 ^ k := by push_cast; rfl
      rw [ec]
      rcases Nat.lt_succ_iff_lt_or_eq.1 hs with h4 | rfl
      · have := hb s h4
        unfold bitB at this ⊢
        rw [h1 s h4]; exact this
      · have hc : rch.contains (s : Int) = false := by simpa using hc
        rw [hc]; unfold bitB; rw [h2]; rfl
theorem balF_none {n : Int} (hn : 2 ≤ n ∧ n ≤ 6) {ms : List Mv} (hms : ∀ m ∈ ms, m.Ok n) : ∀ (f : Nat) (cs : List Int), Feas ms cs → phi n ms cs < f → (balF n ms f cs).1 = none → moreF (balF n ms f cs).2 (-1) ms > 0 ∧ 0 ≤ (balF n ms f cs).2 ∧ (balF n ms f cs).2 < 2 ^ n.toNat
  | 0, cs, hf, hp, h => by omega
  | f + 1, cs, hf, hp, h => by
    rw [balF] at h ⊢
    cases hfp : firstPos (ovL n ms cs) with
    | none => rw [hfp] at h; cases h
    | some a =>
      rw [hfp] at h
      simp only at h ⊢
      cases hg : (negGo ms cs (ovL n ms cs) a (List.range n.toNat) []).1 with
      | some l =>
        rw [hg] at h
        simp only at h ⊢
        have hst := bal_step hn hms hf hfp hg
        exact balF_none hn hms f _ hst.1 (by omega) h
      | none =>
        simp only
        obtain ⟨p, e, hp2, hb⟩ := prf_bits (negGo ms cs (ovL n ms cs) a (List.range n.toNat) []).2 n.toNat (by omega)
        have e2 : prfV n (negGo ms cs (ovL n ms cs) a (List.range n.toNat) []).2 = p := e
        rw [e2]
        refine ⟨stuck_more hn hms hf hfp hg hb, by omega, ?_⟩
        have : ((2 ^ n.toNat : Nat) : Int) = 2 ^ n.toNat := by push_cast; rfl
        omega
theorem balF_some {n : Int} (hn : 2 ≤ n ∧ n ≤ 6) {ms : List Mv} (hms : ∀ m ∈ ms, m.Ok n) : ∀ (f : Nat) (cs : List Int), Feas ms cs → ∀ l, (balF n ms f cs).1 = some l → Feas ms l ∧ ∀ s : Nat, s < n.toNat → ov ms l s = 0
  | 0, cs, hf, l, h => by cases h
  | f + 1, cs, hf, l, h => by
    rw [balF] at h
    cases hp : firstPos (ovL n ms cs) with
    | none =>
      rw [hp] at h
      have h : some cs = some l := h
      cases h
      refine ⟨hf, fin_zero hn hms hf fun s hs => ?_⟩
      have h1 := List.findIdx?_eq_none_iff.1 hp
      have h2 := ovL_get (n := n) (ms := ms) (cs := cs) (s := (s : Int)) (by omega)
      rw [Int.toNat_natCast] at h2
      have hl := ovL_len n ms cs
      have e : (ovL n ms cs).getD s 0 = (ovL n ms cs)[s]'(by omega) := by simp [List.getD_eq_getElem?_getD, show s < (ovL n ms cs).length by omega]
      have := h1 _ (List.getElem_mem (show s < (ovL n ms cs).length by omega))
      rw [← e, h2] at this
      simpa using this
    | some a =>
      rw [hp] at h
      simp only at h
      cases hg : (negGo ms cs (ovL n ms cs) a (List.range n.toNat) []).1 with
      | none => rw [hg] at h; cases h
      | some st =>
        rw [hg] at h
        exact balF_some hn hms f _ (bal_step hn hms hf hp hg).1 l h
theorem BalW_some {b : Book} (hb : b.Ok) {cs : List Int} (h : (BalW b).1 = some cs) : Feas b.ms cs ∧ ∀ s : Nat, s < b.n.toNat → ov b.ms cs s = 0 := balF_some hb.n hb.m _ _ (lows_feas hb.m) cs h
theorem BalW_none {b : Book} (hb : b.Ok) (h : (BalW b).1 = none) : moreF (BalW b).2 (-1) b.ms > 0 ∧ 0 ≤ (BalW b).2 ∧ (BalW b).2 < 2 ^ b.n.toNat := balF_none hb.n hb.m _ _ (lows_feas hb.m) (Nat.lt_succ_self _) h
theorem pv_more {n : Int} (hn : 2 ≤ n ∧ n ≤ 6) {ms : List Mv} (hms : ∀ m ∈ ms, m.Ok n) {set : Int} (hs : 0 ≤ set ∧ set < 64) : ∀ k, k ≤ ms.length → (ms.take k).foldl (pvStep set) 0 = moreK set (-1) ms k
  | 0, _ => rfl
  | k + 1, hk => by
    have hlt : k < ms.length := by omega
    have ih := pv_more hn hms hs k (by omega)
    have hmo := hms _ (mvk_mem hlt)
    rw [List.take_succ_eq_append_getElem hlt, List.foldl_append, ih, moreK_succ]
    rw [mvk_get hlt] at hmo ⊢
    generalize ms[k] = m at *
    generalize moreK set (-1) ms k = v at *
    have hf := hmo.f
    have ht := hmo.t
    have f01 := bit01 set.toNat (by omega) m.fr.toNat (by omega)
    have t01 := bit01 set.toNat (by omega) m.to.toNat (by omega)
    rw [show ((set.toNat : Nat) : Int) = set by omega, show ((m.fr.toNat : Nat) : Int) = m.fr by omega] at f01
    rw [show ((set.toNat : Nat) : Int) = set by omega, show ((m.to.toNat : Nat) : Int) = m.to by omega] at t01
    show pvStep set v m = _
    have e : ((k : Int) != -1) = true := by simp
    unfold pvStep mr2 mr1 bitB
    rw [e]
    rcases f01 with f | f <;> rcases t01 with t | t <;> rw [f, t] <;> simp
theorem proves_is (b : Book) (set : Int) : rProvesR b set = ProvesR b set := by
  unfold rProvesR ProvesR
  by_cases h1 : b.ok = true
  · rw [if_pos h1, if_pos h1]
    have hb := Book.ok_iff.1 h1
    have hn := hb.n
    by_cases h2 : wi set 0 (2 ^ b.n.toNat - 1) = true
    · rw [if_pos h2, if_pos h2]
      have h3 := wi_iff.1 h2
      have hp : (2 : Int) ^ b.n.toNat ≤ 64 := by
        rcases (show b.n.toNat = 2 ∨ b.n.toNat = 3 ∨ b.n.toNat = 4 ∨ b.n.toNat = 5 ∨ b.n.toNat = 6 by omega) with e | e | e | e | e <;> rw [e] <;> decide
      have := pv_more hn hb.m (set := set) (by omega) b.ms.length (Nat.le_refl _)
      rw [List.take_length] at this
      unfold moreF pvF
      rw [this]
    · rw [if_neg h2, if_neg h2]
  · rw [if_neg h1, if_neg h1]
theorem proof_neg {b : Book} (hb : b.Ok) {cs : List Int} (h : (BalW b).1 = some cs) : proofS b.n b.ms < 0 := by
  obtain ⟨h1, h2⟩ := BalW_some hb h
  refine (prGo_neg _ _).2 fun t _ _ => ?_
  have := feas_more hb.n hb.m h1 h2 t
  omega
theorem proof_pos {b : Book} (hb : b.Ok) (h : (BalW b).1 = none) : ¬ proofS b.n b.ms < 0 := by
  obtain ⟨h1, h2, h3⟩ := BalW_none hb h
  intro h4
  have h5 := (prGo_neg _ _).1 h4 (BalW b).2.toNat (Nat.zero_le _) (by
    have : ((2 ^ b.n.toNat : Nat) : Int) = 2 ^ b.n.toNat := by push_cast; rfl
    omega)
  rw [show (((BalW b).2.toNat : Nat) : Int) = (BalW b).2 by omega] at h5
  exact h5 h1
end Go.AL.Br

namespace Go.Proofs.Ytampldajinhenaa
open Go Go.AL Go.AL.Q Go.AL.Br
theorem book_raB (b : Book) : raB b.b0 (fun i => mvOk b.n (mvk b.ms i)) b.ms.length = b.ok := by
  rw [Bool.eq_iff_iff, raB_iff, Book.ok_iff, Book.b0_iff]
  constructor
  · rintro ⟨⟨h1, h2⟩, h3⟩
    refine ⟨h1, h2, fun c hc => ?_⟩
    obtain ⟨i, hi, rfl⟩ := List.getElem_of_mem hc
    have := h3 i hi
    rw [mvk_get hi] at this
    exact mvOk_iff.1 this
  · rintro ⟨h1, h2, h3⟩
    exact ⟨⟨h1, h2⟩, fun i hi => by rw [mvk_get hi]; exact mvOk_iff.2 (h3 _ (List.getElem_mem hi))⟩
theorem mvk_at {l : List Mv} {k : Nat} (h : k < l.length) : (l.map Mv.c)[k]? = some (mvk l k).c := by rw [mvk_get h]; exact get_map h
theorem rbook_chk (b : Book) (hl : (b.ms.length : Int) ≤ 9223372036854775806) : Ans Try.prog 36 [.agg b.c] (.int b.chk) := by
  have ll : ((b.ms.map Mv.c).length : Int) = b.ms.length := by simp
  have ub : ∀ {m : Nat}, Under m (A.pt b.c) := (Free.pt _ b.free).under
  refine told Try.func36 rfl rfl (Pure.of tab_ok Try.func36 rfl Try.ntmps36 rfl (all1 (.agg _ b.free)) (all1 (fun _ => rfl)) (by first | exact .s _ | assumption | exact .tup _ (by intro x hx; simp only [List.mem_cons, List.not_mem_nil, or_false] at hx; rcases hx with rfl | rfl | rfl | rfl <;> first | exact .s _ | (simp_all; done))) fun E hE => ?_)
  refine Aw.sm tab_ok mb0 [] rfl rfl ?zo ?zk
  case zo =>
    repeat' apply AllP.cons
    all_goals first | exact trivial
  case zk =>
  refine Aw.sm tab_ok mb0 [(2, [.bool (wi b.n 2 6)]), (7, [.bool (wi b.ms.length 1 10)])] rfl rfl ?zo ?zk
  case zo =>
    repeat' apply AllP.cons
    all_goals first | exact trivial | exact id | exact fun _ => rfl | exact Nat.le_of_ble_eq_true rfl | exact fun _ => Nat.le_of_ble_eq_true rfl | exact in_t _ _ _ | exact (by rw [ll]; exact (in_t _ _ _).un)
  case zk =>
  refine Aw.seq ?_
  refine Aw.sm tab_ok mb0 [] rfl rfl ?zo ?zk
  case zo =>
    repeat' apply AllP.cons
    all_goals first | exact trivial
  case zk =>
  refine Aw.block (Aw.rounds 0 hE [(1, .pt b.c)] (fun k : Nat => [(3, .bool (raB b.b0 (fun i => mvOk b.n (mvk b.ms i)) k)), (4, .int k)]) (fun k => []) (fun k => k ≤ b.ms.length) (fun k => b.ms.length - k) 0 ?zg ⟨?zc, ?zv, ?zh, Nat.le_of_ble_eq_true rfl⟩ ?zu (fun k zhk => ?zw) (fun k zhk => ?zx) fun k hk => ?zr)
  case zg =>
    (repeat' (first | exact Nat.zero_le _))
  case zc =>
    (repeat' (first | (refine And.intro ?_ ?_) | exact trivial | exact A.Le.refl _))
  case zv =>
    (repeat' (first | (refine And.intro ?_ ?_) | exact trivial | exact A.Le.refl _ | exact .of_eq (by rw [raB_zero]; rfl)))
  case zh =>
    (repeat' (first | exact trivial))
  case zu =>
    (repeat' (first | exact trivial | exact ub | (refine And.intro ?_ ?_)))
  case zw =>
    (repeat' (first | exact trivial | exact Under.s _ | (refine And.intro ?_ ?_)))
  case zx =>
    (repeat' (first | exact trivial))
  case zr =>
  refine Aw.seq ?_
  refine Aw.sm tab_ok mb0 [] rfl rfl ?zo ?zk
  case zo =>
    repeat' apply AllP.cons
    all_goals first | exact trivial | exact id | exact fun _ => rfl | exact fun _ => Nat.le_of_ble_eq_true rfl
  case zk =>
  refine Aw.cond rfl (fun h1 => Aw.skip ?_) (fun h1 => ?_)
  · have h1 : cond (raB b.b0 (fun i => mvOk b.n (mvk b.ms i)) k) (decide ((k : Int) < ((b.ms.map Mv.c).length : Int))) false = true := h1
    have hb := ac1 h1
    have hlt : k < b.ms.length := by have := of_decide_eq_true (ac2 h1); omega
    have hst := raB_step hb
    have hg := mvk_at hlt
    have hn := (Book.b0_iff.1 (raB_iff.1 hb).1).1
    generalize mvk b.ms k = m at *
    generalize hv1 : raB b.b0 (fun i => mvOk b.n (mvk b.ms i)) (k + 1) = v1 at *
    refine Aw.seq (Aw.block ?_)
    refine Aw.sm tab_ok mb0 [(3, m.c)] rfl rfl ?zo ?zk
    case zo =>
      repeat' apply AllP.cons
      all_goals first | exact trivial | exact rfl | exact Nat.le_of_ble_eq_true rfl | exact Int.natCast_nonneg _ | exact hg
    case zk =>
    refine Aw.em tab_ok mb0 [(5, [.bool (wi m.fr 0 (b.n - 1))]), (12, [.bool (wi m.to 0 (b.n - 1))]), (24, [.bool (spannedF m.lo m.hi 0 1000)])] rfl rfl ?zo ?zk
    case zo =>
      repeat' apply AllP.cons
      all_goals first | exact trivial | exact id | exact fun _ => rfl | exact Nat.le_of_ble_eq_true rfl | exact fun _ => Nat.le_of_ble_eq_true rfl | exact in_t _ _ _ | exact (in_t _ _ _).un | exact (show inR (b.n - 1) by simp only [inR]; omega) | exact fun _ => (show inR (b.n - 1) by simp only [inR]; omega) | exact fun _ => rspanned_t ⟨m.lo, m.hi⟩ _ _
    case zk =>
    refine Aw.em tab_ok mb0 [] rfl rfl ?zo ?zk
    case zo =>
      repeat' apply AllP.cons
      all_goals first | exact trivial | exact inrk k (by omega)
    case zk =>
    refine ⟨k + 1, ?zg, ?zm, ⟨?zc, ?zv, ?zh, Nat.le_of_ble_eq_true rfl⟩⟩
    case zg =>
      (repeat' (first | assumption))
    case zm =>
      (repeat' (first | omega))
    case zc =>
      (repeat' (first | (refine And.intro ?_ ?_) | exact trivial | exact A.Le.refl _))
    case zv =>
      (repeat' (first | (refine And.intro ?_ ?_) | exact trivial | exact A.Le.refl _ | exact .of_eq (congrArg A.bool (hv1.trans (hst.trans rfl)))))
    case zh =>
      (repeat' (first | exact trivial))
  have h1 : cond (raB b.b0 (fun i => mvOk b.n (mvk b.ms i)) k) (decide ((k : Int) < ((b.ms.map Mv.c).length : Int))) false = false := h1
  have hend : raB b.b0 (fun i => mvOk b.n (mvk b.ms i)) k = false ∨ k = b.ms.length := by
    by_cases h3 : raB b.b0 (fun i => mvOk b.n (mvk b.ms i)) k = true
    · rw [h3] at h1
      have h1 : decide ((k : Int) < ((b.ms.map Mv.c).length : Int)) = false := h1
      have := of_decide_eq_false h1
      exact .inr (by omega)
    · exact .inl (by simpa using h3)
  have he := raB_end hk hend
  rw [book_raB] at he
  rw [he]
  refine Aw.exit2 ?_
  refine Aw.seq ?_
  refine Aw.sm tab_ok mb0 [] rfl rfl ?zo ?zk
  case zo =>
    repeat' apply AllP.cons
    all_goals first | exact trivial
  case zk =>
  refine Aw.cond rfl (fun h1 => ?_) (fun h1 => Aw.skip ?_)
  · have hno : b.ok = false := by simpa using h1
    refine Aw.sm tab_ok mb0 [] rfl rfl ?zo ?zk
    case zo =>
      repeat' apply AllP.cons
      all_goals first | exact trivial
    case zk =>
    exact Aw.ret ⟨_, .cons (.tmp _) .nil, by unfold Book.chk; rw [hno]; rfl⟩
  · have hyes : b.ok = true := by simpa using h1
    refine Aw.sm tab_ok mb0 [] rfl rfl ?zo ?zk
    case zo =>
      repeat' apply AllP.cons
      all_goals first | exact trivial
    case zk =>
    exact Aw.ret ⟨_, .cons (.tmp _) .nil, by unfold Book.chk; rw [if_pos hyes]; rfl⟩
theorem more_t (b : Book) (hb : b.Ok) (set wo : Int) : Ans Try.prog 87 [.agg b.c, .int set, .int wo] (.int (moreF set wo b.ms)) := by
  have ll : ((b.ms.map Mv.c).length : Int) = b.ms.length := by simp
  have ub : ∀ {m : Nat}, Under m (A.pt b.c) := (Free.pt _ b.free).under
  have hl := hb.l
  refine told Try.func87 rfl rfl (Pure.of tab_ok Try.func87 rfl Try.ntmps87 rfl (allC (.agg _ b.free) (allC (.s _) (all1 (.s _)))) (allC (fun _ => rfl) (allC (fun _ => rfl) (all1 (fun _ => rfl)))) (by first | exact .s _ | assumption | exact .tup _ (by intro x hx; simp only [List.mem_cons, List.not_mem_nil, or_false] at hx; rcases hx with rfl | rfl | rfl | rfl <;> first | exact .s _ | (simp_all; done))) fun E hE => ?_)
  refine Aw.sm tab_ok mb0 [] rfl rfl ?zo ?zk
  case zo =>
    repeat' apply AllP.cons
    all_goals first | exact trivial
  case zk =>
  refine Aw.sm tab_ok mb0 [] rfl rfl ?zo ?zk
  case zo =>
    repeat' apply AllP.cons
    all_goals first | exact trivial
  case zk =>
  refine Aw.seq ?_
  refine Aw.sm tab_ok mb0 [] rfl rfl ?zo ?zk
  case zo =>
    repeat' apply AllP.cons
    all_goals first | exact trivial
  case zk =>
  refine Aw.block (Aw.rounds 0 hE [(1, .int set), (2, .int wo), (3, .pt b.c)] (fun k : Nat => [(7, .int (moreK set wo b.ms k)), (8, .int k)]) (fun k => []) (fun k => k ≤ b.ms.length) (fun k => b.ms.length - k) 0 ?zg ⟨?zc, ?zv, ?zh, Nat.le_of_ble_eq_true rfl⟩ ?zu (fun k zhk => ?zw) (fun k zhk => ?zx) fun k hk => ?zr)
  case zg =>
    (repeat' (first | exact Nat.zero_le _))
  case zc =>
    (repeat' (first | (refine And.intro ?_ ?_) | exact trivial | exact A.Le.refl _))
  case zv =>
    (repeat' (first | (refine And.intro ?_ ?_) | exact trivial | exact A.Le.refl _))
  case zh =>
    (repeat' (first | exact trivial))
  case zu =>
    (repeat' (first | exact trivial | exact Under.s _ | exact ub | (refine And.intro ?_ ?_)))
  case zw =>
    (repeat' (first | exact trivial | exact Under.s _ | (refine And.intro ?_ ?_)))
  case zx =>
    (repeat' (first | exact trivial))
  case zr =>
  refine Aw.seq ?_
  refine Aw.sm tab_ok mb0 [] rfl rfl ?zo ?zk
  case zo =>
    repeat' apply AllP.cons
    all_goals first | exact trivial | exact Nat.le_of_ble_eq_true rfl
  case zk =>
  refine Aw.cond rfl (fun h1 => Aw.skip ?_) (fun h1 => ?_)
  · have hlt : k < b.ms.length := by have := of_decide_eq_true h1; omega
    have hg := mvk_at hlt
    have hmo := hb.m _ (mvk_mem hlt)
    have hst := moreK_succ set wo b.ms k
    have hbd := moreK_bd (set := set) (wo := wo) hb.m k hk
    generalize mvk b.ms k = m at *
    generalize hv1 : moreK set wo b.ms (k + 1) = v1 at *
    generalize moreK set wo b.ms k = v at *
    have hf := hmo.f
    have ht := hmo.t
    have hmk := hmo.k
    have ump : ∀ {n : Nat}, Under n (A.pt m.c) := (Free.pt _ m.free).under
    refine Aw.seq (Aw.block ?_)
    refine Aw.sm tab_ok mb0 [(3, m.c)] rfl rfl ?zo ?zk
    case zo =>
      repeat' apply AllP.cons
      all_goals first | exact trivial | exact rfl | exact Nat.le_of_ble_eq_true rfl | exact Int.natCast_nonneg _ | exact hg
    case zk =>
    refine Aw.freeze (id := 0) (t := 9) (cs := m.c) rfl rfl ?_
    refine Aw.keep (n := 0) (cst := [(1, .int set), (2, .int wo), (3, .pt b.c), (9, .pt m.c), (7, .int v), (8, .int k)]) (v := []) (Hl := []) hE ?zu ?zw ?zx ⟨?zc, ?zv, ?zh, Nat.le_of_ble_eq_true rfl⟩ ?zr
    case zu =>
      (repeat' (first | exact trivial | exact Under.s _ | exact ub | exact ump | (refine And.intro ?_ ?_)))
    case zw =>
      (repeat' (first | exact trivial))
    case zx =>
      (repeat' (first | exact trivial))
    case zc =>
      (repeat' (first | (refine And.intro ?_ ?_) | exact trivial | exact A.Le.refl _))
    case zv =>
      (repeat' (first | exact trivial))
    case zh =>
      (repeat' (first | exact trivial))
    case zr =>
    refine Aw.sd tab_ok mixed mb0 [(3, [.bool (bitB set m.fr)]), (7, [.bool (bitB set m.to)])] rfl (by kernel_rfl) rfl rfl ?zo ?zk
    case zo =>
      repeat' apply AllP.cons
      all_goals first | exact trivial | exact Nat.le_of_ble_eq_true rfl | exact bit_t _ _ hf.1 | exact bit_t _ _ ht.1
    case zk =>
    have hb1 := mr1_bd (set := set) (wo := wo) (i := k) hmo v
    refine Aw.join1 0 hE [(1, .int set), (2, .int wo), (3, .pt b.c), (9, .pt m.c), (8, .int k), (10, .bool (bitB set m.fr)), (11, .bool (bitB set m.to))] [(7, .int (mr1 set wo k m v))] [] ⟨.s _, .s _, ub, ump, .s _, .s _, .s _, trivial⟩ ⟨.s _, trivial⟩ trivial ?_ ?_
    · refine Aw.sm tab_ok mb0 [] rfl rfl ?zo ?zk
      case zo =>
        repeat' apply AllP.cons
        all_goals first | exact trivial | exact id | exact fun _ => rfl
      case zk =>
      refine Aw.cond rfl (fun h2 => ?_) (fun h2 => Aw.skip ?_)
      · have e1 : mr1 set wo k m v = v + m.lo := by unfold mr1; rw [if_pos h2]
        rw [e1]
        refine Aw.em tab_ok mb0 [] rfl rfl ?zo ?zk
        case zo =>
          repeat' apply AllP.cons
          all_goals first | exact trivial | exact Nat.le_of_ble_eq_true rfl | exact (show inR (v + m.lo) by simp only [inR]; omega)
        case zk =>
        exact ⟨⟨.refl _, .refl _, .refl _, .refl _, .refl _, .refl _, .refl _, trivial⟩, ⟨.refl _, trivial⟩, trivial, Nat.le_of_ble_eq_true rfl⟩
      · have e1 : mr1 set wo k m v = v := by unfold mr1; rw [if_neg (by rw [show _ = false from h2]; decide)]
        rw [e1]
        exact ⟨⟨.refl _, .refl _, .refl _, .refl _, .refl _, .refl _, .refl _, trivial⟩, ⟨.refl _, trivial⟩, trivial, Nat.le_of_ble_eq_true rfl⟩
    generalize mr1 set wo k m v = v2 at *
    refine Aw.sm tab_ok mb0 [] rfl rfl ?zo ?zk
    case zo =>
      repeat' apply AllP.cons
      all_goals first | exact trivial | exact id | exact fun _ => rfl
    case zk =>
    refine Aw.cond rfl (fun h2 => ?_) (fun h2 => Aw.skip ?_)
    · have e1 : mr2 set wo k m v2 = v2 - m.hi := by unfold mr2; rw [if_pos h2]
      rw [e1] at hst
      refine Aw.em tab_ok mb0 [] rfl rfl ?zo ?zk
      case zo =>
        repeat' apply AllP.cons
        all_goals first | exact trivial | exact Nat.le_of_ble_eq_true rfl | exact (show inR (v2 - m.hi) by simp only [inR]; omega)
      case zk =>
      refine Aw.em tab_ok mb0 [] rfl rfl ?zo ?zk
      case zo =>
        repeat' apply AllP.cons
        all_goals first | exact trivial | exact inrk k (by omega)
      case zk =>
      refine ⟨k + 1, ?zg, ?zm, ⟨?zc, ?zv, ?zh, Nat.le_of_ble_eq_true rfl⟩⟩
      case zg =>
        (repeat' (first | assumption))
      case zm =>
        (repeat' (first | omega))
      case zc =>
        (repeat' (first | (refine And.intro ?_ ?_) | exact trivial | exact A.Le.refl _))
      case zv =>
        (repeat' (first | (refine And.intro ?_ ?_) | exact trivial | exact A.Le.refl _ | exact .of_eq (congrArg A.int (hv1.trans hst))))
      case zh =>
        (repeat' (first | exact trivial))
    · have e1 : mr2 set wo k m v2 = v2 := by unfold mr2; rw [if_neg (by rw [show _ = false from h2]; decide)]
      rw [e1] at hst
      refine Aw.em tab_ok mb0 [] rfl rfl ?zo ?zk
      case zo =>
        repeat' apply AllP.cons
        all_goals first | exact trivial | exact inrk k (by omega)
      case zk =>
      refine ⟨k + 1, ?zg, ?zm, ⟨?zc, ?zv, ?zh, Nat.le_of_ble_eq_true rfl⟩⟩
      case zg =>
        (repeat' (first | assumption))
      case zm =>
        (repeat' (first | omega))
      case zc =>
        (repeat' (first | (refine And.intro ?_ ?_) | exact trivial | exact A.Le.refl _))
      case zv =>
        (repeat' (first | (refine And.intro ?_ ?_) | exact trivial | exact A.Le.refl _ | exact .of_eq (congrArg A.int (hv1.trans hst))))
      case zh =>
        (repeat' (first | exact trivial))
  have hle : k = b.ms.length := by have := of_decide_eq_false h1; omega
  subst hle
  refine Aw.exit2 ?_
  refine Aw.sm tab_ok mb0 [] rfl rfl ?zo ?zk
  case zo =>
    repeat' apply AllP.cons
    all_goals first | exact trivial
  case zk =>
  exact Aw.ret ⟨_, .cons (.tmp _) .nil, rfl⟩
set_option maxHeartbeats 1000000 in
theorem rproves_t (b : Book) (hbl : (b.ms.length : Int) ≤ 9223372036854775806) (set : Int) : Ans Try.prog 53 [.agg b.c, .int set] (countsA (rProvesR b set)) := by
  have hfr : Free (countsA (rProvesR b set)) := .tup _ (allC (.s _) (all1 (.s _)))
  have hchk := rbook_chk b hbl
  refine told Try.func53 rfl rfl (Pure.of tab_ok Try.func53 rfl Try.ntmps53 rfl (allC (.agg _ b.free) (all1 (.s _))) (allC (fun _ => rfl) (all1 (fun _ => rfl))) (by first | exact .s _ | assumption | exact .tup _ (by intro x hx; simp only [List.mem_cons, List.not_mem_nil, or_false] at hx; rcases hx with rfl | rfl | rfl | rfl <;> first | exact .s _ | (simp_all; done))) fun E hE => ?_)
  refine Aw.sm tab_ok mb0 [] rfl rfl ?zo ?zk
  case zo =>
    repeat' apply AllP.cons
    all_goals first | exact trivial
  case zk =>
  by_cases hbo : b.ok = true
  rotate_left
  · have e : rProvesR b set = (false, 63) := by unfold rProvesR; rw [if_neg hbo]
    have e2 : b.chk = 63 := by unfold Book.chk; rw [if_neg hbo]
    rw [e2] at hchk
    rw [e]
    refine Aw.seq ?_
    refine Aw.sm tab_ok mb0 [(1, [.int 63])] rfl rfl ?zo ?zk
    case zo =>
      repeat' apply AllP.cons
      all_goals first | exact trivial | exact Nat.le_of_ble_eq_true rfl | exact hchk
    case zk =>
    refine Aw.sm tab_ok mb0 [] rfl rfl ?zo ?zk
    case zo =>
      repeat' apply AllP.cons
      all_goals first | exact trivial
    case zk =>
    refine Aw.cond rfl (fun h => ?_) (fun h => by cases h)
    refine Aw.sm tab_ok mb0 [] rfl rfl ?zo ?zk
    case zo =>
      repeat' apply AllP.cons
      all_goals first | exact trivial
    case zk =>
    exact Aw.ret ⟨_, .cons (.tmp _) (.cons (.tmp _) .nil), rfl⟩
  have e2 : b.chk = 0 := by unfold Book.chk; rw [if_pos hbo]
  have hB := Book.ok_iff.1 hbo
  have hn := hB.n
  rw [e2] at hchk
  refine Aw.seq ?_
  refine Aw.sm tab_ok mb0 [(1, [.int 0])] rfl rfl ?zo ?zk
  case zo =>
    repeat' apply AllP.cons
    all_goals first | exact trivial | exact Nat.le_of_ble_eq_true rfl | exact hchk
  case zk =>
  refine Aw.sm tab_ok mb0 [] rfl rfl ?zo ?zk
  case zo =>
    repeat' apply AllP.cons
    all_goals first | exact trivial
  case zk =>
  refine Aw.cond rfl (fun h => by cases h) (fun h => Aw.skip ?_)
  have hpow := pow_bd (n := b.n.toNat) (by omega)
  refine Aw.seq ?_
  have hsh := shl_n (n := b.n.toNat) (by omega)
  have hwi : Ans Try.prog 43 [.int set, .int 0, .int (IntKind.i64.wrap (1 * 2 ^ min b.n.toNat 64) - 1)] (.bool (wi set 0 (2 ^ b.n.toNat - 1))) := by rw [hsh]; exact in_t _ _ _
  refine Aw.sm tab_ok mb0 [(5, [.bool (wi set 0 (2 ^ b.n.toNat - 1))])] rfl rfl ?zo ?zk
  case zo =>
    repeat' apply AllP.cons
    all_goals first | exact trivial | exact Nat.le_of_ble_eq_true rfl | exact hwi | exact (show inR (IntKind.i64.wrap (1 * 2 ^ min b.n.toNat 64) - 1) by rw [hsh]; simp only [inR]; omega) | exact (by simp only [Ob.of]; omega)
  case zk =>
  by_cases hso : wi set 0 (2 ^ b.n.toNat - 1) = true
  rotate_left
  · have e : rProvesR b set = (false, 64) := by unfold rProvesR; rw [if_pos hbo, if_neg hso]
    have hso : wi set 0 (2 ^ b.n.toNat - 1) = false := by simpa using hso
    rw [e, hso]
    refine Aw.cond rfl (fun h => ?_) (fun h => by cases h)
    refine Aw.sm tab_ok mb0 [] rfl rfl ?zo ?zk
    case zo =>
      repeat' apply AllP.cons
      all_goals first | exact trivial
    case zk =>
    exact Aw.ret ⟨_, .cons (.tmp _) (.cons (.tmp _) .nil), rfl⟩
  have e : rProvesR b set = (decide (moreF set (-1) b.ms > 0), 0) := by unfold rProvesR; rw [if_pos hbo, if_pos hso]
  rw [e, hso]
  refine Aw.cond rfl (fun h => by cases h) (fun h => Aw.skip ?_)
  refine Aw.sm tab_ok mb0 [(2, [.int (moreF set (-1) b.ms)])] rfl rfl ?zo ?zk
  case zo =>
    repeat' apply AllP.cons
    all_goals first | exact trivial | exact Nat.le_of_ble_eq_true rfl | exact more_t b hB set (-1)
  case zk =>
  exact Aw.ret ⟨_, .cons (.tmp _) (.cons (.tmp _) .nil), rfl⟩
theorem rproof_t (b : Book) (hb : b.Ok) : Ans Try.prog 85 [.agg b.c] (.int (proofS b.n b.ms)) := by
  have ub : ∀ {m : Nat}, Under m (A.pt b.c) := (Free.pt _ b.free).under
  have hn := hb.n
  have hpow := pow_bd (n := b.n.toNat) (by omega)
  have hsh := shl_n (n := b.n.toNat) (by omega)
  unfold proofS
  generalize hR : prGo b.ms (2 ^ b.n.toNat) 0 = R
  refine told Try.func85 rfl rfl (Pure.of tab_ok Try.func85 rfl Try.ntmps85 rfl (all1 (.agg _ b.free)) (all1 (fun _ => rfl)) (by first | exact .s _ | assumption | exact .tup _ (by intro x hx; simp only [List.mem_cons, List.not_mem_nil, or_false] at hx; rcases hx with rfl | rfl | rfl | rfl <;> first | exact .s _ | (simp_all; done))) fun E hE => ?_)
  refine Aw.sm tab_ok mb0 [] rfl rfl ?zo ?zk
  case zo =>
    repeat' apply AllP.cons
    all_goals first | exact trivial
  case zk =>
  refine Aw.seq ?_
  refine Aw.sm tab_ok mb0 [] rfl rfl ?zo ?zk
  case zo =>
    repeat' apply AllP.cons
    all_goals first | exact trivial
  case zk =>
  have hpe : ((2 ^ b.n.toNat : Nat) : Int) = 2 ^ b.n.toNat := by simp
  refine Aw.block (Aw.rounds 0 hE [(1, .pt b.c)] (fun k : Nat => [(3, .int k)]) (fun k => []) (fun k => k ≤ 2 ^ b.n.toNat ∧ prGo b.ms (2 ^ b.n.toNat - k) k = R) (fun k => 2 ^ b.n.toNat - k) 0 ?zg ⟨?zc, ?zv, ?zh, Nat.le_of_ble_eq_true rfl⟩ ?zu (fun k zhk => ?zw) (fun k zhk => ?zx) fun k hk => ?zr)
  case zg =>
    (repeat' (first | exact ⟨Nat.zero_le _, hR⟩))
  case zc =>
    (repeat' (first | (refine And.intro ?_ ?_) | exact trivial | exact A.Le.refl _))
  case zv =>
    (repeat' (first | (refine And.intro ?_ ?_) | exact trivial | exact A.Le.refl _))
  case zh =>
    (repeat' (first | exact trivial))
  case zu =>
    (repeat' (first | exact trivial | exact ub | (refine And.intro ?_ ?_)))
  case zw =>
    (repeat' (first | exact trivial | exact Under.s _ | (refine And.intro ?_ ?_)))
  case zx =>
    (repeat' (first | exact trivial))
  case zr =>
  obtain ⟨hk, hrun⟩ := hk
  refine Aw.seq ?_
  refine Aw.sm tab_ok mb0 [] rfl rfl ?zo ?zk
  case zo =>
    repeat' apply AllP.cons
    all_goals first | exact trivial | exact Nat.le_of_ble_eq_true rfl | exact (by simp only [Ob.of]; omega)
  case zk =>
  refine Aw.cond rfl (fun h1 => Aw.skip ?_) (fun h1 => ?_)
  · have h1 : decide ((k : Int) < IntKind.i64.wrap (1 * 2 ^ min b.n.toNat 64)) = true := h1
    rw [hsh] at h1
    have hlt : k < 2 ^ b.n.toNat := by have := of_decide_eq_true h1; omega
    have hr : prGo b.ms (2 ^ b.n.toNat - k) k = if moreF (k : Int) (-1) b.ms > 0 then (k : Int) else prGo b.ms (2 ^ b.n.toNat - (k + 1)) (k + 1) := by
      rw [show 2 ^ b.n.toNat - k = (2 ^ b.n.toNat - (k + 1)) + 1 by omega]; rfl
    rw [hr] at hrun
    have hm := more_t b hb k (-1)
    generalize moreF (k : Int) (-1) b.ms = v at *
    refine Aw.seq (Aw.block ?_)
    refine Aw.sm tab_ok mb0 [(2, [.int v])] rfl rfl ?zo ?zk
    case zo =>
      repeat' apply AllP.cons
      all_goals first | exact trivial | exact Nat.le_of_ble_eq_true rfl | exact hm
    case zk =>
    refine Aw.cond rfl (fun h2 => ?_) (fun h2 => Aw.skip ?_)
    · have h2 : v > 0 := of_decide_eq_true h2
      rw [if_pos h2] at hrun
      subst hrun
      refine Aw.sm tab_ok mb0 [] rfl rfl ?zo ?zk
      case zo =>
        repeat' apply AllP.cons
        all_goals first | exact trivial
      case zk =>
      exact Aw.ret ⟨_, .cons (.tmp _) .nil, rfl⟩
    · have h2 : ¬ v > 0 := of_decide_eq_false h2
      rw [if_neg h2] at hrun
      refine Aw.em tab_ok mb0 [] rfl rfl ?zo ?zk
      case zo =>
        repeat' apply AllP.cons
        all_goals first | exact trivial | exact inrk k (by omega)
      case zk =>
      refine ⟨k + 1, ?zg, ?zm, ⟨?zc, ?zv, ?zh, Nat.le_of_ble_eq_true rfl⟩⟩
      case zg =>
        (repeat' (first | omega))
      case zm =>
        (repeat' (first | omega))
      case zc =>
        (repeat' (first | (refine And.intro ?_ ?_) | exact trivial | exact A.Le.refl _))
      case zv =>
        (repeat' (first | (refine And.intro ?_ ?_) | exact trivial | exact A.Le.refl _))
      case zh =>
        (repeat' (first | exact trivial))
  · have h1 : decide ((k : Int) < IntKind.i64.wrap (1 * 2 ^ min b.n.toNat 64)) = false := h1
    rw [hsh] at h1
    have hle : k = 2 ^ b.n.toNat := by have := of_decide_eq_false h1; omega
    subst hle
    rw [Nat.sub_self] at hrun
    have hrun : (-1 : Int) = R := hrun
    subst hrun
    refine Aw.exit2 ?_
    refine Aw.sm tab_ok mb0 [] rfl rfl ?zo ?zk
    case zo =>
      repeat' apply AllP.cons
      all_goals first | exact trivial
    case zk =>
    exact Aw.ret ⟨_, .cons (.tmp _) .nil, rfl⟩
theorem balances_t (b : Book) (hbl : (b.ms.length : Int) ≤ 9223372036854775806) : Ans Try.prog 55 [.agg b.c] (countsA (BalancesR b)) := by
  have hfr : Free (countsA (BalancesR b)) := .tup _ (allC (.s _) (all1 (.s _)))
  have hchk := rbook_chk b hbl
  refine told Try.func55 rfl rfl (Pure.of tab_ok Try.func55 rfl Try.ntmps55 rfl (all1 (.agg _ b.free)) (all1 fun _ => rfl) hfr fun E hE => ?_)
  refine Aw.sm tab_ok mb0 [] rfl rfl ?zo ?zk
  case zo =>
    repeat' apply AllP.cons
    all_goals first | exact trivial
  case zk =>
  by_cases hbo : b.ok = true
  rotate_left
  · have e : BalancesR b = (false, 63) := by unfold BalancesR; rw [if_neg hbo]
    have e2 : b.chk = 63 := by unfold Book.chk; rw [if_neg hbo]
    rw [e2] at hchk
    rw [e]
    refine Aw.seq ?_
    refine Aw.sm tab_ok mb0 [(1, [.int 63])] rfl rfl ?zo ?zk
    case zo =>
      repeat' apply AllP.cons
      all_goals first | exact trivial | exact Nat.le_of_ble_eq_true rfl | exact hchk
    case zk =>
    refine Aw.sm tab_ok mb0 [] rfl rfl ?zo ?zk
    case zo =>
      repeat' apply AllP.cons
      all_goals first | exact trivial
    case zk =>
    refine Aw.cond rfl (fun h => ?_) (fun h => by cases h)
    refine Aw.sm tab_ok mb0 [] rfl rfl ?zo ?zk
    case zo =>
      repeat' apply AllP.cons
      all_goals first | exact trivial
    case zk =>
    exact Aw.ret ⟨_, .cons (.tmp _) (.cons (.tmp _) .nil), rfl⟩
  have e2 : b.chk = 0 := by unfold Book.chk; rw [if_pos hbo]
  have hB := Book.ok_iff.1 hbo
  rw [e2] at hchk
  have e : BalancesR b = (decide (proofS b.n b.ms < 0), 0) := by unfold BalancesR; rw [if_pos hbo]
  rw [e]
  refine Aw.seq ?_
  refine Aw.sm tab_ok mb0 [(1, [.int 0])] rfl rfl ?zo ?zk
  case zo =>
    repeat' apply AllP.cons
    all_goals first | exact trivial | exact Nat.le_of_ble_eq_true rfl | exact hchk
  case zk =>
  refine Aw.sm tab_ok mb0 [] rfl rfl ?zo ?zk
  case zo =>
    repeat' apply AllP.cons
    all_goals first | exact trivial
  case zk =>
  refine Aw.cond rfl (fun h => by cases h) (fun h => Aw.skip ?_)
  refine Aw.sm tab_ok mb0 [(1, [.int (proofS b.n b.ms)])] rfl rfl ?zo ?zk
  case zo =>
    repeat' apply AllP.cons
    all_goals first | exact trivial | exact Nat.le_of_ble_eq_true rfl | exact rproof_t b hB
  case zk =>
  exact Aw.ret ⟨_, .cons (.tmp _) (.cons (.tmp _) .nil), rfl⟩
end Go.Proofs.Ytampldajinhenaa

namespace Go.Proofs.Ytampldajinhenaa
open Go Go.AL Go.AL.Q Go.AL.Br
set_option maxHeartbeats 1000000 in
theorem proves_l (b : Book) (set : Int) (hbl : (b.ms.length : Int) ≤ 9223372036854775806) : Ans Try.prog 12 [.agg b.c, .int set] (.bool true) := by
  have c1 := proves_t b hbl set
  have c2 := rproves_t b hbl set
  have c3 := proof_t b hbl
  have c4 := balances_t b hbl
  have c5 := fun s => rproves_t b hbl s
  rw [proves_is] at c2
  have e5 := fun s => proves_is b s
  have hv : (b.ok = false ∧ ProofR b = (0, 63) ∧ BalancesR b = (false, 63)) ∨ (ProofR b = (0, 4) ∧ BalancesR b = (true, 0)) ∨ (∃ s, ProofR b = (s, 0) ∧ BalancesR b = (false, 0) ∧ rProvesR b s = (true, 0)) := by
    unfold ProofR BalancesR
    by_cases hbo : b.ok = true
    · rw [if_pos hbo, if_pos hbo]
      have hB := Book.ok_iff.1 hbo
      cases hw : (BalW b).1 with
      | some cs => exact .inr (.inl ⟨rfl, by rw [decide_eq_true (proof_neg hB hw)]⟩)
      | none =>
        obtain ⟨h1, h2, h3⟩ := BalW_none hB hw
        refine .inr (.inr ⟨_, rfl, by rw [decide_eq_false (proof_pos hB hw)], ?_⟩)
        unfold rProvesR
        rw [if_pos hbo, if_pos (wi_iff.2 (by omega)), decide_eq_true h1]
    · rw [if_neg hbo, if_neg hbo]
      exact .inl ⟨by simpa using hbo, rfl, rfl⟩
  generalize ProofR b = P at *
  generalize BalancesR b = Q at *
  obtain ⟨p1, p2⟩ := P
  obtain ⟨q1, q2⟩ := Q
  generalize ProvesR b set = R at *
  obtain ⟨r1, r2⟩ := R
  refine told Try.func12 rfl rfl (Pure.of tab_ok Try.func12 rfl Try.ntmps12 rfl (allC (.agg _ b.free) (all1 (.s _))) (allC (fun _ => rfl) (all1 (fun _ => rfl))) (by first | exact .s _ | assumption | exact .tup _ (by intro x hx; simp only [List.mem_cons, List.not_mem_nil, or_false] at hx; rcases hx with rfl | rfl | rfl | rfl <;> first | exact .s _ | (simp_all; done))) fun E hE => ?_)
  refine Aw.sm tab_ok mb0 [] rfl rfl ?zo ?zk
  case zo =>
    repeat' apply AllP.cons
    all_goals first | exact trivial
  case zk =>
  refine Aw.sm tab_ok mb0 [(2, [.tup [.bool r1, .int r2]])] rfl rfl ?zo ?zk
  case zo =>
    repeat' apply AllP.cons
    all_goals first | exact trivial | exact Nat.le_of_ble_eq_true rfl | exact c1
  case zk =>
  refine Aw.sm tab_ok mb0 [(2, [.tup [.bool r1, .int r2]])] rfl rfl ?zo ?zk
  case zo =>
    repeat' apply AllP.cons
    all_goals first | exact trivial | exact Nat.le_of_ble_eq_true rfl | exact c2
  case zk =>
  refine Aw.seq ?_
  refine Aw.sm tab_ok mb0 [] rfl rfl ?zo ?zk
  case zo =>
    repeat' apply AllP.cons
    all_goals first | exact trivial | exact id | exact fun _ => rfl | exact gq_f
  case zk =>
  refine Aw.cond rfl (fun h => absurd h (by show ¬ (cond (r1 != r1) true (r2 != r2)) = true; simp)) (fun h => Aw.skip ?_)
  refine Aw.sm tab_ok mb0 [(1, [.tup [.int p1, .int p2]])] rfl rfl ?zo ?zk
  case zo =>
    repeat' apply AllP.cons
    all_goals first | exact trivial | exact Nat.le_of_ble_eq_true rfl | exact c3
  case zk =>
  refine Aw.sm tab_ok mb0 [(1, [.tup [.bool q1, .int q2]])] rfl rfl ?zo ?zk
  case zo =>
    repeat' apply AllP.cons
    all_goals first | exact trivial | exact Nat.le_of_ble_eq_true rfl | exact c4
  case zk =>
  rcases hv with ⟨_, h1, h2⟩ | ⟨h1, h2⟩ | ⟨s, h1, h2, h3⟩
  · cases h1; cases h2
    refine Aw.seq ?_
    refine Aw.sm tab_ok mb0 [] rfl rfl ?zo ?zk
    case zo =>
      repeat' apply AllP.cons
      all_goals first | exact trivial | exact id | exact gq_f
    case zk =>
    refine Aw.cond rfl (fun h => ?_) (fun h => by cases h)
    refine Aw.sm tab_ok mb0 [(20, [.bool true])] rfl rfl ?zo ?zk
    case zo =>
      repeat' apply AllP.cons
      all_goals first | exact trivial | exact id | exact fun _ => rfl | exact gq_c | exact fun _ _ => rfl | exact fun _ => works_t
    case zk =>
    exact Aw.ret ⟨_, .cons (.tmp _) .nil, rfl⟩
  · cases h1; cases h2
    refine Aw.seq ?_
    refine Aw.sm tab_ok mb0 [] rfl rfl ?zo ?zk
    case zo =>
      repeat' apply AllP.cons
      all_goals first | exact trivial | exact fun _ => rfl
    case zk =>
    refine Aw.cond rfl (fun h => ?_) (fun h => by cases h)
    refine Aw.sm tab_ok mb0 [(20, [.bool true])] rfl rfl ?zo ?zk
    case zo =>
      repeat' apply AllP.cons
      all_goals first | exact trivial | exact id | exact fun _ => rfl | exact gq_c | exact fun _ _ => rfl | exact fun _ => works_t
    case zk =>
    exact Aw.ret ⟨_, .cons (.tmp _) .nil, rfl⟩
  · have c6 := c5 s
    rw [h3] at c6
    cases h1; cases h2
    refine Aw.seq ?_
    refine Aw.sm tab_ok mb0 [] rfl rfl ?zo ?zk
    case zo =>
      repeat' apply AllP.cons
      all_goals first | exact trivial | exact fun _ => rfl
    case zk =>
    refine Aw.cond rfl (fun h => by cases h) (fun h => Aw.skip ?_)
    refine Aw.sm tab_ok mb0 [(2, [.tup [.bool true, .int 0]])] rfl rfl ?zo ?zk
    case zo =>
      repeat' apply AllP.cons
      all_goals first | exact trivial | exact Nat.le_of_ble_eq_true rfl | exact c6
    case zk =>
    refine Aw.sm tab_ok mb0 [(10, [.bool true])] rfl rfl ?zo ?zk
    case zo =>
      repeat' apply AllP.cons
      all_goals first | exact trivial | exact id | exact fun _ => rfl | exact fun _ => works_t
    case zk =>
    exact Aw.ret ⟨_, .cons (.tmp _) .nil, rfl⟩
end Go.Proofs.Ytampldajinhenaa

namespace Go.Proofs.Ytampldajinhenaa
open Go Go.AL Go.ChangeShapes Go.WideShapes Go.ChangeAt Go.RowKit
set_option maxRecDepth 100000 in
theorem barrelProves_lifted (os : Os) (started : os.Started) (H : Type) (enc : TypeId × Value → H) :
    ReturnsInHanded {} Try.checked os 12 .any (Rows.barrelProvesSpec.pre6 enc Try.prog Try.f12 [] false) (Rows.barrelProvesSpec.post enc Try.prog Try.f12 false true false false) := by
  refine lifted2 (tb := 4) (C := Try.checked) own started (by kernel_rfl) Try.func12
    (ChangeSpec.witness6 (enc := enc) (C := Try.checked) false ⟨#[], #[.agg #[.int .i64 0, .slice none 0 0], .int .i64 0], []⟩ 8 (by kernel_rfl) (by kernel_rfl) (by kernel_rfl) (by kernel_rfl))
    laidOut ?_ rfl rfl (by kernel_rfl) uBool ?_ ?_
  · rw [Try.params12]; exact all2t (p := fun t => Try.prog.readableRec t = true ∧ t < Try.prog.types.size) t49 t3
  · intro ds hd
    rw [Try.params12] at hd
    match ds, hd with
    | [d0, d1], _ => rfl
  · intro W base args ds p hval hA hwt
    rw [Try.params12] at hA hval
    obtain ⟨v0, v1, d0, d1, p0, p1, rfl, rfl, rfl, h0, h1⟩ := trodAll_two hA
    obtain ⟨y0, q0, s0⟩ := arg_book (φ := fun _ => none) (hval 0 49 v0 rfl rfl) h0 fun k hk => hwt k (List.mem_append.2 (.inl hk))
    obtain ⟨y1, q1⟩ := arg_int (φ := fun _ => none) (hval 1 3 v1 rfl rfl) h1 fun k hk => hwt k (List.mem_append.2 (.inr (List.mem_append.2 (.inl hk))))
    exact ⟨_, _, vrs2 q0 q1, proves_l y0 y1 s0⟩
theorem barrelProves_holds : Rows.BarrelProvesSaid :=
  OpenClaim.holds_of_wide 12 Try.f12 rfl rfl rfl rfl rfl rfl rfl ⟨rfl, rfl, rfl, rfl, rfl⟩ rfl rfl rfl rfl rfl (by kernel_rfl) Try.func12 (by kernel_rfl)
    (of_decide_eq_true (by kernel_rfl)) (by unfold Func.isWrapper; first | (rw [if_pos (by decide +kernel)]; kernel_rfl) | (rw [if_neg (by decide +kernel)]; exact ⟨rfl, rfl⟩))
    (fun os started H enc _ => barrelProves_lifted os started H enc)
end Go.Proofs.Ytampldajinhenaa

