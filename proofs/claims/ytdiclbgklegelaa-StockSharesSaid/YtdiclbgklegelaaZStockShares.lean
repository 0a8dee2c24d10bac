/- StockShares holds: Shares of the stock answers as the specification's Shares does. No condition. -/
import Derived.Test.YtdiclbgklegelaaK6
set_option linter.all false
namespace Go.AL
open Go Go.RowKit Go.ChangeShapes Go.WideShapes Go.ChangeAt
section
variable {H : Type} {enc : TypeId × Value → H} {P : Program} {w : World} {base : Nat} {held : Bool} {φ : Names}
def CellsAre (φ : Names) (w : World) (az : List A) (cs : List Value) : Prop :=
  cs.length = az.length ∧ ∀ i, i < az.length → VR φ (allZ w) w (az.getD i .un) (cs.getD i undef) ∧ (cs.getD i undef).oneCell' = true
theorem CellsAre.nil : CellsAre φ w [] [] := ⟨rfl, fun i h => by simp at h⟩
theorem CellsAre.one {a : A} {v : Value} (h : VR φ (allZ w) w a v) (h1 : v.oneCell' = true) : CellsAre φ w [a] [v] := ⟨rfl, fun i hi => by
  have : i = 0 := by simp at hi; exact hi
  subst this; exact ⟨h, h1⟩⟩
theorem CellsAre.app {az bz : List A} {cs ds : List Value} (h : CellsAre φ w az cs) (k : CellsAre φ w bz ds) : CellsAre φ w (az ++ bz) (cs ++ ds) := by
  refine ⟨by simp [h.1, k.1], fun i hi => ?_⟩
  by_cases h1 : i < az.length
  · have := h.2 i h1
    rw [show (az ++ bz).getD i .un = az.getD i .un by simp [List.getD_eq_getElem?_getD, List.getElem?_append, h1],
      show (cs ++ ds).getD i undef = cs.getD i undef by simp [List.getD_eq_getElem?_getD, List.getElem?_append, h.1, h1]]
    exact this
  · have hi2 : i - az.length < bz.length := by simp only [List.length_append] at hi; omega
    have := k.2 (i - az.length) hi2
    rw [show (az ++ bz).getD i .un = bz.getD (i - az.length) .un by simp [List.getD_eq_getElem?_getD, List.getElem?_append, h1],
      show (cs ++ ds).getD i undef = ds.getD (i - az.length) undef by simp [List.getD_eq_getElem?_getD, List.getElem?_append, h.1, h1]]
    exact this
theorem CellsAre.agg {az : List A} {cs : List Value} (h : CellsAre φ w az cs) : VR φ (allZ w) w (.agg az) (.agg cs.toArray) := by
  have e : ∀ i, cs.toArray.getD i undef = cs.getD i undef := fun i => by simp [Array.getD_eq_getD_getElem?, List.getD_eq_getElem?_getD]
  refine .agg _ _ (by simp [h.1]) (fun i hi => ?_) fun i hi => ?_
  · rw [e]; exact (h.2 i hi).2
  · rw [e]; exact (h.2 i hi).1
def Reads (enc : TypeId × Value → H) (P : Program) (w : World) (base : Nat) (held : Bool) (φ : Names) (e sz : Nat) {α : Type} (c : α → List A) (Q : α → Prop) : Prop :=
  ∀ n cs y, DataW.trod enc P w base (fun _ => true) held n e cs = some y → (∀ k ∈ y.1.weights P e, k ≤ reachBytes) → ∃ a : α, Q a ∧ (c a).length = sz ∧ CellsAre φ w (c a) cs
theorem Reads.imp {e sz : Nat} {α β : Type} {c : α → List A} {d : β → List A} {Q : α → Prop} {R : β → Prop} (h : Reads enc P w base held φ e sz c Q) (k : ∀ a, Q a → ∃ b, R b ∧ d b = c a) : Reads enc P w base held φ e sz d R := fun n cs y hy hw => by
  obtain ⟨a, q, l, r⟩ := h n cs y hy hw
  obtain ⟨b, q2, e2⟩ := k a q
  exact ⟨b, q2, by rw [e2]; exact l, by rw [e2]; exact r⟩
theorem Reads.int {e : Nat} (he : P.underlying e = some (.int .i64)) : Reads enc P w base held φ e 1 (fun n : Int => [A.int n]) fun _ => True := fun n cs y h _ => by
  obtain ⟨z, rfl, _, _⟩ := DataW.trod_int he h
  exact ⟨z, trivial, rfl, .one (.s _) rfl⟩
theorem weightsAll_at {e : Nat} : ∀ {l : List (DataW H)} {d : DataW H}, d ∈ l → ∀ k ∈ d.weights P e, k ∈ DataW.weightsAll P e l
  | x :: l, d, hm, k, hk => by
    rw [DataW.weightsAll, List.mem_append]
    rcases List.mem_cons.1 hm with rfl | hm
    · exact .inl hk
    · exact .inr (weightsAll_at hm k hk)
theorem cells_spot {a : Addr} {n : Nat} {cs : List Value} (h : w.cells? base a n = some cs) (hn : 0 < n) : a.spot = none := by
  obtain ⟨hl, hc⟩ := cells_at h
  have h0 := hc 0 hn
  rw [List.getElem?_eq_getElem (by omega)] at h0
  have := World.cell?_spot h0
  rwa [show a.add 0 = a from by unfold Addr.add; simp] at this
theorem told_list {α : Type} {c : α → List A} {Q : α → Prop} {R : α → Nat → Prop} (n : Nat) (h : ∀ i, i < n → ∃ a, Q a ∧ R a i) : ∃ l : List α, l.length = n ∧ (∀ a ∈ l, Q a) ∧ ∀ i (hi : i < l.length), R l[i] i := by
  induction n with
  | zero => exact ⟨[], rfl, fun _ h => by simp at h, fun i hi => by simp at hi⟩
  | succ n ih =>
    obtain ⟨l, hl, hq, hr⟩ := ih fun i hi => h i (by omega)
    obtain ⟨a, qa, ra⟩ := h n (by omega)
    refine ⟨l ++ [a], by simp [hl], fun x hx => ?_, fun i hi => ?_⟩
    · rcases List.mem_append.1 hx with hx | hx
      · exact hq x hx
      · rw [List.mem_singleton.1 hx]; exact qa
    · by_cases h1 : i < l.length
      · rw [List.getElem_append_left h1]; exact hr i h1
      · have : i = l.length := by simp at hi; omega
        subst this
        rw [List.getElem_append_right (by omega)]
        simp only [Nat.sub_self, List.getElem_cons_zero]
        rw [hl]; exact ra
theorem Reads.slice {t e sz : Nat} {α : Type} {c : α → List A} {Q : α → Prop} (ht : P.underlying t = some (.slice e)) (hc : P.cellsOf e = sz) (h0 : 0 < sz) (h : Reads enc P w base held φ e sz c Q) :
    Reads enc P w base held φ t 1 (fun x : Bool × List α => [A.sl x.1 .any (x.2.map c)]) fun x => (∀ a ∈ x.2, Q a) ∧ x.2.length * P.bytesOf e ≤ reachBytes := by
  intro fuel cs y hy hw
  rcases DataW.trod_slice ht hy with ⟨rfl, _⟩ | ⟨ad, len, cap, elems, rest, n, _, rfl, hx, hbl, hl, hm, hlen, hel, hre, _⟩
  · exact ⟨(true, []), ⟨fun a ha => (nomatch ha), by simp⟩, rfl, .one (.nil _) rfl⟩
  · obtain ⟨hrl, hre⟩ := hre rfl
    have hwt : (elems.map (·.1)).length * P.bytesOf e ≤ reachBytes ∧ ∀ d ∈ elems.map (·.1), ∀ k ∈ d.weights P e, k ≤ reachBytes := by
      rw [hx] at hw
      simp only [DataW.weights, ht] at hw
      refine ⟨Nat.le_trans (Nat.mul_le_mul_right _ (Nat.le_add_right _ (rest.map (·.1)).length)) (hw _ (List.mem_cons_self ..)), fun d hd k hk => hw k (List.mem_cons_of_mem _ (List.mem_append.2 (.inl (weightsAll_at hd k hk))))⟩
    have hsp : cap = 0 ∨ ad.spot = none := by
      rcases Nat.eq_zero_or_pos cap with h | hpos
      · exact .inl h
      right
      rcases Nat.eq_zero_or_pos len with hz | hlp
      · subst hz
        have h1 := hre 0 (by omega)
        rw [hc] at h1
        obtain ⟨r, hr⟩ : ∃ r, rest[0]? = some r := ⟨rest[0]'(by omega), List.getElem?_eq_getElem _⟩
        rw [hr, Option.bind_eq_some_iff] at h1
        obtain ⟨cs, h2, _⟩ := h1
        rw [show ad.add ((0 + 0) * sz) = ad from by unfold Addr.add; simp] at h2
        exact cells_spot h2 h0
      · have h1 := hel 0 hlp
        rw [hc] at h1
        obtain ⟨r, hr⟩ : ∃ r, elems[0]? = some r := ⟨elems[0]'(by omega), List.getElem?_eq_getElem _⟩
        rw [hr, Option.bind_eq_some_iff] at h1
        obtain ⟨cs, h2, _⟩ := h1
        rw [show ad.add (0 * sz) = ad from by unfold Addr.add; simp] at h2
        exact cells_spot h2 h0
    rcases hsp with hz | hsp
    · subst hz
      have : len = 0 := by omega
      subst this
      exact ⟨(false, []), ⟨fun a ha => (nomatch ha), by simp⟩, rfl, .one (.slz _ ad) rfl⟩
    obtain ⟨b, off, sp⟩ := ad
    simp only at hsp
    subst hsp
    have each : ∀ i, i < len → ∃ a : α, Q a ∧ ((c a).length = sz ∧ ∃ cs, w.cells? base ((⟨b, off, none⟩ : Addr).add (i * sz)) sz = some cs ∧ CellsAre φ w (c a) cs) := fun i hi => by
      have h1 := hel i hi
      rw [hc] at h1
      rw [List.getElem?_eq_getElem (by omega), Option.bind_eq_some_iff] at h1
      obtain ⟨cs, h2, h3⟩ := h1
      obtain ⟨a, qa, la, ra⟩ := h n cs _ h3 (hwt.2 _ (List.mem_map.2 ⟨_, List.getElem_mem (by omega), rfl⟩))
      exact ⟨a, qa, la, cs, h2, ra⟩
    obtain ⟨l, hll, hq, hr⟩ := told_list (c := c) len each
    have hcell : ∀ i j, i < l.length → j < sz → ∃ v, w.cell? ⟨b, off + i * sz + j, none⟩ = some v ∧ VR φ (allZ w) w ((((l.map c).getD i []).getD j .un)) v ∧ v.oneCell' = true := fun i j hi hj => by
      obtain ⟨q1, cs, q2, q3⟩ := hr i hi
      have h1 := (cells_at q2).2 j hj
      rw [add_plain, add_plain] at h1
      have hcl : cs.length = sz := by rw [q3.1, q1]
      rw [List.getElem?_eq_getElem (by omega)] at h1
      have h2 := q3.2 j (by omega)
      have e1 : cs.getD j undef = cs[j]'(by omega) := by rw [List.getD_eq_getElem?_getD, List.getElem?_eq_getElem (by omega)]; rfl
      have e2 : (l.map c).getD i [] = c l[i] := by rw [List.getD_eq_getElem?_getD, List.getElem?_map, List.getElem?_eq_getElem hi]; rfl
      rw [e1] at h2
      exact ⟨_, h1, by rw [e2]; exact h2.1, h2.2⟩
    let val : Nat → Nat → Value := fun i j => (w.cell? ⟨b, off + i * sz + j, none⟩).getD undef
    have hval : ∀ i j, i < l.length → j < sz → w.cell? ⟨b, off + i * sz + j, none⟩ = some (val i j) ∧ VR φ (allZ w) w ((((l.map c).getD i []).getD j .un)) (val i j) ∧ (val i j).oneCell' = true := fun i j hi hj => by
      obtain ⟨v, h1, h2, h3⟩ := hcell i j hi hj
      have : val i j = v := by simp only [val, h1]; rfl
      rw [this]; exact ⟨h1, h2, h3⟩
    have hl2 : (l.map c).length = l.length := by simp
    refine ⟨(false, l), ⟨hq, ?_⟩, rfl, .one ?_ rfl⟩
    · have := hwt.1
      rw [List.length_map, hlen] at this
      rw [hll]; exact this
    · have key : VR φ (allZ w) w (.sl false .any (l.map c)) (.slice (some ⟨b, off, none⟩) (l.map c).length cap) := by
        refine .sl .any _ b off sz cap val (by rw [hl2, hll]; exact hl) (fun h => by cases h) hm (fun z hz => ?_) (fun i j hi hj => ?_) (fun i j hi hj => ?_) (fun i j hi hj => ?_) fun i j hi hj => ?_
        · obtain ⟨a, ha, rfl⟩ := List.mem_map.1 hz
          obtain ⟨i, hi, rfl⟩ := List.mem_iff_getElem.1 ha
          exact (hr i hi).1
        all_goals rw [hl2] at hi
        · exact ⟨_, (hval i j hi hj).1⟩
        · exact (hval i j hi hj).1
        · exact (hval i j hi hj).2.2
        · exact (hval i j hi hj).2.1
      rw [hl2, hll] at key; exact key
inductive Flds (enc : TypeId × Value → H) (P : Program) (w : World) (base : Nat) (held : Bool) (φ : Names) : Nat → List Field → {α : Type} → (α → List A) → (α → Prop) → Nat → Prop
  | nil (off : Nat) : Flds enc P w base held φ off [] (fun _ : Unit => []) (fun _ => True) 0
  | cons {off : Nat} {f : Field} {fs : List Field} {sz m : Nat} {α β : Type} {c : α → List A} {Q : α → Prop} {d : β → List A} {R : β → Prop} (ho : f.offset = off) (hc : P.cellsOf f.type = sz) (h : Reads enc P w base held φ f.type sz c Q)
      (k : Flds enc P w base held φ (off + sz) fs d R m) : Flds enc P w base held φ off (f :: fs) (fun x : α × β => c x.1 ++ d x.2) (fun x => Q x.1 ∧ R x.2) (sz + m)
theorem Flds.read {n : Nat} {cs : List Value} : ∀ {fs : List Field} {off m : Nat} {α : Type} {c : α → List A} {Q : α → Prop} {xs : List (DataW H × List MemPlace)}, Flds enc P w base held φ off fs c Q m → xs.length = fs.length →
    (∀ (i : Nat) (f : Field), fs[i]? = some f → DataW.trod enc P w base (fun _ => true) held n f.type ((cs.drop f.offset).take (P.cellsOf f.type)) = xs[i]?) → (∀ k ∈ DataW.weightsEach P (fs.map (·.type)) (xs.map (·.1)), k ≤ reachBytes) →
    cs.length = off + m → ∃ a, Q a ∧ (c a).length = m ∧ CellsAre φ w (c a) (cs.drop off)
  | _, _, _, _, _, _, [], .nil off, _, _, _, hl => ⟨(), trivial, rfl, by rw [List.drop_of_length_le (by omega)]; exact .nil⟩
  | f :: fs, off, _, _, _, _, x :: xs, .cons (sz := sz) (m := m) ho hc h k, hxl, hx, hw, hl => by
    have h0 := hx 0 f rfl
    rw [ho, hc] at h0
    obtain ⟨a, qa, la, ra⟩ := h n _ x h0 fun k hk => hw k (by
      simp only [List.map_cons, DataW.weightsEach, List.mem_append]; exact .inl hk)
    obtain ⟨b, qb, lb, rb⟩ := Flds.read k (by simpa using hxl) (fun i f' hf => hx (i + 1) f' hf) (fun k hk => hw k (by
      simp only [List.map_cons, DataW.weightsEach, List.mem_append]; exact .inr hk)) (by omega)
    refine ⟨(a, b), ⟨qa, qb⟩, by simp only [List.length_append, la, lb], ?_⟩
    have e : cs.drop off = (cs.drop off).take sz ++ cs.drop (off + sz) := by
      rw [← List.drop_drop, List.take_append_drop]
    rw [e]
    exact ra.app rb
theorem Reads.struct {e m m' : Nat} {fs : Array Field} {l : List Field} {α : Type} {c : α → List A} {Q : α → Prop} (he : P.underlying e = some (.struct fs)) (hc : P.cellsOf e = m) (h : Flds enc P w base held φ 0 l c Q m') (hl : fs.toList = l) (hm : m' = m) : Reads enc P w base held φ e m c Q := by
  subst hl; subst hm
  intro fuel cs y hy hw
  obtain ⟨xs, n, _, hx, hl, hlen, hf⟩ := DataW.trod_struct he hy
  rw [hx] at hw
  simp only [DataW.weights, he] at hw
  obtain ⟨a, q, l, r⟩ := h.read (n := n) (cs := cs) (xs := xs) (by simpa using hlen) (fun i f hf' => hf i f (by simpa using hf')) hw (by omega)
  exact ⟨a, q, l, by simpa using r⟩
theorem Reads.arg_one {t : Nat} {α : Type} {x : α → A} {Q : α → Prop} {v : Value} {d : DataW H} {p : List MemPlace} (h : Reads enc P w base held φ t 1 (fun a => [x a]) Q) (hc : v.cells.toList = [v])
    (ht : DataW.Trod enc P w base (fun _ => true) held t v d p) (hw : ∀ k ∈ d.weights P t, k ≤ reachBytes) : ∃ a, Q a ∧ VR φ (allZ w) w (x a) v := by
  obtain ⟨fuel, ht⟩ := ht
  rw [hc] at ht
  obtain ⟨a, q, _, r⟩ := h fuel _ _ ht hw
  exact ⟨a, q, (r.2 0 (by simp)).1⟩
theorem Reads.arg_slice {t e : Nat} {α : Type} {x : α → A} {Q : α → Prop} {v : Value} {d : DataW H} {p : List MemPlace} {r : Reach} {b0 : Nat} (hu : P.underlying t = some (.slice e)) (h : Reads enc P w base held φ t 1 (fun a => [x a]) Q) (hok : Value.okWide P w r b0 t v)
    (ht : DataW.Trod enc P w base (fun _ => true) held t v d p) (hw : ∀ k ∈ d.weights P t, k ≤ reachBytes) : ∃ a, Q a ∧ VR φ (allZ w) w (x a) v := h.arg_one (slice_cell hu hok).2 ht hw
theorem Reads.ints {t n e : Nat} (hu : P.underlying t = some (.array n e)) (hc : P.cellsOf t = n) (ue : P.underlying e = some (.int .i64)) (ce : P.cellsOf e = 1) :
    Reads enc P w base held φ t n (fun l : List Int => l.map A.int) fun l => l.length = n := by
  intro fuel cs y hy _
  obtain ⟨xs, m, _, _, hl0, hl, hx⟩ := DataW.trod_array hu hy
  rw [ce] at hx
  have hcl : cs.length = n := by omega
  have each : ∀ i, i < n → ∃ z : Int, True ∧ cs[i]? = some (.int .i64 z) := fun i hi => by
    have h1 := hx i hi
    rw [List.getElem?_eq_getElem (by omega)] at h1
    obtain ⟨z, hz, _⟩ := DataW.trod_int ue h1
    refine ⟨z, trivial, ?_⟩
    have h5 := congrArg (fun l => l[0]?) hz
    simpa using h5
  obtain ⟨l, hll, _, hr⟩ := told_list (c := fun _ : Int => []) n each
  refine ⟨l, hll, by simp [hll], by simp [hll, hcl], fun i hi => ?_⟩
  have hi : i < l.length := by simpa using hi
  have h1 := hr i hi
  have e1 : cs.getD i undef = .int .i64 l[i] := by rw [List.getD_eq_getElem?_getD, h1]; rfl
  have e2 : (l.map A.int).getD i .un = A.int l[i] := by simp [List.getD_eq_getElem?_getD, hi]
  rw [e1, e2]
  exact ⟨.s _, rfl⟩
end
end Go.AL

namespace Go.AL.Q
open Go
end Go.AL.Q

namespace Go.AL.Q
open Go
def LeP (a b : List Int) : Prop := a.length = b.length ∧ ∀ i, a.getD i 0 ≤ b.getD i 0
theorem LeP.refl (a : List Int) : LeP a a := ⟨rfl, fun _ => Int.le_refl _⟩
theorem LeP.set {a b : List Int} (h : LeP a b) {i : Nat} {x y : Int} (hi : i < b.length) (hx : x ≤ y) : LeP (a.set i x) (b.set i y) :=
  ⟨by simp [h.1], fun j => by
    have hl := h.1
    rw [getD_set' _ _ _ _ (by omega), getD_set' _ _ _ _ hi]
    split
    · exact hx
    · exact h.2 j⟩
structure PlayIn (r : Rce) (takes recs : List Int) : Prop where
  ok : r.ok = true
  l1 : 1 ≤ takes.length
  l10 : takes.length ≤ 10
  len : recs.length = takes.length
  t : ∀ i, i < takes.length → 0 ≤ takes.getD i 0 ∧ takes.getD i 0 ≤ 100000000
  x : ∀ i, i < takes.length → 0 ≤ recs.getD i 0 ∧ recs.getD i 0 ≤ 100000
theorem PlayIn.of {r : Rce} {takes recs : List Int} (h : playOk r takes recs = true) : PlayIn r takes recs := by
  unfold playOk at h
  have h1 := ac1 h
  have h2 := fun i hi => List.all_eq_true.1 (ac2 h) i (List.mem_range.2 hi)
  unfold playHead at h1
  have a1 := wi_iff.1 (ac2 (ac1 h1))
  have a2 := eq_of_beq (ac2 h1)
  exact ⟨ac1 (ac1 h1), by omega, by omega, by omega, fun i hi => wi_iff.1 (ac1 (h2 i hi)), fun i hi => wi_iff.1 (ac2 (h2 i hi))⟩
theorem LeP.up {l : List Int} {i : Nat} {v : Int} (hi : i < l.length) (h : l.getD i 0 ≤ v) : LeP l (l.set i v) := ⟨by simp, fun j => by
  rw [getD_set' _ _ _ _ hi]
  split
  · rename_i e; subst e; exact h
  · exact Int.le_refl _⟩
theorem LeP.dn {l : List Int} {i : Nat} {v : Int} (hi : i < l.length) (h : v ≤ l.getD i 0) : LeP (l.set i v) l := ⟨by simp, fun j => by
  rw [getD_set' _ _ _ _ hi]
  split
  · rename_i e; subst e; exact h
  · exact Int.le_refl _⟩
end Go.AL.Q

namespace Go.AL.Q
open Go
def Fish.brk (f : Fish) (q : Int) (y r s : Nat) : Bool := decide ((f.spawns r s q).getD y 0 < (f.race r).line)
end Go.AL.Q

namespace Go.AL.Q
open Go
end Go.AL.Q

namespace Go.AL.Q
open Go
end Go.AL.Q

namespace Go.AL.Q
open Go
structure Found (f : Fish) (q : Int) (y r s : Nat) : Prop where
  hy : y < f.years
  hr : r < f.many
  hs : s < f.seasons.length
  hb : f.brk q y r s = true
  before : ∀ y', y' < y → ∀ r', r' < f.many → ∀ s', s' < f.seasons.length → f.brk q y' r' s' = false
  races : ∀ r', r' < r → ∀ s', s' < f.seasons.length → f.brk q y r' s' = false
  seas : ∀ s', s' < s → f.brk q y r s' = false
end Go.AL.Q

namespace Go.AL.Q
open Go
def sp0 : Sp := ⟨0, 0⟩
structure MixOf (n : Nat) (m : List Int) : Prop where
  len : m.length = n
  sum : m.sum = 100
  nn : ∀ x ∈ m, 0 ≤ x
theorem mixL_of : ∀ (k : Nat) (mix : List Int) (left : Nat) (t : List Int), t.length = k + 1 → (∀ x ∈ t, 0 ≤ x) → t.sum = left → mix ++ t ∈ mixL k mix left
  | 0, mix, left, t, hl, hn, hs => by
    match t, hl with
    | [x], _ =>
      simp only [List.sum_cons, List.sum_nil] at hs
      rw [mixL, List.mem_singleton, show x = (left : Int) by omega]
  | k + 1, mix, left, t, hl, hn, hs => by
    match t, hl with
    | x :: t, hl =>
      have hx := hn x (List.mem_cons_self ..)
      have ht : 0 ≤ t.sum := sum_nn fun y hy => hn y (List.mem_cons_of_mem _ hy)
      simp only [List.sum_cons] at hs
      obtain ⟨n, rfl⟩ : ∃ n : Nat, x = n := ⟨x.toNat, by omega⟩
      rw [mixL, List.mem_flatMap]
      refine ⟨n, List.mem_range.2 (by omega), ?_⟩
      have := mixL_of k (mix ++ [(n : Int)]) (left - n) t (by simpa using hl) (fun y hy => hn y (List.mem_cons_of_mem _ hy)) (by omega)
      simpa using this
theorem mix_iff {n : Nat} (h : 1 ≤ n) {m : List Int} : m ∈ mixL (n - 1) [] 100 ↔ MixOf n m := by
  constructor
  · intro hm
    obtain ⟨h1, _, h3, h4⟩ := mixL_mem _ _ _ m hm
    simp only [List.length_nil, List.sum_nil, List.drop_zero] at h1 h3 h4
    exact ⟨by omega, by simpa using h3, h4⟩
  · intro hm
    have := mixL_of (n - 1) [] 100 m (by rw [hm.len]; omega) hm.nn hm.sum
    simpa using this
theorem MixOf.get {n : Nat} {m : List Int} (h : MixOf n m) (i : Nat) : 0 ≤ m.getD i 0 ∧ m.getD i 0 ≤ 100 := by
  rw [List.getD_eq_getElem?_getD]
  cases e : m[i]? with
  | none => simp
  | some x =>
    have hx := List.mem_of_getElem? e
    refine ⟨h.nn x hx, ?_⟩
    have hs := h.sum
    obtain ⟨a, b, rfl⟩ := List.append_of_mem hx
    have ha : 0 ≤ a.sum := sum_nn fun y hy => h.nn y (by simp [hy])
    have hb : 0 ≤ b.sum := sum_nn fun y hy => h.nn y (by simp [hy])
    simp only [List.sum_append, List.sum_cons] at hs
    show x ≤ 100
    omega
theorem wideL_get : ∀ (ss : List Sp) (ns : List Int) (i : Nat), i < ss.length → i < ns.length → (wideL ss ns).getD i sp0 = widen (ss.getD i sp0) (ns.getD i 0)
  | [], _, i, h, _ => by simp at h
  | s :: ss, [], i, _, h => by simp at h
  | s :: ss, n :: ns, 0, _, _ => rfl
  | s :: ss, n :: ns, i + 1, h, k => by
    rw [wideL, List.getD_cons_succ, List.getD_cons_succ, List.getD_cons_succ]
    exact wideL_get ss ns i (by simpa using h) (by simpa using k)
theorem points_get {m : List Int} {i : Nat} (h : i < m.length) : (points m).getD i sp0 = ⟨m.getD i 0, m.getD i 0⟩ := by
  unfold points; simp [List.getD_eq_getElem?_getD, h]
def Told (n : Nat) (P : List Int → Prop) (out : List Sp) : Prop :=
  (out = [] ∧ ∀ m, ¬ P m) ∨ (out.length = n ∧ (∀ m, P m → ∀ i, i < n → (out.getD i sp0).lo ≤ m.getD i 0 ∧ m.getD i 0 ≤ (out.getD i sp0).hi) ∧
    ∀ i, i < n → (∃ m, P m ∧ m.getD i 0 = (out.getD i sp0).lo) ∧ ∃ m, P m ∧ m.getD i 0 = (out.getD i sp0).hi)
theorem Told.step {n : Nat} (hn : 1 ≤ n) {races : List NS} {seen : List Sp} {P : List Int → Prop} {out : List Sp} {m : List Int} (hm : m.length = n) (h : Told n P out) : Told n (fun x => P x ∨ (x = m ∧ agreeF races seen m = true)) (shareStep races seen out m) := by
  unfold shareStep
  cases ha : agreeF races seen m with
  | false =>
    have e : (fun x => P x ∨ (x = m ∧ false = true)) = P := funext fun x => by simp
    rw [if_neg (by decide), e]; exact h
  | true =>
    rw [if_pos rfl]
    right
    have one : (if out = [] then points m else out).length = n ∧ (∀ i, i < n → ∀ x, (P x ∨ x = m) → (wideL (if out = [] then points m else out) m).getD i sp0 = widen ((if out = [] then points m else out).getD i sp0) (m.getD i 0)) := by
      have hl : (if out = [] then points m else out).length = n := by
        split
        · unfold points; simp [hm]
        · rename_i ho
          rcases h with h | h
          · exact absurd h.1 ho
          · exact h.1
      exact ⟨hl, fun i hi _ _ => wideL_get _ _ _ (by omega) (by omega)⟩
    obtain ⟨hl, hw⟩ := one
    have hw : ∀ i, i < n → (wideL (if out = [] then points m else out) m).getD i sp0 = widen ((if out = [] then points m else out).getD i sp0) (m.getD i 0) := fun i hi => hw i hi m (.inr rfl)
    refine ⟨by rw [wideL_len]; exact hl, ?_, ?_⟩
    · rintro x hx i hi
      rw [hw i hi]
      unfold widen
      by_cases ho : out = []
      · rw [if_pos ho, points_get (by omega)]
        rcases h with h | h
        · rcases hx with hx | ⟨rfl, _⟩
          · exact absurd hx (h.2 x)
          · simp only; omega
        · rw [ho] at h; simp at h; omega
      · rw [if_neg ho]
        rcases h with h | h
        · exact absurd h.1 ho
        · rcases hx with hx | ⟨rfl, _⟩
          · have := h.2.1 x hx i hi; simp only; omega
          · simp only; omega
    · intro i hi
      rw [hw i hi]
      unfold widen
      by_cases ho : out = []
      · rw [if_pos ho, points_get (by omega)]
        exact ⟨⟨m, .inr ⟨rfl, rfl⟩, by simp only; omega⟩, m, .inr ⟨rfl, rfl⟩, by simp only; omega⟩
      · rw [if_neg ho]
        rcases h with h | h
        · exact absurd h.1 ho
        · obtain ⟨⟨a, pa, ea⟩, b, pb, eb⟩ := h.2.2 i hi
          constructor
          · by_cases hle : (out.getD i sp0).lo ≤ m.getD i 0
            · exact ⟨a, .inl pa, by simp only; omega⟩
            · exact ⟨m, .inr ⟨rfl, rfl⟩, by simp only; omega⟩
          · by_cases hle : m.getD i 0 ≤ (out.getD i sp0).hi
            · exact ⟨b, .inl pb, by simp only; omega⟩
            · exact ⟨m, .inr ⟨rfl, rfl⟩, by simp only; omega⟩
theorem Told.fold {n : Nat} (hn : 1 ≤ n) {races : List NS} {seen : List Sp} : ∀ (L : List (List Int)) {P : List Int → Prop} {out : List Sp}, (∀ m ∈ L, m.length = n) → Told n P out → Told n (fun x => P x ∨ (x ∈ L ∧ agreeF races seen x = true)) (L.foldl (shareStep races seen) out)
  | [], P, out, _, h => by
    have e : (fun x => P x ∨ (x ∈ ([] : List (List Int)) ∧ agreeF races seen x = true)) = P := funext fun x => by simp
    rw [e]; exact h
  | m :: L, P, out, hl, h => by
    have h2 := Told.fold hn (races := races) (seen := seen) L (fun x hx => hl x (List.mem_cons_of_mem _ hx)) (h.step hn (races := races) (seen := seen) (hl m (List.mem_cons_self ..)))
    rw [List.foldl_cons]
    have e : (fun x => P x ∨ (x ∈ m :: L ∧ agreeF races seen x = true)) = fun x => (P x ∨ (x = m ∧ agreeF races seen m = true)) ∨ (x ∈ L ∧ agreeF races seen x = true) := funext fun x => by
      rw [eq_iff_iff]
      constructor
      · rintro (h | ⟨h, h3⟩)
        · exact .inl (.inl h)
        · rcases List.mem_cons.1 h with rfl | h
          · exact .inl (.inr ⟨rfl, h3⟩)
          · exact .inr ⟨h, h3⟩
      · rintro ((h | ⟨rfl, h⟩) | ⟨h, h2⟩)
        · exact .inl h
        · exact .inr ⟨List.mem_cons_self .., h⟩
        · exact .inr ⟨List.mem_cons_of_mem _ h, h2⟩
    rw [e]; exact h2
theorem share_told (races : List NS) (seen : List Sp) (h : 1 ≤ races.length) : Told races.length (fun m => MixOf races.length m ∧ agreeF races seen m = true) (shareF races seen) := by
  have := Told.fold h (races := races) (seen := seen) (mixL (races.length - 1) [] 100) (P := fun _ => False) (out := []) (fun m hm => ((mix_iff h).1 hm).len) (.inl ⟨rfl, fun _ h => h⟩)
  have e : (fun x => False ∨ (x ∈ mixL (races.length - 1) [] 100 ∧ agreeF races seen x = true)) = fun m => MixOf races.length m ∧ agreeF races seen m = true := funext fun x => by rw [false_or, mix_iff h]
  rw [e] at this
  exact this
structure ShIn (races : List NS) (seen : List Sp) : Prop where
  r1 : 1 ≤ races.length
  r3 : races.length ≤ 3
  s1 : 1 ≤ seen.length
  s6 : seen.length ≤ 6
  sn : ∀ k, k < seen.length → 0 ≤ (seen.getD k sp0).lo ∧ (seen.getD k sp0).lo ≤ (seen.getD k sp0).hi ∧ (seen.getD k sp0).hi ≤ 100
  len : ∀ r, r < races.length → (races.getD r ⟨false, []⟩).l.length = seen.length
  sign : ∀ r k, r < races.length → k < seen.length → 0 ≤ ((races.getD r ⟨false, []⟩).l.getD k sp0).lo ∧ ((races.getD r ⟨false, []⟩).l.getD k sp0).lo ≤ ((races.getD r ⟨false, []⟩).l.getD k sp0).hi ∧ ((races.getD r ⟨false, []⟩).l.getD k sp0).hi ≤ 100
theorem getS_mem {l : List Sp} {k : Nat} (h : k < l.length) : l.getD k sp0 ∈ l := by
  rw [List.getD_eq_getElem?_getD, List.getElem?_eq_getElem h]; exact List.getElem_mem h
theorem pct_iff {s : Sp} : pctOk s = true ↔ 0 ≤ s.lo ∧ s.lo ≤ s.hi ∧ s.hi ≤ 100 := by
  unfold pctOk spannedF
  rw [c_and, Bool.and_eq_true, wi_iff, wi_iff]; omega
theorem signs_iff {l : List Sp} {many : Nat} : signsOk l many = true ↔ (1 ≤ many ∧ many ≤ 6) ∧ l.length = many ∧ ∀ s ∈ l, 0 ≤ s.lo ∧ s.lo ≤ s.hi ∧ s.hi ≤ 100 := by
  unfold signsOk
  rw [c_and, c_and, Bool.and_eq_true, Bool.and_eq_true, wi_iff, beq_iff_eq, List.all_eq_true, and_assoc]
  simp only [pct_iff]
  constructor
  · rintro ⟨h1, h2, h3⟩; exact ⟨by omega, by omega, h3⟩
  · rintro ⟨h1, h2, h3⟩; exact ⟨by omega, by omega, h3⟩
theorem ShIn.of {races : List NS} {seen : List Sp} (h : sharesOk races seen = true) : ShIn races seen := by
  unfold sharesOk at h
  have h1 := wi_iff.1 (ac1 (ac1 h))
  have h2 := signs_iff.1 (ac2 (ac1 h))
  have h3 := List.all_eq_true.1 (ac2 h)
  have hr : ∀ r, r < races.length → races.getD r ⟨false, []⟩ ∈ races := fun r hr => by
    rw [List.getD_eq_getElem?_getD, List.getElem?_eq_getElem hr]; exact List.getElem_mem hr
  refine ⟨by omega, by omega, by omega, by omega, fun k hk => h2.2.2 _ (getS_mem hk), fun r h => (signs_iff.1 (h3 _ (hr r h))).2.1, fun r k h hk => ?_⟩
  have := signs_iff.1 (h3 _ (hr r h))
  exact this.2.2 _ (getS_mem (by omega))
end Go.AL.Q

namespace Go.AL.Q
open Go
theorem mixedL_succ (e : Sp → Int) (m : List Int) (races : List NS) (k n : Nat) : (mixedL e m races k (n + 1)).sum = (mixedL e m races k n).sum + m.getD n 0 * e ((races.getD n ⟨false, []⟩).l.getD k sp0) := by
  unfold mixedL
  rw [List.range_succ, List.map_append, List.sum_append]
  simp only [List.map_cons, List.map_nil, List.sum_cons, List.sum_nil, Int.add_zero]
  rfl
end Go.AL.Q

namespace Go.AL.Q
open Go
theorem signIn_iff {races : List NS} {seen : List Sp} {m : List Int} {k : Nat} : signIn races seen m k = true ↔ mixedF Sp.lo m races k ≤ 100 * (seen.getD k sp0).hi ∧ 100 * (seen.getD k sp0).lo ≤ mixedF Sp.hi m races k := by
  unfold signIn
  simp only [Bool.and_eq_true, Bool.not_eq_true', decide_eq_false_iff_not]
  have e : seen.getD k ⟨0, 0⟩ = seen.getD k sp0 := rfl
  rw [e]; omega
def agreeN (races : List NS) (seen : List Sp) (m : List Int) (k : Nat) : Bool := (List.range k).all (signIn races seen m)
theorem agreeN_succ (races : List NS) (seen : List Sp) (m : List Int) (k : Nat) : agreeN races seen m (k + 1) = (agreeN races seen m k && signIn races seen m k) := by
  unfold agreeN
  rw [List.range_succ, List.all_append]; simp
theorem mixedL_full {e : Sp → Int} {m : List Int} {races : List NS} {k : Nat} (hm : m.length = races.length) : (mixedL e m races k races.length).sum = mixedF e m races k := by unfold mixedF; rw [hm]
theorem mixedL_bd {races : List NS} {seen : List Sp} (h : ShIn races seen) {m : List Int} (hm : MixOf races.length m) {k : Nat} (hk : k < seen.length) : ∀ n, n ≤ races.length → 0 ≤ (mixedL Sp.lo m races k n).sum ∧ (mixedL Sp.lo m races k n).sum ≤ (mixedL Sp.hi m races k n).sum ∧ (mixedL Sp.hi m races k n).sum ≤ 10000 * n
  | 0, _ => by simp [mixedL]
  | n + 1, hn => by
    obtain ⟨i1, i2, i3⟩ := mixedL_bd h hm hk n (by omega)
    have hg := hm.get n
    have hs := h.sign n k (by omega) hk
    rw [mixedL_succ, mixedL_succ]
    generalize (races.getD n ⟨false, []⟩).l.getD k sp0 = s at *
    generalize m.getD n 0 = x at *
    have a1 : 0 ≤ x * s.lo := Int.mul_nonneg hg.1 hs.1
    have a2 : x * s.lo ≤ x * s.hi := Int.mul_le_mul_of_nonneg_left hs.2.1 hg.1
    have a3 : x * s.hi ≤ 100 * 100 := Int.mul_le_mul hg.2 hs.2.2 (by omega) (by decide)
    refine ⟨by omega, by omega, by push_cast; omega⟩
end Go.AL.Q

namespace Go.AL.Q
open Go
theorem bef_irr : ∀ a : List Int, befF a a = false
  | [] => rfl
  | x :: a => by rw [befF, if_pos rfl]; exact bef_irr a
theorem bef_trans : ∀ a b c : List Int, befF a b = true → befF b c = true → befF a c = true
  | [], b, [], h, k => by cases b <;> simp [befF] at h k
  | [], _, _ :: _, _, _ => rfl
  | x :: a, [], c, h, _ => by simp [befF] at h
  | x :: a, y :: b, [], _, k => by simp [befF] at k
  | x :: a, y :: b, z :: c, h, k => by
    rw [befF] at h k ⊢
    by_cases h1 : x = y
    · subst h1
      rw [if_pos rfl] at h
      by_cases h2 : x = z
      · rw [if_pos h2] at k ⊢; exact bef_trans a b c h k
      · rw [if_neg h2] at k ⊢; exact k
    · rw [if_neg h1] at h
      have h := of_decide_eq_true h
      by_cases h2 : y = z
      · subst h2
        rw [if_neg h1]; exact decide_eq_true h
      · rw [if_neg h2] at k
        have k := of_decide_eq_true k
        rw [if_neg (by omega)]; exact decide_eq_true (by omega)
def Ahead (a b : List Int) : Prop := a.length < b.length ∨ (a.length = b.length ∧ befF a b = true)
theorem Ahead.irr {a : List Int} : ¬ Ahead a a := fun h => by
  rcases h with h | h
  · omega
  · rw [bef_irr] at h; cases h.2
theorem Ahead.trans {a b c : List Int} (h : Ahead a b) (k : Ahead b c) : Ahead a c := by
  rcases h with h | h <;> rcases k with k | k
  · exact .inl (by omega)
  · exact .inl (by omega)
  · exact .inl (by omega)
  · exact .inr ⟨by omega, bef_trans _ _ _ h.2 k.2⟩
def Win (v : List Int → Cel) (a b : List Int) : Prop := (v a).sp > (v b).sp ∨ ((v a).sp = (v b).sp ∧ ((v a).la < (v b).la ∨ ((v a).la = (v b).la ∧ Ahead a b)))
theorem Win.irr {v : List Int → Cel} {a : List Int} : ¬ Win v a a := fun h => by
  rcases h with h | ⟨_, h | ⟨_, h⟩⟩
  · omega
  · omega
  · exact h.irr
theorem Win.trans {v : List Int → Cel} {a b c : List Int} (h : Win v a b) (k : Win v b c) : Win v a c := by
  rcases h with h | ⟨h1, h | ⟨h2, h⟩⟩ <;> rcases k with k | ⟨k1, k | ⟨k2, k⟩⟩
  · exact .inl (by omega)
  · exact .inl (by omega)
  · exact .inl (by omega)
  · exact .inl (by omega)
  · exact .inr ⟨by omega, .inl (by omega)⟩
  · exact .inr ⟨by omega, .inl (by omega)⟩
  · exact .inl (by omega)
  · exact .inr ⟨by omega, .inl (by omega)⟩
  · exact .inr ⟨by omega, .inr ⟨by omega, h.trans k⟩⟩
structure Top (v : List Int → Cel) (C : List Int → Prop) (s : BSt) : Prop where
  mem : C s.chosen
  sp : s.sp = (v s.chosen).sp
  la : s.la = (v s.chosen).la
  top : ∀ c, C c → ¬ Win v c s.chosen
theorem Top.step {v : List Int → Cel} {C D : List Int → Prop} {s : BSt} {c : List Int} {b : Bool} (h : Top v C s) (hb : b = true ↔ Win v c s.chosen) (hD : ∀ d, D d ↔ C d ∨ d = c) : Top v D (if b then ⟨c, (v c).sp, (v c).la⟩ else s) := by
  cases b with
  | true =>
    have w := hb.1 rfl
    refine ⟨(hD _).2 (.inr rfl), rfl, rfl, fun d hd wd => ?_⟩
    rcases (hD d).1 hd with hd | rfl
    · exact h.top d hd (Win.trans wd w)
    · exact Win.irr wd
  | false =>
    refine ⟨(hD _).2 (.inl h.mem), h.sp, h.la, fun d hd wd => ?_⟩
    rcases (hD d).1 hd with hd | rfl
    · exact h.top d hd wd
    · have := hb.2 wd; cases this
def pStep (v : List Int → Cel) (s : BSt) (c : List Int) : BSt := if better (v c) s then ⟨c, (v c).sp, (v c).la⟩ else s
theorem Top.fold {v : List Int → Cel} : ∀ (L : List (List Int)) {C : List Int → Prop} {s : BSt}, Top v C s → L.Pairwise Ahead → (∀ d, C d → ∀ c ∈ L, Ahead d c) → Top v (fun d => C d ∨ d ∈ L) (L.foldl (pStep v) s)
  | [], C, s, h, _, _ => by
    have e : (fun d => C d ∨ d ∈ ([] : List (List Int))) = C := funext fun d => by simp
    rw [e]; exact h
  | c :: L, C, s, h, hp, ha => by
    obtain ⟨p1, p2⟩ := List.pairwise_cons.1 hp
    have h1 : Top v (fun d => C d ∨ d = c) (pStep v s c) := h.step (by
      have hah : Ahead s.chosen c := ha _ h.mem c (List.mem_cons_self ..)
      unfold better Win
      rw [h.sp, h.la]
      simp only [Bool.or_eq_true, Bool.and_eq_true, decide_eq_true_eq]
      constructor
      · rintro (h | ⟨h1, h2⟩)
        · exact .inl h
        · exact .inr ⟨h1, .inl h2⟩
      · rintro (h | ⟨h1, h2 | ⟨_, h3⟩⟩)
        · exact .inl h
        · exact .inr ⟨h1, h2⟩
        · exact absurd (hah.trans h3) Ahead.irr) fun d => Iff.rfl
    have h2 := Top.fold L h1 p2 fun d hd e he => by
      rcases hd with hd | rfl
      · exact ha d hd e (List.mem_cons_of_mem _ he)
      · exact p1 e he
    rw [List.foldl_cons]
    have e : (fun d => C d ∨ d ∈ c :: L) = fun d => (C d ∨ d = c) ∨ d ∈ L := funext fun d => by simp [or_assoc]
    rw [e]; exact h2
end Go.AL.Q

set_option maxRecDepth 100000
namespace Go.Proofs.Ytdiclbgklegelaa
open Go Go.AL Go.AL.Q Go.ChangeShapes Go.WideShapes Go.ChangeAt Go.RowKit
section
variable {H : Type} {enc : TypeId × Value → H} {w : World} {base : Nat} {spare : Nat → Bool} {held : Bool} {φ : Names}
end
end Go.Proofs.Ytdiclbgklegelaa

set_option maxRecDepth 100000
namespace Go.Proofs.Ytdiclbgklegelaa
open Go Go.AL Go.AL.Q Go.ChangeShapes Go.WideShapes Go.ChangeAt Go.RowKit
theorem t31 : Try.prog.readableRec 31 = true ∧ 31 < Try.prog.types.size := ty_ok (by kernel_rfl) (by kernel_rfl)
theorem t32 : Try.prog.readableRec 32 = true ∧ 32 < Try.prog.types.size := ty_ok (by kernel_rfl) (by kernel_rfl)
theorem u31 : Try.prog.underlying 31 = some (.slice 32) := by kernel_rfl
theorem u32 : Try.prog.underlying 32 = some (.slice 25) := by kernel_rfl
theorem c32 : Try.prog.cellsOf 32 = 1 := by kernel_rfl
theorem by25 : Try.prog.bytesOf 25 = 16 := by kernel_rfl
theorem by32 : Try.prog.bytesOf 32 = 24 := by kernel_rfl
theorem fit_len {n k : Nat} (h : n * k ≤ reachBytes) (hk : 1 ≤ k) : (n : Int) ≤ 9223372036854775806 := by
  have h3 : n ≤ n * k := Nat.le_mul_of_pos_right _ hk
  have h5 : reachBytes = 140737488351232 := by decide
  omega
section
variable {H : Type} {enc : TypeId × Value → H} {w : World} {base : Nat} {held : Bool} {φ : Names}
theorem r3 : Reads enc Try.prog w base held φ 3 1 (fun n : Int => [A.int n]) fun _ => True := .int u3
theorem rdSp : Reads enc Try.prog w base held φ 25 2 Sp.c (fun _ => True) := by
  have key := Reads.struct (enc := enc) (w := w) (base := base) (held := held) (φ := φ) u25 c25 (Flds.cons (f := fld "Low" 3 0 0) rfl c3 r3 (Flds.cons (f := fld "High" 3 1 8) rfl c3 r3 (Flds.nil _))) rfl rfl
  exact key.imp fun x _ => ⟨⟨x.1, x.2.1⟩, trivial, rfl⟩
theorem rdSps2 : Reads enc Try.prog w base held φ 32 1 NS.c (fun x => (x.l.length : Int) * 16 ≤ 140737488351232) := by
  have key := Reads.slice (enc := enc) (w := w) (base := base) (held := held) (φ := φ) u32 c25 (by decide) rdSp
  exact key.imp fun x h => ⟨⟨x.1, x.2⟩, by
    have h2 := h.2
    rw [by25] at h2
    have h5 : reachBytes = 140737488351232 := by decide
    show (x.2.length : Int) * 16 ≤ _
    omega, rfl⟩
theorem rdSps : Reads enc Try.prog w base held φ 32 1 NS.c NS.Fit := by
  have key := Reads.slice (enc := enc) (w := w) (base := base) (held := held) (φ := φ) u32 c25 (by decide) rdSp
  exact key.imp fun x h => ⟨⟨x.1, x.2⟩, fit_len h.2 (by rw [by25]; decide), rfl⟩
variable {v : Value} {d : DataW H} {p : List MemPlace} {r : Reach} {b0 : Nat}
theorem arg_signs (hok : Value.okWide Try.prog w r b0 31 v) (h : DataW.Trod enc Try.prog w base (fun _ => true) held 31 v d p) (hw : ∀ k ∈ d.weights Try.prog 31, k ≤ reachBytes) :
    ∃ (b : Bool) (l : List NS), VR φ (allZ w) w (.sl b .any (l.map NS.c)) v ∧ (l.length : Int) ≤ 9223372036854775806 ∧ ∀ x ∈ l, (x.l.length : Int) * 16 ≤ 140737488351232 := by
  obtain ⟨x, q, e⟩ := (Reads.slice (φ := φ) u31 c32 (by decide) rdSps2).arg_slice u31 hok h hw
  exact ⟨x.1, x.2, e, fit_len q.2 (by rw [by32]; decide), q.1⟩
theorem arg_spans (hok : Value.okWide Try.prog w r b0 32 v) (h : DataW.Trod enc Try.prog w base (fun _ => true) held 32 v d p) (hw : ∀ k ∈ d.weights Try.prog 32, k ≤ reachBytes) :
    ∃ (b : Bool) (l : List Sp), VR φ (allZ w) w (.sl b .any (l.map Sp.c)) v ∧ (l.length : Int) ≤ 9223372036854775806 := by
  obtain ⟨x, q, e⟩ := (rdSps (φ := φ)).arg_slice u32 hok h hw
  exact ⟨x.n, x.l, e, q⟩
end
end Go.Proofs.Ytdiclbgklegelaa

namespace Go.Proofs.Ytdiclbgklegelaa
open Go Go.AL Go.AL.Q
end Go.Proofs.Ytdiclbgklegelaa

namespace Go.Proofs.Ytdiclbgklegelaa
open Go Go.AL Go.AL.Q
end Go.Proofs.Ytdiclbgklegelaa

namespace Go.Proofs.Ytdiclbgklegelaa
open Go Go.AL Go.AL.Q
end Go.Proofs.Ytdiclbgklegelaa

namespace Go.Proofs.Ytdiclbgklegelaa
open Go Go.AL Go.AL.Q
end Go.Proofs.Ytdiclbgklegelaa

namespace Go.Proofs.Ytdiclbgklegelaa
open Go Go.AL Go.AL.Q
end Go.Proofs.Ytdiclbgklegelaa

namespace Go.Proofs.Ytdiclbgklegelaa
open Go Go.AL Go.AL.Q
end Go.Proofs.Ytdiclbgklegelaa

namespace Go.Proofs.Ytdiclbgklegelaa
open Go Go.AL Go.AL.Q
end Go.Proofs.Ytdiclbgklegelaa

namespace Go.Proofs.Ytdiclbgklegelaa
open Go Go.AL Go.AL.Q
end Go.Proofs.Ytdiclbgklegelaa

namespace Go.Proofs.Ytdiclbgklegelaa
open Go Go.AL Go.AL.Q
end Go.Proofs.Ytdiclbgklegelaa

namespace Go.Proofs.Ytdiclbgklegelaa
open Go Go.AL Go.AL.Q
end Go.Proofs.Ytdiclbgklegelaa

namespace Go.Proofs.Ytdiclbgklegelaa
open Go Go.AL Go.AL.Q
theorem ns_at (l : List NS) {r : Nat} (h : r < l.length) : (l.map NS.c)[r]? = some (l.getD r ⟨false, []⟩).c := by
  rw [get_map h, List.getD_eq_getElem?_getD, List.getElem?_eq_getElem h]; rfl
theorem sp_at (l : List Sp) {r : Nat} (h : r < l.length) : (l.map Sp.c)[r]? = some (l.getD r sp0).c := by
  rw [get_map h, List.getD_eq_getElem?_getD, List.getElem?_eq_getElem h]; rfl
end Go.Proofs.Ytdiclbgklegelaa

namespace Go.Proofs.Ytdiclbgklegelaa
open Go Go.AL Go.AL.Q
end Go.Proofs.Ytdiclbgklegelaa

namespace Go.Proofs.Ytdiclbgklegelaa
open Go Go.AL Go.AL.Q
end Go.Proofs.Ytdiclbgklegelaa

namespace Go.Proofs.Ytdiclbgklegelaa
open Go Go.AL Go.AL.Q
theorem A.Le.tup {l m : List A} (h : LeL l m) : A.Le (.tup l) (.tup m) := ⟨fun φ Z w v hv => by
  obtain ⟨vs, e0, e1, e3⟩ := inv_tup hv
  subst e0
  exact .tup _ _ (by rw [e1, h.len]) fun i hi => (h.get i).vr _ _ _ _ (e3 i (by rw [← h.len]; exact hi)), fun v p e => by simp [spareOf] at e⟩
theorem Ans_out {f : FuncId} {args : List A} {v v' : A} (h : Ans Try.prog f args v) (hl : A.Le v' v) : Ans Try.prog f args v' := ⟨h.ent, fun φ Z w vs hz hvs => (h.pure φ Z w vs hz hvs).mono fun e w' ⟨u, Z', h1, h2, h3, h4⟩ =>
  ⟨u, Z', h1, h2, hl.1 _ _ _ _ h3, fun u' => by
    cases e : spareOf v' u' with
    | none => rfl
    | some p => have := hl.2 _ _ e; rw [h4] at this; cases this⟩⟩
end Go.Proofs.Ytdiclbgklegelaa

namespace Go.Proofs.Ytdiclbgklegelaa
open Go Go.AL Go.AL.Q
def outSW (l : List Sp) : A := .sl l.isEmpty .any (l.map Sp.c)
theorem outSW_le : ∀ l : List Sp, A.Le (outSW l) (outS l)
  | [] => .any _ _ _
  | _ :: _ => .any _ _ _
theorem cells_put {l : List Sp} {k : Nat} (h : k < l.length) (s : Sp) : setSeg ((l.map Sp.c).flatten) (0 + k * 2) s.c = ((l.set k s).map Sp.c).flatten := by
  have := rows_set (c := Sp.c) (sz := 2) (fun _ => rfl) (fun _ => rfl) h s
  rwa [flat_down (c := Sp.c) (fun _ => rfl)] at this
theorem spB_under {n : Nat} (l : List Sp) : UnderB n (.cells ((l.map Sp.c).flatten)) := .cells _ fun v hv => by
  obtain ⟨e, he, hv⟩ := List.mem_flatten.1 hv
  obtain ⟨s, _, rfl⟩ := List.mem_map.1 he
  exact (s.free v hv).under
end Go.Proofs.Ytdiclbgklegelaa

namespace Go.Proofs.Ytdiclbgklegelaa
open Go Go.AL Go.AL.Q
theorem rsigns_t (p : Bool) (l : List Sp) (many : Int) (hl : (l.length : Int) ≤ 9223372036854775806) : Ans Try.prog 68 [.sl p .any (l.map Sp.c), .int many] (.bool (cond (cond (wi many 1 6) ((l.length : Int) == many) false) (l.all pctOk) false)) := by
  have fl : Free (.sl p .any (l.map Sp.c)) := free_map Sp.free _ _ _
  have zl : ((l.map Sp.c).length : Int) = l.length := by simp
  refine told Try.func68 rfl rfl (Pure.of tab_ok Try.func68 rfl Try.ntmps68 rfl (allC (fl) (all1 (.s _))) (allC (fun _ => rfl) (all1 (fun _ => rfl))) (by first | exact .s _ | assumption | exact .tup _ (by intro x hx; simp only [List.mem_cons, List.not_mem_nil, or_false] at hx; rcases hx with rfl | rfl | rfl | rfl <;> first | exact .s _ | (simp_all; done))) fun E hE => ?_)
  refine Aw.sm tab_ok mb0 [] rfl rfl ?zo ?zk
  case zo =>
    repeat' apply AllP.cons
    all_goals first | exact trivial | exact id | exact rfl | exact fun _ => rfl | exact Nat.le_of_ble_eq_true rfl | exact fun _ => Nat.le_of_ble_eq_true rfl | exact Int.natCast_nonneg _ | exact fun _ => Int.natCast_nonneg _ | exact in_t _ _ _ | exact (in_t _ _ _).un | exact gq_f
  case zk =>
  refine Aw.sm tab_ok mb0 [(1, [.bool (wi many 1 6)])] rfl rfl ?zo ?zk
  case zo =>
    repeat' apply AllP.cons
    all_goals first | exact trivial | exact id | exact rfl | exact fun _ => rfl | exact Nat.le_of_ble_eq_true rfl | exact fun _ => Nat.le_of_ble_eq_true rfl | exact Int.natCast_nonneg _ | exact fun _ => Int.natCast_nonneg _ | exact in_t _ _ _ | exact (in_t _ _ _).un | exact gq_f
  case zk =>
  generalize hb0 : cond (wi many 1 6) (((l.map Sp.c).length : Int) == many) false = b0
  have hb0' : cond (wi many 1 6) ((l.length : Int) == many) false = b0 := by rw [← hb0, zl]
  rw [hb0']
  refine Aw.seq ?_
  refine Aw.sm tab_ok mb0 [] rfl rfl ?zo ?zk
  case zo =>
    repeat' apply AllP.cons
    all_goals first | exact trivial | exact id | exact rfl | exact fun _ => rfl | exact Nat.le_of_ble_eq_true rfl | exact fun _ => Nat.le_of_ble_eq_true rfl | exact Int.natCast_nonneg _ | exact fun _ => Int.natCast_nonneg _ | exact in_t _ _ _ | exact (in_t _ _ _).un | exact gq_f
  case zk =>
  refine Aw.block (Aw.rounds 0 hE [(0, .sl p .any (l.map Sp.c))] (fun k : Nat => [(5, .bool (andAll b0 pctOk l k)), (6, .int k)]) (fun _ => []) (fun k => k ≤ l.length) (fun k => l.length - k) 0
    (Nat.zero_le _) ⟨⟨.refl _, trivial⟩, ⟨.of_eq (by rw [andAll_zero]; rfl), .refl _, trivial⟩, trivial, Nat.zero_le _⟩ ⟨fl.under, trivial⟩ (fun _ _ => ⟨.s _, .s _, trivial⟩) (fun _ _ => trivial) fun k hk => ?_)
  refine Aw.seq ?_
  refine Aw.sm tab_ok mb0 [] rfl rfl ?zo ?zk
  case zo =>
    repeat' apply AllP.cons
    all_goals first | exact trivial | exact id | exact rfl | exact fun _ => rfl | exact Nat.le_of_ble_eq_true rfl | exact fun _ => Nat.le_of_ble_eq_true rfl | exact Int.natCast_nonneg _ | exact fun _ => Int.natCast_nonneg _ | exact in_t _ _ _ | exact (in_t _ _ _).un | exact gq_f
  case zk =>
  refine Aw.cond rfl (fun h1 => Aw.skip ?_) (fun h1 => ?_)
  · have h1 : cond (andAll b0 pctOk l k) (decide ((k : Int) < ((l.map Sp.c).length : Int))) false = true := h1
    have hb := ac1 h1
    have hlt : k < l.length := by have := of_decide_eq_true (ac2 h1); omega
    have gl := get_map (f := Sp.c) hlt
    have hst := andAll_succ hlt hb
    generalize l[k] = x at *
    refine Aw.seq (Aw.block ?_)
    refine Aw.em tab_ok mb0 [(2, x.c), (4, [.bool (spannedF x.lo x.hi 0 100)])] rfl rfl ?zo ?zk
    case zo =>
      repeat' apply AllP.cons
      all_goals first | exact trivial | exact id | exact rfl | exact fun _ => rfl | exact Nat.le_of_ble_eq_true rfl | exact fun _ => Nat.le_of_ble_eq_true rfl | exact Int.natCast_nonneg _ | exact fun _ => Int.natCast_nonneg _ | exact in_t _ _ _ | exact (in_t _ _ _).un | exact gq_f | exact gl | exact rspanned_t x _ _
    case zk =>
    refine Aw.em tab_ok mb0 [] rfl rfl ?zo ?zk
    case zo =>
      repeat' apply AllP.cons
      all_goals first | exact trivial | exact id | exact rfl | exact fun _ => rfl | exact Nat.le_of_ble_eq_true rfl | exact fun _ => Nat.le_of_ble_eq_true rfl | exact Int.natCast_nonneg _ | exact fun _ => Int.natCast_nonneg _ | exact in_t _ _ _ | exact (in_t _ _ _).un | exact gq_f | exact inrk k (by omega)
    case zk =>
    exact ⟨k + 1, hlt, by omega, ⟨.refl _, trivial⟩, ⟨.of_eq (congrArg A.bool hst), .refl _, trivial⟩, trivial, Nat.zero_le _⟩
  have h1 : cond (andAll b0 pctOk l k) (decide ((k : Int) < ((l.map Sp.c).length : Int))) false = false := h1
  have hend : andAll b0 pctOk l k = cond b0 (l.all pctOk) false := andAll_end (by
      cases e : andAll b0 pctOk l k with
      | false => exact .inl rfl
      | true => rw [e] at h1; have := of_decide_eq_false h1; exact .inr (by omega)) hk
  rw [hend]
  refine Aw.exit2 ?_
  refine Aw.sm tab_ok mb0 [] rfl rfl ?zo ?zk
  case zo =>
    repeat' apply AllP.cons
    all_goals first | exact trivial | exact id | exact rfl | exact fun _ => rfl | exact Nat.le_of_ble_eq_true rfl | exact fun _ => Nat.le_of_ble_eq_true rfl | exact Int.natCast_nonneg _ | exact fun _ => Int.natCast_nonneg _ | exact in_t _ _ _ | exact (in_t _ _ _).un | exact gq_f
  case zk =>
  exact Aw.ret ⟨_, .cons (.tmp _) .nil, rfl⟩
theorem plus_t (b : Bool) (l : List Int) (n : Int) (hl : l.length ≤ 100) : Ans Try.prog 90 [.sl b .any (ints l), .int n] (.sl false .any (ints (l ++ [n]))) := by
  have hfr : Free (.sl false .any (ints (l ++ [n]))) := free_ints _ _ _
  have hz := ints_one l
  have hlen := ints_len l
  refine told Try.func90 rfl rfl (Pure.of tab_ok Try.func90 rfl Try.ntmps90 rfl (allC (free_ints _ _ _) (all1 (.s _))) (allC (fun _ => rfl) (all1 (fun _ => rfl))) (by first | exact .s _ | assumption | exact .tup _ (by intro x hx; simp only [List.mem_cons, List.not_mem_nil, or_false] at hx; rcases hx with rfl | rfl | rfl | rfl <;> first | exact .s _ | (simp_all; done))) fun E hE => ?_)
  refine Aw.sm tab_ok mb0 [] rfl rfl ?zo ?zk
  case zo =>
    repeat' apply AllP.cons
    all_goals first | exact trivial | exact id | exact rfl | exact fun _ => rfl | exact Nat.le_of_ble_eq_true rfl | exact fun _ => Nat.le_of_ble_eq_true rfl | exact Int.natCast_nonneg _ | exact fun _ => Int.natCast_nonneg _ | exact in_t _ _ _ | exact (in_t _ _ _).un | exact gq_f
  case zk =>
  refine Aw.sm tab_ok mb0 [] rfl rfl ?zo ?zk
  case zo =>
    repeat' apply AllP.cons
    all_goals first | exact trivial | exact id | exact rfl | exact fun _ => rfl | exact Nat.le_of_ble_eq_true rfl | exact fun _ => Nat.le_of_ble_eq_true rfl | exact Int.natCast_nonneg _ | exact fun _ => Int.natCast_nonneg _ | exact in_t _ _ _ | exact (in_t _ _ _).un | exact gq_f | exact hz | exact (show ([] ++ ints l).length ≤ maxLen by unfold maxLen; simp; omega) | exact (show (0 + (ints l).length) * 8 ≤ 140737488355328 by omega) | exact (show 0 + (ints l).length ≤ maxLen by unfold maxLen; omega)
  case zk =>
  refine Aw.sm tab_ok mb0 [] rfl rfl ?zo ?zk
  case zo =>
    repeat' apply AllP.cons
    all_goals first | exact trivial | exact id | exact rfl | exact fun _ => rfl | exact Nat.le_of_ble_eq_true rfl | exact fun _ => Nat.le_of_ble_eq_true rfl | exact Int.natCast_nonneg _ | exact fun _ => Int.natCast_nonneg _ | exact in_t _ _ _ | exact (in_t _ _ _).un | exact gq_f | exact (show ∀ z ∈ [[A.int _]], z.length = 1 from fun z hz => by simp at hz; subst hz; rfl) | exact hz | exact (show ((ints l).length + 1) * 8 ≤ 140737488355328 by omega) | exact (show (ints l).length + 1 ≤ maxLen by unfold maxLen; omega)
  case zk =>
  exact Aw.ret ⟨_, .cons (.tmp _) .nil, by simp [ints]; rfl⟩
theorem wider_t (s : Sp) (n : Int) (first : Bool) : Ans Try.prog 71 [.agg s.c, .int n, .bool first] (.agg (Sp.c (if first then ⟨n, n⟩ else widen s n))) := by
  have hfr : Free (.agg (Sp.c (if first then ⟨n, n⟩ else widen s n))) := .agg _ (Sp.free _)
  refine told Try.func71 rfl rfl (Pure.of tab_ok Try.func71 rfl Try.ntmps71 rfl (allC (.agg _ s.free) (allC (.s _) (all1 (.s _)))) (allC (fun _ => rfl) (allC (fun _ => rfl) (all1 (fun _ => rfl)))) (by first | exact .s _ | assumption | exact .tup _ (by intro x hx; simp only [List.mem_cons, List.not_mem_nil, or_false] at hx; rcases hx with rfl | rfl | rfl | rfl <;> first | exact .s _ | (simp_all; done))) fun E hE => ?_)
  refine Aw.sm tab_ok mb0 [] rfl rfl ?zo ?zk
  case zo =>
    repeat' apply AllP.cons
    all_goals first | exact trivial | exact id | exact rfl | exact fun _ => rfl | exact Nat.le_of_ble_eq_true rfl | exact fun _ => Nat.le_of_ble_eq_true rfl | exact Int.natCast_nonneg _ | exact fun _ => Int.natCast_nonneg _ | exact in_t _ _ _ | exact (in_t _ _ _).un | exact gq_f
  case zk =>
  refine Aw.seq ?_
  refine Aw.sm tab_ok mb0 [] rfl rfl ?zo ?zk
  case zo =>
    repeat' apply AllP.cons
    all_goals first | exact trivial | exact id | exact rfl | exact fun _ => rfl | exact Nat.le_of_ble_eq_true rfl | exact fun _ => Nat.le_of_ble_eq_true rfl | exact Int.natCast_nonneg _ | exact fun _ => Int.natCast_nonneg _ | exact in_t _ _ _ | exact (in_t _ _ _).un | exact gq_f
  case zk =>
  refine Aw.cond rfl (fun h => ?_) (fun h => Aw.skip ?_)
  · have h : first = true := h
    subst h
    refine Aw.sm tab_ok mb0 [] rfl rfl ?zo ?zk
    case zo =>
      repeat' apply AllP.cons
      all_goals first | exact trivial | exact id | exact rfl | exact fun _ => rfl | exact Nat.le_of_ble_eq_true rfl | exact fun _ => Nat.le_of_ble_eq_true rfl | exact Int.natCast_nonneg _ | exact fun _ => Int.natCast_nonneg _ | exact in_t _ _ _ | exact (in_t _ _ _).un | exact gq_f
    case zk =>
    exact Aw.ret ⟨_, .cons (resC rfl rfl (by decide) rfl rfl) .nil, rfl⟩
  · have h : first = false := h
    subst h
    have e : Sp.c (widen s n) = [.int (if n < s.lo then n else s.lo), .int (if n > s.hi then n else s.hi)] := by
      unfold Sp.c widen
      have e1 : min s.lo n = if n < s.lo then n else s.lo := by rw [Int.min_def]; split <;> split <;> omega
      have e2 : max s.hi n = if n > s.hi then n else s.hi := by rw [Int.max_def]; split <;> split <;> omega
      simp only [e1, e2]
    rw [if_neg (by decide), e]
    refine Aw.sm tab_ok mb0 [] rfl rfl ?zo ?zk
    case zo =>
      repeat' apply AllP.cons
      all_goals first | exact trivial | exact id | exact rfl | exact fun _ => rfl | exact Nat.le_of_ble_eq_true rfl | exact fun _ => Nat.le_of_ble_eq_true rfl | exact Int.natCast_nonneg _ | exact fun _ => Int.natCast_nonneg _ | exact in_t _ _ _ | exact (in_t _ _ _).un | exact gq_f
    case zk =>
    exact Aw.ret ⟨_, .cons (resC rfl rfl (by decide) rfl rfl) .nil, rfl⟩
def mrow (m : List Int) : List A := [.sl false .any (ints m)]
theorem mrow_free (m : List Int) : ∀ y ∈ mrow m, Free y := all1 (free_ints _ _ _)
theorem mrows_one (l : List (List Int)) : ∀ z ∈ l.map mrow, z.length = 1 := fun z hz => by obtain ⟨s, _, rfl⟩ := List.mem_map.1 hz; rfl
def grM : List (List Int) → A
  | [] => .sl true .exact []
  | x :: l => .sl false (.own 37) ((x :: l).map mrow)
theorem grM_ne {l : List (List Int)} (h : l ≠ []) : grM l = .sl false (.own 37) (l.map mrow) := by
  cases l with
  | nil => exact absurd rfl h
  | cons x l => rfl
theorem grM_under {n : Nat} : ∀ l : List (List Int), Under n (grM l)
  | [] => .sl _ _ _ (fun _ h => by cases h)
  | x :: l => .sl _ _ _ fun e he y hy => by
    obtain ⟨s, _, rfl⟩ := List.mem_map.1 he
    exact (mrow_free s y hy).under
def mixRows (k : Nat) (begin : List Int) (left : Nat) (n : Nat) : List (List Int) := (List.range n).flatMap fun (i : Nat) => mixL k (begin ++ [(i : Int)]) (left - i)
theorem mixRows_succ (k : Nat) (begin : List Int) (left n : Nat) : mixRows k begin left (n + 1) = mixRows k begin left n ++ mixL k (begin ++ [(n : Int)]) (left - n) := by
  unfold mixRows
  rw [List.range_succ, List.flatMap_append]; simp
theorem mixL_count : ∀ (k : Nat) (begin : List Int) (left : Nat), left ≤ 100 → 1 ≤ (mixL k begin left).length ∧ (mixL k begin left).length ≤ 101 ^ k
  | 0, _, _, _ => by simp [mixL]
  | k + 1, begin, left, h => by
    have gen : ∀ n, n ≤ left + 1 → (mixRows k begin left n).length ≤ n * 101 ^ k ∧ (1 ≤ n → 1 ≤ (mixRows k begin left n).length) := fun n => by
      induction n with
      | zero => intro _; simp [mixRows]
      | succ n ih =>
        intro hn
        have ih := ih (by omega)
        have := mixL_count k (begin ++ [(n : Int)]) (left - n) (by omega)
        rw [mixRows_succ, List.length_append, Nat.add_mul, Nat.one_mul]
        omega
    have e : mixL (k + 1) begin left = mixRows k begin left (left + 1) := rfl
    rw [e]
    have g := gen (left + 1) (Nat.le_refl _)
    refine ⟨g.2 (by omega), Nat.le_trans g.1 ?_⟩
    rw [Nat.pow_succ, Nat.mul_comm]
    exact Nat.mul_le_mul_left _ (by omega)
theorem mixRows_count {k : Nat} {begin : List Int} {left : Nat} (h : left ≤ 100) : ∀ n, n ≤ left + 1 → (mixRows k begin left n).length ≤ n * 101 ^ k
  | 0, _ => by simp [mixRows]
  | n + 1, hn => by
    have ih := mixRows_count h (k := k) (begin := begin) n (by omega)
    have := mixL_count k (begin ++ [(n : Int)]) (left - n) (by omega)
    rw [mixRows_succ, List.length_append, Nat.add_mul, Nat.one_mul]
    omega
theorem mixings0_t (left : Nat) (nb : Bool) (begin : List Int) (hb : begin.length ≤ 3) : Ans Try.prog 69 [.int 1, .int left, .sl nb .any (ints begin)] (.sl false .any ((mixL 0 begin left).map mrow)) := by
  have cp := plus_t nb begin left (by omega)
  have key : Ans Try.prog 69 [.int 1, .int left, .sl nb .any (ints begin)] (.sl false .exact ((mixL 0 begin left).map mrow)) := by
    have hfr : Free (.sl false .exact ((mixL 0 begin left).map mrow)) := free_map mrow_free _ _ _
    refine told Try.func69 rfl rfl (Pure.of tab_ok Try.func69 rfl Try.ntmps69 rfl (allC (.s _) (allC (.s _) (all1 (free_ints _ _ _)))) (allC (fun _ => rfl) (allC (fun _ => rfl) (all1 (fun _ => rfl)))) (by first | exact .s _ | assumption | exact .tup _ (by intro x hx; simp only [List.mem_cons, List.not_mem_nil, or_false] at hx; rcases hx with rfl | rfl | rfl | rfl <;> first | exact .s _ | (simp_all; done))) fun E hE => ?_)
    refine Aw.sm tab_ok mb0 [] rfl rfl ?zo ?zk
    case zo =>
      repeat' apply AllP.cons
      all_goals first | exact trivial | exact id | exact rfl | exact fun _ => rfl | exact Nat.le_of_ble_eq_true rfl | exact fun _ => Nat.le_of_ble_eq_true rfl | exact Int.natCast_nonneg _ | exact fun _ => Int.natCast_nonneg _ | exact in_t _ _ _ | exact (in_t _ _ _).un | exact gq_f
    case zk =>
    refine Aw.seq ?_
    refine Aw.sm tab_ok mb0 [] rfl rfl ?zo ?zk
    case zo =>
      repeat' apply AllP.cons
      all_goals first | exact trivial | exact id | exact rfl | exact fun _ => rfl | exact Nat.le_of_ble_eq_true rfl | exact fun _ => Nat.le_of_ble_eq_true rfl | exact Int.natCast_nonneg _ | exact fun _ => Int.natCast_nonneg _ | exact in_t _ _ _ | exact (in_t _ _ _).un | exact gq_f
    case zk =>
    refine Aw.cond rfl (fun h => ?_) (fun h => absurd h (by decide))
    refine Aw.sm tab_ok mb0 [(2, [.sl false .any (ints (begin ++ [(left : Int)]))])] rfl rfl ?zo ?zk
    case zo =>
      repeat' apply AllP.cons
      all_goals first | exact trivial | exact id | exact rfl | exact fun _ => rfl | exact Nat.le_of_ble_eq_true rfl | exact fun _ => Nat.le_of_ble_eq_true rfl | exact Int.natCast_nonneg _ | exact fun _ => Int.natCast_nonneg _ | exact in_t _ _ _ | exact (in_t _ _ _).un | exact gq_f | exact cp
    case zk =>
    exact Aw.ret ⟨_, .cons (.tmp _) .nil, rfl⟩
  exact Ans_out key (.any _ _ _)
end Go.Proofs.Ytdiclbgklegelaa

namespace Go.Proofs.Ytdiclbgklegelaa
open Go Go.AL Go.AL.Q
def MixT (k : Nat) : Prop := ∀ (left : Nat) (nb : Bool) (begin : List Int), left ≤ 100 → begin.length + k ≤ 3 → Ans Try.prog 69 [.int ((k : Int) + 1), .int left, .sl nb .any (ints begin)] (.sl false .any ((mixL k begin left).map mrow))
theorem mixT_zero : MixT 0 := fun left nb begin _ hb => mixings0_t left nb begin (by omega)
theorem mixT_succ (k : Nat) (hk : k ≤ 2) (ih : MixT k) : MixT (k + 1) := by
  intro left nb begin hl hb
  have hne : mixL (k + 1) begin left ≠ [] := fun h => by have := (mixL_count (k + 1) begin left hl).1; rw [h] at this; simp at this
  have hfr : Free (.sl false .any ((mixL (k + 1) begin left).map mrow)) := free_map mrow_free _ _ _
  have hR : mixL (k + 1) begin left = mixRows k begin left (left + 1) := rfl
  have p3 : 101 ^ k ≤ 101 ^ 2 := Nat.pow_le_pow_right (by decide) hk
  rw [hR] at hne hfr ⊢
  refine told Try.func69 rfl rfl (Pure.of tab_ok Try.func69 rfl Try.ntmps69 rfl (allC (.s _) (allC (.s _) (all1 (free_ints _ _ _)))) (allC (fun _ => rfl) (allC (fun _ => rfl) (all1 (fun _ => rfl)))) (by first | exact .s _ | assumption | exact .tup _ (by intro x hx; simp only [List.mem_cons, List.not_mem_nil, or_false] at hx; rcases hx with rfl | rfl | rfl | rfl <;> first | exact .s _ | (simp_all; done))) fun E hE => ?_)
  refine Aw.sm tab_ok mb0 [] rfl rfl ?zo ?zk
  case zo =>
    repeat' apply AllP.cons
    all_goals first | exact trivial | exact id | exact rfl | exact fun _ => rfl | exact Nat.le_of_ble_eq_true rfl | exact fun _ => Nat.le_of_ble_eq_true rfl | exact Int.natCast_nonneg _ | exact fun _ => Int.natCast_nonneg _ | exact in_t _ _ _ | exact (in_t _ _ _).un | exact gq_f
  case zk =>
  refine Aw.seq ?_
  refine Aw.sm tab_ok mb0 [] rfl rfl ?zo ?zk
  case zo =>
    repeat' apply AllP.cons
    all_goals first | exact trivial | exact id | exact rfl | exact fun _ => rfl | exact Nat.le_of_ble_eq_true rfl | exact fun _ => Nat.le_of_ble_eq_true rfl | exact Int.natCast_nonneg _ | exact fun _ => Int.natCast_nonneg _ | exact in_t _ _ _ | exact (in_t _ _ _).un | exact gq_f
  case zk =>
  refine Aw.cond rfl (fun h => ?_) (fun h => Aw.skip ?_)
  · have h : (((k + 1 : Nat) : Int) + 1 == 1) = true := h
    have := eq_of_beq h; omega
  refine Aw.sm tab_ok mb0 [] rfl rfl ?zo ?zk
  case zo =>
    repeat' apply AllP.cons
    all_goals first | exact trivial | exact id | exact rfl | exact fun _ => rfl | exact Nat.le_of_ble_eq_true rfl | exact fun _ => Nat.le_of_ble_eq_true rfl | exact Int.natCast_nonneg _ | exact fun _ => Int.natCast_nonneg _ | exact in_t _ _ _ | exact (in_t _ _ _).un | exact gq_f
  case zk =>
  refine Aw.seq ?_
  refine Aw.sm tab_ok mb0 [] rfl rfl ?zo ?zk
  case zo =>
    repeat' apply AllP.cons
    all_goals first | exact trivial | exact id | exact rfl | exact fun _ => rfl | exact Nat.le_of_ble_eq_true rfl | exact fun _ => Nat.le_of_ble_eq_true rfl | exact Int.natCast_nonneg _ | exact fun _ => Int.natCast_nonneg _ | exact in_t _ _ _ | exact (in_t _ _ _).un | exact gq_f
  case zk =>
  refine Aw.block (Aw.rounds 0 hE [(0, .int (((k + 1 : Nat) : Int) + 1)), (1, .int left), (2, .sl nb .any (ints begin))] (fun n : Nat => [(7, grM (mixRows k begin left n)), (8, .int n)]) (fun _ => []) (fun n => n ≤ left + 1) (fun n => left + 1 - n) 0
    (Nat.zero_le _) ⟨⟨.refl _, .refl _, .refl _, trivial⟩, ⟨.refl _, .refl _, trivial⟩, trivial, Nat.zero_le _⟩ ⟨.s _, .s _, (free_ints _ _ _).under, trivial⟩ (fun _ _ => ⟨grM_under _, .s _, trivial⟩) (fun _ _ => trivial) fun n hn => ?_)
  refine Aw.seq ?_
  refine Aw.sm tab_ok mb0 [] rfl rfl ?zo ?zk
  case zo =>
    repeat' apply AllP.cons
    all_goals first | exact trivial | exact id | exact rfl | exact fun _ => rfl | exact Nat.le_of_ble_eq_true rfl | exact fun _ => Nat.le_of_ble_eq_true rfl | exact Int.natCast_nonneg _ | exact fun _ => Int.natCast_nonneg _ | exact in_t _ _ _ | exact (in_t _ _ _).un | exact gq_f
  case zk =>
  refine Aw.cond rfl (fun h1 => Aw.skip ?_) (fun h1 => ?_)
  · have hlt : n ≤ left := by have := of_decide_eq_true h1; omega
    have cp := plus_t nb begin n (by omega)
    have cr : Ans Try.prog 69 [.int (((k + 1 : Nat) : Int) + 1 - 1), .int ((left : Int) - n), .sl false .any (ints (begin ++ [(n : Int)]))] (.sl false .any ((mixL k (begin ++ [(n : Int)]) (left - n)).map mrow)) := by
      have := ih (left - n) false (begin ++ [(n : Int)]) (by omega) (by simp; omega)
      rw [show (((k + 1 : Nat) : Int) + 1 - 1) = (k : Int) + 1 by omega, show (left : Int) - n = ((left - n : Nat) : Int) by omega]
      exact this
    have hs := mixRows_succ k begin left n
    have hc1 := mixRows_count hl (k := k) (begin := begin) n hn
    have hc2 := mixL_count k (begin ++ [(n : Int)]) (left - n) (by omega)
    have hle : n * 101 ^ k ≤ 101 * 101 ^ 2 := Nat.mul_le_mul (by omega) p3
    generalize mixL k (begin ++ [(n : Int)]) (left - n) = Y at *
    generalize mixRows k begin left n = X at *
    have hY1 := mrows_one Y
    have hYl : (Y.map mrow).length = Y.length := by simp
    have hXl : (X.map mrow).length = X.length := by simp
    refine Aw.seq (Aw.block ?_)
    by_cases hz : X = []
    · subst hz
      have hYn : grM Y = .sl false (.own 37) (Y.map mrow) := grM_ne fun h => by rw [h] at hc2; simp at hc2
      refine Aw.em tab_ok mb0 [(8, [.sl false .any (ints (begin ++ [(n : Int)]))]), (9, [.sl false .any (Y.map mrow)])] rfl rfl ?zo ?zk
      case zo =>
        repeat' apply AllP.cons
        all_goals first | exact trivial | exact id | exact rfl | exact fun _ => rfl | exact Nat.le_of_ble_eq_true rfl | exact fun _ => Nat.le_of_ble_eq_true rfl | exact Int.natCast_nonneg _ | exact fun _ => Int.natCast_nonneg _ | exact in_t _ _ _ | exact (in_t _ _ _).un | exact gq_f | exact cp | exact cr | exact hY1 | exact (show (0 + (Y.map mrow).length) * 24 ≤ 140737488355328 by omega) | exact (show 0 + (Y.map mrow).length ≤ maxLen by unfold maxLen; omega) | exact (by simp only [Ob.of, inR]; omega)
      case zk =>
      refine Aw.em tab_ok mb0 [] rfl rfl ?zo ?zk
      case zo =>
        repeat' apply AllP.cons
        all_goals first | exact trivial | exact id | exact rfl | exact fun _ => rfl | exact Nat.le_of_ble_eq_true rfl | exact fun _ => Nat.le_of_ble_eq_true rfl | exact Int.natCast_nonneg _ | exact fun _ => Int.natCast_nonneg _ | exact in_t _ _ _ | exact (in_t _ _ _).un | exact gq_f | exact inrk n (by omega)
      case zk =>
      refine ⟨n + 1, by omega, by omega, ⟨.refl _, .refl _, .refl _, trivial⟩, ⟨.of_eq ?_, .refl _, trivial⟩, trivial, Nat.zero_le _⟩
      rw [hs, List.nil_append, hYn]
      cases hY : Y with
      | nil => rw [hY] at hc2; simp at hc2
      | cons y ys => rfl
    · have hX1 := mrows_one X
      rw [grM_ne hz]
      refine Aw.em tab_ok mb0 [(8, [.sl false .any (ints (begin ++ [(n : Int)]))]), (9, [.sl false .any (Y.map mrow)])] rfl rfl ?zo ?zk
      case zo =>
        repeat' apply AllP.cons
        all_goals first | exact trivial | exact id | exact rfl | exact fun _ => rfl | exact Nat.le_of_ble_eq_true rfl | exact fun _ => Nat.le_of_ble_eq_true rfl | exact Int.natCast_nonneg _ | exact fun _ => Int.natCast_nonneg _ | exact in_t _ _ _ | exact (in_t _ _ _).un | exact gq_f | exact cp | exact cr | exact hY1 | exact hX1 | exact (show ((X.map mrow).length + (Y.map mrow).length) * 24 ≤ 140737488355328 by omega) | exact (show (X.map mrow).length + (Y.map mrow).length ≤ maxLen by unfold maxLen; omega) | exact (by simp only [Ob.of, inR]; omega)
      case zk =>
      refine Aw.em tab_ok mb0 [] rfl rfl ?zo ?zk
      case zo =>
        repeat' apply AllP.cons
        all_goals first | exact trivial | exact id | exact rfl | exact fun _ => rfl | exact Nat.le_of_ble_eq_true rfl | exact fun _ => Nat.le_of_ble_eq_true rfl | exact Int.natCast_nonneg _ | exact fun _ => Int.natCast_nonneg _ | exact in_t _ _ _ | exact (in_t _ _ _).un | exact gq_f | exact inrk n (by omega)
      case zk =>
      exact ⟨n + 1, by omega, by omega, ⟨.refl _, .refl _, .refl _, trivial⟩, ⟨.of_eq (show grM (mixRows k begin left (n + 1)) = A.sl false (.own 37) (X.map mrow ++ Y.map mrow) by rw [hs, grM_ne (by simp [hz])]; simp), .refl _, trivial⟩, trivial, Nat.zero_le _⟩
  have hne2 : n = left + 1 := by have := of_decide_eq_false h1; omega
  subst hne2
  rw [grM_ne hne]
  refine Aw.exit2 ?_
  refine Aw.sm tab_ok mb0 [] rfl rfl ?zo ?zk
  case zo =>
    repeat' apply AllP.cons
    all_goals first | exact trivial | exact id | exact rfl | exact fun _ => rfl | exact Nat.le_of_ble_eq_true rfl | exact fun _ => Nat.le_of_ble_eq_true rfl | exact Int.natCast_nonneg _ | exact fun _ => Int.natCast_nonneg _ | exact in_t _ _ _ | exact (in_t _ _ _).un | exact gq_f
  case zk =>
  exact Aw.ret ⟨_, .cons (.tmp _) .nil, rfl⟩
theorem rmixings_t (n : Nat) (h1 : 1 ≤ n) (h3 : n ≤ 3) : Ans Try.prog 69 [.int n, .int 100, .sl true .exact []] (.sl false .any ((mixL (n - 1) [] 100).map mrow)) := by
  have m0 := mixT_zero
  have m1 := mixT_succ 0 (by decide) m0
  have m2 := mixT_succ 1 (by decide) m1
  have key : MixT (n - 1) := by
    match n, h1, h3 with
    | 1, _, _ => exact m0
    | 2, _, _ => exact m1
    | 3, _, _ => exact m2
  have := key 100 true [] (by decide) (by simp; omega)
  rw [show ((n - 1 : Nat) : Int) + 1 = n by omega] at this
  exact le3 this (.refl _) (.refl _) (.any _ _ _)
theorem agree_no {races : List NS} {seen : List Sp} {m : List Int} {k : Nat} (hk : k < seen.length) (h : signIn races seen m k = false) : agreeF races seen m = false := by
  unfold agreeF
  rw [List.all_eq_false]
  exact ⟨k, List.mem_range.2 hk, by rw [h]; decide⟩
theorem agrees_t (p q : Bool) (races : List NS) (seen : List Sp) (m : List Int) (hin : ShIn races seen) (hm : MixOf races.length m) : Ans Try.prog 70 [.sl p .any (races.map NS.c), .sl q .any (seen.map Sp.c), .sl false .any (ints m)] (.bool (agreeF races seen m)) := by
  have r1 := hin.r1
  have r3 := hin.r3
  have s1 := hin.s1
  have s6 := hin.s6
  have fr : Free (.sl p .any (races.map NS.c)) := free_map NS.free _ _ _
  have fs : Free (.sl q .any (seen.map Sp.c)) := free_map Sp.free _ _ _
  have fm : Free (.sl false .any (ints m)) := free_ints _ _ _
  have zr : ((races.map NS.c).length : Int) = races.length := by simp
  have zs : ((seen.map Sp.c).length : Int) = seen.length := by simp
  have hM := hm.len
  refine told Try.func70 rfl rfl (Pure.of tab_ok Try.func70 rfl Try.ntmps70 rfl (allC (fr) (allC (fs) (all1 (fm)))) (allC (fun _ => rfl) (allC (fun _ => rfl) (all1 (fun _ => rfl)))) (by first | exact .s _ | assumption | exact .tup _ (by intro x hx; simp only [List.mem_cons, List.not_mem_nil, or_false] at hx; rcases hx with rfl | rfl | rfl | rfl <;> first | exact .s _ | (simp_all; done))) fun E hE => ?_)
  refine Aw.sm tab_ok mb0 [] rfl rfl ?zo ?zk
  case zo =>
    repeat' apply AllP.cons
    all_goals first | exact trivial | exact id | exact rfl | exact fun _ => rfl | exact Nat.le_of_ble_eq_true rfl | exact fun _ => Nat.le_of_ble_eq_true rfl | exact Int.natCast_nonneg _ | exact fun _ => Int.natCast_nonneg _ | exact in_t _ _ _ | exact (in_t _ _ _).un | exact gq_f
  case zk =>
  refine Aw.seq ?_
  refine Aw.sm tab_ok mb0 [] rfl rfl ?zo ?zk
  case zo =>
    repeat' apply AllP.cons
    all_goals first | exact trivial | exact id | exact rfl | exact fun _ => rfl | exact Nat.le_of_ble_eq_true rfl | exact fun _ => Nat.le_of_ble_eq_true rfl | exact Int.natCast_nonneg _ | exact fun _ => Int.natCast_nonneg _ | exact in_t _ _ _ | exact (in_t _ _ _).un | exact gq_f
  case zk =>
  refine Aw.block (Aw.rounds 0 hE [(0, .sl p .any (races.map NS.c)), (1, .sl q .any (seen.map Sp.c)), (2, .sl false .any (ints m))] (fun j : Nat => [(7, .int j)]) (fun _ => []) (fun j => j ≤ seen.length ∧ agreeN races seen m j = true) (fun j => seen.length - j) 0
    ⟨Nat.zero_le _, rfl⟩ ⟨⟨.refl _, .refl _, .refl _, trivial⟩, ⟨.refl _, trivial⟩, trivial, Nat.zero_le _⟩ ⟨fr.under, fs.under, fm.under, trivial⟩ (fun _ _ => ⟨.s _, trivial⟩) (fun _ _ => trivial) ?_)
  rintro j ⟨hj, hag⟩
  refine Aw.seq ?_
  refine Aw.sm tab_ok mb0 [] rfl rfl ?zo ?zk
  case zo =>
    repeat' apply AllP.cons
    all_goals first | exact trivial | exact id | exact rfl | exact fun _ => rfl | exact Nat.le_of_ble_eq_true rfl | exact fun _ => Nat.le_of_ble_eq_true rfl | exact Int.natCast_nonneg _ | exact fun _ => Int.natCast_nonneg _ | exact in_t _ _ _ | exact (in_t _ _ _).un | exact gq_f
  case zk =>
  refine Aw.cond rfl (fun h1 => Aw.skip ?_) (fun h1 => ?_)
  · have hjk : j < seen.length := by
      have := of_decide_eq_true (show decide ((j : Int) < ((seen.map Sp.c).length : Int)) = true from h1); omega
    refine Aw.seq (Aw.block ?_)
    refine Aw.sm tab_ok mb0 [] rfl rfl ?zo ?zk
    case zo =>
      repeat' apply AllP.cons
      all_goals first | exact trivial | exact id | exact rfl | exact fun _ => rfl | exact Nat.le_of_ble_eq_true rfl | exact fun _ => Nat.le_of_ble_eq_true rfl | exact Int.natCast_nonneg _ | exact fun _ => Int.natCast_nonneg _ | exact in_t _ _ _ | exact (in_t _ _ _).un | exact gq_f
    case zk =>
    refine Aw.seq ?_
    refine Aw.sm tab_ok mb0 [] rfl rfl ?zo ?zk
    case zo =>
      repeat' apply AllP.cons
      all_goals first | exact trivial | exact id | exact rfl | exact fun _ => rfl | exact Nat.le_of_ble_eq_true rfl | exact fun _ => Nat.le_of_ble_eq_true rfl | exact Int.natCast_nonneg _ | exact fun _ => Int.natCast_nonneg _ | exact in_t _ _ _ | exact (in_t _ _ _).un | exact gq_f
    case zk =>
    refine Aw.block (Aw.rounds 0 hE [(0, .sl p .any (races.map NS.c)), (1, .sl q .any (seen.map Sp.c)), (2, .sl false .any (ints m)), (7, .int j)] (fun r : Nat => [(8, .int (mixedL Sp.lo m races j r).sum), (9, .int (mixedL Sp.hi m races j r).sum), (10, .int r)]) (fun _ => []) (fun r => r ≤ races.length) (fun r => races.length - r) 0
      (Nat.zero_le _) ⟨⟨.refl _, .refl _, .refl _, .refl _, trivial⟩, ⟨.refl _, .refl _, .refl _, trivial⟩, trivial, Nat.zero_le _⟩ ⟨fr.under, fs.under, fm.under, .s _, trivial⟩ (fun _ _ => ⟨.s _, .s _, .s _, trivial⟩) (fun _ _ => trivial) fun r hrr => ?_)
    refine Aw.seq ?_
    refine Aw.sm tab_ok mb0 [] rfl rfl ?zo ?zk
    case zo =>
      repeat' apply AllP.cons
      all_goals first | exact trivial | exact id | exact rfl | exact fun _ => rfl | exact Nat.le_of_ble_eq_true rfl | exact fun _ => Nat.le_of_ble_eq_true rfl | exact Int.natCast_nonneg _ | exact fun _ => Int.natCast_nonneg _ | exact in_t _ _ _ | exact (in_t _ _ _).un | exact gq_f
    case zk =>
    refine Aw.cond rfl (fun h2 => Aw.skip ?_) (fun h2 => ?_)
    · have hrl : r < races.length := by
        have := of_decide_eq_true (show decide ((r : Int) < ((races.map NS.c).length : Int)) = true from h2); omega
      have gM : (ints m)[r]? = some [.int (m.getD r 0)] := ints_getD (by omega)
      have gR := ns_at races hrl
      have gs := sp_at (races.getD r ⟨false, []⟩).l (r := j) (by rw [hin.len r hrl]; exact hjk)
      have hss := hin.sign r j hrl hjk
      have s1 := Go.AL.Q.mixedL_succ Sp.lo m races j r
      have s2 := Go.AL.Q.mixedL_succ Sp.hi m races j r
      obtain ⟨b1, b2, b3⟩ := mixedL_bd hin hm hjk r hrr
      have hg := hm.get r
      generalize (races.getD r ⟨false, []⟩) = R at *
      generalize R.l.getD j sp0 = s at *
      generalize (mixedL Sp.lo m races j r).sum = X at *
      generalize (mixedL Sp.hi m races j r).sum = Y at *
      generalize m.getD r 0 = x at *
      have a1 : 0 ≤ x * s.lo := Int.mul_nonneg hg.1 hss.1
      have a2 : x * s.lo ≤ x * s.hi := Int.mul_le_mul_of_nonneg_left hss.2.1 hg.1
      have a3 : x * s.hi ≤ 100 * 100 := Int.mul_le_mul hg.2 hss.2.2 (by omega) (by decide)
      have o1 : inR (x * s.lo) := by simp only [inR]; omega
      have o2 : inR (x * s.hi) := by simp only [inR]; omega
      have o3 : inR (X + x * s.lo) := by simp only [inR]; omega
      have o4 : inR (Y + x * s.hi) := by simp only [inR]; omega
      have h1 : A.int (mixedL Sp.lo m races j (r + 1)).sum = A.int (X + x * s.lo) := by rw [s1]
      have h2 : A.int (mixedL Sp.hi m races j (r + 1)).sum = A.int (Y + x * s.hi) := by rw [s2]
      refine Aw.seq (Aw.block ?_)
      refine Aw.sd tab_ok mixed mb0 [(3, [.int x]), (7, R.c), (10, s.c)] rfl (by kernel_rfl) rfl rfl ?zo ?zk
      case zo =>
        repeat' apply AllP.cons
        all_goals first | exact trivial | exact id | exact rfl | exact fun _ => rfl | exact Nat.le_of_ble_eq_true rfl | exact fun _ => Nat.le_of_ble_eq_true rfl | exact Int.natCast_nonneg _ | exact fun _ => Int.natCast_nonneg _ | exact in_t _ _ _ | exact (in_t _ _ _).un | exact gq_f | exact gM | exact gR | exact gs | exact o1 | exact o3
      case zk =>
      refine Aw.ed tab_ok mixed mb0 [(3, [.int x]), (7, R.c), (10, s.c)] rfl (by kernel_rfl) rfl rfl ?zo ?zk
      case zo =>
        repeat' apply AllP.cons
        all_goals first | exact trivial | exact id | exact rfl | exact fun _ => rfl | exact Nat.le_of_ble_eq_true rfl | exact fun _ => Nat.le_of_ble_eq_true rfl | exact Int.natCast_nonneg _ | exact fun _ => Int.natCast_nonneg _ | exact in_t _ _ _ | exact (in_t _ _ _).un | exact gq_f | exact gM | exact gR | exact gs | exact o2 | exact o4
      case zk =>
      refine Aw.em tab_ok mb0 [] rfl rfl ?zo ?zk
      case zo =>
        repeat' apply AllP.cons
        all_goals first | exact trivial | exact id | exact rfl | exact fun _ => rfl | exact Nat.le_of_ble_eq_true rfl | exact fun _ => Nat.le_of_ble_eq_true rfl | exact Int.natCast_nonneg _ | exact fun _ => Int.natCast_nonneg _ | exact in_t _ _ _ | exact (in_t _ _ _).un | exact gq_f | exact inrk r (by omega)
      case zk =>
      exact ⟨r + 1, hrl, by omega, ⟨.refl _, .refl _, .refl _, .refl _, trivial⟩, ⟨.of_eq h1, .of_eq h2, .refl _, trivial⟩, trivial, Nat.zero_le _⟩
    have hre : r = races.length := by
      have := of_decide_eq_false (show decide ((r : Int) < ((races.map NS.c).length : Int)) = false from h2); omega
    subst hre
    have gk := sp_at seen hjk
    obtain ⟨b1, b2, b3⟩ := mixedL_bd hin hm hjk races.length (Nat.le_refl _)
    have hfull := fun e => mixedL_full (e := e) (k := j) hM
    simp only [hfull] at b1 b2 b3 ⊢
    have hst := agreeN_succ races seen m j
    have hsi := signIn_iff (races := races) (seen := seen) (m := m) (k := j)
    have hno := agree_no (races := races) (seen := seen) (m := m) hjk
    have hsk := hin.sn j hjk
    generalize mixedF Sp.lo m races j = X at *
    generalize mixedF Sp.hi m races j = Y at *
    generalize seen.getD j sp0 = s at *
    refine Aw.exit2 ?_
    refine Aw.sm tab_ok mb0 [(3, s.c), (12, s.c)] rfl rfl ?zo ?zk
    case zo =>
      repeat' apply AllP.cons
      all_goals first | exact trivial | exact id | exact rfl | exact fun _ => rfl | exact Nat.le_of_ble_eq_true rfl | exact fun _ => Nat.le_of_ble_eq_true rfl | exact Int.natCast_nonneg _ | exact fun _ => Int.natCast_nonneg _ | exact in_t _ _ _ | exact (in_t _ _ _).un | exact gq_f | exact gk | exact fun _ => gk | exact (by simp only [Ob.of, inR]; omega) | exact fun _ => (by simp only [Ob.of, inR]; omega)
    case zk =>
    refine Aw.cond rfl (fun h => ?_) (fun h => Aw.skip ?_)
    · have h : cond (decide (X > 100 * s.hi)) true (decide (Y < 100 * s.lo)) = true := h
      have hn : agreeF races seen m = false := hno (by
        cases e : signIn races seen m j with
        | false => rfl
        | true =>
          have := hsi.1 e
          rw [c_or, Bool.or_eq_true, decide_eq_true_eq, decide_eq_true_eq] at h; omega)
      rw [hn]
      refine Aw.sm tab_ok mb0 [] rfl rfl ?zo ?zk
      case zo =>
        repeat' apply AllP.cons
        all_goals first | exact trivial | exact id | exact rfl | exact fun _ => rfl | exact Nat.le_of_ble_eq_true rfl | exact fun _ => Nat.le_of_ble_eq_true rfl | exact Int.natCast_nonneg _ | exact fun _ => Int.natCast_nonneg _ | exact in_t _ _ _ | exact (in_t _ _ _).un | exact gq_f
      case zk =>
      exact Aw.ret ⟨_, .cons (.tmp _) .nil, rfl⟩
    · have h : cond (decide (X > 100 * s.hi)) true (decide (Y < 100 * s.lo)) = false := h
      have hy : signIn races seen m j = true := hsi.2 (by
        rw [c_or, Bool.or_eq_false_iff, decide_eq_false_iff_not, decide_eq_false_iff_not] at h; omega)
      refine Aw.em tab_ok mb0 [] rfl rfl ?zo ?zk
      case zo =>
        repeat' apply AllP.cons
        all_goals first | exact trivial | exact id | exact rfl | exact fun _ => rfl | exact Nat.le_of_ble_eq_true rfl | exact fun _ => Nat.le_of_ble_eq_true rfl | exact Int.natCast_nonneg _ | exact fun _ => Int.natCast_nonneg _ | exact in_t _ _ _ | exact (in_t _ _ _).un | exact gq_f | exact inrk j (by omega)
      case zk =>
      exact ⟨j + 1, ⟨hjk, by rw [hst, hag, hy]; rfl⟩, by omega, ⟨.refl _, .refl _, .refl _, trivial⟩, ⟨.refl _, trivial⟩, trivial, Nat.zero_le _⟩
  have hje : j = seen.length := by
    have := of_decide_eq_false (show decide ((j : Int) < ((seen.map Sp.c).length : Int)) = false from h1); omega
  subst hje
  have hy : agreeF races seen m = true := hag
  rw [hy]
  refine Aw.exit2 ?_
  refine Aw.sm tab_ok mb0 [] rfl rfl ?zo ?zk
  case zo =>
    repeat' apply AllP.cons
    all_goals first | exact trivial | exact id | exact rfl | exact fun _ => rfl | exact Nat.le_of_ble_eq_true rfl | exact fun _ => Nat.le_of_ble_eq_true rfl | exact Int.natCast_nonneg _ | exact fun _ => Int.natCast_nonneg _ | exact in_t _ _ _ | exact (in_t _ _ _).un | exact gq_f
  case zk =>
  exact Aw.ret ⟨_, .cons (.tmp _) .nil, rfl⟩
end Go.Proofs.Ytdiclbgklegelaa

namespace Go.Proofs.Ytdiclbgklegelaa
open Go Go.AL Go.AL.Q
def refO (n : Nat) (out : List Sp) : List Sp := if out = [] then List.replicate n sp0 else out
theorem refO_len {n : Nat} {out : List Sp} (h : out = [] ∨ out.length = n) : (refO n out).length = n := by
  unfold refO
  split
  · simp
  · rename_i h0
    rcases h with h | h
    · exact absurd h h0
    · exact h
def newF (first : Bool) (s : Sp) (n : Int) : Sp := if first then ⟨n, n⟩ else widen s n
theorem new_get {n : Nat} {races : List NS} {seen out : List Sp} {m : List Int} (hn : 1 ≤ n) (ho : out = [] ∨ out.length = n) (hm : m.length = n) (ha : agreeF races seen m = true) {r : Nat} (hr : r < n) :
    (refO n (shareStep races seen out m)).getD r sp0 = newF out.isEmpty ((refO n out).getD r sp0) (m.getD r 0) ∧ (shareStep races seen out m).length = n := by
  have hl : (if out = [] then points m else out).length = n := by
    split
    · unfold points; simp [hm]
    · rename_i h0
      rcases ho with h | h
      · exact absurd h h0
      · exact h
  have hsl : (shareStep races seen out m).length = n := by unfold shareStep; rw [if_pos ha, wideL_len, hl]
  have hne : shareStep races seen out m ≠ [] := fun e => by rw [e] at hsl; simp at hsl; omega
  refine ⟨?_, hsl⟩
  unfold refO
  rw [if_neg hne]
  unfold shareStep
  rw [if_pos ha, wideL_get _ _ _ (by omega) (by omega)]
  cases out with
  | nil =>
    rw [if_pos rfl, points_get (by omega)]
    unfold newF widen
    simp
  | cons x l => rw [if_neg (by simp), if_neg (by simp)]; rfl
def widT (a b : List Sp) (r : Nat) : List Sp := a.take r ++ b.drop r
theorem widT_len {a b : List Sp} {n r : Nat} (ha : a.length = n) (hb : b.length = n) (hr : r ≤ n) : (widT a b r).length = n := by unfold widT; simp; omega
theorem widT_get {a b : List Sp} {n r : Nat} (ha : a.length = n) (hb : b.length = n) (hr : r < n) : (widT a b r).getD r sp0 = b.getD r sp0 := by
  unfold widT
  have : (a.take r).length = r := by simp; omega
  rw [List.getD_eq_getElem?_getD, List.getElem?_append_right (by omega), this, Nat.sub_self, List.getElem?_drop]
  simp [List.getD_eq_getElem?_getD]
theorem widT_succ {a b : List Sp} {n r : Nat} (ha : a.length = n) (hb : b.length = n) (hr : r < n) : (widT a b r).set r (a.getD r sp0) = widT a b (r + 1) := by
  unfold widT
  have hl : (a.take r).length = r := by simp; omega
  rw [List.set_append_right _ _ (by omega), hl, Nat.sub_self, List.drop_eq_getElem_cons (show r < b.length by omega), List.set_cons_zero, List.take_succ_eq_append_getElem (show r < a.length by omega), List.append_assoc]
  congr 1
  simp [List.getD_eq_getElem?_getD, show r < a.length by omega]
theorem widT_zero (a b : List Sp) : widT a b 0 = b := by unfold widT; simp
theorem widT_full {a b : List Sp} {n : Nat} (ha : a.length = n) (hb : b.length = n) : widT a b n = a := by unfold widT; rw [← ha, List.take_length, List.drop_of_length_le (by omega), List.append_nil]
theorem outK_or {races : List NS} {seen : List Sp} (h1 : 1 ≤ races.length) (k : Nat) : outK races seen k = [] ∨ (outK races seen k).length = races.length := by
  by_cases h : outK races seen k = []
  · exact .inl h
  · exact .inr (outK_len h1 k h)
theorem zerosS_is (n : Nat) : ((List.range (n * 2)).map fun j => ([A.s (.int .i64 0), A.s (.int .i64 0)] : List A).getD (j % 2) .un).map A.down = ((List.replicate n sp0).map Sp.c).flatten := by
  have h : ∀ j : Nat, ([A.s (.int .i64 0), A.s (.int .i64 0)] : List A).getD (j % 2) .un = A.int 0 := fun j => by
    have : j % 2 = 0 ∨ j % 2 = 1 := by omega
    rcases this with h | h <;> rw [h] <;> rfl
  simp only [h]
  rw [List.map_const', List.length_range, List.map_replicate, List.map_replicate]
  induction n with
  | zero => rfl
  | succ n ih =>
    rw [List.replicate_succ, List.flatten_cons, ← ih, show (n + 1) * 2 = n * 2 + 1 + 1 by omega, List.replicate_succ, List.replicate_succ]
    rfl
theorem cells_agg {l : List Sp} {k : Nat} (h : k < l.length) : A.agg (((((l.map Sp.c).flatten).drop (0 + k * 2)).take 2).map A.down) = .agg (l.getD k sp0).c := by
  congr 1
  have hl := rows_len l
  have e : l = l.take k ++ (l[k] :: l.drop (k + 1)) := by rw [← List.drop_eq_getElem_cons h, List.take_append_drop]
  have e2 : l.getD k sp0 = l[k] := by simp [List.getD_eq_getElem?_getD, h]
  have h1 : ((l.take k).map Sp.c).flatten.length = 0 + k * 2 := by
    rw [rows_len]; simp; omega
  have e3 : (l.map Sp.c).flatten = ((l.take k).map Sp.c).flatten ++ (l[k].c ++ ((l.drop (k + 1)).map Sp.c).flatten) := by
    conv => lhs; rw [e]
    rw [List.map_append, List.flatten_append, List.map_cons, List.flatten_cons]
  rw [e3, ← h1, List.drop_left, e2]
  rfl
def rshareR (races : List NS) (seen : List Sp) : List A := if sharesOk races seen then (if shareF races seen = [] then [outS [], .int 4] else [.sl false .any ((shareF races seen).map Sp.c), .int 0]) else [outS [], .int 91]
set_option maxRecDepth 100000 in
theorem rShares_t (p q : Bool) (races : List NS) (seen : List Sp) (hr : (races.length : Int) ≤ 9223372036854775806) (hs : (seen.length : Int) ≤ 9223372036854775806) (hrs : ∀ x ∈ races, x.Fit) :
    Ans Try.prog 22 [.sl p .any (races.map NS.c), .sl q .any (seen.map Sp.c)] (.tup (rshareR races seen)) := by
  have hfr : Free (.tup (rshareR races seen)) := .tup _ (by
    unfold rshareR
    split
    · split
      · exact allC (outS_free _) (all1 (.s _))
      · exact allC (free_map Sp.free _ _ _) (all1 (.s _))
    · exact allC (outS_free _) (all1 (.s _)))
  have fr : Free (.sl p .any (races.map NS.c)) := free_map NS.free _ _ _
  have fs : Free (.sl q .any (seen.map Sp.c)) := free_map Sp.free _ _ _
  have zr : ((races.map NS.c).length : Int) = races.length := by simp
  have zs : ((seen.map Sp.c).length : Int) = seen.length := by simp
  have c0 : Ans Try.prog 68 [.sl q .any (seen.map Sp.c), .int ((seen.map Sp.c).length : Int)] (.bool (signsOk seen seen.length)) := by rw [zs]; exact rsigns_t q seen seen.length hs
  refine told Try.func22 rfl rfl (Pure.of tab_ok Try.func22 rfl Try.ntmps22 rfl (allC (fr) (all1 (fs))) (allC (fun _ => rfl) (all1 (fun _ => rfl))) (by first | exact .s _ | assumption | exact .tup _ (by intro x hx; simp only [List.mem_cons, List.not_mem_nil, or_false] at hx; rcases hx with rfl | rfl | rfl | rfl <;> first | exact .s _ | (simp_all; done))) fun E hE => ?_)
  refine Aw.sm tab_ok mb0 [] rfl rfl ?zo ?zk
  case zo =>
    repeat' apply AllP.cons
    all_goals first | exact trivial | exact id | exact rfl | exact fun _ => rfl | exact Nat.le_of_ble_eq_true rfl | exact fun _ => Nat.le_of_ble_eq_true rfl | exact Int.natCast_nonneg _ | exact fun _ => Int.natCast_nonneg _ | exact in_t _ _ _ | exact (in_t _ _ _).un | exact gq_f
  case zk =>
  refine Aw.sm tab_ok mb0 [(3, [.bool (signsOk seen seen.length)]), (7, [.bool (wi ((races.map NS.c).length) 1 3)])] rfl rfl ?zo ?zk
  case zo =>
    repeat' apply AllP.cons
    all_goals first | exact trivial | exact id | exact rfl | exact fun _ => rfl | exact Nat.le_of_ble_eq_true rfl | exact fun _ => Nat.le_of_ble_eq_true rfl | exact Int.natCast_nonneg _ | exact fun _ => Int.natCast_nonneg _ | exact in_t _ _ _ | exact (in_t _ _ _).un | exact gq_f | exact c0
  case zk =>
  generalize hb0 : cond (signsOk seen seen.length) (wi ((races.map NS.c).length) 1 3) false = b0
  have hb0' : b0 = cond (wi races.length 1 3) (signsOk seen seen.length) false := by
    rw [← hb0, zr]; cases signsOk seen seen.length <;> cases wi races.length 1 3 <;> rfl
  have hok : sharesOk races seen = cond b0 (races.all fun x => signsOk x.l seen.length) false := by rw [hb0']; rfl
  refine Aw.seq ?_
  refine Aw.sm tab_ok mb0 [] rfl rfl ?zo ?zk
  case zo =>
    repeat' apply AllP.cons
    all_goals first | exact trivial | exact id | exact rfl | exact fun _ => rfl | exact Nat.le_of_ble_eq_true rfl | exact fun _ => Nat.le_of_ble_eq_true rfl | exact Int.natCast_nonneg _ | exact fun _ => Int.natCast_nonneg _ | exact in_t _ _ _ | exact (in_t _ _ _).un | exact gq_f
  case zk =>
  refine Aw.block (Aw.rounds 0 hE [(0, .sl p .any (races.map NS.c)), (1, .sl q .any (seen.map Sp.c))] (fun k : Nat => [(6, .bool (andAll b0 (fun x : NS => signsOk x.l seen.length) races k)), (7, .int k)]) (fun _ => []) (fun k => k ≤ races.length) (fun k => races.length - k) 0
    (Nat.zero_le _) ⟨⟨.refl _, .refl _, trivial⟩, ⟨.of_eq (by rw [andAll_zero]; rfl), .refl _, trivial⟩, trivial, Nat.zero_le _⟩ ⟨fr.under, fs.under, trivial⟩ (fun _ _ => ⟨.s _, .s _, trivial⟩) (fun _ _ => trivial) fun k hk => ?_)
  refine Aw.seq ?_
  refine Aw.sm tab_ok mb0 [] rfl rfl ?zo ?zk
  case zo =>
    repeat' apply AllP.cons
    all_goals first | exact trivial | exact id | exact rfl | exact fun _ => rfl | exact Nat.le_of_ble_eq_true rfl | exact fun _ => Nat.le_of_ble_eq_true rfl | exact Int.natCast_nonneg _ | exact fun _ => Int.natCast_nonneg _ | exact in_t _ _ _ | exact (in_t _ _ _).un | exact gq_f
  case zk =>
  refine Aw.cond rfl (fun h1 => Aw.skip ?_) (fun h1 => ?_)
  · have h1 : cond (andAll b0 (fun x : NS => signsOk x.l seen.length) races k) (decide ((k : Int) < ((races.map NS.c).length : Int))) false = true := h1
    have hb := ac1 h1
    have hlt : k < races.length := by have := of_decide_eq_true (ac2 h1); omega
    have gl := get_map (f := NS.c) hlt
    have hst := andAll_succ hlt hb
    have hft := hrs _ (List.getElem_mem hlt)
    generalize races[k] = x at *
    have c1 : Ans Try.prog 68 [.sl x.n .any (x.l.map Sp.c), .int ((seen.map Sp.c).length : Int)] (.bool (signsOk x.l seen.length)) := by rw [zs]; exact rsigns_t x.n x.l seen.length hft
    refine Aw.seq (Aw.block ?_)
    refine Aw.em tab_ok mb0 [(2, x.c), (6, [.bool (signsOk x.l seen.length)])] rfl rfl ?zo ?zk
    case zo =>
      repeat' apply AllP.cons
      all_goals first | exact trivial | exact id | exact rfl | exact fun _ => rfl | exact Nat.le_of_ble_eq_true rfl | exact fun _ => Nat.le_of_ble_eq_true rfl | exact Int.natCast_nonneg _ | exact fun _ => Int.natCast_nonneg _ | exact in_t _ _ _ | exact (in_t _ _ _).un | exact gq_f | exact gl | exact c1
    case zk =>
    refine Aw.em tab_ok mb0 [] rfl rfl ?zo ?zk
    case zo =>
      repeat' apply AllP.cons
      all_goals first | exact trivial | exact id | exact rfl | exact fun _ => rfl | exact Nat.le_of_ble_eq_true rfl | exact fun _ => Nat.le_of_ble_eq_true rfl | exact Int.natCast_nonneg _ | exact fun _ => Int.natCast_nonneg _ | exact in_t _ _ _ | exact (in_t _ _ _).un | exact gq_f | exact inrk k (by omega)
    case zk =>
    exact ⟨k + 1, hlt, by omega, ⟨.refl _, .refl _, trivial⟩, ⟨.of_eq (congrArg A.bool hst), .refl _, trivial⟩, trivial, Nat.zero_le _⟩
  have h1 : cond (andAll b0 (fun x : NS => signsOk x.l seen.length) races k) (decide ((k : Int) < ((races.map NS.c).length : Int))) false = false := h1
  have hend : andAll b0 (fun x : NS => signsOk x.l seen.length) races k = sharesOk races seen := by
    rw [hok]
    exact andAll_end (by
      cases e : andAll b0 (fun x : NS => signsOk x.l seen.length) races k with
      | false => exact .inl rfl
      | true => rw [e] at h1; have := of_decide_eq_false h1; exact .inr (by omega)) hk
  rw [hend]
  clear h1 hk hend
  refine Aw.exit2 ?_
  refine Aw.keep (n := 0) (cst := [(0, .sl p .any (races.map NS.c)), (1, .sl q .any (seen.map Sp.c))]) (v := [(6, .bool (sharesOk races seen))]) (Hl := []) hE ⟨fr.under, fs.under, trivial⟩ ⟨.s _, trivial⟩ trivial ⟨⟨.refl _, .refl _, trivial⟩, ⟨.refl _, trivial⟩, trivial, Nat.zero_le _⟩ ?_
  refine Aw.seq ?_
  refine Aw.sm tab_ok mb0 [] rfl rfl ?zo ?zk
  case zo =>
    repeat' apply AllP.cons
    all_goals first | exact trivial | exact id | exact rfl | exact fun _ => rfl | exact Nat.le_of_ble_eq_true rfl | exact fun _ => Nat.le_of_ble_eq_true rfl | exact Int.natCast_nonneg _ | exact fun _ => Int.natCast_nonneg _ | exact in_t _ _ _ | exact (in_t _ _ _).un | exact gq_f
  case zk =>
  refine Aw.cond rfl (fun h => ?_) (fun h => Aw.skip ?_)
  · have hno : sharesOk races seen = false := by simpa using h
    refine Aw.sm tab_ok mb0 [] rfl rfl ?zo ?zk
    case zo =>
      repeat' apply AllP.cons
      all_goals first | exact trivial | exact id | exact rfl | exact fun _ => rfl | exact Nat.le_of_ble_eq_true rfl | exact fun _ => Nat.le_of_ble_eq_true rfl | exact Int.natCast_nonneg _ | exact fun _ => Int.natCast_nonneg _ | exact in_t _ _ _ | exact (in_t _ _ _).un | exact gq_f
    case zk =>
    exact Aw.ret ⟨_, .cons (.tmp _) (.cons (.tmp _) .nil), by unfold rshareR; rw [hno]; rfl⟩
  have hyes : sharesOk races seen = true := by simpa using h
  clear h
  have hin := ShIn.of hyes
  have r1 := hin.r1
  have r3 := hin.r3
  have hR : rshareR races seen = if shareF races seen = [] then [outS [], .int 4] else [.sl false .any ((shareF races seen).map Sp.c), .int 0] := by unfold rshareR; rw [if_pos hyes]
  rw [hR]
  have hlast : outK races seen (mixL (races.length - 1) [] 100).length = shareF races seen := by unfold outK shareF; rw [List.take_length]
  have hor := outK_or (seen := seen) r1
  have hstep := fun k m => outK_succ (races := races) (seen := seen) (k := k) (m := m)
  have hmix := fun m => mix_iff (m := m) r1
  have cmx : Ans Try.prog 69 [.int ((races.map NS.c).length : Int), .int 100, .sl true .exact []] (.sl false .any ((mixL (races.length - 1) [] 100).map mrow)) := by rw [zr]; exact rmixings_t races.length r1 r3
  have hcnt := mixL_count (races.length - 1) [] 100 (Nat.le_refl _)
  have hp : 101 ^ (races.length - 1) ≤ 101 ^ 2 := Nat.pow_le_pow_right (by decide) (by omega)
  have hK0 : outK races seen 0 = [] := rfl
  generalize hL : mixL (races.length - 1) [] 100 = L at *
  have fL : Free (.sl false .any (L.map mrow)) := free_map mrow_free _ _ _
  have zL : ((L.map mrow).length : Int) = L.length := by simp
  have hE1 : ∀ id, 1 ≤ id → E.φ0 id = none := fun id h => hE id (by omega)
  refine Aw.sm tab_ok mb0 [] rfl rfl ?zo ?zk
  case zo =>
    repeat' apply AllP.cons
    all_goals first | exact trivial | exact id | exact rfl | exact fun _ => rfl | exact Nat.le_of_ble_eq_true rfl | exact fun _ => Nat.le_of_ble_eq_true rfl | exact Int.natCast_nonneg _ | exact fun _ => Int.natCast_nonneg _ | exact in_t _ _ _ | exact (in_t _ _ _).un | exact gq_f | exact (show (0 : Int) ≤ ((races.map NS.c).length : Int) by omega) | exact (show ((races.map NS.c).length : Int) ≤ (maxLen : Nat) by unfold maxLen; omega) | exact (show ((16 : Nat) : Int) * ((races.map NS.c).length : Int) ≤ 140737488355328 by omega)
  case zk =>
  refine Aw.sm tab_ok mb0 [] rfl rfl ?zo ?zk
  case zo =>
    repeat' apply AllP.cons
    all_goals first | exact trivial | exact id | exact rfl | exact fun _ => rfl | exact Nat.le_of_ble_eq_true rfl | exact fun _ => Nat.le_of_ble_eq_true rfl | exact Int.natCast_nonneg _ | exact fun _ => Int.natCast_nonneg _ | exact in_t _ _ _ | exact (in_t _ _ _).un | exact gq_f
  case zk =>
  refine Aw.sm tab_ok mb0 [(2, [.sl false .any (L.map mrow)])] rfl rfl ?zo ?zk
  case zo =>
    repeat' apply AllP.cons
    all_goals first | exact trivial | exact id | exact rfl | exact fun _ => rfl | exact Nat.le_of_ble_eq_true rfl | exact fun _ => Nat.le_of_ble_eq_true rfl | exact Int.natCast_nonneg _ | exact fun _ => Int.natCast_nonneg _ | exact in_t _ _ _ | exact (in_t _ _ _).un | exact gq_f | exact cmx
  case zk =>
  have hzr : (((List.range (((races.map NS.c).length : Int).toNat * 2)).map fun j => ([A.s (.int .i64 0), A.s (.int .i64 0)] : List A).getD (j % 2) .un).map A.down) = ((refO races.length (outK races seen 0)).map Sp.c).flatten := by
    rw [Int.toNat_natCast, List.length_map, zerosS_is, hK0]; rfl
  have hnn : (((races.map NS.c).length : Int)).toNat = races.length := by omega
  refine Aw.keep (n := 1) (cst := [(0, .sl p .any (races.map NS.c)), (1, .sl q .any (seen.map Sp.c)), (8, .ms 0 0 races.length), (10, .sl false .any (L.map mrow))]) (v := [(9, .bool true)]) (Hl := [(0, .cells ((refO races.length (outK races seen 0)).map Sp.c).flatten)]) hE1
    ⟨fr.under, fs.under, .ms _ _ _ (by decide), fL.under, trivial⟩ ⟨.s _, trivial⟩ ⟨⟨by decide, spB_under _⟩, trivial⟩ ⟨⟨.refl _, .refl _, .of_eq (congrArg (A.ms 0 0) hnn.symm), .refl _, trivial⟩, ⟨.refl _, trivial⟩, ⟨congrArg (fun x => some (B.cells x)) hzr, trivial⟩, Nat.le_of_ble_eq_true rfl⟩ ?_
  refine Aw.seq ?_
  refine Aw.sm tab_ok mb0 [] rfl rfl ?zo ?zk
  case zo =>
    repeat' apply AllP.cons
    all_goals first | exact trivial | exact id | exact rfl | exact fun _ => rfl | exact Nat.le_of_ble_eq_true rfl | exact fun _ => Nat.le_of_ble_eq_true rfl | exact Int.natCast_nonneg _ | exact fun _ => Int.natCast_nonneg _ | exact in_t _ _ _ | exact (in_t _ _ _).un | exact gq_f
  case zk =>
  refine Aw.block (Aw.rounds 1 hE1 [(0, .sl p .any (races.map NS.c)), (1, .sl q .any (seen.map Sp.c)), (8, .ms 0 0 races.length), (10, .sl false .any (L.map mrow))] (fun k : Nat => [(9, .bool (outK races seen k).isEmpty), (11, .int k)]) (fun k => [(0, .cells ((refO races.length (outK races seen k)).map Sp.c).flatten)]) (fun k => k ≤ L.length) (fun k => L.length - k) 0
    (Nat.zero_le _) ⟨⟨.refl _, .refl _, .refl _, .refl _, trivial⟩, ⟨.refl _, .refl _, trivial⟩, ⟨rfl, trivial⟩, Nat.le_of_ble_eq_true rfl⟩ ⟨fr.under, fs.under, .ms _ _ _ (by decide), fL.under, trivial⟩ (fun _ _ => ⟨.s _, .s _, trivial⟩) (fun _ _ => ⟨⟨by decide, spB_under _⟩, trivial⟩) fun k hk => ?_)
  refine Aw.seq ?_
  refine Aw.sm tab_ok mb0 [] rfl rfl ?zo ?zk
  case zo =>
    repeat' apply AllP.cons
    all_goals first | exact trivial | exact id | exact rfl | exact fun _ => rfl | exact Nat.le_of_ble_eq_true rfl | exact fun _ => Nat.le_of_ble_eq_true rfl | exact Int.natCast_nonneg _ | exact fun _ => Int.natCast_nonneg _ | exact in_t _ _ _ | exact (in_t _ _ _).un | exact gq_f
  case zk =>
  refine Aw.cond rfl (fun h1 => Aw.skip ?_) (fun h1 => ?_)
  · have hkl : k < L.length := by
      have := of_decide_eq_true (show decide ((k : Int) < ((L.map mrow).length : Int)) = true from h1); omega
    have gm := get_map (f := mrow) hkl
    have hmo := (hmix _).1 (List.getElem_mem hkl)
    have hst := hstep k L[k] (by rw [List.getElem?_eq_getElem hkl])
    have ho := hor k
    have hng := fun ha r => new_get (races := races) (seen := seen) (out := outK races seen k) r1 ho hmo.len ha (r := r)
    have hno2 : agreeF races seen L[k] = false → shareStep races seen (outK races seen k) L[k] = outK races seen k := fun h => by unfold shareStep; rw [h]; rfl
    generalize L[k] = m at *
    have ca := agrees_t p q races seen m hin hmo
    have hm := hmo.len
    refine Aw.seq (Aw.block ?_)
    refine Aw.seq ?_
    refine Aw.sm tab_ok mb0 [(4, mrow m), (6, [.bool (agreeF races seen m)])] rfl rfl ?zo ?zk
    case zo =>
      repeat' apply AllP.cons
      all_goals first | exact trivial | exact id | exact rfl | exact fun _ => rfl | exact Nat.le_of_ble_eq_true rfl | exact fun _ => Nat.le_of_ble_eq_true rfl | exact Int.natCast_nonneg _ | exact fun _ => Int.natCast_nonneg _ | exact in_t _ _ _ | exact (in_t _ _ _).un | exact gq_f | exact gm | exact ca
    case zk =>
    refine Aw.cond rfl (fun h => ?_) (fun h => Aw.skip ?_)
    · have h : agreeF races seen m = false := by simpa using h
      have e : outK races seen (k + 1) = outK races seen k := by rw [hst, hno2 h]
      refine Aw.exit1 ?_
      refine Aw.em tab_ok mb0 [] rfl rfl ?zo ?zk
      case zo =>
        repeat' apply AllP.cons
        all_goals first | exact trivial | exact id | exact rfl | exact fun _ => rfl | exact Nat.le_of_ble_eq_true rfl | exact fun _ => Nat.le_of_ble_eq_true rfl | exact Int.natCast_nonneg _ | exact fun _ => Int.natCast_nonneg _ | exact in_t _ _ _ | exact (in_t _ _ _).un | exact gq_f | exact inrk k (by omega)
      case zk =>
      exact ⟨k + 1, hkl, by omega, ⟨.refl _, .refl _, .refl _, .refl _, trivial⟩, ⟨.of_eq (by rw [e]; rfl), .refl _, trivial⟩, ⟨by rw [e]; rfl, trivial⟩, Nat.le_of_ble_eq_true rfl⟩
    have ha : agreeF races seen m = true := by simpa using h
    clear h
    have hng := hng ha
    have hnl : (shareStep races seen (outK races seen k) m).length = races.length := (hng 0 (by omega)).2
    have hng := fun r hr => (hng r hr).1
    have hl1 := refO_len ho
    have hl2 : (refO races.length (shareStep races seen (outK races seen k) m)).length = races.length := refO_len (.inr hnl)
    have hne : (outK races seen (k + 1)).isEmpty = false := by
      rw [hst]
      cases e : shareStep races seen (outK races seen k) m with
      | nil => rw [e] at hnl; simp at hnl; omega
      | cons x l => rfl
    have hw0 := widT_zero (refO races.length (shareStep races seen (outK races seen k) m)) (refO races.length (outK races seen k))
    have hwf := widT_full hl2 hl1
    rw [← hst] at *
    generalize hA : refO races.length (outK races seen (k + 1)) = NW at *
    generalize refO races.length (outK races seen k) = OD at *
    generalize (outK races seen k).isEmpty = fst at *
    refine Aw.seq ?_
    refine Aw.sm tab_ok mb0 [] rfl rfl ?zo ?zk
    case zo =>
      repeat' apply AllP.cons
      all_goals first | exact trivial | exact id | exact rfl | exact fun _ => rfl | exact Nat.le_of_ble_eq_true rfl | exact fun _ => Nat.le_of_ble_eq_true rfl | exact Int.natCast_nonneg _ | exact fun _ => Int.natCast_nonneg _ | exact in_t _ _ _ | exact (in_t _ _ _).un | exact gq_f
    case zk =>
    refine Aw.block (Aw.rounds 1 hE1 [(0, .sl p .any (races.map NS.c)), (1, .sl q .any (seen.map Sp.c)), (8, .ms 0 0 races.length), (9, .bool fst), (10, .sl false .any (L.map mrow)), (11, .int k)] (fun r : Nat => [(12, .int r)]) (fun r => [(0, .cells ((widT NW OD r).map Sp.c).flatten)]) (fun r => r ≤ races.length) (fun r => races.length - r) 0
      (Nat.zero_le _) ⟨⟨.refl _, .refl _, .refl _, .refl _, .refl _, .refl _, trivial⟩, ⟨.refl _, trivial⟩, ⟨by rw [hw0]; rfl, trivial⟩, Nat.le_of_ble_eq_true rfl⟩ ⟨fr.under, fs.under, .ms _ _ _ (by decide), .s _, fL.under, .s _, trivial⟩ (fun _ _ => ⟨.s _, trivial⟩) (fun _ _ => ⟨⟨by decide, spB_under _⟩, trivial⟩) fun r hrr => ?_)
    refine Aw.seq ?_
    refine Aw.sm tab_ok mb0 [] rfl rfl ?zo ?zk
    case zo =>
      repeat' apply AllP.cons
      all_goals first | exact trivial | exact id | exact rfl | exact fun _ => rfl | exact Nat.le_of_ble_eq_true rfl | exact fun _ => Nat.le_of_ble_eq_true rfl | exact Int.natCast_nonneg _ | exact fun _ => Int.natCast_nonneg _ | exact in_t _ _ _ | exact (in_t _ _ _).un | exact gq_f
    case zk =>
    refine Aw.cond rfl (fun h2 => Aw.skip ?_) (fun h2 => ?_)
    · have hrl : r < races.length := by
        have := of_decide_eq_true (show decide ((r : Int) < (races.length : Int)) = true from h2); omega
      have gx : (ints m)[r]? = some [.int (m.getD r 0)] := ints_getD (by omega)
      have hwl := widT_len hl2 hl1 hrr
      have hwg := widT_get hl2 hl1 hrl
      have hws := widT_succ hl2 hl1 hrl
      rw [hng r hrl] at hws
      have hag := cells_agg (l := widT NW OD r) (k := r) (by omega)
      have hput := cells_put (l := widT NW OD r) (k := r) (by omega) (newF fst (OD.getD r sp0) (m.getD r 0))
      rw [hwg] at hag
      rw [hws] at hput
      have hcl := rows_len (widT NW OD r)
      have l1 : 0 + r * 2 + 2 ≤ (((widT NW OD r).map Sp.c).flatten).length := by omega
      have l4 : (r : Int) < (races.length : Nat) := by omega
      generalize OD.getD r sp0 = s at *
      generalize m.getD r 0 = x at *
      have cw : Ans Try.prog 71 [.agg s.c, .int x, .bool fst] (.agg (newF fst s x).c) := wider_t s x fst
      refine Aw.seq (Aw.block ?_)
      refine Aw.ed tab_ok mixed mb0 [(5, [.agg s.c]), (8, mrow m), (11, [.int x]), (14, [.agg (newF fst s x).c])] rfl (by kernel_rfl) rfl rfl ?zo ?zk
      case zo =>
        repeat' apply AllP.cons
        all_goals first | exact trivial | exact id | exact rfl | exact fun _ => rfl | exact Nat.le_of_ble_eq_true rfl | exact fun _ => Nat.le_of_ble_eq_true rfl | exact Int.natCast_nonneg _ | exact fun _ => Int.natCast_nonneg _ | exact in_t _ _ _ | exact (in_t _ _ _).un | exact gq_f | exact hag | exact gm | exact gx | exact cw | exact l1 | exact l4
      case zk =>
      refine Aw.em tab_ok mb0 [] rfl rfl ?zo ?zk
      case zo =>
        repeat' apply AllP.cons
        all_goals first | exact trivial | exact id | exact rfl | exact fun _ => rfl | exact Nat.le_of_ble_eq_true rfl | exact fun _ => Nat.le_of_ble_eq_true rfl | exact Int.natCast_nonneg _ | exact fun _ => Int.natCast_nonneg _ | exact in_t _ _ _ | exact (in_t _ _ _).un | exact gq_f | exact inrk r (by omega)
      case zk =>
      exact ⟨r + 1, hrl, by omega, ⟨.refl _, .refl _, .refl _, .refl _, .refl _, .refl _, trivial⟩, ⟨.refl _, trivial⟩, ⟨congrArg (fun x => some (B.cells x)) hput, trivial⟩, Nat.le_of_ble_eq_true rfl⟩
    have hre : r = races.length := by
      have := of_decide_eq_false (show decide ((r : Int) < (races.length : Int)) = false from h2); omega
    subst hre
    rw [hwf]
    refine Aw.exit2 ?_
    refine Aw.em tab_ok mb0 [] rfl rfl ?zo ?zk
    case zo =>
      repeat' apply AllP.cons
      all_goals first | exact trivial | exact id | exact rfl | exact fun _ => rfl | exact Nat.le_of_ble_eq_true rfl | exact fun _ => Nat.le_of_ble_eq_true rfl | exact Int.natCast_nonneg _ | exact fun _ => Int.natCast_nonneg _ | exact in_t _ _ _ | exact (in_t _ _ _).un | exact gq_f
    case zk =>
    refine Aw.em tab_ok mb0 [] rfl rfl ?zo ?zk
    case zo =>
      repeat' apply AllP.cons
      all_goals first | exact trivial | exact id | exact rfl | exact fun _ => rfl | exact Nat.le_of_ble_eq_true rfl | exact fun _ => Nat.le_of_ble_eq_true rfl | exact Int.natCast_nonneg _ | exact fun _ => Int.natCast_nonneg _ | exact in_t _ _ _ | exact (in_t _ _ _).un | exact gq_f | exact inrk k (by omega)
    case zk =>
    exact ⟨k + 1, hkl, by omega, ⟨.refl _, .refl _, .refl _, .refl _, trivial⟩, ⟨.of_eq (by rw [hne]; rfl), .refl _, trivial⟩, ⟨by rw [hA]; rfl, trivial⟩, Nat.le_of_ble_eq_true rfl⟩
  have hke : k = L.length := by
    have := of_decide_eq_false (show decide ((k : Int) < ((L.map mrow).length : Int)) = false from h1); omega
  subst hke
  have ho := hor L.length
  rw [hlast] at ho ⊢
  have hl1 := refO_len ho
  refine Aw.exit2 ?_
  refine Aw.seq ?_
  refine Aw.sm tab_ok mb0 [] rfl rfl ?zo ?zk
  case zo =>
    repeat' apply AllP.cons
    all_goals first | exact trivial | exact id | exact rfl | exact fun _ => rfl | exact Nat.le_of_ble_eq_true rfl | exact fun _ => Nat.le_of_ble_eq_true rfl | exact Int.natCast_nonneg _ | exact fun _ => Int.natCast_nonneg _ | exact in_t _ _ _ | exact (in_t _ _ _).un | exact gq_f
  case zk =>
  refine Aw.cond rfl (fun h => ?_) (fun h => Aw.skip ?_)
  · have h : (shareF races seen).isEmpty = true := h
    have e : shareF races seen = [] := List.isEmpty_iff.1 h
    rw [if_pos e]
    refine Aw.sm tab_ok mb0 [] rfl rfl ?zo ?zk
    case zo =>
      repeat' apply AllP.cons
      all_goals first | exact trivial | exact id | exact rfl | exact fun _ => rfl | exact Nat.le_of_ble_eq_true rfl | exact fun _ => Nat.le_of_ble_eq_true rfl | exact Int.natCast_nonneg _ | exact fun _ => Int.natCast_nonneg _ | exact in_t _ _ _ | exact (in_t _ _ _).un | exact gq_f
    case zk =>
    exact Aw.ret ⟨_, .cons (.tmp _) (.cons (.tmp _) .nil), rfl⟩
  · have h : (shareF races seen).isEmpty = false := h
    have e : shareF races seen ≠ [] := fun e => by rw [e] at h; cases h
    have e2 : refO races.length (shareF races seen) = shareF races seen := by unfold refO; rw [if_neg e]
    rw [if_neg e]
    rw [e2] at hl1 ⊢
    generalize shareF races seen = out at *
    refine Aw.freezeS (id := 0) (t := 8) (sz := 2) (cs := (out.map Sp.c).flatten) (out.map Sp.c) rfl rfl (rows_all (c := Sp.c) (sz := 2) (fun _ => rfl) (fun _ => rfl) out) (by rw [List.length_map]; exact hl1) ?_
    refine Aw.sm tab_ok mb0 [] rfl rfl ?zo ?zk
    case zo =>
      repeat' apply AllP.cons
      all_goals first | exact trivial | exact id | exact rfl | exact fun _ => rfl | exact Nat.le_of_ble_eq_true rfl | exact fun _ => Nat.le_of_ble_eq_true rfl | exact Int.natCast_nonneg _ | exact fun _ => Int.natCast_nonneg _ | exact in_t _ _ _ | exact (in_t _ _ _).un | exact gq_f
    case zk =>
    exact Aw.ret ⟨_, .cons (.tmp _) (.cons (.tmp _) .nil), rfl⟩
theorem shares_t (p : Bool) (races : List NS) (q : Bool) (seen : List Sp) (hr : (races.length : Int) ≤ 9223372036854775806) (hrs : ∀ x ∈ races, (x.l.length : Int) * 16 ≤ 140737488351232) (hs : (seen.length : Int) ≤ 9223372036854775806) :
    Ans Try.prog 4 [.sl p .any (races.map NS.c), .sl q .any (seen.map Sp.c)] (.bool true) := by
  have fr : Free (.sl p .any (races.map NS.c)) := free_map NS.free _ _ _
  have fs : Free (.sl q .any (seen.map Sp.c)) := free_map Sp.free _ _ _
  have hfit : ∀ x ∈ races, x.Fit := fun x hx => by have := hrs x hx; show (x.l.length : Int) ≤ _; omega
  have c1 := Shares_t p q races seen hr hs hfit
  have c2 := rShares_t p q races seen hr hs hfit
  have key : ∃ (l : List Sp) (l1 l2 : A) (e : Int), shareR races seen = [l1, .int e] ∧ rshareR races seen = [l2, .int e] ∧ A.Le (outSW l) l1 ∧ A.Le (outSW l) l2 ∧ (l.length : Int) ≤ 100 := by
    unfold shareR rshareR
    by_cases hok : sharesOk races seen = true
    · have hin := ShIn.of hok
      rw [if_pos hok, if_pos hok]
      by_cases he : shareF races seen = []
      · rw [if_pos he, if_pos he]
        exact ⟨[], _, _, _, rfl, rfl, .any _ _ _, .any _ _ _, by decide⟩
      · rw [if_neg he, if_neg he]
        have hl : (shareF races seen).length = races.length := by
          rcases share_told races seen hin.r1 with h | h
          · exact absurd h.1 he
          · exact h.1
        have hr3 := hin.r3
        refine ⟨shareF races seen, _, _, _, rfl, rfl, outSW_le _, ?_, by omega⟩
        unfold outSW
        have : (shareF races seen).isEmpty = false := by
          cases h : shareF races seen with
          | nil => exact absurd h he
          | cons x l => rfl
        rw [this]; exact .refl _
    · rw [if_neg hok, if_neg hok]
      exact ⟨[], _, _, _, rfl, rfl, .any _ _ _, .any _ _ _, by decide⟩
  obtain ⟨l, l1, l2, e, e1, e2, le1, le2', hl⟩ := key
  rw [e1] at c1
  rw [e2] at c2
  have c1 : Ans Try.prog 21 [.sl p .any (races.map NS.c), .sl q .any (seen.map Sp.c)] (.tup [outSW l, .int e]) := Ans_out c1 (A.Le.tup (.cons le1 (.cons (.refl _) .nil)))
  have c2 : Ans Try.prog 22 [.sl p .any (races.map NS.c), .sl q .any (seen.map Sp.c)] (.tup [outSW l, .int e]) := Ans_out c2 (A.Le.tup (.cons le2' (.cons (.refl _) .nil)))
  have s : Ans Try.prog 23 [outSW l, outSW l] (.bool true) := by
    have := sameSpans_t l.isEmpty l.isEmpty l l (by omega)
    rw [beq_self_eq_true] at this
    exact this
  refine told Try.func4 rfl rfl (Pure.of tab_ok Try.func4 rfl Try.ntmps4 rfl (allC (fr) (all1 (fs))) (allC (fun _ => rfl) (all1 (fun _ => rfl))) (by first | exact .s _ | assumption | exact .tup _ (by intro x hx; simp only [List.mem_cons, List.not_mem_nil, or_false] at hx; rcases hx with rfl | rfl | rfl | rfl <;> first | exact .s _ | (simp_all; done))) fun E hE => ?_)
  refine Aw.sm tab_ok mb0 [] rfl rfl ?zo ?zk
  case zo =>
    repeat' apply AllP.cons
    all_goals first | exact trivial | exact id | exact rfl | exact fun _ => rfl | exact Nat.le_of_ble_eq_true rfl | exact fun _ => Nat.le_of_ble_eq_true rfl | exact Int.natCast_nonneg _ | exact fun _ => Int.natCast_nonneg _ | exact in_t _ _ _ | exact (in_t _ _ _).un | exact gq_f
  case zk =>
  refine Aw.sm tab_ok mb0 [(2, [.tup [outSW l, .int e]])] rfl rfl ?zo ?zk
  case zo =>
    repeat' apply AllP.cons
    all_goals first | exact trivial | exact id | exact rfl | exact fun _ => rfl | exact Nat.le_of_ble_eq_true rfl | exact fun _ => Nat.le_of_ble_eq_true rfl | exact Int.natCast_nonneg _ | exact fun _ => Int.natCast_nonneg _ | exact in_t _ _ _ | exact (in_t _ _ _).un | exact gq_f | exact c1
  case zk =>
  refine Aw.sm tab_ok mb0 [(2, [.tup [outSW l, .int e]])] rfl rfl ?zo ?zk
  case zo =>
    repeat' apply AllP.cons
    all_goals first | exact trivial | exact id | exact rfl | exact fun _ => rfl | exact Nat.le_of_ble_eq_true rfl | exact fun _ => Nat.le_of_ble_eq_true rfl | exact Int.natCast_nonneg _ | exact fun _ => Int.natCast_nonneg _ | exact in_t _ _ _ | exact (in_t _ _ _).un | exact gq_f | exact c2
  case zk =>
  refine Aw.sm tab_ok mb0 [(2, [.bool true]), (9, [.bool true])] rfl rfl ?zo ?zk
  case zo =>
    repeat' apply AllP.cons
    all_goals first | exact trivial | exact id | exact rfl | exact fun _ => rfl | exact Nat.le_of_ble_eq_true rfl | exact fun _ => Nat.le_of_ble_eq_true rfl | exact Int.natCast_nonneg _ | exact fun _ => Int.natCast_nonneg _ | exact in_t _ _ _ | exact (in_t _ _ _).un | exact gq_f | exact s | exact fun _ => works_t
  case zk =>
  refine Aw.ret ⟨_, .cons (.tmp _) .nil, ?_⟩
  have e : cond (cond true (e == e) false) true false = true := by simp
  exact congrArg A.bool e
end Go.Proofs.Ytdiclbgklegelaa

namespace Go.Proofs.Ytdiclbgklegelaa
open Go Go.AL Go.ChangeShapes Go.WideShapes Go.ChangeAt Go.RowKit
set_option maxRecDepth 100000 in
theorem stockShares_lifted (os : Os) (started : os.Started) (H : Type) (enc : TypeId × Value → H) :
    ReturnsInHanded {} Try.checked os 4 .any (Rows.stockSharesSpec.pre6 enc Try.prog Try.f4 [] false) (Rows.stockSharesSpec.post enc Try.prog Try.f4 false true false false) := by
  refine lifted2 (tb := 4) (C := Try.checked) own started (by kernel_rfl) Try.func4
    (ChangeSpec.witness6 (enc := enc) (C := Try.checked) false ⟨#[], #[.slice none 0 0, .slice none 0 0], []⟩ 8 (by kernel_rfl) (by kernel_rfl) (by kernel_rfl) (by kernel_rfl))
    laidOut ?_ rfl rfl (by kernel_rfl) uBool ?_ ?_
  · rw [Try.params4]; exact all2t (p := fun t => Try.prog.readableRec t = true ∧ t < Try.prog.types.size) t31 t32
  · intro ds hd
    rw [Try.params4] at hd
    match ds, hd with
    | [d0, d1], _ => rfl
  · intro W base args ds p hval hA hwt
    rw [Try.params4] at hA hval
    obtain ⟨v0, v1, d0, d1, p0, p1, rfl, rfl, rfl, h0, h1⟩ := trodAll_two hA
    obtain ⟨b0, y0, q0, s0, z0⟩ := arg_signs (φ := fun _ => none) (hval 0 31 v0 rfl rfl) h0 fun k hk => hwt k (List.mem_append.2 (.inl hk))
    obtain ⟨b1, y1, q1, s1⟩ := arg_spans (φ := fun _ => none) (hval 1 32 v1 rfl rfl) h1 fun k hk => hwt k (List.mem_append.2 (.inr (List.mem_append.2 (.inl hk))))
    exact ⟨_, _, vrs2 q0 q1, shares_t b0 y0 b1 y1 s0 z0 s1⟩
theorem stockShares_holds : Rows.StockSharesSaid :=
  OpenClaim.holds_of_wide 4 Try.f4 rfl rfl rfl rfl rfl rfl rfl ⟨rfl, rfl, rfl, rfl, rfl⟩ rfl rfl rfl rfl rfl (by kernel_rfl) Try.func4 (by kernel_rfl)
    (of_decide_eq_true (by kernel_rfl)) (by unfold Func.isWrapper; first | (rw [if_pos (by decide +kernel)]; kernel_rfl) | (rw [if_neg (by decide +kernel)]; exact ⟨rfl, rfl⟩))
    (fun os started H enc _ => stockShares_lifted os started H enc)
end Go.Proofs.Ytdiclbgklegelaa

