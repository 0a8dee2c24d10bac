/- StockSpread holds: With wider spans what Shares tells gets no narrower. No condition. -/
import Derived.Test.YtdiclbgklegelaaK6
set_option linter.all false
namespace Go.AL
open Go Go.RowKit Go.ChangeShapes Go.WideShapes Go.ChangeAt
section
variable {H : Type} {enc : TypeId × Value → H} {P : Program} {w : World} {base : Nat} {held : Bool} {φ : Names}
def CellsAre (φ : Names) (w : World) (az : List A) (cs : List Value) : Prop :=
  cs.length = az.length ∧ ∀ i, i < az.length → VR φ (allZ w) w (az.getD i .un) (cs.getD i undef) ∧ (cs.getD i undef).oneCell' = true
theorem CellsAre.nil : CellsAre φ w [] [] := ⟨rfl, fun i h => by simp at h⟩
theorem CellsAre.one {a : A} {v : Value} (h : VR φ (allZ w) w a v) (h1 : v.oneCell' = true) : CellsAre φ w [a] [v] := ⟨rfl, fun i hi => by
  have : i = 0 := by simp at hi; exact hi
  subst this; exact ⟨h, h1⟩⟩
theorem CellsAre.app {az bz : List A} {cs ds : List Value} (h : CellsAre φ w az cs) (k : CellsAre φ w bz ds) : CellsAre φ w (az ++ bz) (cs ++ ds) := by
  refine ⟨by simp [h.1, k.1], fun i hi => ?_⟩
  by_cases h1 : i < az.length
  · have := h.2 i h1
    rw [show (az ++ bz).getD i .un = az.getD i .un by simp [List.getD_eq_getElem?_getD, List.getElem?_append, h1],
      show (cs ++ ds).getD i undef = cs.getD i undef by simp [List.getD_eq_getElem?_getD, List.getElem?_append, h.1, h1]]
    exact this
  · have hi2 : i - az.length < bz.length := by simp only [List.length_append] at hi; omega
    have := k.2 (i - az.length) hi2
    rw [show (az ++ bz).getD i .un = bz.getD (i - az.length) .un by simp [List.getD_eq_getElem?_getD, List.getElem?_append, h1],
      show (cs ++ ds).getD i undef = ds.getD (i - az.length) undef by simp [List.getD_eq_getElem?_getD, List.getElem?_append, h.1, h1]]
    exact this
theorem CellsAre.agg {az : List A} {cs : List Value} (h : CellsAre φ w az cs) : VR φ (allZ w) w (.agg az) (.agg cs.toArray) := by
  have e : ∀ i, cs.toArray.getD i undef = cs.getD i undef := fun i => by simp [Array.getD_eq_getD_getElem?, List.getD_eq_getElem?_getD]
  refine .agg _ _ (by simp [h.1]) (fun i hi => ?_) fun i hi => ?_
  · rw [e]; exact (h.2 i hi).2
  · rw [e]; exact (h.2 i hi).1
def Reads (enc : TypeId × Value → H) (P : Program) (w : World) (base : Nat) (held : Bool) (φ : Names) (e sz : Nat) {α : Type} (c : α → List A) (Q : α → Prop) : Prop :=
  ∀ n cs y, DataW.trod enc P w base (fun _ => true) held n e cs = some y → (∀ k ∈ y.1.weights P e, k ≤ reachBytes) → ∃ a : α, Q a ∧ (c a).length = sz ∧ CellsAre φ w (c a) cs
theorem Reads.imp {e sz : Nat} {α β : Type} {c : α → List A} {d : β → List A} {Q : α → Prop} {R : β → Prop} (h : Reads enc P w base held φ e sz c Q) (k : ∀ a, Q a → ∃ b, R b ∧ d b = c a) : Reads enc P w base held φ e sz d R := fun n cs y hy hw => by
  obtain ⟨a, q, l, r⟩ := h n cs y hy hw
  obtain ⟨b, q2, e2⟩ := k a q
  exact ⟨b, q2, by rw [e2]; exact l, by rw [e2]; exact r⟩
theorem Reads.int {e : Nat} (he : P.underlying e = some (.int .i64)) : Reads enc P w base held φ e 1 (fun n : Int => [A.int n]) fun _ => True := fun n cs y h _ => by
  obtain ⟨z, rfl, _, _⟩ := DataW.trod_int he h
  exact ⟨z, trivial, rfl, .one (.s _) rfl⟩
theorem weightsAll_at {e : Nat} : ∀ {l : List (DataW H)} {d : DataW H}, d ∈ l → ∀ k ∈ d.weights P e, k ∈ DataW.weightsAll P e l
  | x :: l, d, hm, k, hk => by
    rw [DataW.weightsAll, List.mem_append]
    rcases List.mem_cons.1 hm with rfl | hm
    · exact .inl hk
    · exact .inr (weightsAll_at hm k hk)
theorem cells_spot {a : Addr} {n : Nat} {cs : List Value} (h : w.cells? base a n = some cs) (hn : 0 < n) : a.spot = none := by
  obtain ⟨hl, hc⟩ := cells_at h
  have h0 := hc 0 hn
  rw [List.getElem?_eq_getElem (by omega)] at h0
  have := World.cell?_spot h0
  rwa [show a.add 0 = a from by unfold Addr.add; simp] at this
theorem told_list {α : Type} {c : α → List A} {Q : α → Prop} {R : α → Nat → Prop} (n : Nat) (h : ∀ i, i < n → ∃ a, Q a ∧ R a i) : ∃ l : List α, l.length = n ∧ (∀ a ∈ l, Q a) ∧ ∀ i (hi : i < l.length), R l[i] i := by
  induction n with
  | zero => exact ⟨[], rfl, fun _ h => by simp at h, fun i hi => by simp at hi⟩
  | succ n ih =>
    obtain ⟨l, hl, hq, hr⟩ := ih fun i hi => h i (by omega)
    obtain ⟨a, qa, ra⟩ := h n (by omega)
    refine ⟨l ++ [a], by simp [hl], fun x hx => ?_, fun i hi => ?_⟩
    · rcases List.mem_append.1 hx with hx | hx
      · exact hq x hx
      · rw [List.mem_singleton.1 hx]; exact qa
    · by_cases h1 : i < l.length
      · rw [List.getElem_append_left h1]; exact hr i h1
      · have : i = l.length := by simp at hi; omega
        subst this
        rw [List.getElem_append_right (by omega)]
        simp only [Nat.sub_self, List.getElem_cons_zero]
        rw [hl]; exact ra
theorem Reads.slice {t e sz : Nat} {α : Type} {c : α → List A} {Q : α → Prop} (ht : P.underlying t = some (.slice e)) (hc : P.cellsOf e = sz) (h0 : 0 < sz) (h : Reads enc P w base held φ e sz c Q) :
    Reads enc P w base held φ t 1 (fun x : Bool × List α => [A.sl x.1 .any (x.2.map c)]) fun x => (∀ a ∈ x.2, Q a) ∧ x.2.length * P.bytesOf e ≤ reachBytes := by
  intro fuel cs y hy hw
  rcases DataW.trod_slice ht hy with ⟨rfl, _⟩ | ⟨ad, len, cap, elems, rest, n, _, rfl, hx, hbl, hl, hm, hlen, hel, hre, _⟩
  · exact ⟨(true, []), ⟨fun a ha => (nomatch ha), by simp⟩, rfl, .one (.nil _) rfl⟩
  · obtain ⟨hrl, hre⟩ := hre rfl
    have hwt : (elems.map (·.1)).length * P.bytesOf e ≤ reachBytes ∧ ∀ d ∈ elems.map (·.1), ∀ k ∈ d.weights P e, k ≤ reachBytes := by
      rw [hx] at hw
      simp only [DataW.weights, ht] at hw
      refine ⟨Nat.le_trans (Nat.mul_le_mul_right _ (Nat.le_add_right _ (rest.map (·.1)).length)) (hw _ (List.mem_cons_self ..)), fun d hd k hk => hw k (List.mem_cons_of_mem _ (List.mem_append.2 (.inl (weightsAll_at hd k hk))))⟩
    have hsp : cap = 0 ∨ ad.spot = none := by
      rcases Nat.eq_zero_or_pos cap with h | hpos
      · exact .inl h
      right
      rcases Nat.eq_zero_or_pos len with hz | hlp
      · subst hz
        have h1 := hre 0 (by omega)
        rw [hc] at h1
        obtain ⟨r, hr⟩ : ∃ r, rest[0]? = some r := ⟨rest[0]'(by omega), List.getElem?_eq_getElem _⟩
        rw [hr, Option.bind_eq_some_iff] at h1
        obtain ⟨cs, h2, _⟩ := h1
        rw [show ad.add ((0 + 0) * sz) = ad from by unfold Addr.add; simp] at h2
        exact cells_spot h2 h0
      · have h1 := hel 0 hlp
        rw [hc] at h1
        obtain ⟨r, hr⟩ : ∃ r, elems[0]? = some r := ⟨elems[0]'(by omega), List.getElem?_eq_getElem _⟩
        rw [hr, Option.bind_eq_some_iff] at h1
        obtain ⟨cs, h2, _⟩ := h1
        rw [show ad.add (0 * sz) = ad from by unfold Addr.add; simp] at h2
        exact cells_spot h2 h0
    rcases hsp with hz | hsp
    · subst hz
      have : len = 0 := by omega
      subst this
      exact ⟨(false, []), ⟨fun a ha => (nomatch ha), by simp⟩, rfl, .one (.slz _ ad) rfl⟩
    obtain ⟨b, off, sp⟩ := ad
    simp only at hsp
    subst hsp
    have each : ∀ i, i < len → ∃ a : α, Q a ∧ ((c a).length = sz ∧ ∃ cs, w.cells? base ((⟨b, off, none⟩ : Addr).add (i * sz)) sz = some cs ∧ CellsAre φ w (c a) cs) := fun i hi => by
      have h1 := hel i hi
      rw [hc] at h1
      rw [List.getElem?_eq_getElem (by omega), Option.bind_eq_some_iff] at h1
      obtain ⟨cs, h2, h3⟩ := h1
      obtain ⟨a, qa, la, ra⟩ := h n cs _ h3 (hwt.2 _ (List.mem_map.2 ⟨_, List.getElem_mem (by omega), rfl⟩))
      exact ⟨a, qa, la, cs, h2, ra⟩
    obtain ⟨l, hll, hq, hr⟩ := told_list (c := c) len each
    have hcell : ∀ i j, i < l.length → j < sz → ∃ v, w.cell? ⟨b, off + i * sz + j, none⟩ = some v ∧ VR φ (allZ w) w ((((l.map c).getD i []).getD j .un)) v ∧ v.oneCell' = true := fun i j hi hj => by
      obtain ⟨q1, cs, q2, q3⟩ := hr i hi
      have h1 := (cells_at q2).2 j hj
      rw [add_plain, add_plain] at h1
      have hcl : cs.length = sz := by rw [q3.1, q1]
      rw [List.getElem?_eq_getElem (by omega)] at h1
      have h2 := q3.2 j (by omega)
      have e1 : cs.getD j undef = cs[j]'(by omega) := by rw [List.getD_eq_getElem?_getD, List.getElem?_eq_getElem (by omega)]; rfl
      have e2 : (l.map c).getD i [] = c l[i] := by rw [List.getD_eq_getElem?_getD, List.getElem?_map, List.getElem?_eq_getElem hi]; rfl
      rw [e1] at h2
      exact ⟨_, h1, by rw [e2]; exact h2.1, h2.2⟩
    let val : Nat → Nat → Value := fun i j => (w.cell? ⟨b, off + i * sz + j, none⟩).getD undef
    have hval : ∀ i j, i < l.length → j < sz → w.cell? ⟨b, off + i * sz + j, none⟩ = some (val i j) ∧ VR φ (allZ w) w ((((l.map c).getD i []).getD j .un)) (val i j) ∧ (val i j).oneCell' = true := fun i j hi hj => by
      obtain ⟨v, h1, h2, h3⟩ := hcell i j hi hj
      have : val i j = v := by simp only [val, h1]; rfl
      rw [this]; exact ⟨h1, h2, h3⟩
    have hl2 : (l.map c).length = l.length := by simp
    refine ⟨(false, l), ⟨hq, ?_⟩, rfl, .one ?_ rfl⟩
    · have := hwt.1
      rw [List.length_map, hlen] at this
      rw [hll]; exact this
    · have key : VR φ (allZ w) w (.sl false .any (l.map c)) (.slice (some ⟨b, off, none⟩) (l.map c).length cap) := by
        refine .sl .any _ b off sz cap val (by rw [hl2, hll]; exact hl) (fun h => by cases h) hm (fun z hz => ?_) (fun i j hi hj => ?_) (fun i j hi hj => ?_) (fun i j hi hj => ?_) fun i j hi hj => ?_
        · obtain ⟨a, ha, rfl⟩ := List.mem_map.1 hz
          obtain ⟨i, hi, rfl⟩ := List.mem_iff_getElem.1 ha
          exact (hr i hi).1
        all_goals rw [hl2] at hi
        · exact ⟨_, (hval i j hi hj).1⟩
        · exact (hval i j hi hj).1
        · exact (hval i j hi hj).2.2
        · exact (hval i j hi hj).2.1
      rw [hl2, hll] at key; exact key
inductive Flds (enc : TypeId × Value → H) (P : Program) (w : World) (base : Nat) (held : Bool) (φ : Names) : Nat → List Field → {α : Type} → (α → List A) → (α → Prop) → Nat → Prop
  | nil (off : Nat) : Flds enc P w base held φ off [] (fun _ : Unit => []) (fun _ => True) 0
  | cons {off : Nat} {f : Field} {fs : List Field} {sz m : Nat} {α β : Type} {c : α → List A} {Q : α → Prop} {d : β → List A} {R : β → Prop} (ho : f.offset = off) (hc : P.cellsOf f.type = sz) (h : Reads enc P w base held φ f.type sz c Q)
      (k : Flds enc P w base held φ (off + sz) fs d R m) : Flds enc P w base held φ off (f :: fs) (fun x : α × β => c x.1 ++ d x.2) (fun x => Q x.1 ∧ R x.2) (sz + m)
theorem Flds.read {n : Nat} {cs : List Value} : ∀ {fs : List Field} {off m : Nat} {α : Type} {c : α → List A} {Q : α → Prop} {xs : List (DataW H × List MemPlace)}, Flds enc P w base held φ off fs c Q m → xs.length = fs.length →
    (∀ (i : Nat) (f : Field), fs[i]? = some f → DataW.trod enc P w base (fun _ => true) held n f.type ((cs.drop f.offset).take (P.cellsOf f.type)) = xs[i]?) → (∀ k ∈ DataW.weightsEach P (fs.map (·.type)) (xs.map (·.1)), k ≤ reachBytes) →
    cs.length = off + m → ∃ a, Q a ∧ (c a).length = m ∧ CellsAre φ w (c a) (cs.drop off)
  | _, _, _, _, _, _, [], .nil off, _, _, _, hl => ⟨(), trivial, rfl, by rw [List.drop_of_length_le (by omega)]; exact .nil⟩
  | f :: fs, off, _, _, _, _, x :: xs, .cons (sz := sz) (m := m) ho hc h k, hxl, hx, hw, hl => by
    have h0 := hx 0 f rfl
    rw [ho, hc] at h0
    obtain ⟨a, qa, la, ra⟩ := h n _ x h0 fun k hk => hw k (by
      simp only [List.map_cons, DataW.weightsEach, List.mem_append]; exact .inl hk)
    obtain ⟨b, qb, lb, rb⟩ := Flds.read k (by simpa using hxl) (fun i f' hf => hx (i + 1) f' hf) (fun k hk => hw k (by
      simp only [List.map_cons, DataW.weightsEach, List.mem_append]; exact .inr hk)) (by omega)
    refine ⟨(a, b), ⟨qa, qb⟩, by simp only [List.length_append, la, lb], ?_⟩
    have e : cs.drop off = (cs.drop off).take sz ++ cs.drop (off + sz) := by
      rw [← List.drop_drop, List.take_append_drop]
    rw [e]
    exact ra.app rb
theorem Reads.struct {e m m' : Nat} {fs : Array Field} {l : List Field} {α : Type} {c : α → List A} {Q : α → Prop} (he : P.underlying e = some (.struct fs)) (hc : P.cellsOf e = m) (h : Flds enc P w base held φ 0 l c Q m') (hl : fs.toList = l) (hm : m' = m) : Reads enc P w base held φ e m c Q := by
  subst hl; subst hm
  intro fuel cs y hy hw
  obtain ⟨xs, n, _, hx, hl, hlen, hf⟩ := DataW.trod_struct he hy
  rw [hx] at hw
  simp only [DataW.weights, he] at hw
  obtain ⟨a, q, l, r⟩ := h.read (n := n) (cs := cs) (xs := xs) (by simpa using hlen) (fun i f hf' => hf i f (by simpa using hf')) hw (by omega)
  exact ⟨a, q, l, by simpa using r⟩
theorem Reads.arg_one {t : Nat} {α : Type} {x : α → A} {Q : α → Prop} {v : Value} {d : DataW H} {p : List MemPlace} (h : Reads enc P w base held φ t 1 (fun a => [x a]) Q) (hc : v.cells.toList = [v])
    (ht : DataW.Trod enc P w base (fun _ => true) held t v d p) (hw : ∀ k ∈ d.weights P t, k ≤ reachBytes) : ∃ a, Q a ∧ VR φ (allZ w) w (x a) v := by
  obtain ⟨fuel, ht⟩ := ht
  rw [hc] at ht
  obtain ⟨a, q, _, r⟩ := h fuel _ _ ht hw
  exact ⟨a, q, (r.2 0 (by simp)).1⟩
theorem Reads.arg_slice {t e : Nat} {α : Type} {x : α → A} {Q : α → Prop} {v : Value} {d : DataW H} {p : List MemPlace} {r : Reach} {b0 : Nat} (hu : P.underlying t = some (.slice e)) (h : Reads enc P w base held φ t 1 (fun a => [x a]) Q) (hok : Value.okWide P w r b0 t v)
    (ht : DataW.Trod enc P w base (fun _ => true) held t v d p) (hw : ∀ k ∈ d.weights P t, k ≤ reachBytes) : ∃ a, Q a ∧ VR φ (allZ w) w (x a) v := h.arg_one (slice_cell hu hok).2 ht hw
theorem Reads.ints {t n e : Nat} (hu : P.underlying t = some (.array n e)) (hc : P.cellsOf t = n) (ue : P.underlying e = some (.int .i64)) (ce : P.cellsOf e = 1) :
    Reads enc P w base held φ t n (fun l : List Int => l.map A.int) fun l => l.length = n := by
  intro fuel cs y hy _
  obtain ⟨xs, m, _, _, hl0, hl, hx⟩ := DataW.trod_array hu hy
  rw [ce] at hx
  have hcl : cs.length = n := by omega
  have each : ∀ i, i < n → ∃ z : Int, True ∧ cs[i]? = some (.int .i64 z) := fun i hi => by
    have h1 := hx i hi
    rw [List.getElem?_eq_getElem (by omega)] at h1
    obtain ⟨z, hz, _⟩ := DataW.trod_int ue h1
    refine ⟨z, trivial, ?_⟩
    have h5 := congrArg (fun l => l[0]?) hz
    simpa using h5
  obtain ⟨l, hll, _, hr⟩ := told_list (c := fun _ : Int => []) n each
  refine ⟨l, hll, by simp [hll], by simp [hll, hcl], fun i hi => ?_⟩
  have hi : i < l.length := by simpa using hi
  have h1 := hr i hi
  have e1 : cs.getD i undef = .int .i64 l[i] := by rw [List.getD_eq_getElem?_getD, h1]; rfl
  have e2 : (l.map A.int).getD i .un = A.int l[i] := by simp [List.getD_eq_getElem?_getD, hi]
  rw [e1, e2]
  exact ⟨.s _, rfl⟩
end
end Go.AL

namespace Go.AL.Q
open Go
end Go.AL.Q

namespace Go.AL.Q
open Go
def LeP (a b : List Int) : Prop := a.length = b.length ∧ ∀ i, a.getD i 0 ≤ b.getD i 0
theorem LeP.refl (a : List Int) : LeP a a := ⟨rfl, fun _ => Int.le_refl _⟩
theorem LeP.set {a b : List Int} (h : LeP a b) {i : Nat} {x y : Int} (hi : i < b.length) (hx : x ≤ y) : LeP (a.set i x) (b.set i y) :=
  ⟨by simp [h.1], fun j => by
    have hl := h.1
    rw [getD_set' _ _ _ _ (by omega), getD_set' _ _ _ _ hi]
    split
    · exact hx
    · exact h.2 j⟩
structure PlayIn (r : Rce) (takes recs : List Int) : Prop where
  ok : r.ok = true
  l1 : 1 ≤ takes.length
  l10 : takes.length ≤ 10
  len : recs.length = takes.length
  t : ∀ i, i < takes.length → 0 ≤ takes.getD i 0 ∧ takes.getD i 0 ≤ 100000000
  x : ∀ i, i < takes.length → 0 ≤ recs.getD i 0 ∧ recs.getD i 0 ≤ 100000
theorem PlayIn.of {r : Rce} {takes recs : List Int} (h : playOk r takes recs = true) : PlayIn r takes recs := by
  unfold playOk at h
  have h1 := ac1 h
  have h2 := fun i hi => List.all_eq_true.1 (ac2 h) i (List.mem_range.2 hi)
  unfold playHead at h1
  have a1 := wi_iff.1 (ac2 (ac1 h1))
  have a2 := eq_of_beq (ac2 h1)
  exact ⟨ac1 (ac1 h1), by omega, by omega, by omega, fun i hi => wi_iff.1 (ac1 (h2 i hi)), fun i hi => wi_iff.1 (ac2 (h2 i hi))⟩
theorem PlayIn.to {r : Rce} {takes recs : List Int} (h : PlayIn r takes recs) : playOk r takes recs = true := by
  have h1 := h.l1
  have h2 := h.l10
  have h3 := h.len
  have e1 : wi takes.length 1 10 = true := wi_iff.2 ⟨by omega, by omega⟩
  have e2 : ((recs.length : Int) == takes.length) = true := by rw [h3]; simp
  unfold playOk playHead
  rw [h.ok, e1, e2]
  show (List.range takes.length).all (playYear takes recs) = true
  refine List.all_eq_true.2 fun i hi => ?_
  have hi := List.mem_range.1 hi
  unfold playYear
  rw [wi_iff.2 (h.t i hi), wi_iff.2 (h.x i hi)]; rfl
theorem LeP.up {l : List Int} {i : Nat} {v : Int} (hi : i < l.length) (h : l.getD i 0 ≤ v) : LeP l (l.set i v) := ⟨by simp, fun j => by
  rw [getD_set' _ _ _ _ hi]
  split
  · rename_i e; subst e; exact h
  · exact Int.le_refl _⟩
theorem LeP.dn {l : List Int} {i : Nat} {v : Int} (hi : i < l.length) (h : v ≤ l.getD i 0) : LeP (l.set i v) l := ⟨by simp, fun j => by
  rw [getD_set' _ _ _ _ hi]
  split
  · rename_i e; subst e; exact h
  · exact Int.le_refl _⟩
end Go.AL.Q

namespace Go.AL.Q
open Go
def Fish.brk (f : Fish) (q : Int) (y r s : Nat) : Bool := decide ((f.spawns r s q).getD y 0 < (f.race r).line)
end Go.AL.Q

namespace Go.AL.Q
open Go
end Go.AL.Q

namespace Go.AL.Q
open Go
end Go.AL.Q

namespace Go.AL.Q
open Go
structure Found (f : Fish) (q : Int) (y r s : Nat) : Prop where
  hy : y < f.years
  hr : r < f.many
  hs : s < f.seasons.length
  hb : f.brk q y r s = true
  before : ∀ y', y' < y → ∀ r', r' < f.many → ∀ s', s' < f.seasons.length → f.brk q y' r' s' = false
  races : ∀ r', r' < r → ∀ s', s' < f.seasons.length → f.brk q y r' s' = false
  seas : ∀ s', s' < s → f.brk q y r s' = false
end Go.AL.Q

namespace Go.AL.Q
open Go
def sp0 : Sp := ⟨0, 0⟩
structure MixOf (n : Nat) (m : List Int) : Prop where
  len : m.length = n
  sum : m.sum = 100
  nn : ∀ x ∈ m, 0 ≤ x
theorem mixL_of : ∀ (k : Nat) (mix : List Int) (left : Nat) (t : List Int), t.length = k + 1 → (∀ x ∈ t, 0 ≤ x) → t.sum = left → mix ++ t ∈ mixL k mix left
  | 0, mix, left, t, hl, hn, hs => by
    match t, hl with
    | [x], _ =>
      simp only [List.sum_cons, List.sum_nil] at hs
      rw [mixL, List.mem_singleton, show x = (left : Int) by omega]
  | k + 1, mix, left, t, hl, hn, hs => by
    match t, hl with
    | x :: t, hl =>
      have hx := hn x (List.mem_cons_self ..)
      have ht : 0 ≤ t.sum := sum_nn fun y hy => hn y (List.mem_cons_of_mem _ hy)
      simp only [List.sum_cons] at hs
      obtain ⟨n, rfl⟩ : ∃ n : Nat, x = n := ⟨x.toNat, by omega⟩
      rw [mixL, List.mem_flatMap]
      refine ⟨n, List.mem_range.2 (by omega), ?_⟩
      have := mixL_of k (mix ++ [(n : Int)]) (left - n) t (by simpa using hl) (fun y hy => hn y (List.mem_cons_of_mem _ hy)) (by omega)
      simpa using this
theorem mix_iff {n : Nat} (h : 1 ≤ n) {m : List Int} : m ∈ mixL (n - 1) [] 100 ↔ MixOf n m := by
  constructor
  · intro hm
    obtain ⟨h1, _, h3, h4⟩ := mixL_mem _ _ _ m hm
    simp only [List.length_nil, List.sum_nil, List.drop_zero] at h1 h3 h4
    exact ⟨by omega, by simpa using h3, h4⟩
  · intro hm
    have := mixL_of (n - 1) [] 100 m (by rw [hm.len]; omega) hm.nn hm.sum
    simpa using this
theorem MixOf.get {n : Nat} {m : List Int} (h : MixOf n m) (i : Nat) : 0 ≤ m.getD i 0 ∧ m.getD i 0 ≤ 100 := by
  rw [List.getD_eq_getElem?_getD]
  cases e : m[i]? with
  | none => simp
  | some x =>
    have hx := List.mem_of_getElem? e
    refine ⟨h.nn x hx, ?_⟩
    have hs := h.sum
    obtain ⟨a, b, rfl⟩ := List.append_of_mem hx
    have ha : 0 ≤ a.sum := sum_nn fun y hy => h.nn y (by simp [hy])
    have hb : 0 ≤ b.sum := sum_nn fun y hy => h.nn y (by simp [hy])
    simp only [List.sum_append, List.sum_cons] at hs
    show x ≤ 100
    omega
theorem wideL_get : ∀ (ss : List Sp) (ns : List Int) (i : Nat), i < ss.length → i < ns.length → (wideL ss ns).getD i sp0 = widen (ss.getD i sp0) (ns.getD i 0)
  | [], _, i, h, _ => by simp at h
  | s :: ss, [], i, _, h => by simp at h
  | s :: ss, n :: ns, 0, _, _ => rfl
  | s :: ss, n :: ns, i + 1, h, k => by
    rw [wideL, List.getD_cons_succ, List.getD_cons_succ, List.getD_cons_succ]
    exact wideL_get ss ns i (by simpa using h) (by simpa using k)
theorem points_get {m : List Int} {i : Nat} (h : i < m.length) : (points m).getD i sp0 = ⟨m.getD i 0, m.getD i 0⟩ := by
  unfold points; simp [List.getD_eq_getElem?_getD, h]
def Told (n : Nat) (P : List Int → Prop) (out : List Sp) : Prop :=
  (out = [] ∧ ∀ m, ¬ P m) ∨ (out.length = n ∧ (∀ m, P m → ∀ i, i < n → (out.getD i sp0).lo ≤ m.getD i 0 ∧ m.getD i 0 ≤ (out.getD i sp0).hi) ∧
    ∀ i, i < n → (∃ m, P m ∧ m.getD i 0 = (out.getD i sp0).lo) ∧ ∃ m, P m ∧ m.getD i 0 = (out.getD i sp0).hi)
theorem Told.step {n : Nat} (hn : 1 ≤ n) {races : List NS} {seen : List Sp} {P : List Int → Prop} {out : List Sp} {m : List Int} (hm : m.length = n) (h : Told n P out) : Told n (fun x => P x ∨ (x = m ∧ agreeF races seen m = true)) (shareStep races seen out m) := by
  unfold shareStep
  cases ha : agreeF races seen m with
  | false =>
    have e : (fun x => P x ∨ (x = m ∧ false = true)) = P := funext fun x => by simp
    rw [if_neg (by decide), e]; exact h
  | true =>
    rw [if_pos rfl]
    right
    have one : (if out = [] then points m else out).length = n ∧ (∀ i, i < n → ∀ x, (P x ∨ x = m) → (wideL (if out = [] then points m else out) m).getD i sp0 = widen ((if out = [] then points m else out).getD i sp0) (m.getD i 0)) := by
      have hl : (if out = [] then points m else out).length = n := by
        split
        · unfold points; simp [hm]
        · rename_i ho
          rcases h with h | h
          · exact absurd h.1 ho
          · exact h.1
      exact ⟨hl, fun i hi _ _ => wideL_get _ _ _ (by omega) (by omega)⟩
    obtain ⟨hl, hw⟩ := one
    have hw : ∀ i, i < n → (wideL (if out = [] then points m else out) m).getD i sp0 = widen ((if out = [] then points m else out).getD i sp0) (m.getD i 0) := fun i hi => hw i hi m (.inr rfl)
    refine ⟨by rw [wideL_len]; exact hl, ?_, ?_⟩
    · rintro x hx i hi
      rw [hw i hi]
      unfold widen
      by_cases ho : out = []
      · rw [if_pos ho, points_get (by omega)]
        rcases h with h | h
        · rcases hx with hx | ⟨rfl, _⟩
          · exact absurd hx (h.2 x)
          · simp only; omega
        · rw [ho] at h; simp at h; omega
      · rw [if_neg ho]
        rcases h with h | h
        · exact absurd h.1 ho
        · rcases hx with hx | ⟨rfl, _⟩
          · have := h.2.1 x hx i hi; simp only; omega
          · simp only; omega
    · intro i hi
      rw [hw i hi]
      unfold widen
      by_cases ho : out = []
      · rw [if_pos ho, points_get (by omega)]
        exact ⟨⟨m, .inr ⟨rfl, rfl⟩, by simp only; omega⟩, m, .inr ⟨rfl, rfl⟩, by simp only; omega⟩
      · rw [if_neg ho]
        rcases h with h | h
        · exact absurd h.1 ho
        · obtain ⟨⟨a, pa, ea⟩, b, pb, eb⟩ := h.2.2 i hi
          constructor
          · by_cases hle : (out.getD i sp0).lo ≤ m.getD i 0
            · exact ⟨a, .inl pa, by simp only; omega⟩
            · exact ⟨m, .inr ⟨rfl, rfl⟩, by simp only; omega⟩
          · by_cases hle : m.getD i 0 ≤ (out.getD i sp0).hi
            · exact ⟨b, .inl pb, by simp only; omega⟩
            · exact ⟨m, .inr ⟨rfl, rfl⟩, by simp only; omega⟩
theorem Told.fold {n : Nat} (hn : 1 ≤ n) {races : List NS} {seen : List Sp} : ∀ (L : List (List Int)) {P : List Int → Prop} {out : List Sp}, (∀ m ∈ L, m.length = n) → Told n P out → Told n (fun x => P x ∨ (x ∈ L ∧ agreeF races seen x = true)) (L.foldl (shareStep races seen) out)
  | [], P, out, _, h => by
    have e : (fun x => P x ∨ (x ∈ ([] : List (List Int)) ∧ agreeF races seen x = true)) = P := funext fun x => by simp
    rw [e]; exact h
  | m :: L, P, out, hl, h => by
    have h2 := Told.fold hn (races := races) (seen := seen) L (fun x hx => hl x (List.mem_cons_of_mem _ hx)) (h.step hn (races := races) (seen := seen) (hl m (List.mem_cons_self ..)))
    rw [List.foldl_cons]
    have e : (fun x => P x ∨ (x ∈ m :: L ∧ agreeF races seen x = true)) = fun x => (P x ∨ (x = m ∧ agreeF races seen m = true)) ∨ (x ∈ L ∧ agreeF races seen x = true) := funext fun x => by
      rw [eq_iff_iff]
      constructor
      · rintro (h | ⟨h, h3⟩)
        · exact .inl (.inl h)
        · rcases List.mem_cons.1 h with rfl | h
          · exact .inl (.inr ⟨rfl, h3⟩)
          · exact .inr ⟨h, h3⟩
      · rintro ((h | ⟨rfl, h⟩) | ⟨h, h2⟩)
        · exact .inl h
        · exact .inr ⟨List.mem_cons_self .., h⟩
        · exact .inr ⟨List.mem_cons_of_mem _ h, h2⟩
    rw [e]; exact h2
theorem share_told (races : List NS) (seen : List Sp) (h : 1 ≤ races.length) : Told races.length (fun m => MixOf races.length m ∧ agreeF races seen m = true) (shareF races seen) := by
  have := Told.fold h (races := races) (seen := seen) (mixL (races.length - 1) [] 100) (P := fun _ => False) (out := []) (fun m hm => ((mix_iff h).1 hm).len) (.inl ⟨rfl, fun _ h => h⟩)
  have e : (fun x => False ∨ (x ∈ mixL (races.length - 1) [] 100 ∧ agreeF races seen x = true)) = fun m => MixOf races.length m ∧ agreeF races seen m = true := funext fun x => by rw [false_or, mix_iff h]
  rw [e] at this
  exact this
structure ShIn (races : List NS) (seen : List Sp) : Prop where
  r1 : 1 ≤ races.length
  r3 : races.length ≤ 3
  s1 : 1 ≤ seen.length
  s6 : seen.length ≤ 6
  sn : ∀ k, k < seen.length → 0 ≤ (seen.getD k sp0).lo ∧ (seen.getD k sp0).lo ≤ (seen.getD k sp0).hi ∧ (seen.getD k sp0).hi ≤ 100
  len : ∀ r, r < races.length → (races.getD r ⟨false, []⟩).l.length = seen.length
  sign : ∀ r k, r < races.length → k < seen.length → 0 ≤ ((races.getD r ⟨false, []⟩).l.getD k sp0).lo ∧ ((races.getD r ⟨false, []⟩).l.getD k sp0).lo ≤ ((races.getD r ⟨false, []⟩).l.getD k sp0).hi ∧ ((races.getD r ⟨false, []⟩).l.getD k sp0).hi ≤ 100
theorem getS_mem {l : List Sp} {k : Nat} (h : k < l.length) : l.getD k sp0 ∈ l := by
  rw [List.getD_eq_getElem?_getD, List.getElem?_eq_getElem h]; exact List.getElem_mem h
theorem pct_iff {s : Sp} : pctOk s = true ↔ 0 ≤ s.lo ∧ s.lo ≤ s.hi ∧ s.hi ≤ 100 := by
  unfold pctOk spannedF
  rw [c_and, Bool.and_eq_true, wi_iff, wi_iff]; omega
theorem signs_iff {l : List Sp} {many : Nat} : signsOk l many = true ↔ (1 ≤ many ∧ many ≤ 6) ∧ l.length = many ∧ ∀ s ∈ l, 0 ≤ s.lo ∧ s.lo ≤ s.hi ∧ s.hi ≤ 100 := by
  unfold signsOk
  rw [c_and, c_and, Bool.and_eq_true, Bool.and_eq_true, wi_iff, beq_iff_eq, List.all_eq_true, and_assoc]
  simp only [pct_iff]
  constructor
  · rintro ⟨h1, h2, h3⟩; exact ⟨by omega, by omega, h3⟩
  · rintro ⟨h1, h2, h3⟩; exact ⟨by omega, by omega, h3⟩
theorem ShIn.of {races : List NS} {seen : List Sp} (h : sharesOk races seen = true) : ShIn races seen := by
  unfold sharesOk at h
  have h1 := wi_iff.1 (ac1 (ac1 h))
  have h2 := signs_iff.1 (ac2 (ac1 h))
  have h3 := List.all_eq_true.1 (ac2 h)
  have hr : ∀ r, r < races.length → races.getD r ⟨false, []⟩ ∈ races := fun r hr => by
    rw [List.getD_eq_getElem?_getD, List.getElem?_eq_getElem hr]; exact List.getElem_mem hr
  refine ⟨by omega, by omega, by omega, by omega, fun k hk => h2.2.2 _ (getS_mem hk), fun r h => (signs_iff.1 (h3 _ (hr r h))).2.1, fun r k h hk => ?_⟩
  have := signs_iff.1 (h3 _ (hr r h))
  exact this.2.2 _ (getS_mem (by omega))
theorem ShIn.to {races : List NS} {seen : List Sp} (h : ShIn races seen) : sharesOk races seen = true := by
  have h1 := h.r1
  have h3 := h.r3
  unfold sharesOk
  rw [wi_iff.2 (show (1 : Int) ≤ races.length ∧ (races.length : Int) ≤ 3 by omega)]
  have hs : signsOk seen seen.length = true := signs_iff.2 ⟨⟨h.s1, h.s6⟩, rfl, fun s hs => by
    obtain ⟨k, hk, rfl⟩ := List.mem_iff_getElem.1 hs
    have := h.sn k hk
    rw [List.getD_eq_getElem?_getD, List.getElem?_eq_getElem hk] at this
    exact this⟩
  rw [hs]
  show races.all (fun x => signsOk x.l seen.length) = true
  refine List.all_eq_true.2 fun x hx => ?_
  obtain ⟨r, hr, rfl⟩ := List.mem_iff_getElem.1 hx
  have hl := h.len r hr
  have hsg := h.sign r
  rw [List.getD_eq_getElem?_getD, List.getElem?_eq_getElem hr] at hl hsg
  refine signs_iff.2 ⟨⟨h.s1, h.s6⟩, hl, fun s hs => ?_⟩
  obtain ⟨k, hk, rfl⟩ := List.mem_iff_getElem.1 hs
  have hl : (races[r]).l.length = seen.length := hl
  have := hsg k hr (by omega)
  rw [show (Option.getD (some races[r]) ⟨false, []⟩) = races[r] from rfl, List.getD_eq_getElem?_getD, List.getElem?_eq_getElem hk] at this
  exact this
end Go.AL.Q

namespace Go.AL.Q
open Go
def mixS (bits : List Int) : Nat → List Int × Int
  | 0 => ([], 100)
  | k + 1 => ((mixS bits k).1 ++ [pickF bits k % ((mixS bits k).2 + 1)], (mixS bits k).2 - pickF bits k % ((mixS bits k).2 + 1))
def mixC (bits : List Int) (n : Nat) : List Int := (mixS bits (n - 1)).1 ++ [(mixS bits (n - 1)).2]
theorem mixS_ok (bits : List Int) : ∀ k, (mixS bits k).1.length = k ∧ (0 ≤ (mixS bits k).2 ∧ (mixS bits k).2 ≤ 100) ∧ (mixS bits k).1.sum + (mixS bits k).2 = 100 ∧ ∀ x ∈ (mixS bits k).1, 0 ≤ x
  | 0 => by simp [mixS]
  | k + 1 => by
    obtain ⟨h1, h2, h3, h4⟩ := mixS_ok bits k
    have e1 := Int.emod_nonneg (pickF bits k) (show (mixS bits k).2 + 1 ≠ 0 by omega)
    have e2 := Int.emod_lt_of_pos (pickF bits k) (show 0 < (mixS bits k).2 + 1 by omega)
    rw [mixS]
    simp only [List.length_append, List.length_cons, List.length_nil, List.sum_append, List.sum_cons, List.sum_nil]
    refine ⟨by omega, by omega, by omega, fun x hx => ?_⟩
    rcases List.mem_append.1 hx with hx | hx
    · exact h4 x hx
    · rw [List.mem_singleton.1 hx]; exact e1
theorem mixC_of {bits : List Int} {n : Nat} (hn : 1 ≤ n) : MixOf n (mixC bits n) := by
  obtain ⟨h1, h2, h3, h4⟩ := mixS_ok bits (n - 1)
  unfold mixC
  refine ⟨by simp; omega, by simp; omega, fun x hx => ?_⟩
  rcases List.mem_append.1 hx with hx | hx
  · exact h4 x hx
  · rw [List.mem_singleton.1 hx]; exact h2.1
theorem mixedL_succ (e : Sp → Int) (m : List Int) (races : List NS) (k n : Nat) : (mixedL e m races k (n + 1)).sum = (mixedL e m races k n).sum + m.getD n 0 * e ((races.getD n ⟨false, []⟩).l.getD k sp0) := by
  unfold mixedL
  rw [List.range_succ, List.map_append, List.sum_append]
  simp only [List.map_cons, List.map_nil, List.sum_cons, List.sum_nil, Int.add_zero]
  rfl
theorem told_in {races : List NS} {seen : List Sp} (h : 1 ≤ races.length) {m : List Int} (hm : MixOf races.length m) (ha : agreeF races seen m = true) : shareF races seen ≠ [] ∧ (shareF races seen).length = races.length ∧ ∀ i, i < races.length →
    ((shareF races seen).getD i sp0).lo ≤ m.getD i 0 ∧ m.getD i 0 ≤ ((shareF races seen).getD i sp0).hi ∧ 0 ≤ ((shareF races seen).getD i sp0).lo ∧ ((shareF races seen).getD i sp0).hi ≤ 100 := by
  have t := share_told races seen h
  generalize shareF races seen = out at *
  rcases t with t | ⟨t1, t2, t3⟩
  · exact absurd ⟨hm, ha⟩ (t.2 _)
  refine ⟨fun e => by rw [e] at t1; simp at t1; omega, t1, fun i hi => ?_⟩
  have g := t2 _ ⟨hm, ha⟩ i hi
  obtain ⟨⟨a, pa, ea⟩, b, pb, eb⟩ := t3 i hi
  have ga := pa.1.get i
  have gb := pb.1.get i
  omega
end Go.AL.Q

namespace Go.AL.Q
open Go
theorem getSp_set {l : List Sp} {i j : Nat} {v : Sp} (hi : i < l.length) : (l.set i v).getD j sp0 = if i = j then v else l.getD j sp0 := by
  simp only [List.getD_eq_getElem?_getD, List.getElem?_set]
  split
  · rename_i e; subst e; simp [hi]
  · rfl
def widerS (s : Sp) (more : Int) : Sp := ⟨max 0 (s.lo - more), min 100 (s.hi + more)⟩
theorem wider_in {races : List NS} {seen : List Sp} (h : ShIn races seen) {k : Nat} (hk : k < seen.length) {more : Int} (hm : 0 ≤ more) : ShIn races (seen.set k (widerS (seen.getD k sp0) more)) := by
  refine ⟨h.r1, h.r3, by simpa using h.s1, by simpa using h.s6, fun j hj => ?_, fun r hr => by simpa using h.len r hr, fun r j hr hj => h.sign r j hr (by simpa using hj)⟩
  rw [getSp_set hk]
  split
  · have := h.sn k hk
    unfold widerS
    simp only; omega
  · exact h.sn j (by simpa using hj)
theorem signIn_iff {races : List NS} {seen : List Sp} {m : List Int} {k : Nat} : signIn races seen m k = true ↔ mixedF Sp.lo m races k ≤ 100 * (seen.getD k sp0).hi ∧ 100 * (seen.getD k sp0).lo ≤ mixedF Sp.hi m races k := by
  unfold signIn
  simp only [Bool.and_eq_true, Bool.not_eq_true', decide_eq_false_iff_not]
  have e : seen.getD k ⟨0, 0⟩ = seen.getD k sp0 := rfl
  rw [e]; omega
theorem wider_agree {races : List NS} {seen : List Sp} (h : ShIn races seen) {k : Nat} (hk : k < seen.length) {more : Int} (hm : 0 ≤ more) {m : List Int} (ha : agreeF races seen m = true) : agreeF races (seen.set k (widerS (seen.getD k sp0) more)) m = true := by
  unfold agreeF at ha ⊢
  rw [List.all_eq_true] at ha ⊢
  intro j hj
  rw [List.length_set] at hj
  have h1 := signIn_iff.1 (ha j hj)
  rw [signIn_iff, getSp_set hk]
  split
  · rename_i e
    subst e
    have := h.sn k hk
    unfold widerS
    simp only; omega
  · exact h1
theorem spread {races : List NS} {seen seen2 : List Sp} (h : 1 ≤ races.length) (ha : ∀ m, agreeF races seen m = true → agreeF races seen2 m = true) (hne : shareF races seen ≠ []) : shareF races seen2 ≠ [] ∧ (shareF races seen2).length = races.length ∧ ∀ i, i < races.length →
    ((shareF races seen2).getD i sp0).lo ≤ ((shareF races seen).getD i sp0).lo ∧ ((shareF races seen).getD i sp0).hi ≤ ((shareF races seen2).getD i sp0).hi := by
  have t1 := share_told races seen h
  have t2 := share_told races seen2 h
  generalize shareF races seen = out at *
  generalize shareF races seen2 = out2 at *
  rcases t1 with t1 | ⟨a1, a2, a3⟩
  · exact absurd t1.1 hne
  obtain ⟨⟨m0, p0, _⟩, _⟩ := a3 0 (by omega)
  rcases t2 with t2 | ⟨b1, b2, b3⟩
  · exact absurd ⟨p0.1, ha _ p0.2⟩ (t2.2 _)
  refine ⟨fun e => by rw [e] at b1; simp at b1; omega, b1, fun i hi => ?_⟩
  obtain ⟨⟨x, px, ex⟩, y, py, ey⟩ := a3 i hi
  have g1 := b2 x ⟨px.1, ha _ px.2⟩ i hi
  have g2 := b2 y ⟨py.1, ha _ py.2⟩ i hi
  omega
theorem share_none {races : List NS} {seen : List Sp} (h : 1 ≤ races.length) (he : shareF races seen = []) {m : List Int} (hm : MixOf races.length m) : agreeF races seen m = false := by
  have t := share_told races seen h
  rw [he] at t
  rcases t with t | ⟨t, _⟩
  · cases e : agreeF races seen m with
    | false => rfl
    | true => exact absurd ⟨hm, e⟩ (t.2 m)
  · simp at t; omega
def agreeN (races : List NS) (seen : List Sp) (m : List Int) (k : Nat) : Bool := (List.range k).all (signIn races seen m)
theorem agreeN_succ (races : List NS) (seen : List Sp) (m : List Int) (k : Nat) : agreeN races seen m (k + 1) = (agreeN races seen m k && signIn races seen m k) := by
  unfold agreeN
  rw [List.range_succ, List.all_append]; simp
theorem sign_cond {races : List NS} {seen : List Sp} {m : List Int} {k : Nat} (ag : Bool) : cond (cond ag (decide (mixedF Sp.lo m races k ≤ 100 * (seen.getD k sp0).hi)) false) (decide (mixedF Sp.hi m races k ≥ 100 * (seen.getD k sp0).lo)) false = (ag && signIn races seen m k) := by
  rw [Bool.eq_iff_iff, c_and, c_and, Bool.and_eq_true, Bool.and_eq_true, Bool.and_eq_true, signIn_iff, decide_eq_true_eq, decide_eq_true_eq, and_assoc]
theorem mixedL_full {e : Sp → Int} {m : List Int} {races : List NS} {k : Nat} (hm : m.length = races.length) : (mixedL e m races k races.length).sum = mixedF e m races k := by unfold mixedF; rw [hm]
theorem mixedL_bd {races : List NS} {seen : List Sp} (h : ShIn races seen) {m : List Int} (hm : MixOf races.length m) {k : Nat} (hk : k < seen.length) : ∀ n, n ≤ races.length → 0 ≤ (mixedL Sp.lo m races k n).sum ∧ (mixedL Sp.lo m races k n).sum ≤ (mixedL Sp.hi m races k n).sum ∧ (mixedL Sp.hi m races k n).sum ≤ 10000 * n
  | 0, _ => by simp [mixedL]
  | n + 1, hn => by
    obtain ⟨i1, i2, i3⟩ := mixedL_bd h hm hk n (by omega)
    have hg := hm.get n
    have hs := h.sign n k (by omega) hk
    rw [mixedL_succ, mixedL_succ]
    generalize (races.getD n ⟨false, []⟩).l.getD k sp0 = s at *
    generalize m.getD n 0 = x at *
    have a1 : 0 ≤ x * s.lo := Int.mul_nonneg hg.1 hs.1
    have a2 : x * s.lo ≤ x * s.hi := Int.mul_le_mul_of_nonneg_left hs.2.1 hg.1
    have a3 : x * s.hi ≤ 100 * 100 := Int.mul_le_mul hg.2 hs.2.2 (by omega) (by decide)
    refine ⟨by omega, by omega, by push_cast; omega⟩
end Go.AL.Q

namespace Go.AL.Q
open Go
theorem bef_irr : ∀ a : List Int, befF a a = false
  | [] => rfl
  | x :: a => by rw [befF, if_pos rfl]; exact bef_irr a
theorem bef_trans : ∀ a b c : List Int, befF a b = true → befF b c = true → befF a c = true
  | [], b, [], h, k => by cases b <;> simp [befF] at h k
  | [], _, _ :: _, _, _ => rfl
  | x :: a, [], c, h, _ => by simp [befF] at h
  | x :: a, y :: b, [], _, k => by simp [befF] at k
  | x :: a, y :: b, z :: c, h, k => by
    rw [befF] at h k ⊢
    by_cases h1 : x = y
    · subst h1
      rw [if_pos rfl] at h
      by_cases h2 : x = z
      · rw [if_pos h2] at k ⊢; exact bef_trans a b c h k
      · rw [if_neg h2] at k ⊢; exact k
    · rw [if_neg h1] at h
      have h := of_decide_eq_true h
      by_cases h2 : y = z
      · subst h2
        rw [if_neg h1]; exact decide_eq_true h
      · rw [if_neg h2] at k
        have k := of_decide_eq_true k
        rw [if_neg (by omega)]; exact decide_eq_true (by omega)
def Ahead (a b : List Int) : Prop := a.length < b.length ∨ (a.length = b.length ∧ befF a b = true)
theorem Ahead.irr {a : List Int} : ¬ Ahead a a := fun h => by
  rcases h with h | h
  · omega
  · rw [bef_irr] at h; cases h.2
theorem Ahead.trans {a b c : List Int} (h : Ahead a b) (k : Ahead b c) : Ahead a c := by
  rcases h with h | h <;> rcases k with k | k
  · exact .inl (by omega)
  · exact .inl (by omega)
  · exact .inl (by omega)
  · exact .inr ⟨by omega, bef_trans _ _ _ h.2 k.2⟩
def Win (v : List Int → Cel) (a b : List Int) : Prop := (v a).sp > (v b).sp ∨ ((v a).sp = (v b).sp ∧ ((v a).la < (v b).la ∨ ((v a).la = (v b).la ∧ Ahead a b)))
theorem Win.irr {v : List Int → Cel} {a : List Int} : ¬ Win v a a := fun h => by
  rcases h with h | ⟨_, h | ⟨_, h⟩⟩
  · omega
  · omega
  · exact h.irr
theorem Win.trans {v : List Int → Cel} {a b c : List Int} (h : Win v a b) (k : Win v b c) : Win v a c := by
  rcases h with h | ⟨h1, h | ⟨h2, h⟩⟩ <;> rcases k with k | ⟨k1, k | ⟨k2, k⟩⟩
  · exact .inl (by omega)
  · exact .inl (by omega)
  · exact .inl (by omega)
  · exact .inl (by omega)
  · exact .inr ⟨by omega, .inl (by omega)⟩
  · exact .inr ⟨by omega, .inl (by omega)⟩
  · exact .inl (by omega)
  · exact .inr ⟨by omega, .inl (by omega)⟩
  · exact .inr ⟨by omega, .inr ⟨by omega, h.trans k⟩⟩
structure Top (v : List Int → Cel) (C : List Int → Prop) (s : BSt) : Prop where
  mem : C s.chosen
  sp : s.sp = (v s.chosen).sp
  la : s.la = (v s.chosen).la
  top : ∀ c, C c → ¬ Win v c s.chosen
theorem Top.step {v : List Int → Cel} {C D : List Int → Prop} {s : BSt} {c : List Int} {b : Bool} (h : Top v C s) (hb : b = true ↔ Win v c s.chosen) (hD : ∀ d, D d ↔ C d ∨ d = c) : Top v D (if b then ⟨c, (v c).sp, (v c).la⟩ else s) := by
  cases b with
  | true =>
    have w := hb.1 rfl
    refine ⟨(hD _).2 (.inr rfl), rfl, rfl, fun d hd wd => ?_⟩
    rcases (hD d).1 hd with hd | rfl
    · exact h.top d hd (Win.trans wd w)
    · exact Win.irr wd
  | false =>
    refine ⟨(hD _).2 (.inl h.mem), h.sp, h.la, fun d hd wd => ?_⟩
    rcases (hD d).1 hd with hd | rfl
    · exact h.top d hd wd
    · have := hb.2 wd; cases this
def pStep (v : List Int → Cel) (s : BSt) (c : List Int) : BSt := if better (v c) s then ⟨c, (v c).sp, (v c).la⟩ else s
theorem Top.fold {v : List Int → Cel} : ∀ (L : List (List Int)) {C : List Int → Prop} {s : BSt}, Top v C s → L.Pairwise Ahead → (∀ d, C d → ∀ c ∈ L, Ahead d c) → Top v (fun d => C d ∨ d ∈ L) (L.foldl (pStep v) s)
  | [], C, s, h, _, _ => by
    have e : (fun d => C d ∨ d ∈ ([] : List (List Int))) = C := funext fun d => by simp
    rw [e]; exact h
  | c :: L, C, s, h, hp, ha => by
    obtain ⟨p1, p2⟩ := List.pairwise_cons.1 hp
    have h1 : Top v (fun d => C d ∨ d = c) (pStep v s c) := h.step (by
      have hah : Ahead s.chosen c := ha _ h.mem c (List.mem_cons_self ..)
      unfold better Win
      rw [h.sp, h.la]
      simp only [Bool.or_eq_true, Bool.and_eq_true, decide_eq_true_eq]
      constructor
      · rintro (h | ⟨h1, h2⟩)
        · exact .inl h
        · exact .inr ⟨h1, .inl h2⟩
      · rintro (h | ⟨h1, h2 | ⟨_, h3⟩⟩)
        · exact .inl h
        · exact .inr ⟨h1, h2⟩
        · exact absurd (hah.trans h3) Ahead.irr) fun d => Iff.rfl
    have h2 := Top.fold L h1 p2 fun d hd e he => by
      rcases hd with hd | rfl
      · exact ha d hd e (List.mem_cons_of_mem _ he)
      · exact p1 e he
    rw [List.foldl_cons]
    have e : (fun d => C d ∨ d ∈ c :: L) = fun d => (C d ∨ d = c) ∨ d ∈ L := funext fun d => by simp [or_assoc]
    rw [e]; exact h2
end Go.AL.Q

set_option maxRecDepth 100000
namespace Go.Proofs.Ytdiclbgklegelaa
open Go Go.AL Go.AL.Q Go.ChangeShapes Go.WideShapes Go.ChangeAt Go.RowKit
section
variable {H : Type} {enc : TypeId × Value → H} {w : World} {base : Nat} {spare : Nat → Bool} {held : Bool} {φ : Names}
end
end Go.Proofs.Ytdiclbgklegelaa

set_option maxRecDepth 100000
namespace Go.Proofs.Ytdiclbgklegelaa
open Go Go.AL Go.AL.Q Go.ChangeShapes Go.WideShapes Go.ChangeAt Go.RowKit
theorem t31 : Try.prog.readableRec 31 = true ∧ 31 < Try.prog.types.size := ty_ok (by kernel_rfl) (by kernel_rfl)
theorem t32 : Try.prog.readableRec 32 = true ∧ 32 < Try.prog.types.size := ty_ok (by kernel_rfl) (by kernel_rfl)
theorem u31 : Try.prog.underlying 31 = some (.slice 32) := by kernel_rfl
theorem u32 : Try.prog.underlying 32 = some (.slice 25) := by kernel_rfl
theorem c32 : Try.prog.cellsOf 32 = 1 := by kernel_rfl
theorem by25 : Try.prog.bytesOf 25 = 16 := by kernel_rfl
theorem by32 : Try.prog.bytesOf 32 = 24 := by kernel_rfl
theorem fit_len {n k : Nat} (h : n * k ≤ reachBytes) (hk : 1 ≤ k) : (n : Int) ≤ 9223372036854775806 := by
  have h3 : n ≤ n * k := Nat.le_mul_of_pos_right _ hk
  have h5 : reachBytes = 140737488351232 := by decide
  omega
section
variable {H : Type} {enc : TypeId × Value → H} {w : World} {base : Nat} {held : Bool} {φ : Names}
theorem r3 : Reads enc Try.prog w base held φ 3 1 (fun n : Int => [A.int n]) fun _ => True := .int u3
theorem rdSp : Reads enc Try.prog w base held φ 25 2 Sp.c (fun _ => True) := by
  have key := Reads.struct (enc := enc) (w := w) (base := base) (held := held) (φ := φ) u25 c25 (Flds.cons (f := fld "Low" 3 0 0) rfl c3 r3 (Flds.cons (f := fld "High" 3 1 8) rfl c3 r3 (Flds.nil _))) rfl rfl
  exact key.imp fun x _ => ⟨⟨x.1, x.2.1⟩, trivial, rfl⟩
theorem rdSps2 : Reads enc Try.prog w base held φ 32 1 NS.c (fun x => (x.l.length : Int) * 16 ≤ 140737488351232) := by
  have key := Reads.slice (enc := enc) (w := w) (base := base) (held := held) (φ := φ) u32 c25 (by decide) rdSp
  exact key.imp fun x h => ⟨⟨x.1, x.2⟩, by
    have h2 := h.2
    rw [by25] at h2
    have h5 : reachBytes = 140737488351232 := by decide
    show (x.2.length : Int) * 16 ≤ _
    omega, rfl⟩
theorem rdSps : Reads enc Try.prog w base held φ 32 1 NS.c NS.Fit := by
  have key := Reads.slice (enc := enc) (w := w) (base := base) (held := held) (φ := φ) u32 c25 (by decide) rdSp
  exact key.imp fun x h => ⟨⟨x.1, x.2⟩, fit_len h.2 (by rw [by25]; decide), rfl⟩
variable {v : Value} {d : DataW H} {p : List MemPlace} {r : Reach} {b0 : Nat}
theorem arg_signs (hok : Value.okWide Try.prog w r b0 31 v) (h : DataW.Trod enc Try.prog w base (fun _ => true) held 31 v d p) (hw : ∀ k ∈ d.weights Try.prog 31, k ≤ reachBytes) :
    ∃ (b : Bool) (l : List NS), VR φ (allZ w) w (.sl b .any (l.map NS.c)) v ∧ (l.length : Int) ≤ 9223372036854775806 ∧ ∀ x ∈ l, (x.l.length : Int) * 16 ≤ 140737488351232 := by
  obtain ⟨x, q, e⟩ := (Reads.slice (φ := φ) u31 c32 (by decide) rdSps2).arg_slice u31 hok h hw
  exact ⟨x.1, x.2, e, fit_len q.2 (by rw [by32]; decide), q.1⟩
theorem arg_spans (hok : Value.okWide Try.prog w r b0 32 v) (h : DataW.Trod enc Try.prog w base (fun _ => true) held 32 v d p) (hw : ∀ k ∈ d.weights Try.prog 32, k ≤ reachBytes) :
    ∃ (b : Bool) (l : List Sp), VR φ (allZ w) w (.sl b .any (l.map Sp.c)) v ∧ (l.length : Int) ≤ 9223372036854775806 := by
  obtain ⟨x, q, e⟩ := (rdSps (φ := φ)).arg_slice u32 hok h hw
  exact ⟨x.n, x.l, e, q⟩
end
end Go.Proofs.Ytdiclbgklegelaa

namespace Go.Proofs.Ytdiclbgklegelaa
open Go Go.AL Go.AL.Q
end Go.Proofs.Ytdiclbgklegelaa

namespace Go.Proofs.Ytdiclbgklegelaa
open Go Go.AL Go.AL.Q
end Go.Proofs.Ytdiclbgklegelaa

namespace Go.Proofs.Ytdiclbgklegelaa
open Go Go.AL Go.AL.Q
end Go.Proofs.Ytdiclbgklegelaa

namespace Go.Proofs.Ytdiclbgklegelaa
open Go Go.AL Go.AL.Q
end Go.Proofs.Ytdiclbgklegelaa

namespace Go.Proofs.Ytdiclbgklegelaa
open Go Go.AL Go.AL.Q
end Go.Proofs.Ytdiclbgklegelaa

namespace Go.Proofs.Ytdiclbgklegelaa
open Go Go.AL Go.AL.Q
end Go.Proofs.Ytdiclbgklegelaa

namespace Go.Proofs.Ytdiclbgklegelaa
open Go Go.AL Go.AL.Q
theorem grL_cons {l : List Int} (h : l ≠ []) : grL 3 l = .sl false (.own 3) (ints l) := by
  cases l with
  | nil => exact absurd rfl h
  | cons x l => rfl
end Go.Proofs.Ytdiclbgklegelaa

namespace Go.Proofs.Ytdiclbgklegelaa
open Go Go.AL Go.AL.Q
end Go.Proofs.Ytdiclbgklegelaa

namespace Go.Proofs.Ytdiclbgklegelaa
open Go Go.AL Go.AL.Q
end Go.Proofs.Ytdiclbgklegelaa

namespace Go.Proofs.Ytdiclbgklegelaa
open Go Go.AL Go.AL.Q
theorem in_is {n a b : Int} (h : a ≤ n ∧ n ≤ b) : Ans Try.prog 38 [.int n, .int a, .int b] (.bool true) := (wi_iff.2 h) ▸ in_t n a b
end Go.Proofs.Ytdiclbgklegelaa

namespace Go.Proofs.Ytdiclbgklegelaa
open Go Go.AL Go.AL.Q
theorem ns_at (l : List NS) {r : Nat} (h : r < l.length) : (l.map NS.c)[r]? = some (l.getD r ⟨false, []⟩).c := by
  rw [get_map h, List.getD_eq_getElem?_getD, List.getElem?_eq_getElem h]; rfl
theorem sp_at (l : List Sp) {r : Nat} (h : r < l.length) : (l.map Sp.c)[r]? = some (l.getD r sp0).c := by
  rw [get_map h, List.getD_eq_getElem?_getD, List.getElem?_eq_getElem h]; rfl
theorem signedL_t (p q : Bool) (races : List NS) (seen : List Sp) (h : ShIn races seen) : Ans Try.prog 41 [.sl p .any (races.map NS.c), .sl q .any (seen.map Sp.c)] (.bool true) := by
  have r1 := h.r1
  have r3 := h.r3
  have s1 := h.s1
  have s6 := h.s6
  have fr : Free (.sl p .any (races.map NS.c)) := free_map NS.free _ _ _
  have fs : Free (.sl q .any (seen.map Sp.c)) := free_map Sp.free _ _ _
  have zr : ((races.map NS.c).length : Int) = races.length := by simp
  have zs : ((seen.map Sp.c).length : Int) = seen.length := by simp
  have i1 : Ans Try.prog 38 [.int ((races.map NS.c).length : Int), .int 1, .int 3] (.bool true) := in_is (by omega)
  have i2 : Ans Try.prog 38 [.int ((seen.map Sp.c).length : Int), .int 1, .int 6] (.bool true) := in_is (by omega)
  refine told Try.func41 rfl rfl (Pure.of tab_ok Try.func41 rfl Try.ntmps41 rfl (allC (fr) (all1 (fs))) (allC (fun _ => rfl) (all1 (fun _ => rfl))) (by first | exact .s _ | assumption | exact .tup _ (by intro x hx; simp only [List.mem_cons, List.not_mem_nil, or_false] at hx; rcases hx with rfl | rfl | rfl | rfl <;> first | exact .s _ | (simp_all; done))) fun E hE => ?_)
  refine Aw.sm tab_ok mb0 [] rfl rfl ?zo ?zk
  case zo =>
    repeat' apply AllP.cons
    all_goals first | exact trivial | exact id | exact rfl | exact fun _ => rfl | exact Nat.le_of_ble_eq_true rfl | exact fun _ => Nat.le_of_ble_eq_true rfl | exact Int.natCast_nonneg _ | exact fun _ => Int.natCast_nonneg _ | exact in_t _ _ _ | exact (in_t _ _ _).un | exact gq_f
  case zk =>
  refine Aw.sm tab_ok mb0 [(2, [.bool true]), (6, [.bool true])] rfl rfl ?zo ?zk
  case zo =>
    repeat' apply AllP.cons
    all_goals first | exact trivial | exact id | exact rfl | exact fun _ => rfl | exact Nat.le_of_ble_eq_true rfl | exact fun _ => Nat.le_of_ble_eq_true rfl | exact Int.natCast_nonneg _ | exact fun _ => Int.natCast_nonneg _ | exact in_t _ _ _ | exact (in_t _ _ _).un | exact gq_f | exact i1 | exact fun _ => i2
  case zk =>
  refine Aw.seq ?_
  refine Aw.sm tab_ok mb0 [] rfl rfl ?zo ?zk
  case zo =>
    repeat' apply AllP.cons
    all_goals first | exact trivial | exact id | exact rfl | exact fun _ => rfl | exact Nat.le_of_ble_eq_true rfl | exact fun _ => Nat.le_of_ble_eq_true rfl | exact Int.natCast_nonneg _ | exact fun _ => Int.natCast_nonneg _ | exact in_t _ _ _ | exact (in_t _ _ _).un | exact gq_f
  case zk =>
  refine Aw.block (Aw.rounds 0 hE [(0, .sl p .any (races.map NS.c)), (1, .sl q .any (seen.map Sp.c))] (fun k : Nat => [(5, .bool true), (6, .int k)]) (fun _ => []) (fun k => k ≤ races.length) (fun k => races.length - k) 0
    (Nat.zero_le _) ⟨⟨.refl _, .refl _, trivial⟩, ⟨.refl _, .refl _, trivial⟩, trivial, Nat.zero_le _⟩ ⟨fr.under, fs.under, trivial⟩ (fun _ _ => ⟨.s _, .s _, trivial⟩) (fun _ _ => trivial) fun k hk => ?_)
  refine Aw.seq ?_
  refine Aw.sm tab_ok mb0 [] rfl rfl ?zo ?zk
  case zo =>
    repeat' apply AllP.cons
    all_goals first | exact trivial | exact id | exact rfl | exact fun _ => rfl | exact Nat.le_of_ble_eq_true rfl | exact fun _ => Nat.le_of_ble_eq_true rfl | exact Int.natCast_nonneg _ | exact fun _ => Int.natCast_nonneg _ | exact in_t _ _ _ | exact (in_t _ _ _).un | exact gq_f
  case zk =>
  refine Aw.cond rfl (fun h1 => Aw.skip ?_) (fun h1 => ?_)
  · have hlt : k < races.length := by
      have := of_decide_eq_true (show decide ((k : Int) < ((races.map NS.c).length : Int)) = true from h1); omega
    have gk := ns_at races hlt
    have hl := h.len k hlt
    have hsg := fun j hj => h.sign k j hlt hj
    generalize races.getD k ⟨false, []⟩ = R at *
    have zR : ((R.l.map Sp.c).length : Int) = R.l.length := by simp
    refine Aw.seq (Aw.block ?_)
    refine Aw.sm tab_ok mb0 [(2, R.c)] rfl rfl ?zo ?zk
    case zo =>
      repeat' apply AllP.cons
      all_goals first | exact trivial | exact id | exact rfl | exact fun _ => rfl | exact Nat.le_of_ble_eq_true rfl | exact fun _ => Nat.le_of_ble_eq_true rfl | exact Int.natCast_nonneg _ | exact fun _ => Int.natCast_nonneg _ | exact in_t _ _ _ | exact (in_t _ _ _).un | exact gq_f | exact gk
    case zk =>
    refine Aw.sm tab_ok mb0 [] rfl rfl ?zo ?zk
    case zo =>
      repeat' apply AllP.cons
      all_goals first | exact trivial | exact id | exact rfl | exact fun _ => rfl | exact Nat.le_of_ble_eq_true rfl | exact fun _ => Nat.le_of_ble_eq_true rfl | exact Int.natCast_nonneg _ | exact fun _ => Int.natCast_nonneg _ | exact in_t _ _ _ | exact (in_t _ _ _).un | exact gq_f
    case zk =>
    have hd : A.bool true = A.bool (((R.l.map Sp.c).length : Int) == ((seen.map Sp.c).length : Int)) := by rw [zR, zs, hl]; simp
    refine Aw.block (Aw.rounds 0 hE [(0, .sl p .any (races.map NS.c)), (1, .sl q .any (seen.map Sp.c)), (6, .int k)] (fun j : Nat => [(5, .bool true), (7, .int j)]) (fun _ => []) (fun j => j ≤ seen.length) (fun j => seen.length - j) 0
      (Nat.zero_le _) ⟨⟨.refl _, .refl _, .refl _, trivial⟩, ⟨.of_eq hd, .refl _, trivial⟩, trivial, Nat.zero_le _⟩ ⟨fr.under, fs.under, .s _, trivial⟩ (fun _ _ => ⟨.s _, .s _, trivial⟩) (fun _ _ => trivial) fun j hj => ?_)
    refine Aw.seq ?_
    refine Aw.sm tab_ok mb0 [] rfl rfl ?zo ?zk
    case zo =>
      repeat' apply AllP.cons
      all_goals first | exact trivial | exact id | exact rfl | exact fun _ => rfl | exact Nat.le_of_ble_eq_true rfl | exact fun _ => Nat.le_of_ble_eq_true rfl | exact Int.natCast_nonneg _ | exact fun _ => Int.natCast_nonneg _ | exact in_t _ _ _ | exact (in_t _ _ _).un | exact gq_f
    case zk =>
    refine Aw.cond rfl (fun h2 => Aw.skip ?_) (fun h2 => ?_)
    · have hjl : j < seen.length := by
        have := of_decide_eq_true (show decide ((j : Int) < ((seen.map Sp.c).length : Int)) = true from h2); omega
      have gj := sp_at R.l (r := j) (by omega)
      have hs := hsg j hjl
      generalize R.l.getD j sp0 = s at *
      have cs : Ans Try.prog 45 [.agg s.c, .int 0, .int 100] (.bool true) := (pct_iff.2 hs : spannedF s.lo s.hi 0 100 = true) ▸ rspanned_t s 0 100
      refine Aw.seq (Aw.block ?_)
      refine Aw.em tab_ok mb0 [(2, R.c), (5, s.c), (7, [.bool true])] rfl rfl ?zo ?zk
      case zo =>
        repeat' apply AllP.cons
        all_goals first | exact trivial | exact id | exact rfl | exact fun _ => rfl | exact Nat.le_of_ble_eq_true rfl | exact fun _ => Nat.le_of_ble_eq_true rfl | exact Int.natCast_nonneg _ | exact fun _ => Int.natCast_nonneg _ | exact in_t _ _ _ | exact (in_t _ _ _).un | exact gq_f | exact gk | exact gj | exact cs
      case zk =>
      refine Aw.em tab_ok mb0 [] rfl rfl ?zo ?zk
      case zo =>
        repeat' apply AllP.cons
        all_goals first | exact trivial | exact id | exact rfl | exact fun _ => rfl | exact Nat.le_of_ble_eq_true rfl | exact fun _ => Nat.le_of_ble_eq_true rfl | exact Int.natCast_nonneg _ | exact fun _ => Int.natCast_nonneg _ | exact in_t _ _ _ | exact (in_t _ _ _).un | exact gq_f | exact inrk j (by omega)
      case zk =>
      exact ⟨j + 1, hjl, by omega, ⟨.refl _, .refl _, .refl _, trivial⟩, ⟨.refl _, .refl _, trivial⟩, trivial, Nat.zero_le _⟩
    refine Aw.exit2 ?_
    refine Aw.em tab_ok mb0 [] rfl rfl ?zo ?zk
    case zo =>
      repeat' apply AllP.cons
      all_goals first | exact trivial | exact id | exact rfl | exact fun _ => rfl | exact Nat.le_of_ble_eq_true rfl | exact fun _ => Nat.le_of_ble_eq_true rfl | exact Int.natCast_nonneg _ | exact fun _ => Int.natCast_nonneg _ | exact in_t _ _ _ | exact (in_t _ _ _).un | exact gq_f | exact inrk k (by omega)
    case zk =>
    exact ⟨k + 1, hlt, by omega, ⟨.refl _, .refl _, trivial⟩, ⟨.refl _, .refl _, trivial⟩, trivial, Nat.zero_le _⟩
  refine Aw.exit2 ?_
  refine Aw.sm tab_ok mb0 [] rfl rfl ?zo ?zk
  case zo =>
    repeat' apply AllP.cons
    all_goals first | exact trivial | exact id | exact rfl | exact fun _ => rfl | exact Nat.le_of_ble_eq_true rfl | exact fun _ => Nat.le_of_ble_eq_true rfl | exact Int.natCast_nonneg _ | exact fun _ => Int.natCast_nonneg _ | exact in_t _ _ _ | exact (in_t _ _ _).un | exact gq_f
  case zk =>
  exact Aw.ret ⟨_, .cons (.tmp _) .nil, rfl⟩
theorem mixedL_t (n : Nat) (h1 : 1 ≤ n) (h3 : n ≤ 3) (b : Bool) (bits : List Int) (hl : (bits.length : Int) ≤ 9223372036854775806) : Ans Try.prog 42 [.int n, .sl b .any (ints bits)] (.sl false .any (ints (mixC bits n))) := by
  have hfr : Free (.sl false .any (ints (mixC bits n))) := free_ints _ _ _
  refine told Try.func42 rfl rfl (Pure.of tab_ok Try.func42 rfl Try.ntmps42 rfl (allC (.s _) (all1 (free_ints _ _ _))) (allC (fun _ => rfl) (all1 (fun _ => rfl))) (by first | exact .s _ | assumption | exact .tup _ (by intro x hx; simp only [List.mem_cons, List.not_mem_nil, or_false] at hx; rcases hx with rfl | rfl | rfl | rfl <;> first | exact .s _ | (simp_all; done))) fun E hE => ?_)
  refine Aw.sm tab_ok mb0 [] rfl rfl ?zo ?zk
  case zo =>
    repeat' apply AllP.cons
    all_goals first | exact trivial | exact id | exact rfl | exact fun _ => rfl | exact Nat.le_of_ble_eq_true rfl | exact fun _ => Nat.le_of_ble_eq_true rfl | exact Int.natCast_nonneg _ | exact fun _ => Int.natCast_nonneg _ | exact in_t _ _ _ | exact (in_t _ _ _).un | exact gq_f
  case zk =>
  refine Aw.sm tab_ok mb0 [] rfl rfl ?zo ?zk
  case zo =>
    repeat' apply AllP.cons
    all_goals first | exact trivial | exact id | exact rfl | exact fun _ => rfl | exact Nat.le_of_ble_eq_true rfl | exact fun _ => Nat.le_of_ble_eq_true rfl | exact Int.natCast_nonneg _ | exact fun _ => Int.natCast_nonneg _ | exact in_t _ _ _ | exact (in_t _ _ _).un | exact gq_f
  case zk =>
  refine Aw.sm tab_ok mb0 [] rfl rfl ?zo ?zk
  case zo =>
    repeat' apply AllP.cons
    all_goals first | exact trivial | exact id | exact rfl | exact fun _ => rfl | exact Nat.le_of_ble_eq_true rfl | exact fun _ => Nat.le_of_ble_eq_true rfl | exact Int.natCast_nonneg _ | exact fun _ => Int.natCast_nonneg _ | exact in_t _ _ _ | exact (in_t _ _ _).un | exact gq_f
  case zk =>
  refine Aw.seq ?_
  refine Aw.sm tab_ok mb0 [] rfl rfl ?zo ?zk
  case zo =>
    repeat' apply AllP.cons
    all_goals first | exact trivial | exact id | exact rfl | exact fun _ => rfl | exact Nat.le_of_ble_eq_true rfl | exact fun _ => Nat.le_of_ble_eq_true rfl | exact Int.natCast_nonneg _ | exact fun _ => Int.natCast_nonneg _ | exact in_t _ _ _ | exact (in_t _ _ _).un | exact gq_f
  case zk =>
  refine Aw.block (Aw.rounds 0 hE [(0, .int n), (1, .sl b .any (ints bits))] (fun k : Nat => [(5, grL 3 (mixS bits k).1), (6, .int (mixS bits k).2), (7, .int k)]) (fun _ => []) (fun k => k ≤ n - 1) (fun k => n - 1 - k) 0
    (Nat.zero_le _) ⟨⟨.refl _, .refl _, trivial⟩, ⟨.refl _, .refl _, .refl _, trivial⟩, trivial, Nat.zero_le _⟩ ⟨.s _, (free_ints _ _ _).under, trivial⟩ (fun _ _ => ⟨grL_under _, .s _, .s _, trivial⟩) (fun _ _ => trivial) fun k hk => ?_)
  obtain ⟨m1, m2, m3, m4⟩ := mixS_ok bits k
  have hmc : mixC bits n = (mixS bits (n - 1)).1 ++ [(mixS bits (n - 1)).2] := rfl
  have hsc : mixS bits (k + 1) = ((mixS bits k).1 ++ [pickF bits k % ((mixS bits k).2 + 1)], (mixS bits k).2 - pickF bits k % ((mixS bits k).2 + 1)) := rfl
  refine Aw.seq ?_
  refine Aw.sm tab_ok mb0 [] rfl rfl ?zo ?zk
  case zo =>
    repeat' apply AllP.cons
    all_goals first | exact trivial | exact id | exact rfl | exact fun _ => rfl | exact Nat.le_of_ble_eq_true rfl | exact fun _ => Nat.le_of_ble_eq_true rfl | exact Int.natCast_nonneg _ | exact fun _ => Int.natCast_nonneg _ | exact in_t _ _ _ | exact (in_t _ _ _).un | exact gq_f | exact (by simp only [Ob.of, inR]; omega)
  case zk =>
  refine Aw.cond rfl (fun h1 => Aw.skip ?_) (fun h1 => ?_)
  · have hlt : k < n - 1 := by have := of_decide_eq_true h1; omega
    have cp := pick_t b bits (k : Int) (by omega)
    generalize pickF bits k = pk at *
    generalize (mixS bits k).2 = left at *
    have cm := mod_t pk (left + 1) (by omega) (by omega)
    have e1 := Int.emod_nonneg pk (show left + 1 ≠ 0 by omega)
    have e2 := Int.emod_lt_of_pos pk (show 0 < left + 1 by omega)
    generalize pk % (left + 1) = x at *
    generalize (mixS bits k).1 = out at *
    have hzz := ints_one out
    have hlen2 := ints_len out
    refine Aw.seq (Aw.block ?_)
    refine Aw.sm tab_ok mb0 [(2, [.int pk]), (5, [.int x])] rfl rfl ?zo ?zk
    case zo =>
      repeat' apply AllP.cons
      all_goals first | exact trivial | exact id | exact rfl | exact fun _ => rfl | exact Nat.le_of_ble_eq_true rfl | exact fun _ => Nat.le_of_ble_eq_true rfl | exact Int.natCast_nonneg _ | exact fun _ => Int.natCast_nonneg _ | exact in_t _ _ _ | exact (in_t _ _ _).un | exact gq_f | exact cp | exact cm | exact (by simp only [Ob.of, inR]; omega)
    case zk =>
    by_cases ho : out = []
    · subst ho
      refine Aw.sm tab_ok mb0 [] rfl rfl ?zo ?zk
      case zo =>
        repeat' apply AllP.cons
        all_goals first | exact trivial | exact id | exact rfl | exact fun _ => rfl | exact Nat.le_of_ble_eq_true rfl | exact fun _ => Nat.le_of_ble_eq_true rfl | exact Int.natCast_nonneg _ | exact fun _ => Int.natCast_nonneg _ | exact in_t _ _ _ | exact (in_t _ _ _).un | exact gq_f | exact (show ∀ z ∈ [] ++ [[A.int _]], z.length = 1 from fun z hz => by simp at hz; subst hz; rfl) | exact (by simp only [Ob.of]; decide)
      case zk =>
      refine Aw.em tab_ok mb0 [] rfl rfl ?zo ?zk
      case zo =>
        repeat' apply AllP.cons
        all_goals first | exact trivial | exact id | exact rfl | exact fun _ => rfl | exact Nat.le_of_ble_eq_true rfl | exact fun _ => Nat.le_of_ble_eq_true rfl | exact Int.natCast_nonneg _ | exact fun _ => Int.natCast_nonneg _ | exact in_t _ _ _ | exact (in_t _ _ _).un | exact gq_f | exact (by simp only [Ob.of, inR]; omega)
      case zk =>
      refine Aw.em tab_ok mb0 [] rfl rfl ?zo ?zk
      case zo =>
        repeat' apply AllP.cons
        all_goals first | exact trivial | exact id | exact rfl | exact fun _ => rfl | exact Nat.le_of_ble_eq_true rfl | exact fun _ => Nat.le_of_ble_eq_true rfl | exact Int.natCast_nonneg _ | exact fun _ => Int.natCast_nonneg _ | exact in_t _ _ _ | exact (in_t _ _ _).un | exact gq_f | exact inrk k (by omega)
      case zk =>
      exact ⟨k + 1, by omega, by omega, ⟨.refl _, .refl _, trivial⟩, ⟨.of_eq (by rw [hsc]; rfl), .of_eq (by rw [hsc]; rfl), .refl _, trivial⟩, trivial, Nat.zero_le _⟩
    · rw [grL_cons ho]
      refine Aw.sm tab_ok mb0 [] rfl rfl ?zo ?zk
      case zo =>
        repeat' apply AllP.cons
        all_goals first | exact trivial | exact id | exact rfl | exact fun _ => rfl | exact Nat.le_of_ble_eq_true rfl | exact fun _ => Nat.le_of_ble_eq_true rfl | exact Int.natCast_nonneg _ | exact fun _ => Int.natCast_nonneg _ | exact in_t _ _ _ | exact (in_t _ _ _).un | exact gq_f | exact (show ∀ z ∈ [[A.int _]], z.length = 1 from fun z hz => by simp at hz; subst hz; rfl) | exact hzz | exact (show ((ints out).length + 1) * 8 ≤ 140737488355328 by omega) | exact (show (ints out).length + 1 ≤ maxLen by unfold maxLen; omega)
      case zk =>
      refine Aw.em tab_ok mb0 [] rfl rfl ?zo ?zk
      case zo =>
        repeat' apply AllP.cons
        all_goals first | exact trivial | exact id | exact rfl | exact fun _ => rfl | exact Nat.le_of_ble_eq_true rfl | exact fun _ => Nat.le_of_ble_eq_true rfl | exact Int.natCast_nonneg _ | exact fun _ => Int.natCast_nonneg _ | exact in_t _ _ _ | exact (in_t _ _ _).un | exact gq_f | exact (by simp only [Ob.of, inR]; omega)
      case zk =>
      refine Aw.em tab_ok mb0 [] rfl rfl ?zo ?zk
      case zo =>
        repeat' apply AllP.cons
        all_goals first | exact trivial | exact id | exact rfl | exact fun _ => rfl | exact Nat.le_of_ble_eq_true rfl | exact fun _ => Nat.le_of_ble_eq_true rfl | exact Int.natCast_nonneg _ | exact fun _ => Int.natCast_nonneg _ | exact in_t _ _ _ | exact (in_t _ _ _).un | exact gq_f | exact inrk k (by omega)
      case zk =>
      exact ⟨k + 1, by omega, by omega, ⟨.refl _, .refl _, trivial⟩, ⟨.of_eq (show grL 3 (mixS bits (k + 1)).1 = A.sl false (.own 3) (ints out ++ [[A.int x]]) by rw [hsc, grL_cons (by simp)]; simp [ints]), .of_eq (by rw [hsc]; rfl), .refl _, trivial⟩, trivial, Nat.zero_le _⟩
  have hke : k = n - 1 := by have := of_decide_eq_false h1; omega
  subst hke
  generalize (mixS bits (n - 1)).2 = left at *
  generalize (mixS bits (n - 1)).1 = out at *
  have hzz := ints_one out
  have hlen2 := ints_len out
  refine Aw.exit2 ?_
  rw [hmc]
  by_cases ho : out = []
  · subst ho
    refine Aw.sm tab_ok mb0 [] rfl rfl ?zo ?zk
    case zo =>
      repeat' apply AllP.cons
      all_goals first | exact trivial | exact id | exact rfl | exact fun _ => rfl | exact Nat.le_of_ble_eq_true rfl | exact fun _ => Nat.le_of_ble_eq_true rfl | exact Int.natCast_nonneg _ | exact fun _ => Int.natCast_nonneg _ | exact in_t _ _ _ | exact (in_t _ _ _).un | exact gq_f | exact (show ∀ z ∈ [] ++ [[A.int _]], z.length = 1 from fun z hz => by simp at hz; subst hz; rfl) | exact (by simp only [Ob.of]; decide)
    case zk =>
    exact Aw.ret ⟨_, .cons (.tmp _) .nil, rfl⟩
  · rw [grL_cons ho]
    refine Aw.sm tab_ok mb0 [] rfl rfl ?zo ?zk
    case zo =>
      repeat' apply AllP.cons
      all_goals first | exact trivial | exact id | exact rfl | exact fun _ => rfl | exact Nat.le_of_ble_eq_true rfl | exact fun _ => Nat.le_of_ble_eq_true rfl | exact Int.natCast_nonneg _ | exact fun _ => Int.natCast_nonneg _ | exact in_t _ _ _ | exact (in_t _ _ _).un | exact gq_f | exact (show ∀ z ∈ [[A.int _]], z.length = 1 from fun z hz => by simp at hz; subst hz; rfl) | exact hzz | exact (show ((ints out).length + 1) * 8 ≤ 140737488355328 by omega) | exact (show (ints out).length + 1 ≤ maxLen by unfold maxLen; omega)
    case zk =>
    exact Aw.ret ⟨_, .cons (.tmp _) .nil, by simp [ints]; rfl⟩
end Go.Proofs.Ytdiclbgklegelaa

namespace Go.Proofs.Ytdiclbgklegelaa
open Go Go.AL Go.AL.Q
theorem sps_two (l : List Sp) : ∀ z ∈ l.map Sp.c, z.length = 2 := fun z hz => by obtain ⟨s, _, rfl⟩ := List.mem_map.1 hz; rfl
end Go.Proofs.Ytdiclbgklegelaa

namespace Go.Proofs.Ytdiclbgklegelaa
open Go Go.AL Go.AL.Q
end Go.Proofs.Ytdiclbgklegelaa

namespace Go.Proofs.Ytdiclbgklegelaa
open Go Go.AL Go.AL.Q
theorem A.Le.tup {l m : List A} (h : LeL l m) : A.Le (.tup l) (.tup m) := ⟨fun φ Z w v hv => by
  obtain ⟨vs, e0, e1, e3⟩ := inv_tup hv
  subst e0
  exact .tup _ _ (by rw [e1, h.len]) fun i hi => (h.get i).vr _ _ _ _ (e3 i (by rw [← h.len]; exact hi)), fun v p e => by simp [spareOf] at e⟩
theorem Ans_out {f : FuncId} {args : List A} {v v' : A} (h : Ans Try.prog f args v) (hl : A.Le v' v) : Ans Try.prog f args v' := ⟨h.ent, fun φ Z w vs hz hvs => (h.pure φ Z w vs hz hvs).mono fun e w' ⟨u, Z', h1, h2, h3, h4⟩ =>
  ⟨u, Z', h1, h2, hl.1 _ _ _ _ h3, fun u' => by
    cases e : spareOf v' u' with
    | none => rfl
    | some p => have := hl.2 _ _ e; rw [h4] at this; cases this⟩⟩
end Go.Proofs.Ytdiclbgklegelaa

namespace Go.Proofs.Ytdiclbgklegelaa
open Go Go.AL Go.AL.Q
def outSW (l : List Sp) : A := .sl l.isEmpty .any (l.map Sp.c)
theorem outSW_le : ∀ l : List Sp, A.Le (outSW l) (outS l)
  | [] => .any _ _ _
  | _ :: _ => .any _ _ _
theorem outSW_free (l : List Sp) : Free (outSW l) := free_map Sp.free _ _ _
theorem shares_in (p q : Bool) (races : List NS) (seen : List Sp) (hr : (races.length : Int) ≤ 9223372036854775806) (hs : (seen.length : Int) ≤ 9223372036854775806) (hrs : ∀ x ∈ races, x.Fit) (h : ShIn races seen) :
    ∃ ev : Int, Ans Try.prog 21 [.sl p .any (races.map NS.c), .sl q .any (seen.map Sp.c)] (.tup [outSW (shareF races seen), .int ev]) ∧ ((shareF races seen = [] ∧ ev = 4) ∨ (shareF races seen ≠ [] ∧ ev = 0)) := by
  have c := Shares_t p q races seen hr hs hrs
  unfold shareR at c
  rw [h.to, if_pos rfl] at c
  by_cases e : shareF races seen = []
  · rw [if_pos e] at c
    exact ⟨4, by rw [e]; exact Ans_out c (A.Le.tup (.cons (.any _ _ _) (.cons (.refl _) .nil))), .inl ⟨e, rfl⟩⟩
  · rw [if_neg e] at c
    exact ⟨0, Ans_out c (A.Le.tup (.cons (outSW_le _) (.cons (.refl _) .nil))), .inr ⟨e, rfl⟩⟩
theorem cells_sp {l : List Sp} {k : Nat} (h : k < l.length) : (((l.map Sp.c).flatten).getD (0 + k * 2 + 0) .un).down = .int (l.getD k sp0).lo ∧ (((l.map Sp.c).flatten).getD (0 + k * 2 + 1) .un).down = .int (l.getD k sp0).hi := by
  have r := rows_all (c := Sp.c) (sz := 2) (fun _ => rfl) (fun _ => rfl) l
  have h1 := r.is k 0 (by simpa using h) (by decide)
  have h2 := r.is k 1 (by simpa using h) (by decide)
  have e : (l.map Sp.c).getD k [] = (l.getD k sp0).c := by simp [List.getD_eq_getElem?_getD, h]
  rw [e] at h1 h2
  rw [Nat.zero_add]
  exact ⟨h1.symm, h2.symm⟩
theorem cells_put {l : List Sp} {k : Nat} (h : k < l.length) (s : Sp) : setSeg ((l.map Sp.c).flatten) (0 + k * 2) s.c = ((l.set k s).map Sp.c).flatten := by
  have := rows_set (c := Sp.c) (sz := 2) (fun _ => rfl) (fun _ => rfl) h s
  rwa [flat_down (c := Sp.c) (fun _ => rfl)] at this
theorem spB_under {n : Nat} (l : List Sp) : UnderB n (.cells ((l.map Sp.c).flatten)) := .cells _ fun v hv => by
  obtain ⟨e, he, hv⟩ := List.mem_flatten.1 hv
  obtain ⟨s, _, rfl⟩ := List.mem_map.1 he
  exact (s.free v hv).under
set_option maxRecDepth 100000 in
theorem spreadLaw_t (p : Bool) (races : List NS) (q : Bool) (seen : List Sp) (b : Bool) (bits : List Int) (hr : (races.length : Int) ≤ 9223372036854775806) (hrs : ∀ x ∈ races, (x.l.length : Int) * 16 ≤ 140737488351232) (hs : (seen.length : Int) ≤ 9223372036854775806) (hl : (bits.length : Int) ≤ 9223372036854775806) :
    Ans Try.prog 10 [.sl p .any (races.map NS.c), .sl q .any (seen.map Sp.c), .sl b .any (ints bits)] (.bool true) := by
  have fr : Free (.sl p .any (races.map NS.c)) := free_map NS.free _ _ _
  have fs : Free (.sl q .any (seen.map Sp.c)) := free_map Sp.free _ _ _
  have fbt : Free (.sl b .any (ints bits)) := free_ints _ _ _
  have zr : ((races.map NS.c).length : Int) = races.length := by simp
  have zs : ((seen.map Sp.c).length : Int) = seen.length := by simp
  have hfit : ∀ x ∈ races, x.Fit := fun x hx => by have := hrs x hx; show (x.l.length : Int) ≤ _; omega
  refine told Try.func10 rfl rfl (Pure.of tab_ok Try.func10 rfl Try.ntmps10 rfl (allC (fr) (allC (fs) (all1 (fbt)))) (allC (fun _ => rfl) (allC (fun _ => rfl) (all1 (fun _ => rfl)))) (by first | exact .s _ | assumption | exact .tup _ (by intro x hx; simp only [List.mem_cons, List.not_mem_nil, or_false] at hx; rcases hx with rfl | rfl | rfl | rfl <;> first | exact .s _ | (simp_all; done))) fun E hE => ?_)
  refine Aw.sm tab_ok mb0 [] rfl rfl ?zo ?zk
  case zo =>
    repeat' apply AllP.cons
    all_goals first | exact trivial | exact id | exact rfl | exact fun _ => rfl | exact Nat.le_of_ble_eq_true rfl | exact fun _ => Nat.le_of_ble_eq_true rfl | exact Int.natCast_nonneg _ | exact fun _ => Int.natCast_nonneg _ | exact in_t _ _ _ | exact (in_t _ _ _).un | exact gq_f
  case zk =>
  cases hok : sharesOk races seen with
  | false =>
    have c1 := Shares_t p q races seen hr hs hfit
    unfold shareR at c1
    rw [hok] at c1
    refine Aw.sm tab_ok mb0 [(2, [.tup [.sl true .exact [], .int 91]])] rfl rfl ?zo ?zk
    case zo =>
      repeat' apply AllP.cons
      all_goals first | exact trivial | exact id | exact rfl | exact fun _ => rfl | exact Nat.le_of_ble_eq_true rfl | exact fun _ => Nat.le_of_ble_eq_true rfl | exact Int.natCast_nonneg _ | exact fun _ => Int.natCast_nonneg _ | exact in_t _ _ _ | exact (in_t _ _ _).un | exact gq_f | exact c1
    case zk =>
    refine Aw.seq ?_
    refine Aw.sm tab_ok mb0 [(9, [.bool true])] rfl rfl ?zo ?zk
    case zo =>
      repeat' apply AllP.cons
      all_goals first | exact trivial | exact id | exact rfl | exact fun _ => rfl | exact Nat.le_of_ble_eq_true rfl | exact fun _ => Nat.le_of_ble_eq_true rfl | exact Int.natCast_nonneg _ | exact fun _ => Int.natCast_nonneg _ | exact in_t _ _ _ | exact (in_t _ _ _).un | exact gq_f | exact fun h => by cases h
    case zk =>
    refine Aw.cond rfl (fun h => ?_) (fun h => absurd h (by decide))
    refine Aw.sm tab_ok mb0 [(8, [.bool true])] rfl rfl ?zo ?zk
    case zo =>
      repeat' apply AllP.cons
      all_goals first | exact trivial | exact id | exact rfl | exact fun _ => rfl | exact Nat.le_of_ble_eq_true rfl | exact fun _ => Nat.le_of_ble_eq_true rfl | exact Int.natCast_nonneg _ | exact fun _ => Int.natCast_nonneg _ | exact in_t _ _ _ | exact (in_t _ _ _).un | exact gq_f | exact fun _ => works_t | exact fun _ _ => rfl | exact fun _ h => absurd h (by decide) | exact fun h => absurd h (by decide)
    case zk =>
    exact Aw.ret ⟨_, .cons (.tmp _) .nil, rfl⟩
  | true =>
  have hin := ShIn.of hok
  have r1 := hin.r1
  have r3 := hin.r3
  have k6 := hin.s6
  have k1 := hin.s1
  have hmix := mixC_of (bits := bits) r1
  obtain ⟨ev, c1, hev⟩ := shares_in p q races seen hr hs hfit hin
  have csg := signedL_t p q races seen hin
  have cmx := mixedL_t races.length r1 r3 b bits hl
  have cmx : Ans Try.prog 42 [.int ((races.map NS.c).length : Int), .sl b .any (ints bits)] (.sl false .any (ints (mixC bits races.length))) := by rw [zr]; exact cmx
  have hM := hmix.len
  have hMg := hmix.get
  have hbd := fun j (hj : j < seen.length) => mixedL_bd hin hmix hj
  have hfull := fun e j => mixedL_full (e := e) (k := j) hM
  have htold := fun ha => told_in r1 hmix ha (seen := seen)
  have hnone := fun he => share_none r1 he hmix (seen := seen)
  have hlen : shareF races seen = [] ∨ (shareF races seen).length = races.length := by
    rcases share_told races seen r1 with h | h
    · exact .inl h.1
    · exact .inr h.1
  have hag : agreeN races seen (mixC bits races.length) seen.length = agreeF races seen (mixC bits races.length) := rfl
  generalize mixC bits races.length = M at *
  have hspread := fun seen2 ha => spread (seen := seen) (seen2 := seen2) r1 ha
  generalize shareF races seen = told at *
  have ztold : ((told.map Sp.c).length : Int) = told.length := by simp
  refine Aw.sm tab_ok mb0 [(2, [.tup [outSW told, .int ev]])] rfl rfl ?zo ?zk
  case zo =>
    repeat' apply AllP.cons
    all_goals first | exact trivial | exact id | exact rfl | exact fun _ => rfl | exact Nat.le_of_ble_eq_true rfl | exact fun _ => Nat.le_of_ble_eq_true rfl | exact Int.natCast_nonneg _ | exact fun _ => Int.natCast_nonneg _ | exact in_t _ _ _ | exact (in_t _ _ _).un | exact gq_f | exact c1
  case zk =>
  refine Aw.seq ?_
  refine Aw.sm tab_ok mb0 [(9, [.bool true])] rfl rfl ?zo ?zk
  case zo =>
    repeat' apply AllP.cons
    all_goals first | exact trivial | exact id | exact rfl | exact fun _ => rfl | exact Nat.le_of_ble_eq_true rfl | exact fun _ => Nat.le_of_ble_eq_true rfl | exact Int.natCast_nonneg _ | exact fun _ => Int.natCast_nonneg _ | exact in_t _ _ _ | exact (in_t _ _ _).un | exact gq_f | exact fun _ => csg | exact fun _ _ => rfl
  case zk =>
  refine Aw.cond rfl (fun h => ?_) (fun h => Aw.skip ?_)
  · exfalso
    have h : cond (cond (ev != 0) (ev != 4) false) true (!true) = true := h
    rcases hev with ⟨_, h1⟩ | ⟨_, h1⟩ <;> rw [h1] at h <;> exact absurd h (by decide)
  clear h
  refine Aw.sm tab_ok mb0 [(3, [.sl false .any (ints M)])] rfl rfl ?zo ?zk
  case zo =>
    repeat' apply AllP.cons
    all_goals first | exact trivial | exact id | exact rfl | exact fun _ => rfl | exact Nat.le_of_ble_eq_true rfl | exact fun _ => Nat.le_of_ble_eq_true rfl | exact Int.natCast_nonneg _ | exact fun _ => Int.natCast_nonneg _ | exact in_t _ _ _ | exact (in_t _ _ _).un | exact gq_f | exact cmx
  case zk =>
  refine Aw.sm tab_ok mb0 [] rfl rfl ?zo ?zk
  case zo =>
    repeat' apply AllP.cons
    all_goals first | exact trivial | exact id | exact rfl | exact fun _ => rfl | exact Nat.le_of_ble_eq_true rfl | exact fun _ => Nat.le_of_ble_eq_true rfl | exact Int.natCast_nonneg _ | exact fun _ => Int.natCast_nonneg _ | exact in_t _ _ _ | exact (in_t _ _ _).un | exact gq_f
  case zk =>
  have fM : Free (.sl false .any (ints M)) := free_ints _ _ _
  have ft : Free (outSW told) := outSW_free _
  have hE1 : ∀ id, 1 ≤ id → E.φ0 id = none := fun id h => hE id (by omega)
  refine Aw.seq ?_
  refine Aw.sm tab_ok mb0 [] rfl rfl ?zo ?zk
  case zo =>
    repeat' apply AllP.cons
    all_goals first | exact trivial | exact id | exact rfl | exact fun _ => rfl | exact Nat.le_of_ble_eq_true rfl | exact fun _ => Nat.le_of_ble_eq_true rfl | exact Int.natCast_nonneg _ | exact fun _ => Int.natCast_nonneg _ | exact in_t _ _ _ | exact (in_t _ _ _).un | exact gq_f
  case zk =>
  refine Aw.block (Aw.rounds 0 hE [(0, .sl p .any (races.map NS.c)), (1, .sl q .any (seen.map Sp.c)), (2, .sl b .any (ints bits)), (7, outSW told), (8, .int ev), (9, .sl false .any (ints M))] (fun j : Nat => [(10, .bool (agreeN races seen M j)), (11, .int j)]) (fun _ => []) (fun j => j ≤ seen.length) (fun j => seen.length - j) 0
    (Nat.zero_le _) ⟨⟨.refl _, .refl _, .refl _, .refl _, .refl _, .refl _, trivial⟩, ⟨.refl _, .refl _, trivial⟩, trivial, Nat.zero_le _⟩ ⟨fr.under, fs.under, fbt.under, ft.under, .s _, fM.under, trivial⟩ (fun _ _ => ⟨.s _, .s _, trivial⟩) (fun _ _ => trivial) fun j hj => ?_)
  refine Aw.seq ?_
  refine Aw.sm tab_ok mb0 [] rfl rfl ?zo ?zk
  case zo =>
    repeat' apply AllP.cons
    all_goals first | exact trivial | exact id | exact rfl | exact fun _ => rfl | exact Nat.le_of_ble_eq_true rfl | exact fun _ => Nat.le_of_ble_eq_true rfl | exact Int.natCast_nonneg _ | exact fun _ => Int.natCast_nonneg _ | exact in_t _ _ _ | exact (in_t _ _ _).un | exact gq_f
  case zk =>
  refine Aw.cond rfl (fun h1 => Aw.skip ?_) (fun h1 => ?_)
  · have hjk : j < seen.length := by
      have := of_decide_eq_true (show decide ((j : Int) < ((seen.map Sp.c).length : Int)) = true from h1); omega
    have ct0 := to_t 0 0
    refine Aw.seq (Aw.block ?_)
    refine Aw.sm tab_ok mb0 [(0, [.agg (Sp.c ⟨0, 0⟩)])] rfl rfl ?zo ?zk
    case zo =>
      repeat' apply AllP.cons
      all_goals first | exact trivial | exact id | exact rfl | exact fun _ => rfl | exact Nat.le_of_ble_eq_true rfl | exact fun _ => Nat.le_of_ble_eq_true rfl | exact Int.natCast_nonneg _ | exact fun _ => Int.natCast_nonneg _ | exact in_t _ _ _ | exact (in_t _ _ _).un | exact gq_f | exact ct0
    case zk =>
    refine Aw.seq ?_
    refine Aw.sm tab_ok mb0 [] rfl rfl ?zo ?zk
    case zo =>
      repeat' apply AllP.cons
      all_goals first | exact trivial | exact id | exact rfl | exact fun _ => rfl | exact Nat.le_of_ble_eq_true rfl | exact fun _ => Nat.le_of_ble_eq_true rfl | exact Int.natCast_nonneg _ | exact fun _ => Int.natCast_nonneg _ | exact in_t _ _ _ | exact (in_t _ _ _).un | exact gq_f
    case zk =>
    have e0 : ∀ e : Sp → Int, (mixedL e M races j 0).sum = 0 := fun e => rfl
    refine Aw.block (Aw.rounds 1 hE1 [(0, .sl p .any (races.map NS.c)), (1, .sl q .any (seen.map Sp.c)), (2, .sl b .any (ints bits)), (7, outSW told), (8, .int ev), (9, .sl false .any (ints M)), (10, .bool (agreeN races seen M j)), (11, .int j), (12, .ref 0 0)] (fun r : Nat => [(13, .int r)]) (fun r => [(0, .cells [.int (mixedL Sp.lo M races j r).sum, .int (mixedL Sp.hi M races j r).sum])]) (fun r => r ≤ races.length) (fun r => races.length - r) 0
      (Nat.zero_le _) ⟨⟨.refl _, .refl _, .refl _, .refl _, .refl _, .refl _, .refl _, .refl _, .refl _, trivial⟩, ⟨.refl _, trivial⟩, ⟨rfl, trivial⟩, Nat.le_of_ble_eq_true rfl⟩ ⟨fr.under, fs.under, fbt.under, ft.under, .s _, fM.under, .s _, .s _, .ref _ _ (by decide), trivial⟩ (fun _ _ => ⟨.s _, trivial⟩) (fun _ _ => ⟨⟨by decide, .cells _ (allC (.s _) (all1 (.s _)))⟩, trivial⟩) fun r hrr => ?_)
    refine Aw.seq ?_
    refine Aw.sm tab_ok mb0 [] rfl rfl ?zo ?zk
    case zo =>
      repeat' apply AllP.cons
      all_goals first | exact trivial | exact id | exact rfl | exact fun _ => rfl | exact Nat.le_of_ble_eq_true rfl | exact fun _ => Nat.le_of_ble_eq_true rfl | exact Int.natCast_nonneg _ | exact fun _ => Int.natCast_nonneg _ | exact in_t _ _ _ | exact (in_t _ _ _).un | exact gq_f
    case zk =>
    refine Aw.cond rfl (fun h2 => Aw.skip ?_) (fun h2 => ?_)
    · have hrl : r < races.length := by
        have := of_decide_eq_true (show decide ((r : Int) < ((races.map NS.c).length : Int)) = true from h2); omega
      have gM : (ints M)[r]? = some [.int (M.getD r 0)] := ints_getD (by omega)
      have gR := ns_at races hrl
      have gs := sp_at (races.getD r ⟨false, []⟩).l (r := j) (by rw [hin.len r hrl]; exact hjk)
      have hss := hin.sign r j hrl hjk
      have s1 := Go.AL.Q.mixedL_succ Sp.lo M races j r
      have s2 := Go.AL.Q.mixedL_succ Sp.hi M races j r
      obtain ⟨b1, b2, b3⟩ := hbd j hjk r hrr
      have hg := hMg r
      generalize (races.getD r ⟨false, []⟩) = R at *
      generalize R.l.getD j sp0 = s at *
      generalize (mixedL Sp.lo M races j r).sum = X at *
      generalize (mixedL Sp.hi M races j r).sum = Y at *
      generalize M.getD r 0 = x at *
      have a1 : 0 ≤ x * s.lo := Int.mul_nonneg hg.1 hss.1
      have a2 : x * s.lo ≤ x * s.hi := Int.mul_le_mul_of_nonneg_left hss.2.1 hg.1
      have a3 : x * s.hi ≤ 100 * 100 := Int.mul_le_mul hg.2 hss.2.2 (by omega) (by decide)
      have o1 : inR (x * s.lo) := by simp only [inR]; omega
      have o2 : inR (x * s.hi) := by simp only [inR]; omega
      have o3 : inR (X + x * s.lo) := by simp only [inR]; omega
      have o4 : inR (Y + x * s.hi) := by simp only [inR]; omega
      have ct := to_t (X + x * s.lo) (Y + x * s.hi)
      have hh : some (B.cells [A.int (X + x * s.lo), A.int (Y + x * s.hi)]) = some (B.cells [A.int (mixedL Sp.lo M races j (r + 1)).sum, A.int (mixedL Sp.hi M races j (r + 1)).sum]) := by rw [s1, s2]
      refine Aw.seq (Aw.block ?_)
      refine Aw.ed tab_ok mixed mb0 [(1, [.int X]), (4, [.int x]), (8, R.c), (11, s.c), (17, [.int Y]), (20, [.int x]), (24, R.c), (27, s.c), (32, [.agg (Sp.c ⟨X + x * s.lo, Y + x * s.hi⟩)])] rfl (by kernel_rfl) rfl rfl ?zo ?zk
      case zo =>
        repeat' apply AllP.cons
        all_goals first | exact trivial | exact id | exact rfl | exact fun _ => rfl | exact Nat.le_of_ble_eq_true rfl | exact fun _ => Nat.le_of_ble_eq_true rfl | exact Int.natCast_nonneg _ | exact fun _ => Int.natCast_nonneg _ | exact in_t _ _ _ | exact (in_t _ _ _).un | exact gq_f | exact gM | exact gR | exact gs | exact o1 | exact o2 | exact o3 | exact o4 | exact ct
      case zk =>
      refine Aw.em tab_ok mb0 [] rfl rfl ?zo ?zk
      case zo =>
        repeat' apply AllP.cons
        all_goals first | exact trivial | exact id | exact rfl | exact fun _ => rfl | exact Nat.le_of_ble_eq_true rfl | exact fun _ => Nat.le_of_ble_eq_true rfl | exact Int.natCast_nonneg _ | exact fun _ => Int.natCast_nonneg _ | exact in_t _ _ _ | exact (in_t _ _ _).un | exact gq_f | exact inrk r (by omega)
      case zk =>
      exact ⟨r + 1, hrl, by omega, ⟨.refl _, .refl _, .refl _, .refl _, .refl _, .refl _, .refl _, .refl _, .refl _, trivial⟩, ⟨.refl _, trivial⟩, ⟨hh, trivial⟩, Nat.le_of_ble_eq_true rfl⟩
    have hre : r = races.length := by
      have := of_decide_eq_false (show decide ((r : Int) < ((races.map NS.c).length : Int)) = false from h2); omega
    subst hre
    have gk := sp_at seen hjk
    obtain ⟨b1, b2, b3⟩ := hbd j hjk races.length (Nat.le_refl _)
    simp only [hfull] at b1 b2 b3 ⊢
    have hst := agreeN_succ races seen M j
    have hcd := sign_cond (races := races) (seen := seen) (m := M) (k := j) (agreeN races seen M j)
    rw [← hst] at hcd
    have hsk := hin.sn j hjk
    generalize mixedF Sp.lo M races j = X at *
    generalize mixedF Sp.hi M races j = Y at *
    generalize seen.getD j sp0 = s at *
    refine Aw.exit2 ?_
    refine Aw.ed tab_ok mixed mb0 [(3, [.int X]), (6, s.c), (14, [.int Y]), (17, s.c)] rfl (by kernel_rfl) rfl rfl ?zo ?zk
    case zo =>
      repeat' apply AllP.cons
      all_goals first | exact trivial | exact id | exact rfl | exact fun _ => rfl | exact Nat.le_of_ble_eq_true rfl | exact fun _ => Nat.le_of_ble_eq_true rfl | exact Int.natCast_nonneg _ | exact fun _ => Int.natCast_nonneg _ | exact in_t _ _ _ | exact (in_t _ _ _).un | exact gq_f | exact fun _ => gk | exact fun _ => (by simp only [Ob.of, inR]; omega) | exact fun _ _ => rfl | exact gq_c
    case zk =>
    refine Aw.em tab_ok mb0 [] rfl rfl ?zo ?zk
    case zo =>
      repeat' apply AllP.cons
      all_goals first | exact trivial | exact id | exact rfl | exact fun _ => rfl | exact Nat.le_of_ble_eq_true rfl | exact fun _ => Nat.le_of_ble_eq_true rfl | exact Int.natCast_nonneg _ | exact fun _ => Int.natCast_nonneg _ | exact in_t _ _ _ | exact (in_t _ _ _).un | exact gq_f | exact inrk j (by omega)
    case zk =>
    exact ⟨j + 1, hjk, by omega, ⟨.refl _, .refl _, .refl _, .refl _, .refl _, .refl _, trivial⟩, ⟨.of_eq (congrArg A.bool hcd.symm), .refl _, trivial⟩, trivial, Nat.zero_le _⟩
  have hje : j = seen.length := by
    have := of_decide_eq_false (show decide ((j : Int) < ((seen.map Sp.c).length : Int)) = false from h1); omega
  subst hje
  rw [hag]
  generalize agreeF races seen M = ag at *
  refine Aw.exit2 ?_
  refine Aw.seq ?_
  refine Aw.sm tab_ok mb0 [] rfl rfl ?zo ?zk
  case zo =>
    repeat' apply AllP.cons
    all_goals first | exact trivial | exact id | exact rfl | exact fun _ => rfl | exact Nat.le_of_ble_eq_true rfl | exact fun _ => Nat.le_of_ble_eq_true rfl | exact Int.natCast_nonneg _ | exact fun _ => Int.natCast_nonneg _ | exact in_t _ _ _ | exact (in_t _ _ _).un | exact gq_f | exact fun _ _ => rfl | exact gq_c | exact fun h1 h2 => gq_c h1 h2
  case zk =>
  refine Aw.cond rfl (fun h => ?_) (fun h => Aw.skip ?_)
  · exfalso
    have h : cond (cond (ev != 0) (cond ag true (decide (((told.map Sp.c).length : Int) > 0))) false) true (cond (ev == 0) (((told.map Sp.c).length : Int) != ((races.map NS.c).length : Int)) false) = true := h
    rcases hev with ⟨h1, h2⟩ | ⟨h1, h2⟩
    · have h3 := hnone h1
      subst h1
      rw [h2, h3] at h; exact absurd (show false = true from h) (by decide)
    · have h4 : told.length = races.length := by
        rcases hlen with h | h
        · exact absurd h h1
        · exact h
      rw [h2, ztold, zr, h4] at h; simp at h
  clear h h1
  have nse : seen.map Sp.c ≠ [] := fun h => by rw [h] at zs; simp at zs; omega
  refine Aw.sm tab_ok mb0 [(2, [.ms 0 0 0])] rfl rfl ?zo ?zk
  case zo =>
    repeat' apply AllP.cons
    all_goals first | exact trivial | exact id | exact rfl | exact fun _ => rfl | exact Nat.le_of_ble_eq_true rfl | exact fun _ => Nat.le_of_ble_eq_true rfl | exact Int.natCast_nonneg _ | exact fun _ => Int.natCast_nonneg _ | exact in_t _ _ _ | exact (in_t _ _ _).un | exact gq_f | exact nse | exact sps_two _ | exact (show (seen.map Sp.c).length * 16 ≤ 140737488355328 by omega) | exact (show (seen.map Sp.c).length ≤ maxLen by unfold maxLen; omega)
  case zk =>
  have cp4 := pick_t b bits 4 (by omega)
  have cp5 := pick_t b bits 5 (by omega)
  have g1 := Int.emod_nonneg (pickF bits 4) (show (seen.length : Int) ≠ 0 by omega)
  have g2 := Int.emod_lt_of_pos (pickF bits 4) (show 0 < (seen.length : Int) by omega)
  have cm4 : Ans Try.prog 35 [.int (pickF bits 4), .int ((seen.map Sp.c).length : Int)] (.int (pickF bits 4 % seen.length)) := by rw [zs]; exact mod_t _ _ (by omega) (by omega)
  have g3 := Int.emod_nonneg (pickF bits 5) (show (10 : Int) ≠ 0 by omega)
  have g4 := Int.emod_lt_of_pos (pickF bits 5) (show (0 : Int) < 10 by omega)
  have cm5 := mod_t (pickF bits 5) 10 (by decide) (by decide)
  generalize pickF bits 4 = p4 at *
  generalize pickF bits 5 = p5 at *
  obtain ⟨a, ha⟩ : ∃ a : Nat, p4 % (seen.length : Int) = a := ⟨(p4 % (seen.length : Int)).toNat, (Int.toNat_of_nonneg g1).symm⟩
  have ha1 : a < seen.length := by omega
  rw [ha] at cm4
  generalize p5 % 10 = mo at *
  refine Aw.sm tab_ok mb0 [(1, [.int p4]), (4, [.int a]), (6, [.int p5]), (7, [.int mo])] rfl rfl ?zo ?zk
  case zo =>
    repeat' apply AllP.cons
    all_goals first | exact trivial | exact id | exact rfl | exact fun _ => rfl | exact Nat.le_of_ble_eq_true rfl | exact fun _ => Nat.le_of_ble_eq_true rfl | exact Int.natCast_nonneg _ | exact fun _ => Int.natCast_nonneg _ | exact in_t _ _ _ | exact (in_t _ _ _).un | exact gq_f | exact cp4 | exact cp5 | exact cm4 | exact cm5
  case zk =>
  have hfl := flat_down (c := Sp.c) (fun _ => rfl) seen
  refine Aw.keep (n := 1) (cst := [(0, .sl p .any (races.map NS.c)), (7, outSW told), (8, .int ev), (9, .sl false .any (ints M)), (10, .bool ag), (14, .ms 0 0 (seen.map Sp.c).length), (15, .int a), (16, .int mo)]) (v := []) (Hl := [(0, .cells ((seen.map Sp.c).flatten))]) hE1
    ⟨fr.under, ft.under, .s _, fM.under, .s _, .ms _ _ _ (by decide), .s _, .s _, trivial⟩ trivial ⟨⟨by decide, spB_under _⟩, trivial⟩
    ⟨⟨.refl _, .refl _, .refl _, .refl _, .refl _, .refl _, .refl _, .refl _, trivial⟩, trivial, ⟨congrArg (fun x => some (B.cells x)) hfl, trivial⟩, Nat.le_of_ble_eq_true rfl⟩ ?_
  obtain ⟨gl, gh⟩ := cells_sp ha1
  have hcl : ((seen.map Sp.c).flatten).length = seen.length * 2 := rows_len seen
  have l1 : 0 + a * 2 + 0 < ((seen.map Sp.c).flatten).length := by omega
  have l2 : 0 + a * 2 + 1 < ((seen.map Sp.c).flatten).length := by omega
  have l3 : 0 + a * 2 + 2 ≤ ((seen.map Sp.c).flatten).length := by omega
  have l4 : (a : Int) < ((seen.map Sp.c).length : Nat) := by omega
  have hsa := hin.sn a ha1
  have hput := cells_put ha1 (widerS (seen.getD a sp0) mo)
  have hwin := wider_in hin ha1 (more := mo) g3
  have hwag := fun m hm => wider_agree hin ha1 (more := mo) g3 (m := m) hm
  have hws : widerS (seen.getD a sp0) mo = ⟨max 0 ((seen.getD a sp0).lo - mo), min 100 ((seen.getD a sp0).hi + mo)⟩ := rfl
  generalize seen.getD a sp0 = s at *
  have ct := to_t (if s.lo - mo > 0 then s.lo - mo else 0) (if s.hi + mo < 100 then s.hi + mo else 100)
  have hmx : (⟨if s.lo - mo > 0 then s.lo - mo else 0, if s.hi + mo < 100 then s.hi + mo else 100⟩ : Sp) = widerS s mo := by
    rw [hws]
    simp only [Sp.mk.injEq]
    constructor <;> split <;> omega
  rw [hmx] at ct
  refine Aw.sd tab_ok mixed mb0 [(6, [.int s.lo]), (14, [.int s.hi]), (18, [.agg (widerS s mo).c])] rfl (by kernel_rfl) rfl rfl ?zo ?zk
  case zo =>
    repeat' apply AllP.cons
    all_goals first | exact trivial | exact id | exact rfl | exact fun _ => rfl | exact Nat.le_of_ble_eq_true rfl | exact fun _ => Nat.le_of_ble_eq_true rfl | exact Int.natCast_nonneg _ | exact fun _ => Int.natCast_nonneg _ | exact in_t _ _ _ | exact (in_t _ _ _).un | exact gq_f | exact gl | exact gh | exact l1 | exact l2 | exact l3 | exact l4 | exact ct | exact (by simp only [Ob.of, inR]; omega)
  case zk =>
  have hwl : (seen.set a (widerS s mo)).length = seen.length := by simp
  obtain ⟨fv, c2, hfv⟩ := shares_in p false races (seen.set a (widerS s mo)) hr (by rw [hwl]; exact hs) hfit hwin
  have hsp := hspread (seen.set a (widerS s mo)) hwag
  have hlen2 : shareF races (seen.set a (widerS s mo)) = [] ∨ (shareF races (seen.set a (widerS s mo))).length = races.length := by
    rcases share_told races (seen.set a (widerS s mo)) r1 with h | h
    · exact .inl h.1
    · exact .inr h.1
  generalize shareF races (seen.set a (widerS s mo)) = told2 at *
  refine Aw.keep (n := 1) (cst := [(0, .sl p .any (races.map NS.c)), (7, outSW told), (8, .int ev), (9, .sl false .any (ints M)), (10, .bool ag), (14, .ms 0 0 (seen.map Sp.c).length)]) (v := []) (Hl := [(0, .cells (((seen.set a (widerS s mo)).map Sp.c).flatten))]) hE1
    ⟨fr.under, ft.under, .s _, fM.under, .s _, .ms _ _ _ (by decide), trivial⟩ trivial ⟨⟨by decide, spB_under _⟩, trivial⟩
    ⟨⟨.refl _, .refl _, .refl _, .refl _, .refl _, .refl _, trivial⟩, trivial, ⟨congrArg (fun x => some (B.cells x)) hput, trivial⟩, Nat.le_of_ble_eq_true rfl⟩ ?_
  generalize seen.set a (widerS s mo) = W at *
  refine Aw.freezeS (id := 0) (t := 14) (sz := 2) (cs := (W.map Sp.c).flatten) (W.map Sp.c) rfl rfl (rows_all (c := Sp.c) (sz := 2) (fun _ => rfl) (fun _ => rfl) W) (by rw [List.length_map, List.length_map]; exact hwl) ?_
  have fW : Free (.sl false .any (W.map Sp.c)) := free_map Sp.free _ _ _
  refine Aw.keep (n := 0) (cst := [(0, .sl p .any (races.map NS.c)), (7, outSW told), (8, .int ev), (9, .sl false .any (ints M)), (10, .bool ag), (14, .sl false .any (W.map Sp.c))]) (v := []) (Hl := []) hE
    ⟨fr.under, ft.under, .s _, fM.under, .s _, fW.under, trivial⟩ trivial trivial
    ⟨⟨.refl _, .refl _, .refl _, .refl _, .refl _, .refl _, trivial⟩, trivial, trivial, Nat.zero_le _⟩ ?_
  have ztold2 : ((told2.map Sp.c).length : Int) = told2.length := by simp
  refine Aw.sm tab_ok mb0 [(2, [.tup [outSW told2, .int fv]])] rfl rfl ?zo ?zk
  case zo =>
    repeat' apply AllP.cons
    all_goals first | exact trivial | exact id | exact rfl | exact fun _ => rfl | exact Nat.le_of_ble_eq_true rfl | exact fun _ => Nat.le_of_ble_eq_true rfl | exact Int.natCast_nonneg _ | exact fun _ => Int.natCast_nonneg _ | exact in_t _ _ _ | exact (in_t _ _ _).un | exact gq_f | exact c2
  case zk =>
  refine Aw.seq ?_
  refine Aw.sm tab_ok mb0 [] rfl rfl ?zo ?zk
  case zo =>
    repeat' apply AllP.cons
    all_goals first | exact trivial | exact id | exact rfl | exact fun _ => rfl | exact Nat.le_of_ble_eq_true rfl | exact fun _ => Nat.le_of_ble_eq_true rfl | exact Int.natCast_nonneg _ | exact fun _ => Int.natCast_nonneg _ | exact in_t _ _ _ | exact (in_t _ _ _).un | exact gq_f | exact fun _ _ => rfl | exact gq_c | exact fun h1 h2 => gq_c h1 h2
  case zk =>
  refine Aw.cond rfl (fun h => ?_) (fun h => Aw.skip ?_)
  · exfalso
    have h : cond (cond (fv != 0) (cond (fv != 4) true (ev == 0)) false) true (cond (fv == 0) (((told2.map Sp.c).length : Int) != ((races.map NS.c).length : Int)) false) = true := h
    rcases hfv with ⟨h1, h2⟩ | ⟨h1, h2⟩
    · have h3 : ev = 4 := by
        rcases hev with ⟨_, h4⟩ | ⟨h4, _⟩
        · exact h4
        · exact absurd h1 (hsp h4).1
      rw [h2, h3] at h; exact absurd (show false = true from h) (by decide)
    · have h4 : told2.length = races.length := by
        rcases hlen2 with h | h
        · exact absurd h h1
        · exact h
      rw [h2, ztold2, zr, h4] at h; simp at h
  clear h
  have ft2 : Free (outSW told2) := outSW_free _
  refine Aw.seq ?_
  refine Aw.sm tab_ok mb0 [] rfl rfl ?zo ?zk
  case zo =>
    repeat' apply AllP.cons
    all_goals first | exact trivial | exact id | exact rfl | exact fun _ => rfl | exact Nat.le_of_ble_eq_true rfl | exact fun _ => Nat.le_of_ble_eq_true rfl | exact Int.natCast_nonneg _ | exact fun _ => Int.natCast_nonneg _ | exact in_t _ _ _ | exact (in_t _ _ _).un | exact gq_f
  case zk =>
  refine Aw.block (Aw.rounds 0 hE [(7, outSW told), (9, .sl false .any (ints M)), (10, .bool ag), (17, outSW told2)] (fun r : Nat => [(19, .int r)]) (fun _ => []) (fun r => r ≤ told.length) (fun r => told.length - r) 0
    (Nat.zero_le _) ⟨⟨.refl _, .refl _, .refl _, .refl _, trivial⟩, ⟨.refl _, trivial⟩, trivial, Nat.zero_le _⟩ ⟨ft.under, fM.under, .s _, ft2.under, trivial⟩ (fun _ _ => ⟨.s _, trivial⟩) (fun _ _ => trivial) fun r hr => ?_)
  refine Aw.seq ?_
  refine Aw.sm tab_ok mb0 [] rfl rfl ?zo ?zk
  case zo =>
    repeat' apply AllP.cons
    all_goals first | exact trivial | exact id | exact rfl | exact fun _ => rfl | exact Nat.le_of_ble_eq_true rfl | exact fun _ => Nat.le_of_ble_eq_true rfl | exact Int.natCast_nonneg _ | exact fun _ => Int.natCast_nonneg _ | exact in_t _ _ _ | exact (in_t _ _ _).un | exact gq_f
  case zk =>
  refine Aw.cond rfl (fun h1 => Aw.skip ?_) (fun h1 => ?_)
  · have hrt : r < told.length := by
      have := of_decide_eq_true (show decide ((r : Int) < ((told.map Sp.c).length : Int)) = true from h1); omega
    have hne : told ≠ [] := fun h => by rw [h] at hrt; simp at hrt
    have hrl : r < races.length := by
      rcases hlen with h | h
      · exact absurd h hne
      · omega
    obtain ⟨_, hs2, hs3⟩ := hsp hne
    have hs3 := hs3 r hrl
    have gT := sp_at told hrt
    have gT2 := sp_at told2 (r := r) (by omega)
    have gM : (ints M)[r]? = some [.int (M.getD r 0)] := ints_getD (by omega)
    have hho : ag = true → wi (M.getD r 0) (told.getD r sp0).lo (told.getD r sp0).hi = true := fun h => by
      have := (htold h).2.2 r hrl
      exact wi_iff.2 ⟨this.1, this.2.1⟩
    generalize told.getD r sp0 = s1 at *
    generalize told2.getD r sp0 = s2 at *
    generalize M.getD r 0 = x at *
    have ch := holds_l s1 x
    refine Aw.seq (Aw.block ?_)
    refine Aw.sd tab_ok mixed mb0 [(4, s1.c), (8, [.int x]), (10, [.bool (wi x s1.lo s1.hi)]), (16, s2.c), (21, s1.c), (29, s2.c), (34, s1.c)] rfl (by kernel_rfl) rfl rfl ?zo ?zk
    case zo =>
      repeat' apply AllP.cons
      all_goals first | exact trivial | exact id | exact rfl | exact fun _ => rfl | exact Nat.le_of_ble_eq_true rfl | exact fun _ => Nat.le_of_ble_eq_true rfl | exact Int.natCast_nonneg _ | exact fun _ => Int.natCast_nonneg _ | exact in_t _ _ _ | exact (in_t _ _ _).un | exact gq_f | exact fun _ => gT | exact fun _ => gT2 | exact fun _ => gM | exact fun _ => ch | exact fun _ _ => rfl | exact gq_c | exact fun h1 h2 => gq_c h1 h2
    case zk =>
    refine Aw.cond rfl (fun h => ?_) (fun h => Aw.skip ?_)
    · exfalso
      have h : cond (cond (cond ag (!(wi x s1.lo s1.hi)) false) true (decide (s2.lo > s1.lo))) true (decide (s2.hi < s1.hi)) = true := h
      have d1 : decide (s2.lo > s1.lo) = false := decide_eq_false (by omega)
      have d2 : decide (s2.hi < s1.hi) = false := decide_eq_false (by omega)
      rw [d1, d2] at h
      cases hga : ag with
      | false => rw [hga] at h; exact absurd (show false = true from h) (by decide)
      | true => rw [hga, hho hga] at h; exact absurd (show false = true from h) (by decide)
    refine Aw.em tab_ok mb0 [] rfl rfl ?zo ?zk
    case zo =>
      repeat' apply AllP.cons
      all_goals first | exact trivial | exact id | exact rfl | exact fun _ => rfl | exact Nat.le_of_ble_eq_true rfl | exact fun _ => Nat.le_of_ble_eq_true rfl | exact Int.natCast_nonneg _ | exact fun _ => Int.natCast_nonneg _ | exact in_t _ _ _ | exact (in_t _ _ _).un | exact gq_f | exact inrk r (by omega)
    case zk =>
    exact ⟨r + 1, hrt, by omega, ⟨.refl _, .refl _, .refl _, .refl _, trivial⟩, ⟨.refl _, trivial⟩, trivial, Nat.zero_le _⟩
  refine Aw.exit2 ?_
  refine Aw.sm tab_ok mb0 [(0, [.bool true])] rfl rfl ?zo ?zk
  case zo =>
    repeat' apply AllP.cons
    all_goals first | exact trivial | exact id | exact rfl | exact fun _ => rfl | exact Nat.le_of_ble_eq_true rfl | exact fun _ => Nat.le_of_ble_eq_true rfl | exact Int.natCast_nonneg _ | exact fun _ => Int.natCast_nonneg _ | exact in_t _ _ _ | exact (in_t _ _ _).un | exact gq_f | exact works_t
  case zk =>
  exact Aw.ret ⟨_, .cons (.tmp _) .nil, rfl⟩
end Go.Proofs.Ytdiclbgklegelaa

namespace Go.Proofs.Ytdiclbgklegelaa
open Go Go.AL Go.ChangeShapes Go.WideShapes Go.ChangeAt Go.RowKit
set_option maxRecDepth 100000 in
theorem stockSpread_lifted (os : Os) (started : os.Started) (H : Type) (enc : TypeId × Value → H) :
    ReturnsInHanded {} Try.checked os 10 .any (Rows.stockSpreadSpec.pre6 enc Try.prog Try.f10 [] false) (Rows.stockSpreadSpec.post enc Try.prog Try.f10 false true false false) := by
  refine lifted2 (tb := 4) (C := Try.checked) own started (by kernel_rfl) Try.func10
    (ChangeSpec.witness6 (enc := enc) (C := Try.checked) false ⟨#[], #[.slice none 0 0, .slice none 0 0, .slice none 0 0], []⟩ 8 (by kernel_rfl) (by kernel_rfl) (by kernel_rfl) (by kernel_rfl))
    laidOut ?_ rfl rfl (by kernel_rfl) uBool ?_ ?_
  · rw [Try.params10]; exact all3t (p := fun t => Try.prog.readableRec t = true ∧ t < Try.prog.types.size) t31 t32 t37
  · intro ds hd
    rw [Try.params10] at hd
    match ds, hd with
    | [d0, d1, d2], _ => rfl
  · intro W base args ds p hval hA hwt
    rw [Try.params10] at hA hval
    obtain ⟨v0, v1, v2, d0, d1, d2, p0, p1, p2, rfl, rfl, rfl, h0, h1, h2⟩ := trodAll_three hA
    obtain ⟨b0, y0, q0, s0, z0⟩ := arg_signs (φ := fun _ => none) (hval 0 31 v0 rfl rfl) h0 fun k hk => hwt k (List.mem_append.2 (.inl hk))
    obtain ⟨b1, y1, q1, s1⟩ := arg_spans (φ := fun _ => none) (hval 1 32 v1 rfl rfl) h1 fun k hk => hwt k (List.mem_append.2 (.inr (List.mem_append.2 (.inl hk))))
    obtain ⟨b2, y2, q2, s2⟩ := arg_ints (φ := fun _ => none) (hval 2 37 v2 rfl rfl) h2 fun k hk => hwt k (List.mem_append.2 (.inr (List.mem_append.2 (.inr (List.mem_append.2 (.inl hk))))))
    exact ⟨_, _, vrs3 q0 q1 q2, spreadLaw_t b0 y0 b1 y1 b2 y2 s0 z0 s1 s2⟩
theorem stockSpread_holds : Rows.StockSpreadSaid :=
  OpenClaim.holds_of_wide 10 Try.f10 rfl rfl rfl rfl rfl rfl rfl ⟨rfl, rfl, rfl, rfl, rfl⟩ rfl rfl rfl rfl rfl (by kernel_rfl) Try.func10 (by kernel_rfl)
    (of_decide_eq_true (by kernel_rfl)) (by unfold Func.isWrapper; first | (rw [if_pos (by decide +kernel)]; kernel_rfl) | (rw [if_neg (by decide +kernel)]; exact ⟨rfl, rfl⟩))
    (fun os started H enc _ => stockSpread_lifted os started H enc)
end Go.Proofs.Ytdiclbgklegelaa

