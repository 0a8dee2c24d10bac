/- StockMixed holds: The true mixing lies between what Shares tells of what is seen. No condition. -/
import Derived.Test.YtdiclbgklegelaaK6
set_option linter.all false
namespace Go.AL
open Go Go.RowKit Go.ChangeShapes Go.WideShapes Go.ChangeAt
section
variable {H : Type} {enc : TypeId × Value → H} {P : Program} {w : World} {base : Nat} {held : Bool} {φ : Names}
def CellsAre (φ : Names) (w : World) (az : List A) (cs : List Value) : Prop :=
  cs.length = az.length ∧ ∀ i, i < az.length → VR φ (allZ w) w (az.getD i .un) (cs.getD i undef) ∧ (cs.getD i undef).oneCell' = true
theorem CellsAre.nil : CellsAre φ w [] [] := ⟨rfl, fun i h => by simp at h⟩
theorem CellsAre.one {a : A} {v : Value} (h : VR φ (allZ w) w a v) (h1 : v.oneCell' = true) : CellsAre φ w [a] [v] := ⟨rfl, fun i hi => by
  have : i = 0 := by simp at hi; exact hi
  subst this; exact ⟨h, h1⟩⟩
theorem CellsAre.app {az bz : List A} {cs ds : List Value} (h : CellsAre φ w az cs) (k : CellsAre φ w bz ds) : CellsAre φ w (az ++ bz) (cs ++ ds) := by
  refine ⟨by simp [h.1, k.1], fun i hi => ?_⟩
  by_cases h1 : i < az.length
  · have := h.2 i h1
    rw [show (az ++ bz).getD i .un = az.getD i .un by simp [List.getD_eq_getElem?_getD, List.getElem?_append, h1],
      show (cs ++ ds).getD i undef = cs.getD i undef by simp [List.getD_eq_getElem?_getD, List.getElem?_append, h.1, h1]]
    exact this
  · have hi2 : i - az.length < bz.length := by simp only [List.length_append] at hi; omega
    have := k.2 (i - az.length) hi2
    rw [show (az ++ bz).getD i .un = bz.getD (i - az.length) .un by simp [List.getD_eq_getElem?_getD, List.getElem?_append, h1],
      show (cs ++ ds).getD i undef = ds.getD (i - az.length) undef by simp [List.getD_eq_getElem?_getD, List.getElem?_append, h.1, h1]]
    exact this
theorem CellsAre.agg {az : List A} {cs : List Value} (h : CellsAre φ w az cs) : VR φ (allZ w) w (.agg az) (.agg cs.toArray) := by
  have e : ∀ i, cs.toArray.getD i undef = cs.getD i undef := fun i => by simp [Array.getD_eq_getD_getElem?, List.getD_eq_getElem?_getD]
  refine .agg _ _ (by simp [h.1]) (fun i hi => ?_) fun i hi => ?_
  · rw [e]; exact (h.2 i hi).2
  · rw [e]; exact (h.2 i hi).1
def Reads (enc : TypeId × Value → H) (P : Program) (w : World) (base : Nat) (held : Bool) (φ : Names) (e sz : Nat) {α : Type} (c : α → List A) (Q : α → Prop) : Prop :=
  ∀ n cs y, DataW.trod enc P w base (fun _ => true) held n e cs = some y → (∀ k ∈ y.1.weights P e, k ≤ reachBytes) → ∃ a : α, Q a ∧ (c a).length = sz ∧ CellsAre φ w (c a) cs
theorem Reads.imp {e sz : Nat} {α β : Type} {c : α → List A} {d : β → List A} {Q : α → Prop} {R : β → Prop} (h : Reads enc P w base held φ e sz c Q) (k : ∀ a, Q a → ∃ b, R b ∧ d b = c a) : Reads enc P w base held φ e sz d R := fun n cs y hy hw => by
  obtain ⟨a, q, l, r⟩ := h n cs y hy hw
  obtain ⟨b, q2, e2⟩ := k a q
  exact ⟨b, q2, by rw [e2]; exact l, by rw [e2]; exact r⟩
theorem Reads.int {e : Nat} (he : P.underlying e = some (.int .i64)) : Reads enc P w base held φ e 1 (fun n : Int => [A.int n]) fun _ => True := fun n cs y h _ => by
  obtain ⟨z, rfl, _, _⟩ := DataW.trod_int he h
  exact ⟨z, trivial, rfl, .one (.s _) rfl⟩
theorem weightsAll_at {e : Nat} : ∀ {l : List (DataW H)} {d : DataW H}, d ∈ l → ∀ k ∈ d.weights P e, k ∈ DataW.weightsAll P e l
  | x :: l, d, hm, k, hk => by
    rw [DataW.weightsAll, List.mem_append]
    rcases List.mem_cons.1 hm with rfl | hm
    · exact .inl hk
    · exact .inr (weightsAll_at hm k hk)
theorem cells_spot {a : Addr} {n : Nat} {cs : List Value} (h : w.cells? base a n = some cs) (hn : 0 < n) : a.spot = none := by
  obtain ⟨hl, hc⟩ := cells_at h
  have h0 := hc 0 hn
  rw [List.getElem?_eq_getElem (by omega)] at h0
  have := World.cell?_spot h0
  rwa [show a.add 0 = a from by unfold Addr.add; simp] at this
theorem told_list {α : Type} {c : α → List A} {Q : α → Prop} {R : α → Nat → Prop} (n : Nat) (h : ∀ i, i < n → ∃ a, Q a ∧ R a i) : ∃ l : List α, l.length = n ∧ (∀ a ∈ l, Q a) ∧ ∀ i (hi : i < l.length), R l[i] i := by
  induction n with
  | zero => exact ⟨[], rfl, fun _ h => by simp at h, fun i hi => by simp at hi⟩
  | succ n ih =>
    obtain ⟨l, hl, hq, hr⟩ := ih fun i hi => h i (by omega)
    obtain ⟨a, qa, ra⟩ := h n (by omega)
    refine ⟨l ++ [a], by simp [hl], fun x hx => ?_, fun i hi => ?_⟩
    · rcases List.mem_append.1 hx with hx | hx
      · exact hq x hx
      · rw [List.mem_singleton.1 hx]; exact qa
    · by_cases h1 : i < l.length
      · rw [List.getElem_append_left h1]; exact hr i h1
      · have : i = l.length := by simp at hi; omega
        subst this
        rw [List.getElem_append_right (by omega)]
        simp only [Nat.sub_self, List.getElem_cons_zero]
        rw [hl]; exact ra
theorem Reads.slice {t e sz : Nat} {α : Type} {c : α → List A} {Q : α → Prop} (ht : P.underlying t = some (.slice e)) (hc : P.cellsOf e = sz) (h0 : 0 < sz) (h : Reads enc P w base held φ e sz c Q) :
    Reads enc P w base held φ t 1 (fun x : Bool × List α => [A.sl x.1 .any (x.2.map c)]) fun x => (∀ a ∈ x.2, Q a) ∧ x.2.length * P.bytesOf e ≤ reachBytes := by
  intro fuel cs y hy hw
  rcases DataW.trod_slice ht hy with ⟨rfl, _⟩ | ⟨ad, len, cap, elems, rest, n, _, rfl, hx, hbl, hl, hm, hlen, hel, hre, _⟩
  · exact ⟨(true, []), ⟨fun a ha => (nomatch ha), by simp⟩, rfl, .one (.nil _) rfl⟩
  · obtain ⟨hrl, hre⟩ := hre rfl
    have hwt : (elems.map (·.1)).length * P.bytesOf e ≤ reachBytes ∧ ∀ d ∈ elems.map (·.1), ∀ k ∈ d.weights P e, k ≤ reachBytes := by
      rw [hx] at hw
      simp only [DataW.weights, ht] at hw
      refine ⟨Nat.le_trans (Nat.mul_le_mul_right _ (Nat.le_add_right _ (rest.map (·.1)).length)) (hw _ (List.mem_cons_self ..)), fun d hd k hk => hw k (List.mem_cons_of_mem _ (List.mem_append.2 (.inl (weightsAll_at hd k hk))))⟩
    have hsp : cap = 0 ∨ ad.spot = none := by
      rcases Nat.eq_zero_or_pos cap with h | hpos
      · exact .inl h
      right
      rcases Nat.eq_zero_or_pos len with hz | hlp
      · subst hz
        have h1 := hre 0 (by omega)
        rw [hc] at h1
        obtain ⟨r, hr⟩ : ∃ r, rest[0]? = some r := ⟨rest[0]'(by omega), List.getElem?_eq_getElem _⟩
        rw [hr, Option.bind_eq_some_iff] at h1
        obtain ⟨cs, h2, _⟩ := h1
        rw [show ad.add ((0 + 0) * sz) = ad from by unfold Addr.add; simp] at h2
        exact cells_spot h2 h0
      · have h1 := hel 0 hlp
        rw [hc] at h1
        obtain ⟨r, hr⟩ : ∃ r, elems[0]? = some r := ⟨elems[0]'(by omega), List.getElem?_eq_getElem _⟩
        rw [hr, Option.bind_eq_some_iff] at h1
        obtain ⟨cs, h2, _⟩ := h1
        rw [show ad.add (0 * sz) = ad from by unfold Addr.add; simp] at h2
        exact cells_spot h2 h0
    rcases hsp with hz | hsp
    · subst hz
      have : len = 0 := by omega
      subst this
      exact ⟨(false, []), ⟨fun a ha => (nomatch ha), by simp⟩, rfl, .one (.slz _ ad) rfl⟩
    obtain ⟨b, off, sp⟩ := ad
    simp only at hsp
    subst hsp
    have each : ∀ i, i < len → ∃ a : α, Q a ∧ ((c a).length = sz ∧ ∃ cs, w.cells? base ((⟨b, off, none⟩ : Addr).add (i * sz)) sz = some cs ∧ CellsAre φ w (c a) cs) := fun i hi => by
      have h1 := hel i hi
      rw [hc] at h1
      rw [List.getElem?_eq_getElem (by omega), Option.bind_eq_some_iff] at h1
      obtain ⟨cs, h2, h3⟩ := h1
      obtain ⟨a, qa, la, ra⟩ := h n cs _ h3 (hwt.2 _ (List.mem_map.2 ⟨_, List.getElem_mem (by omega), rfl⟩))
      exact ⟨a, qa, la, cs, h2, ra⟩
    obtain ⟨l, hll, hq, hr⟩ := told_list (c := c) len each
    have hcell : ∀ i j, i < l.length → j < sz → ∃ v, w.cell? ⟨b, off + i * sz + j, none⟩ = some v ∧ VR φ (allZ w) w ((((l.map c).getD i []).getD j .un)) v ∧ v.oneCell' = true := fun i j hi hj => by
      obtain ⟨q1, cs, q2, q3⟩ := hr i hi
      have h1 := (cells_at q2).2 j hj
      rw [add_plain, add_plain] at h1
      have hcl : cs.length = sz := by rw [q3.1, q1]
      rw [List.getElem?_eq_getElem (by omega)] at h1
      have h2 := q3.2 j (by omega)
      have e1 : cs.getD j undef = cs[j]'(by omega) := by rw [List.getD_eq_getElem?_getD, List.getElem?_eq_getElem (by omega)]; rfl
      have e2 : (l.map c).getD i [] = c l[i] := by rw [List.getD_eq_getElem?_getD, List.getElem?_map, List.getElem?_eq_getElem hi]; rfl
      rw [e1] at h2
      exact ⟨_, h1, by rw [e2]; exact h2.1, h2.2⟩
    let val : Nat → Nat → Value := fun i j => (w.cell? ⟨b, off + i * sz + j, none⟩).getD undef
    have hval : ∀ i j, i < l.length → j < sz → w.cell? ⟨b, off + i * sz + j, none⟩ = some (val i j) ∧ VR φ (allZ w) w ((((l.map c).getD i []).getD j .un)) (val i j) ∧ (val i j).oneCell' = true := fun i j hi hj => by
      obtain ⟨v, h1, h2, h3⟩ := hcell i j hi hj
      have : val i j = v := by simp only [val, h1]; rfl
      rw [this]; exact ⟨h1, h2, h3⟩
    have hl2 : (l.map c).length = l.length := by simp
    refine ⟨(false, l), ⟨hq, ?_⟩, rfl, .one ?_ rfl⟩
    · have := hwt.1
      rw [List.length_map, hlen] at this
      rw [hll]; exact this
    · have key : VR φ (allZ w) w (.sl false .any (l.map c)) (.slice (some ⟨b, off, none⟩) (l.map c).length cap) := by
        refine .sl .any _ b off sz cap val (by rw [hl2, hll]; exact hl) (fun h => by cases h) hm (fun z hz => ?_) (fun i j hi hj => ?_) (fun i j hi hj => ?_) (fun i j hi hj => ?_) fun i j hi hj => ?_
        · obtain ⟨a, ha, rfl⟩ := List.mem_map.1 hz
          obtain ⟨i, hi, rfl⟩ := List.mem_iff_getElem.1 ha
          exact (hr i hi).1
        all_goals rw [hl2] at hi
        · exact ⟨_, (hval i j hi hj).1⟩
        · exact (hval i j hi hj).1
        · exact (hval i j hi hj).2.2
        · exact (hval i j hi hj).2.1
      rw [hl2, hll] at key; exact key
inductive Flds (enc : TypeId × Value → H) (P : Program) (w : World) (base : Nat) (held : Bool) (φ : Names) : Nat → List Field → {α : Type} → (α → List A) → (α → Prop) → Nat → Prop
  | nil (off : Nat) : Flds enc P w base held φ off [] (fun _ : Unit => []) (fun _ => True) 0
  | cons {off : Nat} {f : Field} {fs : List Field} {sz m : Nat} {α β : Type} {c : α → List A} {Q : α → Prop} {d : β → List A} {R : β → Prop} (ho : f.offset = off) (hc : P.cellsOf f.type = sz) (h : Reads enc P w base held φ f.type sz c Q)
      (k : Flds enc P w base held φ (off + sz) fs d R m) : Flds enc P w base held φ off (f :: fs) (fun x : α × β => c x.1 ++ d x.2) (fun x => Q x.1 ∧ R x.2) (sz + m)
theorem Flds.read {n : Nat} {cs : List Value} : ∀ {fs : List Field} {off m : Nat} {α : Type} {c : α → List A} {Q : α → Prop} {xs : List (DataW H × List MemPlace)}, Flds enc P w base held φ off fs c Q m → xs.length = fs.length →
    (∀ (i : Nat) (f : Field), fs[i]? = some f → DataW.trod enc P w base (fun _ => true) held n f.type ((cs.drop f.offset).take (P.cellsOf f.type)) = xs[i]?) → (∀ k ∈ DataW.weightsEach P (fs.map (·.type)) (xs.map (·.1)), k ≤ reachBytes) →
    cs.length = off + m → ∃ a, Q a ∧ (c a).length = m ∧ CellsAre φ w (c a) (cs.drop off)
  | _, _, _, _, _, _, [], .nil off, _, _, _, hl => ⟨(), trivial, rfl, by rw [List.drop_of_length_le (by omega)]; exact .nil⟩
  | f :: fs, off, _, _, _, _, x :: xs, .cons (sz := sz) (m := m) ho hc h k, hxl, hx, hw, hl => by
    have h0 := hx 0 f rfl
    rw [ho, hc] at h0
    obtain ⟨a, qa, la, ra⟩ := h n _ x h0 fun k hk => hw k (by
      simp only [List.map_cons, DataW.weightsEach, List.mem_append]; exact .inl hk)
    obtain ⟨b, qb, lb, rb⟩ := Flds.read k (by simpa using hxl) (fun i f' hf => hx (i + 1) f' hf) (fun k hk => hw k (by
      simp only [List.map_cons, DataW.weightsEach, List.mem_append]; exact .inr hk)) (by omega)
    refine ⟨(a, b), ⟨qa, qb⟩, by simp only [List.length_append, la, lb], ?_⟩
    have e : cs.drop off = (cs.drop off).take sz ++ cs.drop (off + sz) := by
      rw [← List.drop_drop, List.take_append_drop]
    rw [e]
    exact ra.app rb
theorem Reads.struct {e m m' : Nat} {fs : Array Field} {l : List Field} {α : Type} {c : α → List A} {Q : α → Prop} (he : P.underlying e = some (.struct fs)) (hc : P.cellsOf e = m) (h : Flds enc P w base held φ 0 l c Q m') (hl : fs.toList = l) (hm : m' = m) : Reads enc P w base held φ e m c Q := by
  subst hl; subst hm
  intro fuel cs y hy hw
  obtain ⟨xs, n, _, hx, hl, hlen, hf⟩ := DataW.trod_struct he hy
  rw [hx] at hw
  simp only [DataW.weights, he] at hw
  obtain ⟨a, q, l, r⟩ := h.read (n := n) (cs := cs) (xs := xs) (by simpa using hlen) (fun i f hf' => hf i f (by simpa using hf')) hw (by omega)
  exact ⟨a, q, l, by simpa using r⟩
theorem Reads.arg_one {t : Nat} {α : Type} {x : α → A} {Q : α → Prop} {v : Value} {d : DataW H} {p : List MemPlace} (h : Reads enc P w base held φ t 1 (fun a => [x a]) Q) (hc : v.cells.toList = [v])
    (ht : DataW.Trod enc P w base (fun _ => true) held t v d p) (hw : ∀ k ∈ d.weights P t, k ≤ reachBytes) : ∃ a, Q a ∧ VR φ (allZ w) w (x a) v := by
  obtain ⟨fuel, ht⟩ := ht
  rw [hc] at ht
  obtain ⟨a, q, _, r⟩ := h fuel _ _ ht hw
  exact ⟨a, q, (r.2 0 (by simp)).1⟩
theorem Reads.arg_slice {t e : Nat} {α : Type} {x : α → A} {Q : α → Prop} {v : Value} {d : DataW H} {p : List MemPlace} {r : Reach} {b0 : Nat} (hu : P.underlying t = some (.slice e)) (h : Reads enc P w base held φ t 1 (fun a => [x a]) Q) (hok : Value.okWide P w r b0 t v)
    (ht : DataW.Trod enc P w base (fun _ => true) held t v d p) (hw : ∀ k ∈ d.weights P t, k ≤ reachBytes) : ∃ a, Q a ∧ VR φ (allZ w) w (x a) v := h.arg_one (slice_cell hu hok).2 ht hw
theorem Reads.ints {t n e : Nat} (hu : P.underlying t = some (.array n e)) (hc : P.cellsOf t = n) (ue : P.underlying e = some (.int .i64)) (ce : P.cellsOf e = 1) :
    Reads enc P w base held φ t n (fun l : List Int => l.map A.int) fun l => l.length = n := by
  intro fuel cs y hy _
  obtain ⟨xs, m, _, _, hl0, hl, hx⟩ := DataW.trod_array hu hy
  rw [ce] at hx
  have hcl : cs.length = n := by omega
  have each : ∀ i, i < n → ∃ z : Int, True ∧ cs[i]? = some (.int .i64 z) := fun i hi => by
    have h1 := hx i hi
    rw [List.getElem?_eq_getElem (by omega)] at h1
    obtain ⟨z, hz, _⟩ := DataW.trod_int ue h1
    refine ⟨z, trivial, ?_⟩
    have h5 := congrArg (fun l => l[0]?) hz
    simpa using h5
  obtain ⟨l, hll, _, hr⟩ := told_list (c := fun _ : Int => []) n each
  refine ⟨l, hll, by simp [hll], by simp [hll, hcl], fun i hi => ?_⟩
  have hi : i < l.length := by simpa using hi
  have h1 := hr i hi
  have e1 : cs.getD i undef = .int .i64 l[i] := by rw [List.getD_eq_getElem?_getD, h1]; rfl
  have e2 : (l.map A.int).getD i .un = A.int l[i] := by simp [List.getD_eq_getElem?_getD, hi]
  rw [e1, e2]
  exact ⟨.s _, rfl⟩
end
end Go.AL

namespace Go.AL.Q
open Go
end Go.AL.Q

namespace Go.AL.Q
open Go
def LeP (a b : List Int) : Prop := a.length = b.length ∧ ∀ i, a.getD i 0 ≤ b.getD i 0
theorem LeP.refl (a : List Int) : LeP a a := ⟨rfl, fun _ => Int.le_refl _⟩
theorem LeP.set {a b : List Int} (h : LeP a b) {i : Nat} {x y : Int} (hi : i < b.length) (hx : x ≤ y) : LeP (a.set i x) (b.set i y) :=
  ⟨by simp [h.1], fun j => by
    have hl := h.1
    rw [getD_set' _ _ _ _ (by omega), getD_set' _ _ _ _ hi]
    split
    · exact hx
    · exact h.2 j⟩
structure PlayIn (r : Rce) (takes recs : List Int) : Prop where
  ok : r.ok = true
  l1 : 1 ≤ takes.length
  l10 : takes.length ≤ 10
  len : recs.length = takes.length
  t : ∀ i, i < takes.length → 0 ≤ takes.getD i 0 ∧ takes.getD i 0 ≤ 100000000
  x : ∀ i, i < takes.length → 0 ≤ recs.getD i 0 ∧ recs.getD i 0 ≤ 100000
theorem PlayIn.of {r : Rce} {takes recs : List Int} (h : playOk r takes recs = true) : PlayIn r takes recs := by
  unfold playOk at h
  have h1 := ac1 h
  have h2 := fun i hi => List.all_eq_true.1 (ac2 h) i (List.mem_range.2 hi)
  unfold playHead at h1
  have a1 := wi_iff.1 (ac2 (ac1 h1))
  have a2 := eq_of_beq (ac2 h1)
  exact ⟨ac1 (ac1 h1), by omega, by omega, by omega, fun i hi => wi_iff.1 (ac1 (h2 i hi)), fun i hi => wi_iff.1 (ac2 (h2 i hi))⟩
theorem PlayIn.to {r : Rce} {takes recs : List Int} (h : PlayIn r takes recs) : playOk r takes recs = true := by
  have h1 := h.l1
  have h2 := h.l10
  have h3 := h.len
  have e1 : wi takes.length 1 10 = true := wi_iff.2 ⟨by omega, by omega⟩
  have e2 : ((recs.length : Int) == takes.length) = true := by rw [h3]; simp
  unfold playOk playHead
  rw [h.ok, e1, e2]
  show (List.range takes.length).all (playYear takes recs) = true
  refine List.all_eq_true.2 fun i hi => ?_
  have hi := List.mem_range.1 hi
  unfold playYear
  rw [wi_iff.2 (h.t i hi), wi_iff.2 (h.x i hi)]; rfl
theorem LeP.up {l : List Int} {i : Nat} {v : Int} (hi : i < l.length) (h : l.getD i 0 ≤ v) : LeP l (l.set i v) := ⟨by simp, fun j => by
  rw [getD_set' _ _ _ _ hi]
  split
  · rename_i e; subst e; exact h
  · exact Int.le_refl _⟩
theorem LeP.dn {l : List Int} {i : Nat} {v : Int} (hi : i < l.length) (h : v ≤ l.getD i 0) : LeP (l.set i v) l := ⟨by simp, fun j => by
  rw [getD_set' _ _ _ _ hi]
  split
  · rename_i e; subst e; exact h
  · exact Int.le_refl _⟩
end Go.AL.Q

namespace Go.AL.Q
open Go
def downF (n b : Int) : Int := (n - n % b).tdiv b
theorem up_take {q m : Int} (h : 0 ≤ q * m) : -(downF (-(q * m)) 100) = takeF q m := by
  unfold downF takeF
  generalize q * m = n at *
  rw [Int.tdiv_eq_ediv, Int.tdiv_eq_ediv, show Int.sign 100 = 1 from rfl]
  split <;> split <;> omega
def Fish.brk (f : Fish) (q : Int) (y r s : Nat) : Bool := decide ((f.spawns r s q).getD y 0 < (f.race r).line)
end Go.AL.Q

namespace Go.AL.Q
open Go
end Go.AL.Q

namespace Go.AL.Q
open Go
end Go.AL.Q

namespace Go.AL.Q
open Go
structure Found (f : Fish) (q : Int) (y r s : Nat) : Prop where
  hy : y < f.years
  hr : r < f.many
  hs : s < f.seasons.length
  hb : f.brk q y r s = true
  before : ∀ y', y' < y → ∀ r', r' < f.many → ∀ s', s' < f.seasons.length → f.brk q y' r' s' = false
  races : ∀ r', r' < r → ∀ s', s' < f.seasons.length → f.brk q y r' s' = false
  seas : ∀ s', s' < s → f.brk q y r s' = false
end Go.AL.Q

namespace Go.AL.Q
open Go
def sp0 : Sp := ⟨0, 0⟩
structure MixOf (n : Nat) (m : List Int) : Prop where
  len : m.length = n
  sum : m.sum = 100
  nn : ∀ x ∈ m, 0 ≤ x
theorem mixL_of : ∀ (k : Nat) (mix : List Int) (left : Nat) (t : List Int), t.length = k + 1 → (∀ x ∈ t, 0 ≤ x) → t.sum = left → mix ++ t ∈ mixL k mix left
  | 0, mix, left, t, hl, hn, hs => by
    match t, hl with
    | [x], _ =>
      simp only [List.sum_cons, List.sum_nil] at hs
      rw [mixL, List.mem_singleton, show x = (left : Int) by omega]
  | k + 1, mix, left, t, hl, hn, hs => by
    match t, hl with
    | x :: t, hl =>
      have hx := hn x (List.mem_cons_self ..)
      have ht : 0 ≤ t.sum := sum_nn fun y hy => hn y (List.mem_cons_of_mem _ hy)
      simp only [List.sum_cons] at hs
      obtain ⟨n, rfl⟩ : ∃ n : Nat, x = n := ⟨x.toNat, by omega⟩
      rw [mixL, List.mem_flatMap]
      refine ⟨n, List.mem_range.2 (by omega), ?_⟩
      have := mixL_of k (mix ++ [(n : Int)]) (left - n) t (by simpa using hl) (fun y hy => hn y (List.mem_cons_of_mem _ hy)) (by omega)
      simpa using this
theorem mix_iff {n : Nat} (h : 1 ≤ n) {m : List Int} : m ∈ mixL (n - 1) [] 100 ↔ MixOf n m := by
  constructor
  · intro hm
    obtain ⟨h1, _, h3, h4⟩ := mixL_mem _ _ _ m hm
    simp only [List.length_nil, List.sum_nil, List.drop_zero] at h1 h3 h4
    exact ⟨by omega, by simpa using h3, h4⟩
  · intro hm
    have := mixL_of (n - 1) [] 100 m (by rw [hm.len]; omega) hm.nn hm.sum
    simpa using this
theorem MixOf.get {n : Nat} {m : List Int} (h : MixOf n m) (i : Nat) : 0 ≤ m.getD i 0 ∧ m.getD i 0 ≤ 100 := by
  rw [List.getD_eq_getElem?_getD]
  cases e : m[i]? with
  | none => simp
  | some x =>
    have hx := List.mem_of_getElem? e
    refine ⟨h.nn x hx, ?_⟩
    have hs := h.sum
    obtain ⟨a, b, rfl⟩ := List.append_of_mem hx
    have ha : 0 ≤ a.sum := sum_nn fun y hy => h.nn y (by simp [hy])
    have hb : 0 ≤ b.sum := sum_nn fun y hy => h.nn y (by simp [hy])
    simp only [List.sum_append, List.sum_cons] at hs
    show x ≤ 100
    omega
theorem wideL_get : ∀ (ss : List Sp) (ns : List Int) (i : Nat), i < ss.length → i < ns.length → (wideL ss ns).getD i sp0 = widen (ss.getD i sp0) (ns.getD i 0)
  | [], _, i, h, _ => by simp at h
  | s :: ss, [], i, _, h => by simp at h
  | s :: ss, n :: ns, 0, _, _ => rfl
  | s :: ss, n :: ns, i + 1, h, k => by
    rw [wideL, List.getD_cons_succ, List.getD_cons_succ, List.getD_cons_succ]
    exact wideL_get ss ns i (by simpa using h) (by simpa using k)
theorem points_get {m : List Int} {i : Nat} (h : i < m.length) : (points m).getD i sp0 = ⟨m.getD i 0, m.getD i 0⟩ := by
  unfold points; simp [List.getD_eq_getElem?_getD, h]
def Told (n : Nat) (P : List Int → Prop) (out : List Sp) : Prop :=
  (out = [] ∧ ∀ m, ¬ P m) ∨ (out.length = n ∧ (∀ m, P m → ∀ i, i < n → (out.getD i sp0).lo ≤ m.getD i 0 ∧ m.getD i 0 ≤ (out.getD i sp0).hi) ∧
    ∀ i, i < n → (∃ m, P m ∧ m.getD i 0 = (out.getD i sp0).lo) ∧ ∃ m, P m ∧ m.getD i 0 = (out.getD i sp0).hi)
theorem Told.step {n : Nat} (hn : 1 ≤ n) {races : List NS} {seen : List Sp} {P : List Int → Prop} {out : List Sp} {m : List Int} (hm : m.length = n) (h : Told n P out) : Told n (fun x => P x ∨ (x = m ∧ agreeF races seen m = true)) (shareStep races seen out m) := by
  unfold shareStep
  cases ha : agreeF races seen m with
  | false =>
    have e : (fun x => P x ∨ (x = m ∧ false = true)) = P := funext fun x => by simp
    rw [if_neg (by decide), e]; exact h
  | true =>
    rw [if_pos rfl]
    right
    have one : (if out = [] then points m else out).length = n ∧ (∀ i, i < n → ∀ x, (P x ∨ x = m) → (wideL (if out = [] then points m else out) m).getD i sp0 = widen ((if out = [] then points m else out).getD i sp0) (m.getD i 0)) := by
      have hl : (if out = [] then points m else out).length = n := by
        split
        · unfold points; simp [hm]
        · rename_i ho
          rcases h with h | h
          · exact absurd h.1 ho
          · exact h.1
      exact ⟨hl, fun i hi _ _ => wideL_get _ _ _ (by omega) (by omega)⟩
    obtain ⟨hl, hw⟩ := one
    have hw : ∀ i, i < n → (wideL (if out = [] then points m else out) m).getD i sp0 = widen ((if out = [] then points m else out).getD i sp0) (m.getD i 0) := fun i hi => hw i hi m (.inr rfl)
    refine ⟨by rw [wideL_len]; exact hl, ?_, ?_⟩
    · rintro x hx i hi
      rw [hw i hi]
      unfold widen
      by_cases ho : out = []
      · rw [if_pos ho, points_get (by omega)]
        rcases h with h | h
        · rcases hx with hx | ⟨rfl, _⟩
          · exact absurd hx (h.2 x)
          · simp only; omega
        · rw [ho] at h; simp at h; omega
      · rw [if_neg ho]
        rcases h with h | h
        · exact absurd h.1 ho
        · rcases hx with hx | ⟨rfl, _⟩
          · have := h.2.1 x hx i hi; simp only; omega
          · simp only; omega
    · intro i hi
      rw [hw i hi]
      unfold widen
      by_cases ho : out = []
      · rw [if_pos ho, points_get (by omega)]
        exact ⟨⟨m, .inr ⟨rfl, rfl⟩, by simp only; omega⟩, m, .inr ⟨rfl, rfl⟩, by simp only; omega⟩
      · rw [if_neg ho]
        rcases h with h | h
        · exact absurd h.1 ho
        · obtain ⟨⟨a, pa, ea⟩, b, pb, eb⟩ := h.2.2 i hi
          constructor
          · by_cases hle : (out.getD i sp0).lo ≤ m.getD i 0
            · exact ⟨a, .inl pa, by simp only; omega⟩
            · exact ⟨m, .inr ⟨rfl, rfl⟩, by simp only; omega⟩
          · by_cases hle : m.getD i 0 ≤ (out.getD i sp0).hi
            · exact ⟨b, .inl pb, by simp only; omega⟩
            · exact ⟨m, .inr ⟨rfl, rfl⟩, by simp only; omega⟩
theorem Told.fold {n : Nat} (hn : 1 ≤ n) {races : List NS} {seen : List Sp} : ∀ (L : List (List Int)) {P : List Int → Prop} {out : List Sp}, (∀ m ∈ L, m.length = n) → Told n P out → Told n (fun x => P x ∨ (x ∈ L ∧ agreeF races seen x = true)) (L.foldl (shareStep races seen) out)
  | [], P, out, _, h => by
    have e : (fun x => P x ∨ (x ∈ ([] : List (List Int)) ∧ agreeF races seen x = true)) = P := funext fun x => by simp
    rw [e]; exact h
  | m :: L, P, out, hl, h => by
    have h2 := Told.fold hn (races := races) (seen := seen) L (fun x hx => hl x (List.mem_cons_of_mem _ hx)) (h.step hn (races := races) (seen := seen) (hl m (List.mem_cons_self ..)))
    rw [List.foldl_cons]
    have e : (fun x => P x ∨ (x ∈ m :: L ∧ agreeF races seen x = true)) = fun x => (P x ∨ (x = m ∧ agreeF races seen m = true)) ∨ (x ∈ L ∧ agreeF races seen x = true) := funext fun x => by
      rw [eq_iff_iff]
      constructor
      · rintro (h | ⟨h, h3⟩)
        · exact .inl (.inl h)
        · rcases List.mem_cons.1 h with rfl | h
          · exact .inl (.inr ⟨rfl, h3⟩)
          · exact .inr ⟨h, h3⟩
      · rintro ((h | ⟨rfl, h⟩) | ⟨h, h2⟩)
        · exact .inl h
        · exact .inr ⟨List.mem_cons_self .., h⟩
        · exact .inr ⟨List.mem_cons_of_mem _ h, h2⟩
    rw [e]; exact h2
theorem share_told (races : List NS) (seen : List Sp) (h : 1 ≤ races.length) : Told races.length (fun m => MixOf races.length m ∧ agreeF races seen m = true) (shareF races seen) := by
  have := Told.fold h (races := races) (seen := seen) (mixL (races.length - 1) [] 100) (P := fun _ => False) (out := []) (fun m hm => ((mix_iff h).1 hm).len) (.inl ⟨rfl, fun _ h => h⟩)
  have e : (fun x => False ∨ (x ∈ mixL (races.length - 1) [] 100 ∧ agreeF races seen x = true)) = fun m => MixOf races.length m ∧ agreeF races seen m = true := funext fun x => by rw [false_or, mix_iff h]
  rw [e] at this
  exact this
structure ShIn (races : List NS) (seen : List Sp) : Prop where
  r1 : 1 ≤ races.length
  r3 : races.length ≤ 3
  s1 : 1 ≤ seen.length
  s6 : seen.length ≤ 6
  sn : ∀ k, k < seen.length → 0 ≤ (seen.getD k sp0).lo ∧ (seen.getD k sp0).lo ≤ (seen.getD k sp0).hi ∧ (seen.getD k sp0).hi ≤ 100
  len : ∀ r, r < races.length → (races.getD r ⟨false, []⟩).l.length = seen.length
  sign : ∀ r k, r < races.length → k < seen.length → 0 ≤ ((races.getD r ⟨false, []⟩).l.getD k sp0).lo ∧ ((races.getD r ⟨false, []⟩).l.getD k sp0).lo ≤ ((races.getD r ⟨false, []⟩).l.getD k sp0).hi ∧ ((races.getD r ⟨false, []⟩).l.getD k sp0).hi ≤ 100
theorem getS_mem {l : List Sp} {k : Nat} (h : k < l.length) : l.getD k sp0 ∈ l := by
  rw [List.getD_eq_getElem?_getD, List.getElem?_eq_getElem h]; exact List.getElem_mem h
theorem pct_iff {s : Sp} : pctOk s = true ↔ 0 ≤ s.lo ∧ s.lo ≤ s.hi ∧ s.hi ≤ 100 := by
  unfold pctOk spannedF
  rw [c_and, Bool.and_eq_true, wi_iff, wi_iff]; omega
theorem signs_iff {l : List Sp} {many : Nat} : signsOk l many = true ↔ (1 ≤ many ∧ many ≤ 6) ∧ l.length = many ∧ ∀ s ∈ l, 0 ≤ s.lo ∧ s.lo ≤ s.hi ∧ s.hi ≤ 100 := by
  unfold signsOk
  rw [c_and, c_and, Bool.and_eq_true, Bool.and_eq_true, wi_iff, beq_iff_eq, List.all_eq_true, and_assoc]
  simp only [pct_iff]
  constructor
  · rintro ⟨h1, h2, h3⟩; exact ⟨by omega, by omega, h3⟩
  · rintro ⟨h1, h2, h3⟩; exact ⟨by omega, by omega, h3⟩
theorem ShIn.of {races : List NS} {seen : List Sp} (h : sharesOk races seen = true) : ShIn races seen := by
  unfold sharesOk at h
  have h1 := wi_iff.1 (ac1 (ac1 h))
  have h2 := signs_iff.1 (ac2 (ac1 h))
  have h3 := List.all_eq_true.1 (ac2 h)
  have hr : ∀ r, r < races.length → races.getD r ⟨false, []⟩ ∈ races := fun r hr => by
    rw [List.getD_eq_getElem?_getD, List.getElem?_eq_getElem hr]; exact List.getElem_mem hr
  refine ⟨by omega, by omega, by omega, by omega, fun k hk => h2.2.2 _ (getS_mem hk), fun r h => (signs_iff.1 (h3 _ (hr r h))).2.1, fun r k h hk => ?_⟩
  have := signs_iff.1 (h3 _ (hr r h))
  exact this.2.2 _ (getS_mem (by omega))
theorem ShIn.to {races : List NS} {seen : List Sp} (h : ShIn races seen) : sharesOk races seen = true := by
  have h1 := h.r1
  have h3 := h.r3
  unfold sharesOk
  rw [wi_iff.2 (show (1 : Int) ≤ races.length ∧ (races.length : Int) ≤ 3 by omega)]
  have hs : signsOk seen seen.length = true := signs_iff.2 ⟨⟨h.s1, h.s6⟩, rfl, fun s hs => by
    obtain ⟨k, hk, rfl⟩ := List.mem_iff_getElem.1 hs
    have := h.sn k hk
    rw [List.getD_eq_getElem?_getD, List.getElem?_eq_getElem hk] at this
    exact this⟩
  rw [hs]
  show races.all (fun x => signsOk x.l seen.length) = true
  refine List.all_eq_true.2 fun x hx => ?_
  obtain ⟨r, hr, rfl⟩ := List.mem_iff_getElem.1 hx
  have hl := h.len r hr
  have hsg := h.sign r
  rw [List.getD_eq_getElem?_getD, List.getElem?_eq_getElem hr] at hl hsg
  refine signs_iff.2 ⟨⟨h.s1, h.s6⟩, hl, fun s hs => ?_⟩
  obtain ⟨k, hk, rfl⟩ := List.mem_iff_getElem.1 hs
  have hl : (races[r]).l.length = seen.length := hl
  have := hsg k hr (by omega)
  rw [show (Option.getD (some races[r]) ⟨false, []⟩) = races[r] from rfl, List.getD_eq_getElem?_getD, List.getElem?_eq_getElem hk] at this
  exact this
theorem mixedF_bd {races : List NS} {seen : List Sp} (h : ShIn races seen) {m : List Int} (hm : MixOf races.length m) {k : Nat} (hk : k < seen.length) : 0 ≤ mixedF Sp.lo m races k ∧ mixedF Sp.lo m races k ≤ mixedF Sp.hi m races k ∧ mixedF Sp.hi m races k ≤ 10000 := by
  have gen : ∀ (n : Nat), n ≤ races.length → 0 ≤ (mixedL Sp.lo m races k n).sum ∧ (mixedL Sp.lo m races k n).sum ≤ (mixedL Sp.hi m races k n).sum ∧ (mixedL Sp.hi m races k n).sum ≤ 100 * (m.take n).sum := fun n => by
    induction n with
    | zero => intro _; simp [mixedL]
    | succ n ih =>
      intro hn
      have ih := ih (by omega)
      have hg := hm.get n
      have hs := h.sign n k (by omega) hk
      have hml : n < m.length := by rw [hm.len]; omega
      unfold mixedL at ih ⊢
      rw [List.range_succ, List.map_append, List.map_append, List.sum_append, List.sum_append, List.take_succ_eq_append_getElem hml, List.sum_append]
      have e : m[n] = m.getD n 0 := by simp [List.getD_eq_getElem?_getD, hml]
      simp only [List.map_cons, List.map_nil, List.sum_cons, List.sum_nil, e]
      have e0 : ((races.getD n ⟨false, []⟩).l.getD k ⟨0, 0⟩) = ((races.getD n ⟨false, []⟩).l.getD k sp0) := rfl
      rw [e0]
      generalize (races.getD n ⟨false, []⟩).l.getD k sp0 = s at *
      generalize m.getD n 0 = x at *
      have a1 : 0 ≤ x * s.lo := Int.mul_nonneg hg.1 hs.1
      have a2 : x * s.lo ≤ x * s.hi := Int.mul_le_mul_of_nonneg_left hs.2.1 hg.1
      have a3 : x * s.hi ≤ x * 100 := Int.mul_le_mul_of_nonneg_left hs.2.2 hg.1
      omega
  have := gen m.length (by rw [hm.len]; exact Nat.le_refl _)
  rw [List.take_length, hm.sum] at this
  exact this
end Go.AL.Q

namespace Go.AL.Q
open Go
def mixS (bits : List Int) : Nat → List Int × Int
  | 0 => ([], 100)
  | k + 1 => ((mixS bits k).1 ++ [pickF bits k % ((mixS bits k).2 + 1)], (mixS bits k).2 - pickF bits k % ((mixS bits k).2 + 1))
def mixC (bits : List Int) (n : Nat) : List Int := (mixS bits (n - 1)).1 ++ [(mixS bits (n - 1)).2]
theorem mixS_ok (bits : List Int) : ∀ k, (mixS bits k).1.length = k ∧ (0 ≤ (mixS bits k).2 ∧ (mixS bits k).2 ≤ 100) ∧ (mixS bits k).1.sum + (mixS bits k).2 = 100 ∧ ∀ x ∈ (mixS bits k).1, 0 ≤ x
  | 0 => by simp [mixS]
  | k + 1 => by
    obtain ⟨h1, h2, h3, h4⟩ := mixS_ok bits k
    have e1 := Int.emod_nonneg (pickF bits k) (show (mixS bits k).2 + 1 ≠ 0 by omega)
    have e2 := Int.emod_lt_of_pos (pickF bits k) (show 0 < (mixS bits k).2 + 1 by omega)
    rw [mixS]
    simp only [List.length_append, List.length_cons, List.length_nil, List.sum_append, List.sum_cons, List.sum_nil]
    refine ⟨by omega, by omega, by omega, fun x hx => ?_⟩
    rcases List.mem_append.1 hx with hx | hx
    · exact h4 x hx
    · rw [List.mem_singleton.1 hx]; exact e1
theorem mixC_of {bits : List Int} {n : Nat} (hn : 1 ≤ n) : MixOf n (mixC bits n) := by
  obtain ⟨h1, h2, h3, h4⟩ := mixS_ok bits (n - 1)
  unfold mixC
  refine ⟨by simp; omega, by simp; omega, fun x hx => ?_⟩
  rcases List.mem_append.1 hx with hx | hx
  · exact h4 x hx
  · rw [List.mem_singleton.1 hx]; exact h2.1
def trueN (races : List NS) (bits m : List Int) (k : Nat) : Nat → Int
  | 0 => 0
  | r + 1 => trueN races bits m k r + m.getD r 0 * chosenF ((races.getD r ⟨false, []⟩).l.getD k sp0).lo ((races.getD r ⟨false, []⟩).l.getD k sp0).hi (pickF bits (3 * k + r + 2))
theorem mixedL_succ (e : Sp → Int) (m : List Int) (races : List NS) (k n : Nat) : (mixedL e m races k (n + 1)).sum = (mixedL e m races k n).sum + m.getD n 0 * e ((races.getD n ⟨false, []⟩).l.getD k sp0) := by
  unfold mixedL
  rw [List.range_succ, List.map_append, List.sum_append]
  simp only [List.map_cons, List.map_nil, List.sum_cons, List.sum_nil, Int.add_zero]
  rfl
theorem trueN_in {races : List NS} {seen : List Sp} (h : ShIn races seen) {m : List Int} (hm : MixOf races.length m) (bits : List Int) {k : Nat} (hk : k < seen.length) : ∀ n, n ≤ races.length → (mixedL Sp.lo m races k n).sum ≤ trueN races bits m k n ∧ trueN races bits m k n ≤ (mixedL Sp.hi m races k n).sum ∧ 0 ≤ trueN races bits m k n ∧ trueN races bits m k n ≤ 10000 * n
  | 0, _ => by simp [mixedL, trueN]
  | n + 1, hn => by
    obtain ⟨i1, i2, i3, i4⟩ := trueN_in h hm bits hk n (by omega)
    have hg := hm.get n
    have hs := h.sign n k (by omega) hk
    rw [mixedL_succ, mixedL_succ, trueN]
    have hc := chosen_in (n := pickF bits (3 * k + n + 2)) hs.2.1
    generalize (races.getD n ⟨false, []⟩).l.getD k sp0 = s at *
    generalize chosenF s.lo s.hi (pickF bits (3 * k + n + 2)) = c at *
    generalize m.getD n 0 = x at *
    have a1 : x * s.lo ≤ x * c := Int.mul_le_mul_of_nonneg_left hc.1 hg.1
    have a2 : x * c ≤ x * s.hi := Int.mul_le_mul_of_nonneg_left hc.2 hg.1
    have a3 : 0 ≤ x * c := Int.mul_nonneg hg.1 (by omega)
    have a4 : x * c ≤ 100 * 100 := Int.mul_le_mul hg.2 (by omega) (by omega) (by decide)
    refine ⟨by omega, by omega, by omega, by push_cast; omega⟩
def seenAt (races : List NS) (bits m : List Int) (k : Nat) : Sp := ⟨downF (trueN races bits m k races.length) 100, takeF (trueN races bits m k races.length) 1⟩
def narrowF (races : List NS) (bits m : List Int) (n : Nat) : List Sp := (List.range n).map (seenAt races bits m)
theorem narrow_len (races : List NS) (bits m : List Int) (n : Nat) : (narrowF races bits m n).length = n := by simp [narrowF]
theorem narrow_get {races : List NS} {bits m : List Int} {n k : Nat} (h : k < n) : (narrowF races bits m n).getD k sp0 = seenAt races bits m k := by simp [narrowF, List.getD_eq_getElem?_getD, h]
theorem narrow_succ (races : List NS) (bits m : List Int) (n : Nat) : narrowF races bits m (n + 1) = narrowF races bits m n ++ [seenAt races bits m n] := by simp [narrowF, List.range_succ]
theorem down_is {n : Int} (h : 0 ≤ n) : downF n 100 = n / 100 := by
  unfold downF
  have := Int.emod_nonneg n (show (100 : Int) ≠ 0 by decide)
  rw [Int.tdiv_eq_ediv_of_nonneg (by omega)]; omega
theorem up_is {n : Int} (h : 0 ≤ n) : takeF n 1 = (n + 99) / 100 := by
  unfold takeF
  rw [Int.tdiv_eq_ediv_of_nonneg (by omega)]; omega
theorem trueN_bd {races : List NS} {seen : List Sp} (h : ShIn races seen) {m : List Int} (hm : MixOf races.length m) (bits : List Int) {k : Nat} (hk : k < seen.length) : mixedF Sp.lo m races k ≤ trueN races bits m k races.length ∧ trueN races bits m k races.length ≤ mixedF Sp.hi m races k ∧ 0 ≤ trueN races bits m k races.length ∧ trueN races bits m k races.length ≤ 10000 := by
  obtain ⟨i1, i2, i3, i4⟩ := trueN_in h hm bits hk races.length (Nat.le_refl _)
  have hb := mixedF_bd h hm hk
  unfold mixedF at hb ⊢
  rw [hm.len] at hb ⊢
  omega
theorem narrow_in {races : List NS} {seen : List Sp} (h : ShIn races seen) {m : List Int} (hm : MixOf races.length m) (bits : List Int) : ShIn races (narrowF races bits m seen.length) := by
  refine ⟨h.r1, h.r3, by rw [narrow_len]; exact h.s1, by rw [narrow_len]; exact h.s6, fun k hk => ?_, fun r hr => by rw [narrow_len]; exact h.len r hr, fun r k hr hk => by rw [narrow_len] at hk; exact h.sign r k hr hk⟩
  rw [narrow_len] at hk
  rw [narrow_get hk]
  obtain ⟨_, _, b3, b4⟩ := trueN_bd h hm bits hk
  unfold seenAt
  simp only [down_is b3, up_is b3]
  omega
theorem narrow_agree {races : List NS} {seen : List Sp} (h : ShIn races seen) {m : List Int} (hm : MixOf races.length m) (bits : List Int) : agreeF races (narrowF races bits m seen.length) m = true := by
  unfold agreeF
  rw [List.all_eq_true]
  intro k hk
  have hk := List.mem_range.1 hk
  rw [narrow_len] at hk
  obtain ⟨b1, b2, b3, b4⟩ := trueN_bd h hm bits hk
  have e : (narrowF races bits m seen.length).getD k ⟨0, 0⟩ = seenAt races bits m k := narrow_get hk
  unfold signIn
  rw [e]
  unfold seenAt
  simp only [down_is b3, up_is b3, Bool.and_eq_true, Bool.not_eq_true', decide_eq_false_iff_not]
  omega
theorem about_agree {races : List NS} {n : Nat} (h : ShIn races (List.replicate n ⟨0, 100⟩)) {m : List Int} (hm : MixOf races.length m) : agreeF races (List.replicate n ⟨0, 100⟩) m = true := by
  unfold agreeF
  rw [List.all_eq_true]
  intro k hk
  have hk := List.mem_range.1 hk
  have hb := mixedF_bd h hm hk
  rw [List.length_replicate] at hk
  have e : (List.replicate n (⟨0, 100⟩ : Sp)).getD k ⟨0, 0⟩ = ⟨0, 100⟩ := by simp [List.getD_eq_getElem?_getD, hk]
  unfold signIn
  rw [e]
  simp only [Bool.and_eq_true, Bool.not_eq_true', decide_eq_false_iff_not]
  omega
theorem mix_unit {n i : Nat} (hi : i < n) : MixOf n ((List.replicate n (0 : Int)).set i 100) := by
  refine ⟨by simp, ?_, fun x hx => ?_⟩
  · have : ∀ (n i : Nat), i < n → ((List.replicate n (0 : Int)).set i 100).sum = 100 := fun n => by
      induction n with
      | zero => intro i h; omega
      | succ n ih =>
        intro i h
        rw [List.replicate_succ]
        cases i with
        | zero =>
          have : ∀ k : Nat, (List.replicate k (0 : Int)).sum = 0 := fun k => by induction k with | zero => rfl | succ k ih => simp [List.replicate_succ, ih]
          simp [this]
        | succ i => rw [List.set_cons_succ, List.sum_cons, ih i (by omega)]; rfl
    exact this n i hi
  · rcases List.mem_or_eq_of_mem_set hx with h | h
    · rw [List.eq_of_mem_replicate h]; exact Int.le_refl _
    · rw [h]; decide
theorem mix_unit_get {n i j : Nat} (hi : i < n) (hj : j < n) : ((List.replicate n (0 : Int)).set i 100).getD j 0 = if i = j then 100 else 0 := by
  rw [getD_set' _ _ _ _ (by simpa using hi)]
  split
  · rfl
  · simp [List.getD_eq_getElem?_getD, hj]
theorem all_told {races : List NS} {n : Nat} (h : ShIn races (List.replicate n ⟨0, 100⟩)) {i : Nat} (hi : i < races.length) : (shareF races (List.replicate n ⟨0, 100⟩)).length = races.length ∧ (shareF races (List.replicate n ⟨0, 100⟩)).getD i sp0 = if races.length = 1 then ⟨100, 100⟩ else ⟨0, 100⟩ := by
  have t := share_told races (List.replicate n ⟨0, 100⟩) h.r1
  generalize shareF races (List.replicate n ⟨0, 100⟩) = out at *
  have hP := fun m hm => about_agree (m := m) h hm
  have hu := mix_unit hi
  rcases t with t | ⟨t1, t2, t3⟩
  · exact absurd ⟨hu, hP _ hu⟩ (t.2 _)
  refine ⟨t1, ?_⟩
  have g1 := t2 _ ⟨hu, hP _ hu⟩ i hi
  rw [mix_unit_get hi hi, if_pos rfl] at g1
  obtain ⟨⟨a, pa, ea⟩, b, pb, eb⟩ := t3 i hi
  have ga := pa.1.get i
  have gb := pb.1.get i
  split
  · rename_i h1
    have hl := pa.1.len
    have hs := pa.1.sum
    have hi0 : i = 0 := by omega
    subst hi0
    rw [h1] at hl
    match a, hl with
    | [x], _ =>
      simp only [List.sum_cons, List.sum_nil] at hs
      simp only [List.getD_cons_zero] at ea
      generalize out.getD 0 sp0 = s at *
      obtain ⟨lo, hi⟩ := s
      simp only [Sp.mk.injEq] at *
      omega
  · rename_i h1
    obtain ⟨j, hj, hji⟩ : ∃ j, j < races.length ∧ ¬ j = i := by
      by_cases h0 : i = 0
      · exact ⟨1, by omega, by omega⟩
      · exact ⟨0, by omega, by omega⟩
    have hu2 := mix_unit hj
    have g2 := t2 _ ⟨hu2, hP _ hu2⟩ i hi
    rw [mix_unit_get hj hi, if_neg hji] at g2
    generalize out.getD i sp0 = s at *
    obtain ⟨lo, hi⟩ := s
    simp only [Sp.mk.injEq] at *
    omega
theorem told_in {races : List NS} {seen : List Sp} (h : 1 ≤ races.length) {m : List Int} (hm : MixOf races.length m) (ha : agreeF races seen m = true) : shareF races seen ≠ [] ∧ (shareF races seen).length = races.length ∧ ∀ i, i < races.length →
    ((shareF races seen).getD i sp0).lo ≤ m.getD i 0 ∧ m.getD i 0 ≤ ((shareF races seen).getD i sp0).hi ∧ 0 ≤ ((shareF races seen).getD i sp0).lo ∧ ((shareF races seen).getD i sp0).hi ≤ 100 := by
  have t := share_told races seen h
  generalize shareF races seen = out at *
  rcases t with t | ⟨t1, t2, t3⟩
  · exact absurd ⟨hm, ha⟩ (t.2 _)
  refine ⟨fun e => by rw [e] at t1; simp at t1; omega, t1, fun i hi => ?_⟩
  have g := t2 _ ⟨hm, ha⟩ i hi
  obtain ⟨⟨a, pa, ea⟩, b, pb, eb⟩ := t3 i hi
  have ga := pa.1.get i
  have gb := pb.1.get i
  omega
end Go.AL.Q

set_option maxRecDepth 100000
namespace Go.Proofs.Ytdiclbgklegelaa
open Go Go.AL Go.AL.Q Go.ChangeShapes Go.WideShapes Go.ChangeAt Go.RowKit
section
variable {H : Type} {enc : TypeId × Value → H} {w : World} {base : Nat} {spare : Nat → Bool} {held : Bool} {φ : Names}
end
end Go.Proofs.Ytdiclbgklegelaa

set_option maxRecDepth 100000
namespace Go.Proofs.Ytdiclbgklegelaa
open Go Go.AL Go.AL.Q Go.ChangeShapes Go.WideShapes Go.ChangeAt Go.RowKit
theorem t31 : Try.prog.readableRec 31 = true ∧ 31 < Try.prog.types.size := ty_ok (by kernel_rfl) (by kernel_rfl)
theorem u31 : Try.prog.underlying 31 = some (.slice 32) := by kernel_rfl
theorem u32 : Try.prog.underlying 32 = some (.slice 25) := by kernel_rfl
theorem c32 : Try.prog.cellsOf 32 = 1 := by kernel_rfl
theorem by25 : Try.prog.bytesOf 25 = 16 := by kernel_rfl
theorem by32 : Try.prog.bytesOf 32 = 24 := by kernel_rfl
theorem fit_len {n k : Nat} (h : n * k ≤ reachBytes) (hk : 1 ≤ k) : (n : Int) ≤ 9223372036854775806 := by
  have h3 : n ≤ n * k := Nat.le_mul_of_pos_right _ hk
  have h5 : reachBytes = 140737488351232 := by decide
  omega
section
variable {H : Type} {enc : TypeId × Value → H} {w : World} {base : Nat} {held : Bool} {φ : Names}
theorem r3 : Reads enc Try.prog w base held φ 3 1 (fun n : Int => [A.int n]) fun _ => True := .int u3
theorem rdSp : Reads enc Try.prog w base held φ 25 2 Sp.c (fun _ => True) := by
  have key := Reads.struct (enc := enc) (w := w) (base := base) (held := held) (φ := φ) u25 c25 (Flds.cons (f := fld "Low" 3 0 0) rfl c3 r3 (Flds.cons (f := fld "High" 3 1 8) rfl c3 r3 (Flds.nil _))) rfl rfl
  exact key.imp fun x _ => ⟨⟨x.1, x.2.1⟩, trivial, rfl⟩
theorem rdSps2 : Reads enc Try.prog w base held φ 32 1 NS.c (fun x => (x.l.length : Int) * 16 ≤ 140737488351232) := by
  have key := Reads.slice (enc := enc) (w := w) (base := base) (held := held) (φ := φ) u32 c25 (by decide) rdSp
  exact key.imp fun x h => ⟨⟨x.1, x.2⟩, by
    have h2 := h.2
    rw [by25] at h2
    have h5 : reachBytes = 140737488351232 := by decide
    show (x.2.length : Int) * 16 ≤ _
    omega, rfl⟩
variable {v : Value} {d : DataW H} {p : List MemPlace} {r : Reach} {b0 : Nat}
theorem arg_signs (hok : Value.okWide Try.prog w r b0 31 v) (h : DataW.Trod enc Try.prog w base (fun _ => true) held 31 v d p) (hw : ∀ k ∈ d.weights Try.prog 31, k ≤ reachBytes) :
    ∃ (b : Bool) (l : List NS), VR φ (allZ w) w (.sl b .any (l.map NS.c)) v ∧ (l.length : Int) ≤ 9223372036854775806 ∧ ∀ x ∈ l, (x.l.length : Int) * 16 ≤ 140737488351232 := by
  obtain ⟨x, q, e⟩ := (Reads.slice (φ := φ) u31 c32 (by decide) rdSps2).arg_slice u31 hok h hw
  exact ⟨x.1, x.2, e, fit_len q.2 (by rw [by32]; decide), q.1⟩
end
end Go.Proofs.Ytdiclbgklegelaa

namespace Go.Proofs.Ytdiclbgklegelaa
open Go Go.AL Go.AL.Q
end Go.Proofs.Ytdiclbgklegelaa

namespace Go.Proofs.Ytdiclbgklegelaa
open Go Go.AL Go.AL.Q
end Go.Proofs.Ytdiclbgklegelaa

namespace Go.Proofs.Ytdiclbgklegelaa
open Go Go.AL Go.AL.Q
end Go.Proofs.Ytdiclbgklegelaa

namespace Go.Proofs.Ytdiclbgklegelaa
open Go Go.AL Go.AL.Q
end Go.Proofs.Ytdiclbgklegelaa

namespace Go.Proofs.Ytdiclbgklegelaa
open Go Go.AL Go.AL.Q
end Go.Proofs.Ytdiclbgklegelaa

namespace Go.Proofs.Ytdiclbgklegelaa
open Go Go.AL Go.AL.Q
end Go.Proofs.Ytdiclbgklegelaa

namespace Go.Proofs.Ytdiclbgklegelaa
open Go Go.AL Go.AL.Q
theorem down_t (n b : Int) (hb : 0 < b) (hb2 : b ≤ 1000000) (hn : -1000000000000 ≤ n ∧ n ≤ 1000000000000) : Ans Try.prog 43 [.int n, .int b] (.int (downF n b)) := by
  have h1 := Int.emod_nonneg n (show b ≠ 0 by omega)
  have h2 := Int.emod_lt_of_pos n hb
  have o1 : inR (n - n % b) := by simp only [inR]; omega
  have o2 : b ≠ 0 ∧ inR ((n - n % b).tdiv b) := by
    refine ⟨by omega, ?_⟩
    have h3 := Int.natAbs_tdiv_le_natAbs (n - n % b) b
    simp only [inR]; omega
  refine told Try.func43 rfl rfl (Pure.of tab_ok Try.func43 rfl Try.ntmps43 rfl (allC (.s _) (all1 (.s _))) (allC (fun _ => rfl) (all1 (fun _ => rfl))) (by first | exact .s _ | assumption | exact .tup _ (by intro x hx; simp only [List.mem_cons, List.not_mem_nil, or_false] at hx; rcases hx with rfl | rfl | rfl | rfl <;> first | exact .s _ | (simp_all; done))) fun E hE => ?_)
  refine Aw.sm tab_ok mb0 [] rfl rfl ?zo ?zk
  case zo =>
    repeat' apply AllP.cons
    all_goals first | exact trivial | exact id | exact rfl | exact fun _ => rfl | exact Nat.le_of_ble_eq_true rfl | exact fun _ => Nat.le_of_ble_eq_true rfl | exact Int.natCast_nonneg _ | exact fun _ => Int.natCast_nonneg _ | exact in_t _ _ _ | exact (in_t _ _ _).un | exact gq_f
  case zk =>
  refine Aw.sm tab_ok mb0 [(3, [.int (n % b)])] rfl rfl ?zo ?zk
  case zo =>
    repeat' apply AllP.cons
    all_goals first | exact trivial | exact id | exact rfl | exact fun _ => rfl | exact Nat.le_of_ble_eq_true rfl | exact fun _ => Nat.le_of_ble_eq_true rfl | exact Int.natCast_nonneg _ | exact fun _ => Int.natCast_nonneg _ | exact in_t _ _ _ | exact (in_t _ _ _).un | exact gq_f | exact mod_t n b hb (by omega) | exact o1 | exact o2
  case zk =>
  exact Aw.ret ⟨_, .cons (.tmp _) .nil, rfl⟩
theorem up_t (q m : Int) (hq : 0 ≤ q * m ∧ q * m ≤ 1000000000000) : Ans Try.prog 44 [.int (q * m), .int 100] (.int (takeF q m)) := by
  have e := up_take hq.1
  have c := down_t (-(q * m)) 100 (by omega) (by omega) (by omega)
  have bd : inR (-(downF (-(q * m)) 100)) := by
    rw [e]; unfold takeF; rw [Int.tdiv_eq_ediv_of_nonneg (by omega)]; simp only [inR]; omega
  generalize q * m = n at *
  refine told Try.func44 rfl rfl (Pure.of tab_ok Try.func44 rfl Try.ntmps44 rfl (allC (.s _) (all1 (.s _))) (allC (fun _ => rfl) (all1 (fun _ => rfl))) (by first | exact .s _ | assumption | exact .tup _ (by intro x hx; simp only [List.mem_cons, List.not_mem_nil, or_false] at hx; rcases hx with rfl | rfl | rfl | rfl <;> first | exact .s _ | (simp_all; done))) fun E hE => ?_)
  refine Aw.sm tab_ok mb0 [] rfl rfl ?zo ?zk
  case zo =>
    repeat' apply AllP.cons
    all_goals first | exact trivial | exact id | exact rfl | exact fun _ => rfl | exact Nat.le_of_ble_eq_true rfl | exact fun _ => Nat.le_of_ble_eq_true rfl | exact Int.natCast_nonneg _ | exact fun _ => Int.natCast_nonneg _ | exact in_t _ _ _ | exact (in_t _ _ _).un | exact gq_f
  case zk =>
  refine Aw.sm tab_ok mb0 [(3, [.int (downF (-n) 100)])] rfl rfl ?zo ?zk
  case zo =>
    repeat' apply AllP.cons
    all_goals first | exact trivial | exact id | exact rfl | exact fun _ => rfl | exact Nat.le_of_ble_eq_true rfl | exact fun _ => Nat.le_of_ble_eq_true rfl | exact Int.natCast_nonneg _ | exact fun _ => Int.natCast_nonneg _ | exact in_t _ _ _ | exact (in_t _ _ _).un | exact gq_f | exact c | exact (show inR (-n) by simp only [inR]; omega) | exact bd
  case zk =>
  exact Aw.ret ⟨_, .cons (.tmp _) .nil, congrArg A.int e⟩
theorem grL_cons {l : List Int} (h : l ≠ []) : grL 3 l = .sl false (.own 3) (ints l) := by
  cases l with
  | nil => exact absurd rfl h
  | cons x l => rfl
end Go.Proofs.Ytdiclbgklegelaa

namespace Go.Proofs.Ytdiclbgklegelaa
open Go Go.AL Go.AL.Q
end Go.Proofs.Ytdiclbgklegelaa

namespace Go.Proofs.Ytdiclbgklegelaa
open Go Go.AL Go.AL.Q
end Go.Proofs.Ytdiclbgklegelaa

namespace Go.Proofs.Ytdiclbgklegelaa
open Go Go.AL Go.AL.Q
theorem in_is {n a b : Int} (h : a ≤ n ∧ n ≤ b) : Ans Try.prog 38 [.int n, .int a, .int b] (.bool true) := (wi_iff.2 h) ▸ in_t n a b
end Go.Proofs.Ytdiclbgklegelaa

namespace Go.Proofs.Ytdiclbgklegelaa
open Go Go.AL Go.AL.Q
theorem ns_at (l : List NS) {r : Nat} (h : r < l.length) : (l.map NS.c)[r]? = some (l.getD r ⟨false, []⟩).c := by
  rw [get_map h, List.getD_eq_getElem?_getD, List.getElem?_eq_getElem h]; rfl
theorem sp_at (l : List Sp) {r : Nat} (h : r < l.length) : (l.map Sp.c)[r]? = some (l.getD r sp0).c := by
  rw [get_map h, List.getD_eq_getElem?_getD, List.getElem?_eq_getElem h]; rfl
theorem signedL_t (p q : Bool) (races : List NS) (seen : List Sp) (h : ShIn races seen) : Ans Try.prog 41 [.sl p .any (races.map NS.c), .sl q .any (seen.map Sp.c)] (.bool true) := by
  have r1 := h.r1
  have r3 := h.r3
  have s1 := h.s1
  have s6 := h.s6
  have fr : Free (.sl p .any (races.map NS.c)) := free_map NS.free _ _ _
  have fs : Free (.sl q .any (seen.map Sp.c)) := free_map Sp.free _ _ _
  have zr : ((races.map NS.c).length : Int) = races.length := by simp
  have zs : ((seen.map Sp.c).length : Int) = seen.length := by simp
  have i1 : Ans Try.prog 38 [.int ((races.map NS.c).length : Int), .int 1, .int 3] (.bool true) := in_is (by omega)
  have i2 : Ans Try.prog 38 [.int ((seen.map Sp.c).length : Int), .int 1, .int 6] (.bool true) := in_is (by omega)
  refine told Try.func41 rfl rfl (Pure.of tab_ok Try.func41 rfl Try.ntmps41 rfl (allC (fr) (all1 (fs))) (allC (fun _ => rfl) (all1 (fun _ => rfl))) (by first | exact .s _ | assumption | exact .tup _ (by intro x hx; simp only [List.mem_cons, List.not_mem_nil, or_false] at hx; rcases hx with rfl | rfl | rfl | rfl <;> first | exact .s _ | (simp_all; done))) fun E hE => ?_)
  refine Aw.sm tab_ok mb0 [] rfl rfl ?zo ?zk
  case zo =>
    repeat' apply AllP.cons
    all_goals first | exact trivial | exact id | exact rfl | exact fun _ => rfl | exact Nat.le_of_ble_eq_true rfl | exact fun _ => Nat.le_of_ble_eq_true rfl | exact Int.natCast_nonneg _ | exact fun _ => Int.natCast_nonneg _ | exact in_t _ _ _ | exact (in_t _ _ _).un | exact gq_f
  case zk =>
  refine Aw.sm tab_ok mb0 [(2, [.bool true]), (6, [.bool true])] rfl rfl ?zo ?zk
  case zo =>
    repeat' apply AllP.cons
    all_goals first | exact trivial | exact id | exact rfl | exact fun _ => rfl | exact Nat.le_of_ble_eq_true rfl | exact fun _ => Nat.le_of_ble_eq_true rfl | exact Int.natCast_nonneg _ | exact fun _ => Int.natCast_nonneg _ | exact in_t _ _ _ | exact (in_t _ _ _).un | exact gq_f | exact i1 | exact fun _ => i2
  case zk =>
  refine Aw.seq ?_
  refine Aw.sm tab_ok mb0 [] rfl rfl ?zo ?zk
  case zo =>
    repeat' apply AllP.cons
    all_goals first | exact trivial | exact id | exact rfl | exact fun _ => rfl | exact Nat.le_of_ble_eq_true rfl | exact fun _ => Nat.le_of_ble_eq_true rfl | exact Int.natCast_nonneg _ | exact fun _ => Int.natCast_nonneg _ | exact in_t _ _ _ | exact (in_t _ _ _).un | exact gq_f
  case zk =>
  refine Aw.block (Aw.rounds 0 hE [(0, .sl p .any (races.map NS.c)), (1, .sl q .any (seen.map Sp.c))] (fun k : Nat => [(5, .bool true), (6, .int k)]) (fun _ => []) (fun k => k ≤ races.length) (fun k => races.length - k) 0
    (Nat.zero_le _) ⟨⟨.refl _, .refl _, trivial⟩, ⟨.refl _, .refl _, trivial⟩, trivial, Nat.zero_le _⟩ ⟨fr.under, fs.under, trivial⟩ (fun _ _ => ⟨.s _, .s _, trivial⟩) (fun _ _ => trivial) fun k hk => ?_)
  refine Aw.seq ?_
  refine Aw.sm tab_ok mb0 [] rfl rfl ?zo ?zk
  case zo =>
    repeat' apply AllP.cons
    all_goals first | exact trivial | exact id | exact rfl | exact fun _ => rfl | exact Nat.le_of_ble_eq_true rfl | exact fun _ => Nat.le_of_ble_eq_true rfl | exact Int.natCast_nonneg _ | exact fun _ => Int.natCast_nonneg _ | exact in_t _ _ _ | exact (in_t _ _ _).un | exact gq_f
  case zk =>
  refine Aw.cond rfl (fun h1 => Aw.skip ?_) (fun h1 => ?_)
  · have hlt : k < races.length := by
      have := of_decide_eq_true (show decide ((k : Int) < ((races.map NS.c).length : Int)) = true from h1); omega
    have gk := ns_at races hlt
    have hl := h.len k hlt
    have hsg := fun j hj => h.sign k j hlt hj
    generalize races.getD k ⟨false, []⟩ = R at *
    have zR : ((R.l.map Sp.c).length : Int) = R.l.length := by simp
    refine Aw.seq (Aw.block ?_)
    refine Aw.sm tab_ok mb0 [(2, R.c)] rfl rfl ?zo ?zk
    case zo =>
      repeat' apply AllP.cons
      all_goals first | exact trivial | exact id | exact rfl | exact fun _ => rfl | exact Nat.le_of_ble_eq_true rfl | exact fun _ => Nat.le_of_ble_eq_true rfl | exact Int.natCast_nonneg _ | exact fun _ => Int.natCast_nonneg _ | exact in_t _ _ _ | exact (in_t _ _ _).un | exact gq_f | exact gk
    case zk =>
    refine Aw.sm tab_ok mb0 [] rfl rfl ?zo ?zk
    case zo =>
      repeat' apply AllP.cons
      all_goals first | exact trivial | exact id | exact rfl | exact fun _ => rfl | exact Nat.le_of_ble_eq_true rfl | exact fun _ => Nat.le_of_ble_eq_true rfl | exact Int.natCast_nonneg _ | exact fun _ => Int.natCast_nonneg _ | exact in_t _ _ _ | exact (in_t _ _ _).un | exact gq_f
    case zk =>
    have hd : A.bool true = A.bool (((R.l.map Sp.c).length : Int) == ((seen.map Sp.c).length : Int)) := by rw [zR, zs, hl]; simp
    refine Aw.block (Aw.rounds 0 hE [(0, .sl p .any (races.map NS.c)), (1, .sl q .any (seen.map Sp.c)), (6, .int k)] (fun j : Nat => [(5, .bool true), (7, .int j)]) (fun _ => []) (fun j => j ≤ seen.length) (fun j => seen.length - j) 0
      (Nat.zero_le _) ⟨⟨.refl _, .refl _, .refl _, trivial⟩, ⟨.of_eq hd, .refl _, trivial⟩, trivial, Nat.zero_le _⟩ ⟨fr.under, fs.under, .s _, trivial⟩ (fun _ _ => ⟨.s _, .s _, trivial⟩) (fun _ _ => trivial) fun j hj => ?_)
    refine Aw.seq ?_
    refine Aw.sm tab_ok mb0 [] rfl rfl ?zo ?zk
    case zo =>
      repeat' apply AllP.cons
      all_goals first | exact trivial | exact id | exact rfl | exact fun _ => rfl | exact Nat.le_of_ble_eq_true rfl | exact fun _ => Nat.le_of_ble_eq_true rfl | exact Int.natCast_nonneg _ | exact fun _ => Int.natCast_nonneg _ | exact in_t _ _ _ | exact (in_t _ _ _).un | exact gq_f
    case zk =>
    refine Aw.cond rfl (fun h2 => Aw.skip ?_) (fun h2 => ?_)
    · have hjl : j < seen.length := by
        have := of_decide_eq_true (show decide ((j : Int) < ((seen.map Sp.c).length : Int)) = true from h2); omega
      have gj := sp_at R.l (r := j) (by omega)
      have hs := hsg j hjl
      generalize R.l.getD j sp0 = s at *
      have cs : Ans Try.prog 45 [.agg s.c, .int 0, .int 100] (.bool true) := (pct_iff.2 hs : spannedF s.lo s.hi 0 100 = true) ▸ rspanned_t s 0 100
      refine Aw.seq (Aw.block ?_)
      refine Aw.em tab_ok mb0 [(2, R.c), (5, s.c), (7, [.bool true])] rfl rfl ?zo ?zk
      case zo =>
        repeat' apply AllP.cons
        all_goals first | exact trivial | exact id | exact rfl | exact fun _ => rfl | exact Nat.le_of_ble_eq_true rfl | exact fun _ => Nat.le_of_ble_eq_true rfl | exact Int.natCast_nonneg _ | exact fun _ => Int.natCast_nonneg _ | exact in_t _ _ _ | exact (in_t _ _ _).un | exact gq_f | exact gk | exact gj | exact cs
      case zk =>
      refine Aw.em tab_ok mb0 [] rfl rfl ?zo ?zk
      case zo =>
        repeat' apply AllP.cons
        all_goals first | exact trivial | exact id | exact rfl | exact fun _ => rfl | exact Nat.le_of_ble_eq_true rfl | exact fun _ => Nat.le_of_ble_eq_true rfl | exact Int.natCast_nonneg _ | exact fun _ => Int.natCast_nonneg _ | exact in_t _ _ _ | exact (in_t _ _ _).un | exact gq_f | exact inrk j (by omega)
      case zk =>
      exact ⟨j + 1, hjl, by omega, ⟨.refl _, .refl _, .refl _, trivial⟩, ⟨.refl _, .refl _, trivial⟩, trivial, Nat.zero_le _⟩
    refine Aw.exit2 ?_
    refine Aw.em tab_ok mb0 [] rfl rfl ?zo ?zk
    case zo =>
      repeat' apply AllP.cons
      all_goals first | exact trivial | exact id | exact rfl | exact fun _ => rfl | exact Nat.le_of_ble_eq_true rfl | exact fun _ => Nat.le_of_ble_eq_true rfl | exact Int.natCast_nonneg _ | exact fun _ => Int.natCast_nonneg _ | exact in_t _ _ _ | exact (in_t _ _ _).un | exact gq_f | exact inrk k (by omega)
    case zk =>
    exact ⟨k + 1, hlt, by omega, ⟨.refl _, .refl _, trivial⟩, ⟨.refl _, .refl _, trivial⟩, trivial, Nat.zero_le _⟩
  refine Aw.exit2 ?_
  refine Aw.sm tab_ok mb0 [] rfl rfl ?zo ?zk
  case zo =>
    repeat' apply AllP.cons
    all_goals first | exact trivial | exact id | exact rfl | exact fun _ => rfl | exact Nat.le_of_ble_eq_true rfl | exact fun _ => Nat.le_of_ble_eq_true rfl | exact Int.natCast_nonneg _ | exact fun _ => Int.natCast_nonneg _ | exact in_t _ _ _ | exact (in_t _ _ _).un | exact gq_f
  case zk =>
  exact Aw.ret ⟨_, .cons (.tmp _) .nil, rfl⟩
theorem mixedL_t (n : Nat) (h1 : 1 ≤ n) (h3 : n ≤ 3) (b : Bool) (bits : List Int) (hl : (bits.length : Int) ≤ 9223372036854775806) : Ans Try.prog 42 [.int n, .sl b .any (ints bits)] (.sl false .any (ints (mixC bits n))) := by
  have hfr : Free (.sl false .any (ints (mixC bits n))) := free_ints _ _ _
  refine told Try.func42 rfl rfl (Pure.of tab_ok Try.func42 rfl Try.ntmps42 rfl (allC (.s _) (all1 (free_ints _ _ _))) (allC (fun _ => rfl) (all1 (fun _ => rfl))) (by first | exact .s _ | assumption | exact .tup _ (by intro x hx; simp only [List.mem_cons, List.not_mem_nil, or_false] at hx; rcases hx with rfl | rfl | rfl | rfl <;> first | exact .s _ | (simp_all; done))) fun E hE => ?_)
  refine Aw.sm tab_ok mb0 [] rfl rfl ?zo ?zk
  case zo =>
    repeat' apply AllP.cons
    all_goals first | exact trivial | exact id | exact rfl | exact fun _ => rfl | exact Nat.le_of_ble_eq_true rfl | exact fun _ => Nat.le_of_ble_eq_true rfl | exact Int.natCast_nonneg _ | exact fun _ => Int.natCast_nonneg _ | exact in_t _ _ _ | exact (in_t _ _ _).un | exact gq_f
  case zk =>
  refine Aw.sm tab_ok mb0 [] rfl rfl ?zo ?zk
  case zo =>
    repeat' apply AllP.cons
    all_goals first | exact trivial | exact id | exact rfl | exact fun _ => rfl | exact Nat.le_of_ble_eq_true rfl | exact fun _ => Nat.le_of_ble_eq_true rfl | exact Int.natCast_nonneg _ | exact fun _ => Int.natCast_nonneg _ | exact in_t _ _ _ | exact (in_t _ _ _).un | exact gq_f
  case zk =>
  refine Aw.sm tab_ok mb0 [] rfl rfl ?zo ?zk
  case zo =>
    repeat' apply AllP.cons
    all_goals first | exact trivial | exact id | exact rfl | exact fun _ => rfl | exact Nat.le_of_ble_eq_true rfl | exact fun _ => Nat.le_of_ble_eq_true rfl | exact Int.natCast_nonneg _ | exact fun _ => Int.natCast_nonneg _ | exact in_t _ _ _ | exact (in_t _ _ _).un | exact gq_f
  case zk =>
  refine Aw.seq ?_
  refine Aw.sm tab_ok mb0 [] rfl rfl ?zo ?zk
  case zo =>
    repeat' apply AllP.cons
    all_goals first | exact trivial | exact id | exact rfl | exact fun _ => rfl | exact Nat.le_of_ble_eq_true rfl | exact fun _ => Nat.le_of_ble_eq_true rfl | exact Int.natCast_nonneg _ | exact fun _ => Int.natCast_nonneg _ | exact in_t _ _ _ | exact (in_t _ _ _).un | exact gq_f
  case zk =>
  refine Aw.block (Aw.rounds 0 hE [(0, .int n), (1, .sl b .any (ints bits))] (fun k : Nat => [(5, grL 3 (mixS bits k).1), (6, .int (mixS bits k).2), (7, .int k)]) (fun _ => []) (fun k => k ≤ n - 1) (fun k => n - 1 - k) 0
    (Nat.zero_le _) ⟨⟨.refl _, .refl _, trivial⟩, ⟨.refl _, .refl _, .refl _, trivial⟩, trivial, Nat.zero_le _⟩ ⟨.s _, (free_ints _ _ _).under, trivial⟩ (fun _ _ => ⟨grL_under _, .s _, .s _, trivial⟩) (fun _ _ => trivial) fun k hk => ?_)
  obtain ⟨m1, m2, m3, m4⟩ := mixS_ok bits k
  have hmc : mixC bits n = (mixS bits (n - 1)).1 ++ [(mixS bits (n - 1)).2] := rfl
  have hsc : mixS bits (k + 1) = ((mixS bits k).1 ++ [pickF bits k % ((mixS bits k).2 + 1)], (mixS bits k).2 - pickF bits k % ((mixS bits k).2 + 1)) := rfl
  refine Aw.seq ?_
  refine Aw.sm tab_ok mb0 [] rfl rfl ?zo ?zk
  case zo =>
    repeat' apply AllP.cons
    all_goals first | exact trivial | exact id | exact rfl | exact fun _ => rfl | exact Nat.le_of_ble_eq_true rfl | exact fun _ => Nat.le_of_ble_eq_true rfl | exact Int.natCast_nonneg _ | exact fun _ => Int.natCast_nonneg _ | exact in_t _ _ _ | exact (in_t _ _ _).un | exact gq_f | exact (by simp only [Ob.of, inR]; omega)
  case zk =>
  refine Aw.cond rfl (fun h1 => Aw.skip ?_) (fun h1 => ?_)
  · have hlt : k < n - 1 := by have := of_decide_eq_true h1; omega
    have cp := pick_t b bits (k : Int) (by omega)
    generalize pickF bits k = pk at *
    generalize (mixS bits k).2 = left at *
    have cm := mod_t pk (left + 1) (by omega) (by omega)
    have e1 := Int.emod_nonneg pk (show left + 1 ≠ 0 by omega)
    have e2 := Int.emod_lt_of_pos pk (show 0 < left + 1 by omega)
    generalize pk % (left + 1) = x at *
    generalize (mixS bits k).1 = out at *
    have hzz := ints_one out
    have hlen2 := ints_len out
    refine Aw.seq (Aw.block ?_)
    refine Aw.sm tab_ok mb0 [(2, [.int pk]), (5, [.int x])] rfl rfl ?zo ?zk
    case zo =>
      repeat' apply AllP.cons
      all_goals first | exact trivial | exact id | exact rfl | exact fun _ => rfl | exact Nat.le_of_ble_eq_true rfl | exact fun _ => Nat.le_of_ble_eq_true rfl | exact Int.natCast_nonneg _ | exact fun _ => Int.natCast_nonneg _ | exact in_t _ _ _ | exact (in_t _ _ _).un | exact gq_f | exact cp | exact cm | exact (by simp only [Ob.of, inR]; omega)
    case zk =>
    by_cases ho : out = []
    · subst ho
      refine Aw.sm tab_ok mb0 [] rfl rfl ?zo ?zk
      case zo =>
        repeat' apply AllP.cons
        all_goals first | exact trivial | exact id | exact rfl | exact fun _ => rfl | exact Nat.le_of_ble_eq_true rfl | exact fun _ => Nat.le_of_ble_eq_true rfl | exact Int.natCast_nonneg _ | exact fun _ => Int.natCast_nonneg _ | exact in_t _ _ _ | exact (in_t _ _ _).un | exact gq_f | exact (show ∀ z ∈ [] ++ [[A.int _]], z.length = 1 from fun z hz => by simp at hz; subst hz; rfl) | exact (by simp only [Ob.of]; decide)
      case zk =>
      refine Aw.em tab_ok mb0 [] rfl rfl ?zo ?zk
      case zo =>
        repeat' apply AllP.cons
        all_goals first | exact trivial | exact id | exact rfl | exact fun _ => rfl | exact Nat.le_of_ble_eq_true rfl | exact fun _ => Nat.le_of_ble_eq_true rfl | exact Int.natCast_nonneg _ | exact fun _ => Int.natCast_nonneg _ | exact in_t _ _ _ | exact (in_t _ _ _).un | exact gq_f | exact (by simp only [Ob.of, inR]; omega)
      case zk =>
      refine Aw.em tab_ok mb0 [] rfl rfl ?zo ?zk
      case zo =>
        repeat' apply AllP.cons
        all_goals first | exact trivial | exact id | exact rfl | exact fun _ => rfl | exact Nat.le_of_ble_eq_true rfl | exact fun _ => Nat.le_of_ble_eq_true rfl | exact Int.natCast_nonneg _ | exact fun _ => Int.natCast_nonneg _ | exact in_t _ _ _ | exact (in_t _ _ _).un | exact gq_f | exact inrk k (by omega)
      case zk =>
      exact ⟨k + 1, by omega, by omega, ⟨.refl _, .refl _, trivial⟩, ⟨.of_eq (by rw [hsc]; rfl), .of_eq (by rw [hsc]; rfl), .refl _, trivial⟩, trivial, Nat.zero_le _⟩
    · rw [grL_cons ho]
      refine Aw.sm tab_ok mb0 [] rfl rfl ?zo ?zk
      case zo =>
        repeat' apply AllP.cons
        all_goals first | exact trivial | exact id | exact rfl | exact fun _ => rfl | exact Nat.le_of_ble_eq_true rfl | exact fun _ => Nat.le_of_ble_eq_true rfl | exact Int.natCast_nonneg _ | exact fun _ => Int.natCast_nonneg _ | exact in_t _ _ _ | exact (in_t _ _ _).un | exact gq_f | exact (show ∀ z ∈ [[A.int _]], z.length = 1 from fun z hz => by simp at hz; subst hz; rfl) | exact hzz | exact (show ((ints out).length + 1) * 8 ≤ 140737488355328 by omega) | exact (show (ints out).length + 1 ≤ maxLen by unfold maxLen; omega)
      case zk =>
      refine Aw.em tab_ok mb0 [] rfl rfl ?zo ?zk
      case zo =>
        repeat' apply AllP.cons
        all_goals first | exact trivial | exact id | exact rfl | exact fun _ => rfl | exact Nat.le_of_ble_eq_true rfl | exact fun _ => Nat.le_of_ble_eq_true rfl | exact Int.natCast_nonneg _ | exact fun _ => Int.natCast_nonneg _ | exact in_t _ _ _ | exact (in_t _ _ _).un | exact gq_f | exact (by simp only [Ob.of, inR]; omega)
      case zk =>
      refine Aw.em tab_ok mb0 [] rfl rfl ?zo ?zk
      case zo =>
        repeat' apply AllP.cons
        all_goals first | exact trivial | exact id | exact rfl | exact fun _ => rfl | exact Nat.le_of_ble_eq_true rfl | exact fun _ => Nat.le_of_ble_eq_true rfl | exact Int.natCast_nonneg _ | exact fun _ => Int.natCast_nonneg _ | exact in_t _ _ _ | exact (in_t _ _ _).un | exact gq_f | exact inrk k (by omega)
      case zk =>
      exact ⟨k + 1, by omega, by omega, ⟨.refl _, .refl _, trivial⟩, ⟨.of_eq (show grL 3 (mixS bits (k + 1)).1 = A.sl false (.own 3) (ints out ++ [[A.int x]]) by rw [hsc, grL_cons (by simp)]; simp [ints]), .of_eq (by rw [hsc]; rfl), .refl _, trivial⟩, trivial, Nat.zero_le _⟩
  have hke : k = n - 1 := by have := of_decide_eq_false h1; omega
  subst hke
  generalize (mixS bits (n - 1)).2 = left at *
  generalize (mixS bits (n - 1)).1 = out at *
  have hzz := ints_one out
  have hlen2 := ints_len out
  refine Aw.exit2 ?_
  rw [hmc]
  by_cases ho : out = []
  · subst ho
    refine Aw.sm tab_ok mb0 [] rfl rfl ?zo ?zk
    case zo =>
      repeat' apply AllP.cons
      all_goals first | exact trivial | exact id | exact rfl | exact fun _ => rfl | exact Nat.le_of_ble_eq_true rfl | exact fun _ => Nat.le_of_ble_eq_true rfl | exact Int.natCast_nonneg _ | exact fun _ => Int.natCast_nonneg _ | exact in_t _ _ _ | exact (in_t _ _ _).un | exact gq_f | exact (show ∀ z ∈ [] ++ [[A.int _]], z.length = 1 from fun z hz => by simp at hz; subst hz; rfl) | exact (by simp only [Ob.of]; decide)
    case zk =>
    exact Aw.ret ⟨_, .cons (.tmp _) .nil, rfl⟩
  · rw [grL_cons ho]
    refine Aw.sm tab_ok mb0 [] rfl rfl ?zo ?zk
    case zo =>
      repeat' apply AllP.cons
      all_goals first | exact trivial | exact id | exact rfl | exact fun _ => rfl | exact Nat.le_of_ble_eq_true rfl | exact fun _ => Nat.le_of_ble_eq_true rfl | exact Int.natCast_nonneg _ | exact fun _ => Int.natCast_nonneg _ | exact in_t _ _ _ | exact (in_t _ _ _).un | exact gq_f | exact (show ∀ z ∈ [[A.int _]], z.length = 1 from fun z hz => by simp at hz; subst hz; rfl) | exact hzz | exact (show ((ints out).length + 1) * 8 ≤ 140737488355328 by omega) | exact (show (ints out).length + 1 ≤ maxLen by unfold maxLen; omega)
    case zk =>
    exact Aw.ret ⟨_, .cons (.tmp _) .nil, by simp [ints]; rfl⟩
end Go.Proofs.Ytdiclbgklegelaa

namespace Go.Proofs.Ytdiclbgklegelaa
open Go Go.AL Go.AL.Q
def grP : List Sp → A
  | [] => .sl true .exact []
  | x :: l => .sl false (.own 25) ((x :: l).map Sp.c)
theorem grP_ne {l : List Sp} (h : l ≠ []) : grP l = .sl false (.own 25) (l.map Sp.c) := by
  cases l with
  | nil => exact absurd rfl h
  | cons x l => rfl
theorem grP_under {n : Nat} : ∀ l : List Sp, Under n (grP l)
  | [] => .sl _ _ _ (fun _ h => by cases h)
  | x :: l => .sl _ _ _ fun e he y hy => by
    obtain ⟨s, _, rfl⟩ := List.mem_map.1 he
    exact (Sp.free s y hy).under
theorem grP_le : ∀ l : List Sp, A.Le (.sl l.isEmpty .any (l.map Sp.c)) (grP l)
  | [] => .any _ _ _
  | x :: l => .any _ _ _
theorem outS_ne {l : List Sp} (h : l ≠ []) : outS l = .sl false .exact (l.map Sp.c) := by
  cases l with
  | nil => exact absurd rfl h
  | cons x l => rfl
theorem sps_two (l : List Sp) : ∀ z ∈ l.map Sp.c, z.length = 2 := fun z hz => by obtain ⟨s, _, rfl⟩ := List.mem_map.1 hz; rfl
theorem upn_t (n : Int) (h : 0 ≤ n ∧ n ≤ 1000000) : Ans Try.prog 44 [.int n, .int 100] (.int (takeF n 1)) := by
  have := up_t n 1 (by omega)
  rwa [Int.mul_one] at this
set_option maxRecDepth 100000 in
theorem mixedLaw_t (p : Bool) (races : List NS) (b : Bool) (bits : List Int) (hr : (races.length : Int) ≤ 9223372036854775806) (hrs : ∀ x ∈ races, (x.l.length : Int) * 16 ≤ 140737488351232) (hl : (bits.length : Int) ≤ 9223372036854775806) :
    Ans Try.prog 9 [.sl p .any (races.map NS.c), .sl b .any (ints bits)] (.bool true) := by
  have fr : Free (.sl p .any (races.map NS.c)) := free_map NS.free _ _ _
  have fbt : Free (.sl b .any (ints bits)) := free_ints _ _ _
  have zr : ((races.map NS.c).length : Int) = races.length := by simp
  have hfit : ∀ x ∈ races, x.Fit := fun x hx => by have := hrs x hx; show (x.l.length : Int) ≤ _; omega
  have hK : ((races.getD 0 ⟨false, []⟩).l.length : Int) * 16 ≤ 140737488351232 := by
    cases races with
    | nil => decide
    | cons x l => exact hrs x (List.mem_cons_self ..)
  have g0 : 0 < races.length → (races.map NS.c)[(0 : Int).toNat]? = some (races.getD 0 ⟨false, []⟩).c := fun h => ns_at races h
  have hK0 : races.length = 0 → (races.getD 0 ⟨false, []⟩).l.length = 0 := fun h => by rw [List.length_eq_zero_iff.1 h]; rfl
  obtain ⟨K, hKd⟩ : ∃ K, K = (races.getD 0 ⟨false, []⟩).l.length := ⟨_, rfl⟩
  have z0 : (((races.getD 0 ⟨false, []⟩).l.map Sp.c).length : Int) = K := by rw [hKd]; simp
  rw [← hKd] at hK hK0
  generalize hR0 : races.getD 0 ⟨false, []⟩ = R0 at *
  refine told Try.func9 rfl rfl (Pure.of tab_ok Try.func9 rfl Try.ntmps9 rfl (allC (fr) (all1 (fbt))) (allC (fun _ => rfl) (all1 (fun _ => rfl))) (by first | exact .s _ | assumption | exact .tup _ (by intro x hx; simp only [List.mem_cons, List.not_mem_nil, or_false] at hx; rcases hx with rfl | rfl | rfl | rfl <;> first | exact .s _ | (simp_all; done))) fun E hE => ?_)
  refine Aw.sm tab_ok mb0 [] rfl rfl ?zo ?zk
  case zo =>
    repeat' apply AllP.cons
    all_goals first | exact trivial | exact id | exact rfl | exact fun _ => rfl | exact Nat.le_of_ble_eq_true rfl | exact fun _ => Nat.le_of_ble_eq_true rfl | exact Int.natCast_nonneg _ | exact fun _ => Int.natCast_nonneg _ | exact in_t _ _ _ | exact (in_t _ _ _).un | exact gq_f
  case zk =>
  refine Aw.sm tab_ok mb0 [] rfl rfl ?zo ?zk
  case zo =>
    repeat' apply AllP.cons
    all_goals first | exact trivial | exact id | exact rfl | exact fun _ => rfl | exact Nat.le_of_ble_eq_true rfl | exact fun _ => Nat.le_of_ble_eq_true rfl | exact Int.natCast_nonneg _ | exact fun _ => Int.natCast_nonneg _ | exact in_t _ _ _ | exact (in_t _ _ _).un | exact gq_f
  case zk =>
  refine Aw.seq ?_
  refine Aw.sm tab_ok mb0 [] rfl rfl ?zo ?zk
  case zo =>
    repeat' apply AllP.cons
    all_goals first | exact trivial | exact id | exact rfl | exact fun _ => rfl | exact Nat.le_of_ble_eq_true rfl | exact fun _ => Nat.le_of_ble_eq_true rfl | exact Int.natCast_nonneg _ | exact fun _ => Int.natCast_nonneg _ | exact in_t _ _ _ | exact (in_t _ _ _).un | exact gq_f
  case zk =>
  refine Aw.block (Aw.rounds 0 hE [(0, .sl p .any (races.map NS.c)), (1, .sl b .any (ints bits))] (fun k : Nat => [(5, grP (List.replicate k ⟨0, 100⟩)), (6, .int k)]) (fun _ => []) (fun k => k ≤ K) (fun k => K - k) 0
    (Nat.zero_le _) ⟨⟨.refl _, .refl _, trivial⟩, ⟨.refl _, .refl _, trivial⟩, trivial, Nat.zero_le _⟩ ⟨fr.under, fbt.under, trivial⟩ (fun _ _ => ⟨grP_under _, .s _, trivial⟩) (fun _ _ => trivial) fun k hk => ?_)
  refine Aw.seq ?_
  refine Aw.sm tab_ok mb0 [(6, R0.c)] rfl rfl ?zo ?zk
  case zo =>
    repeat' apply AllP.cons
    all_goals first | exact trivial | exact id | exact rfl | exact fun _ => rfl | exact Nat.le_of_ble_eq_true rfl | exact fun _ => Nat.le_of_ble_eq_true rfl | exact Int.natCast_nonneg _ | exact fun _ => Int.natCast_nonneg _ | exact in_t _ _ _ | exact (in_t _ _ _).un | exact gq_f | exact fun h => g0 (by have := of_decide_eq_true h; omega)
  case zk =>
  refine Aw.cond rfl (fun h1 => Aw.skip ?_) (fun h1 => ?_)
  · have h1 : cond (decide (((races.map NS.c).length : Int) > 0)) (decide ((k : Int) < ((R0.l.map Sp.c).length : Int))) false = true := h1
    have hlt : k < K := by have := of_decide_eq_true (ac2 h1); omega
    have ct := to_t 0 100
    refine Aw.seq (Aw.block ?_)
    by_cases hz : k = 0
    · subst hz
      refine Aw.em tab_ok mb0 [(1, [.agg (Sp.c ⟨0, 100⟩)])] rfl rfl ?zo ?zk
      case zo =>
        repeat' apply AllP.cons
        all_goals first | exact trivial | exact id | exact rfl | exact fun _ => rfl | exact Nat.le_of_ble_eq_true rfl | exact fun _ => Nat.le_of_ble_eq_true rfl | exact Int.natCast_nonneg _ | exact fun _ => Int.natCast_nonneg _ | exact in_t _ _ _ | exact (in_t _ _ _).un | exact gq_f | exact ct | exact (show ∀ z ∈ [] ++ [[A.int _, A.int _]], z.length = 2 from fun z hz => by simp at hz; subst hz; rfl) | exact (by simp only [Ob.of]; decide)
      case zk =>
      refine Aw.em tab_ok mb0 [] rfl rfl ?zo ?zk
      case zo =>
        repeat' apply AllP.cons
        all_goals first | exact trivial | exact id | exact rfl | exact fun _ => rfl | exact Nat.le_of_ble_eq_true rfl | exact fun _ => Nat.le_of_ble_eq_true rfl | exact Int.natCast_nonneg _ | exact fun _ => Int.natCast_nonneg _ | exact in_t _ _ _ | exact (in_t _ _ _).un | exact gq_f | exact (show inR (0 + 1) by simp only [inR]; omega)
      case zk =>
      exact ⟨1, hlt, by omega, ⟨.refl _, .refl _, trivial⟩, ⟨.of_eq rfl, .refl _, trivial⟩, trivial, Nat.zero_le _⟩
    · have hne : List.replicate k (⟨0, 100⟩ : Sp) ≠ [] := fun h => by have := congrArg List.length h; simp at this; omega
      have hlen2 : ((List.replicate k (⟨0, 100⟩ : Sp)).map Sp.c).length = k := by simp
      have hzz := sps_two (List.replicate k ⟨0, 100⟩)
      rw [grP_ne hne]
      refine Aw.em tab_ok mb0 [(1, [.agg (Sp.c ⟨0, 100⟩)])] rfl rfl ?zo ?zk
      case zo =>
        repeat' apply AllP.cons
        all_goals first | exact trivial | exact id | exact rfl | exact fun _ => rfl | exact Nat.le_of_ble_eq_true rfl | exact fun _ => Nat.le_of_ble_eq_true rfl | exact Int.natCast_nonneg _ | exact fun _ => Int.natCast_nonneg _ | exact in_t _ _ _ | exact (in_t _ _ _).un | exact gq_f | exact ct | exact (show ∀ z ∈ [[A.int _, A.int _]], z.length = 2 from fun z hz => by simp at hz; subst hz; rfl) | exact hzz | exact (show (((List.replicate k (⟨0, 100⟩ : Sp)).map Sp.c).length + 1) * 16 ≤ 140737488355328 by omega) | exact (show ((List.replicate k (⟨0, 100⟩ : Sp)).map Sp.c).length + 1 ≤ maxLen by unfold maxLen; omega)
      case zk =>
      refine Aw.em tab_ok mb0 [] rfl rfl ?zo ?zk
      case zo =>
        repeat' apply AllP.cons
        all_goals first | exact trivial | exact id | exact rfl | exact fun _ => rfl | exact Nat.le_of_ble_eq_true rfl | exact fun _ => Nat.le_of_ble_eq_true rfl | exact Int.natCast_nonneg _ | exact fun _ => Int.natCast_nonneg _ | exact in_t _ _ _ | exact (in_t _ _ _).un | exact gq_f | exact inrk k (by omega)
      case zk =>
      exact ⟨k + 1, hlt, by omega, ⟨.refl _, .refl _, trivial⟩, ⟨.of_eq (show grP (List.replicate (k + 1) ⟨0, 100⟩) = A.sl false (.own 25) ((List.replicate k (⟨0, 100⟩ : Sp)).map Sp.c ++ [Sp.c ⟨0, 100⟩]) by rw [grP_ne (by simp), List.replicate_succ' (n := k)]; simp), .refl _, trivial⟩, trivial, Nat.zero_le _⟩
  have h1 : cond (decide (((races.map NS.c).length : Int) > 0)) (decide ((k : Int) < ((R0.l.map Sp.c).length : Int))) false = false := h1
  have hke : k = K := by
    rw [c_and, Bool.and_eq_false_iff, decide_eq_false_iff_not, decide_eq_false_iff_not] at h1
    rcases h1 with h1 | h1
    · have := hK0 (by omega); omega
    · omega
  subst hke
  clear h1 hk
  have hal : (List.replicate k (⟨0, 100⟩ : Sp)).length = k := by simp
  have c1 := Shares_t p (List.replicate k (⟨0, 100⟩ : Sp)).isEmpty races (List.replicate k ⟨0, 100⟩) hr (by rw [hal]; omega) hfit
  have fab : Free (.sl (List.replicate k (⟨0, 100⟩ : Sp)).isEmpty .any ((List.replicate k (⟨0, 100⟩ : Sp)).map Sp.c)) := free_map Sp.free _ _ _
  refine Aw.exit2 ?_
  refine Aw.keep (n := 0) (cst := [(0, .sl p .any (races.map NS.c)), (1, .sl b .any (ints bits))]) (v := [(5, .sl (List.replicate k (⟨0, 100⟩ : Sp)).isEmpty .any ((List.replicate k (⟨0, 100⟩ : Sp)).map Sp.c))]) (Hl := []) hE ⟨fr.under, fbt.under, trivial⟩ ⟨fab.under, trivial⟩ trivial ⟨⟨.refl _, .refl _, trivial⟩, ⟨grP_le _, trivial⟩, trivial, Nat.zero_le _⟩ ?_
  unfold shareR at c1
  cases hok : sharesOk races (List.replicate k ⟨0, 100⟩) with
  | false =>
    rw [hok] at c1
    refine Aw.sm tab_ok mb0 [(2, [.tup [.sl true .exact [], .int 91]])] rfl rfl ?zo ?zk
    case zo =>
      repeat' apply AllP.cons
      all_goals first | exact trivial | exact id | exact rfl | exact fun _ => rfl | exact Nat.le_of_ble_eq_true rfl | exact fun _ => Nat.le_of_ble_eq_true rfl | exact Int.natCast_nonneg _ | exact fun _ => Int.natCast_nonneg _ | exact in_t _ _ _ | exact (in_t _ _ _).un | exact gq_f | exact c1
    case zk =>
    refine Aw.seq ?_
    refine Aw.sm tab_ok mb0 [(5, [.bool true])] rfl rfl ?zo ?zk
    case zo =>
      repeat' apply AllP.cons
      all_goals first | exact trivial | exact id | exact rfl | exact fun _ => rfl | exact Nat.le_of_ble_eq_true rfl | exact fun _ => Nat.le_of_ble_eq_true rfl | exact Int.natCast_nonneg _ | exact fun _ => Int.natCast_nonneg _ | exact in_t _ _ _ | exact (in_t _ _ _).un | exact gq_f | exact fun h => by cases h
    case zk =>
    refine Aw.cond rfl (fun h => ?_) (fun h => absurd h (by decide))
    refine Aw.sm tab_ok mb0 [(8, [.bool true])] rfl rfl ?zo ?zk
    case zo =>
      repeat' apply AllP.cons
      all_goals first | exact trivial | exact id | exact rfl | exact fun _ => rfl | exact Nat.le_of_ble_eq_true rfl | exact fun _ => Nat.le_of_ble_eq_true rfl | exact Int.natCast_nonneg _ | exact fun _ => Int.natCast_nonneg _ | exact in_t _ _ _ | exact (in_t _ _ _).un | exact gq_f | exact fun _ => works_t | exact fun _ _ => rfl | exact fun _ h => absurd h (by decide) | exact fun h => absurd h (by decide)
    case zk =>
    exact Aw.ret ⟨_, .cons (.tmp _) .nil, rfl⟩
  | true =>
  have hin := ShIn.of hok
  have r1 := hin.r1
  have r3 := hin.r3
  have k6 := hin.s6
  have k1 := hin.s1
  rw [hal] at k6 k1
  have hmix := mixC_of (bits := bits) r1
  have tall := told_in r1 hmix (about_agree hin hmix)
  have hall := fun i (hi : i < races.length) => (all_told hin hi).2
  rw [hok, if_pos rfl, if_neg tall.1, outS_ne tall.1] at c1
  have csg := signedL_t p (List.replicate k (⟨0, 100⟩ : Sp)).isEmpty races (List.replicate k ⟨0, 100⟩) hin
  have hnar := narrow_in hin hmix bits
  have hagr := narrow_agree hin hmix bits
  have tnar := told_in r1 hmix hagr
  rw [hal] at hnar hagr tnar
  have c2 := Shares_t p false races (narrowF races bits (mixC bits races.length) k) hr (by rw [narrow_len]; omega) hfit
  unfold shareR at c2
  rw [hnar.to, if_pos rfl, if_neg tnar.1, outS_ne tnar.1] at c2
  have htb := fun j (hj : j < k) => trueN_in hin hmix bits (k := j) (by rw [hal]; exact hj)
  have htn := fun j (hj : j < k) => trueN_bd hin hmix bits (k := j) (by rw [hal]; exact hj)
  have hsg := fun r j hr hj => hin.sign r j hr (by rw [hal]; exact hj)
  have hln := fun r hr => hin.len r hr
  rw [hal] at hln
  have hal2 := tall.2.1
  have htl := tnar.2.1
  have ht2 := tnar.2.2
  have cmx := mixedL_t races.length r1 r3 b bits hl
  have cmx : Ans Try.prog 42 [.int ((races.map NS.c).length : Int), .sl b .any (ints bits)] (.sl false .any (ints (mixC bits races.length))) := by rw [zr]; exact cmx
  have hM := hmix.len
  have hMg := hmix.get
  generalize mixC bits races.length = M at *
  generalize shareF races (List.replicate k ⟨0, 100⟩) = all at *
  generalize hnn : shareF races (narrowF races bits M k) = told at *
  generalize hab : (List.replicate k (⟨0, 100⟩ : Sp)) = about at *
  have zab : ((about.map Sp.c).length : Int) = k := by rw [← hab]; simp
  have zall : ((all.map Sp.c).length : Int) = races.length := by rw [List.length_map, hal2]
  have ztold : ((told.map Sp.c).length : Int) = races.length := by rw [List.length_map, htl]
  refine Aw.sm tab_ok mb0 [(2, [.tup [.sl false .exact (all.map Sp.c), .int 0]])] rfl rfl ?zo ?zk
  case zo =>
    repeat' apply AllP.cons
    all_goals first | exact trivial | exact id | exact rfl | exact fun _ => rfl | exact Nat.le_of_ble_eq_true rfl | exact fun _ => Nat.le_of_ble_eq_true rfl | exact Int.natCast_nonneg _ | exact fun _ => Int.natCast_nonneg _ | exact in_t _ _ _ | exact (in_t _ _ _).un | exact gq_f | exact c1
  case zk =>
  refine Aw.seq ?_
  refine Aw.sm tab_ok mb0 [(5, [.bool true])] rfl rfl ?zo ?zk
  case zo =>
    repeat' apply AllP.cons
    all_goals first | exact trivial | exact id | exact rfl | exact fun _ => rfl | exact Nat.le_of_ble_eq_true rfl | exact fun _ => Nat.le_of_ble_eq_true rfl | exact Int.natCast_nonneg _ | exact fun _ => Int.natCast_nonneg _ | exact in_t _ _ _ | exact (in_t _ _ _).un | exact gq_f | exact fun _ => csg
  case zk =>
  refine Aw.cond rfl (fun h => absurd h (by decide)) (fun h => Aw.skip ?_)
  refine Aw.sm tab_ok mb0 [(3, [.sl false .any (ints M)])] rfl rfl ?zo ?zk
  case zo =>
    repeat' apply AllP.cons
    all_goals first | exact trivial | exact id | exact rfl | exact fun _ => rfl | exact Nat.le_of_ble_eq_true rfl | exact fun _ => Nat.le_of_ble_eq_true rfl | exact Int.natCast_nonneg _ | exact fun _ => Int.natCast_nonneg _ | exact in_t _ _ _ | exact (in_t _ _ _).un | exact gq_f | exact cmx
  case zk =>
  refine Aw.sm tab_ok mb0 [] rfl rfl ?zo ?zk
  case zo =>
    repeat' apply AllP.cons
    all_goals first | exact trivial | exact id | exact rfl | exact fun _ => rfl | exact Nat.le_of_ble_eq_true rfl | exact fun _ => Nat.le_of_ble_eq_true rfl | exact Int.natCast_nonneg _ | exact fun _ => Int.natCast_nonneg _ | exact in_t _ _ _ | exact (in_t _ _ _).un | exact gq_f
  case zk =>
  have fall : Free (.sl false .exact (all.map Sp.c)) := free_map Sp.free _ _ _
  have fM : Free (.sl false .any (ints M)) := free_ints _ _ _
  refine Aw.seq ?_
  refine Aw.sm tab_ok mb0 [] rfl rfl ?zo ?zk
  case zo =>
    repeat' apply AllP.cons
    all_goals first | exact trivial | exact id | exact rfl | exact fun _ => rfl | exact Nat.le_of_ble_eq_true rfl | exact fun _ => Nat.le_of_ble_eq_true rfl | exact Int.natCast_nonneg _ | exact fun _ => Int.natCast_nonneg _ | exact in_t _ _ _ | exact (in_t _ _ _).un | exact gq_f
  case zk =>
  refine Aw.block (Aw.rounds 0 hE [(0, .sl p .any (races.map NS.c)), (1, .sl b .any (ints bits)), (5, .sl about.isEmpty .any (about.map Sp.c)), (7, .sl false .exact (all.map Sp.c)), (9, .sl false .any (ints M))] (fun j : Nat => [(10, grP (narrowF races bits M j)), (11, .int j)]) (fun _ => []) (fun j => j ≤ k) (fun j => k - j) 0
    (Nat.zero_le _) ⟨⟨.refl _, .refl _, .refl _, .refl _, .refl _, trivial⟩, ⟨.refl _, .refl _, trivial⟩, trivial, Nat.zero_le _⟩ ⟨fr.under, fbt.under, fab.under, fall.under, fM.under, trivial⟩ (fun _ _ => ⟨grP_under _, .s _, trivial⟩) (fun _ _ => trivial) fun j hj => ?_)
  refine Aw.seq ?_
  refine Aw.sm tab_ok mb0 [] rfl rfl ?zo ?zk
  case zo =>
    repeat' apply AllP.cons
    all_goals first | exact trivial | exact id | exact rfl | exact fun _ => rfl | exact Nat.le_of_ble_eq_true rfl | exact fun _ => Nat.le_of_ble_eq_true rfl | exact Int.natCast_nonneg _ | exact fun _ => Int.natCast_nonneg _ | exact in_t _ _ _ | exact (in_t _ _ _).un | exact gq_f
  case zk =>
  refine Aw.cond rfl (fun h1 => Aw.skip ?_) (fun h1 => ?_)
  · have hjk : j < k := by
      have := of_decide_eq_true (show decide ((j : Int) < ((about.map Sp.c).length : Int)) = true from h1); omega
    refine Aw.seq (Aw.block ?_)
    refine Aw.sm tab_ok mb0 [] rfl rfl ?zo ?zk
    case zo =>
      repeat' apply AllP.cons
      all_goals first | exact trivial | exact id | exact rfl | exact fun _ => rfl | exact Nat.le_of_ble_eq_true rfl | exact fun _ => Nat.le_of_ble_eq_true rfl | exact Int.natCast_nonneg _ | exact fun _ => Int.natCast_nonneg _ | exact in_t _ _ _ | exact (in_t _ _ _).un | exact gq_f
    case zk =>
    refine Aw.seq ?_
    refine Aw.sm tab_ok mb0 [] rfl rfl ?zo ?zk
    case zo =>
      repeat' apply AllP.cons
      all_goals first | exact trivial | exact id | exact rfl | exact fun _ => rfl | exact Nat.le_of_ble_eq_true rfl | exact fun _ => Nat.le_of_ble_eq_true rfl | exact Int.natCast_nonneg _ | exact fun _ => Int.natCast_nonneg _ | exact in_t _ _ _ | exact (in_t _ _ _).un | exact gq_f
    case zk =>
    refine Aw.block (Aw.rounds 0 hE [(0, .sl p .any (races.map NS.c)), (1, .sl b .any (ints bits)), (5, .sl about.isEmpty .any (about.map Sp.c)), (7, .sl false .exact (all.map Sp.c)), (9, .sl false .any (ints M)), (10, grP (narrowF races bits M j)), (11, .int j)] (fun r : Nat => [(12, .int (trueN races bits M j r)), (13, .int r)]) (fun _ => []) (fun r => r ≤ races.length) (fun r => races.length - r) 0
      (Nat.zero_le _) ⟨⟨.refl _, .refl _, .refl _, .refl _, .refl _, .refl _, .refl _, trivial⟩, ⟨.refl _, .refl _, trivial⟩, trivial, Nat.zero_le _⟩ ⟨fr.under, fbt.under, fab.under, fall.under, fM.under, grP_under _, .s _, trivial⟩ (fun _ _ => ⟨.s _, .s _, trivial⟩) (fun _ _ => trivial) fun r hr => ?_)
    refine Aw.seq ?_
    refine Aw.sm tab_ok mb0 [] rfl rfl ?zo ?zk
    case zo =>
      repeat' apply AllP.cons
      all_goals first | exact trivial | exact id | exact rfl | exact fun _ => rfl | exact Nat.le_of_ble_eq_true rfl | exact fun _ => Nat.le_of_ble_eq_true rfl | exact Int.natCast_nonneg _ | exact fun _ => Int.natCast_nonneg _ | exact in_t _ _ _ | exact (in_t _ _ _).un | exact gq_f
    case zk =>
    refine Aw.cond rfl (fun h2 => Aw.skip ?_) (fun h2 => ?_)
    · have hrl : r < races.length := by
        have := of_decide_eq_true (show decide ((r : Int) < ((races.map NS.c).length : Int)) = true from h2); omega
      have gM : (ints M)[r]? = some [.int (M.getD r 0)] := ints_getD (by omega)
      have gR := ns_at races hrl
      have gs := sp_at (races.getD r ⟨false, []⟩).l (r := j) (by rw [hln r hrl]; exact hjk)
      have hs := hsg r j hrl hjk
      have cp := pick_t b bits (3 * (j : Int) + r + 2) (by omega)
      have hts : trueN races bits M j (r + 1) = trueN races bits M j r + M.getD r 0 * chosenF ((races.getD r ⟨false, []⟩).l.getD j sp0).lo ((races.getD r ⟨false, []⟩).l.getD j sp0).hi (pickF bits (3 * j + r + 2)) := rfl
      obtain ⟨b1, b2, b3, b4⟩ := htb j hjk r hr
      obtain ⟨d1, d2, d3, d4⟩ := htb j hjk (r + 1) hrl
      have hg := hMg r
      generalize pickF bits (3 * (j : Int) + r + 2) = pk at *
      generalize (races.getD r ⟨false, []⟩) = R at *
      generalize R.l.getD j sp0 = s at *
      have cc := chosen_t s.lo s.hi pk hs.1 (by omega)
      have hcb := chosen_in (n := pk) hs.2.1
      generalize chosenF s.lo s.hi pk = c at *
      generalize trueN races bits M j r = T at *
      generalize M.getD r 0 = x at *
      have xb : 0 ≤ x * c := Int.mul_nonneg hg.1 (by omega)
      have xb2 : x * c ≤ 100 * 100 := Int.mul_le_mul hg.2 (by omega) (by omega) (by decide)
      have ox : inR (x * c) := by simp only [inR]; omega
      have ot : inR (T + x * c) := by simp only [inR]; omega
      refine Aw.seq (Aw.block ?_)
      refine Aw.ed tab_ok mixed mb0 [(3, [.int x]), (7, R.c), (10, s.c), (15, R.c), (18, s.c), (27, [.int pk]), (28, [.int c])] rfl (by kernel_rfl) rfl rfl ?zo ?zk
      case zo =>
        repeat' apply AllP.cons
        all_goals first | exact trivial | exact id | exact rfl | exact fun _ => rfl | exact Nat.le_of_ble_eq_true rfl | exact fun _ => Nat.le_of_ble_eq_true rfl | exact Int.natCast_nonneg _ | exact fun _ => Int.natCast_nonneg _ | exact in_t _ _ _ | exact (in_t _ _ _).un | exact gq_f | exact gM | exact gR | exact gs | exact cp | exact cc | exact ox | exact ot | exact (by simp only [Ob.of, inR]; omega)
      case zk =>
      refine Aw.em tab_ok mb0 [] rfl rfl ?zo ?zk
      case zo =>
        repeat' apply AllP.cons
        all_goals first | exact trivial | exact id | exact rfl | exact fun _ => rfl | exact Nat.le_of_ble_eq_true rfl | exact fun _ => Nat.le_of_ble_eq_true rfl | exact Int.natCast_nonneg _ | exact fun _ => Int.natCast_nonneg _ | exact in_t _ _ _ | exact (in_t _ _ _).un | exact gq_f | exact inrk r (by omega)
      case zk =>
      exact ⟨r + 1, hrl, by omega, ⟨.refl _, .refl _, .refl _, .refl _, .refl _, .refl _, .refl _, trivial⟩, ⟨.of_eq (by rw [hts]; rfl), .refl _, trivial⟩, trivial, Nat.zero_le _⟩
    have hre : r = races.length := by
      have := of_decide_eq_false (show decide ((r : Int) < ((races.map NS.c).length : Int)) = false from h2); omega
    subst hre
    obtain ⟨_, _, t3, t4⟩ := htn j hjk
    have hsu := narrow_succ races bits M j
    have hsa : seenAt races bits M j = ⟨downF (trueN races bits M j races.length) 100, takeF (trueN races bits M j races.length) 1⟩ := rfl
    have hnl := narrow_len races bits M j
    generalize trueN races bits M j races.length = T at *
    generalize narrowF races bits M j = N at *
    have cd := down_t T 100 (by decide) (by decide) (by omega)
    have cu := upn_t T (by omega)
    rw [hsa] at hsu
    generalize downF T 100 = dT at *
    generalize takeF T 1 = uT at *
    have ct := to_t dT uT
    refine Aw.exit2 ?_
    by_cases hz : N = []
    · subst hz
      refine Aw.em tab_ok mb0 [(2, [.int dT]), (4, [.int uT]), (5, [.agg (Sp.c ⟨dT, uT⟩)])] rfl rfl ?zo ?zk
      case zo =>
        repeat' apply AllP.cons
        all_goals first | exact trivial | exact id | exact rfl | exact fun _ => rfl | exact Nat.le_of_ble_eq_true rfl | exact fun _ => Nat.le_of_ble_eq_true rfl | exact Int.natCast_nonneg _ | exact fun _ => Int.natCast_nonneg _ | exact in_t _ _ _ | exact (in_t _ _ _).un | exact gq_f | exact cd | exact cu | exact ct | exact (show ∀ z ∈ [] ++ [[A.int _, A.int _]], z.length = 2 from fun z hz => by simp at hz; subst hz; rfl) | exact (by simp only [Ob.of]; decide)
      case zk =>
      refine Aw.em tab_ok mb0 [] rfl rfl ?zo ?zk
      case zo =>
        repeat' apply AllP.cons
        all_goals first | exact trivial | exact id | exact rfl | exact fun _ => rfl | exact Nat.le_of_ble_eq_true rfl | exact fun _ => Nat.le_of_ble_eq_true rfl | exact Int.natCast_nonneg _ | exact fun _ => Int.natCast_nonneg _ | exact in_t _ _ _ | exact (in_t _ _ _).un | exact gq_f | exact inrk j (by omega)
      case zk =>
      exact ⟨j + 1, hjk, by omega, ⟨.refl _, .refl _, .refl _, .refl _, .refl _, trivial⟩, ⟨.of_eq (by rw [hsu]; rfl), .refl _, trivial⟩, trivial, Nat.zero_le _⟩
    · have hlen2 : (N.map Sp.c).length = j := by rw [List.length_map]; exact hnl
      have hzz := sps_two N
      rw [grP_ne hz]
      refine Aw.em tab_ok mb0 [(2, [.int dT]), (4, [.int uT]), (5, [.agg (Sp.c ⟨dT, uT⟩)])] rfl rfl ?zo ?zk
      case zo =>
        repeat' apply AllP.cons
        all_goals first | exact trivial | exact id | exact rfl | exact fun _ => rfl | exact Nat.le_of_ble_eq_true rfl | exact fun _ => Nat.le_of_ble_eq_true rfl | exact Int.natCast_nonneg _ | exact fun _ => Int.natCast_nonneg _ | exact in_t _ _ _ | exact (in_t _ _ _).un | exact gq_f | exact cd | exact cu | exact ct | exact (show ∀ z ∈ [[A.int _, A.int _]], z.length = 2 from fun z hz => by simp at hz; subst hz; rfl) | exact hzz | exact (show ((N.map Sp.c).length + 1) * 16 ≤ 140737488355328 by omega) | exact (show (N.map Sp.c).length + 1 ≤ maxLen by unfold maxLen; omega)
      case zk =>
      refine Aw.em tab_ok mb0 [] rfl rfl ?zo ?zk
      case zo =>
        repeat' apply AllP.cons
        all_goals first | exact trivial | exact id | exact rfl | exact fun _ => rfl | exact Nat.le_of_ble_eq_true rfl | exact fun _ => Nat.le_of_ble_eq_true rfl | exact Int.natCast_nonneg _ | exact fun _ => Int.natCast_nonneg _ | exact in_t _ _ _ | exact (in_t _ _ _).un | exact gq_f | exact inrk j (by omega)
      case zk =>
      exact ⟨j + 1, hjk, by omega, ⟨.refl _, .refl _, .refl _, .refl _, .refl _, trivial⟩, ⟨.of_eq (show grP (narrowF races bits M (j + 1)) = A.sl false (.own 25) (N.map Sp.c ++ [Sp.c ⟨dT, uT⟩]) by rw [hsu, grP_ne (by simp)]; simp), .refl _, trivial⟩, trivial, Nat.zero_le _⟩
  have hje : j = k := by
    have := of_decide_eq_false (show decide ((j : Int) < ((about.map Sp.c).length : Int)) = false from h1); omega
  subst hje
  have hne : narrowF races bits M j ≠ [] := fun h => by have := narrow_len races bits M j; rw [h] at this; simp at this; omega
  generalize narrowF races bits M j = N at *
  have fN : Free (.sl false .any (N.map Sp.c)) := free_map Sp.free _ _ _
  refine Aw.exit2 ?_
  refine Aw.keep (n := 0) (cst := [(0, .sl p .any (races.map NS.c)), (7, .sl false .exact (all.map Sp.c)), (9, .sl false .any (ints M))]) (v := [(10, .sl false .any (N.map Sp.c))]) (Hl := []) hE ⟨fr.under, fall.under, fM.under, trivial⟩ ⟨fN.under, trivial⟩ trivial ⟨⟨.refl _, .refl _, .refl _, trivial⟩, ⟨by rw [grP_ne hne]; exact .any _ _ _, trivial⟩, trivial, Nat.zero_le _⟩ ?_
  refine Aw.sm tab_ok mb0 [(2, [.tup [.sl false .exact (told.map Sp.c), .int 0]])] rfl rfl ?zo ?zk
  case zo =>
    repeat' apply AllP.cons
    all_goals first | exact trivial | exact id | exact rfl | exact fun _ => rfl | exact Nat.le_of_ble_eq_true rfl | exact fun _ => Nat.le_of_ble_eq_true rfl | exact Int.natCast_nonneg _ | exact fun _ => Int.natCast_nonneg _ | exact in_t _ _ _ | exact (in_t _ _ _).un | exact gq_f | exact c2
  case zk =>
  refine Aw.seq ?_
  refine Aw.sm tab_ok mb0 [] rfl rfl ?zo ?zk
  case zo =>
    repeat' apply AllP.cons
    all_goals first | exact trivial | exact id | exact rfl | exact fun _ => rfl | exact Nat.le_of_ble_eq_true rfl | exact fun _ => Nat.le_of_ble_eq_true rfl | exact Int.natCast_nonneg _ | exact fun _ => Int.natCast_nonneg _ | exact in_t _ _ _ | exact (in_t _ _ _).un | exact gq_f
  case zk =>
  refine Aw.cond rfl (fun h => ?_) (fun h => Aw.skip ?_)
  · exfalso
    have h : cond (((told.map Sp.c).length : Int) != ((races.map NS.c).length : Int)) true (((all.map Sp.c).length : Int) != ((races.map NS.c).length : Int)) = true := h
    rw [ztold, zall, zr] at h; simp at h
  clear h
  have ftold : Free (.sl false .exact (told.map Sp.c)) := free_map Sp.free _ _ _
  refine Aw.seq ?_
  refine Aw.sm tab_ok mb0 [] rfl rfl ?zo ?zk
  case zo =>
    repeat' apply AllP.cons
    all_goals first | exact trivial | exact id | exact rfl | exact fun _ => rfl | exact Nat.le_of_ble_eq_true rfl | exact fun _ => Nat.le_of_ble_eq_true rfl | exact Int.natCast_nonneg _ | exact fun _ => Int.natCast_nonneg _ | exact in_t _ _ _ | exact (in_t _ _ _).un | exact gq_f
  case zk =>
  refine Aw.block (Aw.rounds 0 hE [(0, .sl p .any (races.map NS.c)), (7, .sl false .exact (all.map Sp.c)), (9, .sl false .any (ints M)), (14, .sl false .exact (told.map Sp.c))] (fun r : Nat => [(15, .int r)]) (fun _ => []) (fun r => r ≤ races.length) (fun r => races.length - r) 0
    (Nat.zero_le _) ⟨⟨.refl _, .refl _, .refl _, .refl _, trivial⟩, ⟨.refl _, trivial⟩, trivial, Nat.zero_le _⟩ ⟨fr.under, fall.under, fM.under, ftold.under, trivial⟩ (fun _ _ => ⟨.s _, trivial⟩) (fun _ _ => trivial) fun r hr => ?_)
  refine Aw.seq ?_
  refine Aw.sm tab_ok mb0 [] rfl rfl ?zo ?zk
  case zo =>
    repeat' apply AllP.cons
    all_goals first | exact trivial | exact id | exact rfl | exact fun _ => rfl | exact Nat.le_of_ble_eq_true rfl | exact fun _ => Nat.le_of_ble_eq_true rfl | exact Int.natCast_nonneg _ | exact fun _ => Int.natCast_nonneg _ | exact in_t _ _ _ | exact (in_t _ _ _).un | exact gq_f
  case zk =>
  refine Aw.cond rfl (fun h1 => Aw.skip ?_) (fun h1 => ?_)
  · have hrl : r < races.length := by
      have := of_decide_eq_true (show decide ((r : Int) < ((told.map Sp.c).length : Int)) = true from h1); omega
    have gT := sp_at told (r := r) (by omega)
    have gA := sp_at all (r := r) (by omega)
    have gM : (ints M)[r]? = some [.int (M.getD r 0)] := ints_getD (by omega)
    have hT := ht2 r hrl
    have hA := hall r hrl
    generalize told.getD r sp0 = s at *
    generalize all.getD r sp0 = a at *
    generalize M.getD r 0 = x at *
    have ch : Ans Try.prog 40 [.agg s.c, .int x] (.bool true) := (wi_iff.2 ⟨hT.1, hT.2.1⟩ : wi x s.lo s.hi = true) ▸ holds_l s x
    have cs : Ans Try.prog 45 [.agg s.c, .int 0, .int 100] (.bool true) := (pct_iff.2 (by omega) : spannedF s.lo s.hi 0 100 = true) ▸ rspanned_t s 0 100
    have ct0 := to_t 0 100
    have ct1 := to_t 100 100
    refine Aw.seq (Aw.block ?_)
    refine Aw.seq ?_
    refine Aw.sd tab_ok mixed mb0 [(2, s.c), (6, [.int x]), (8, [.bool true]), (13, s.c), (15, [.bool true])] rfl (by kernel_rfl) rfl rfl ?zo ?zk
    case zo =>
      repeat' apply AllP.cons
      all_goals first | exact trivial | exact id | exact rfl | exact fun _ => rfl | exact Nat.le_of_ble_eq_true rfl | exact fun _ => Nat.le_of_ble_eq_true rfl | exact Int.natCast_nonneg _ | exact fun _ => Int.natCast_nonneg _ | exact in_t _ _ _ | exact (in_t _ _ _).un | exact gq_f | exact gT | exact gM | exact ch | exact fun _ => gT | exact fun _ => cs
    case zk =>
    refine Aw.cond rfl (fun h => absurd h (by decide)) (fun h => Aw.skip ?_)
    refine Aw.sm tab_ok mb0 [] rfl rfl ?zo ?zk
    case zo =>
      repeat' apply AllP.cons
      all_goals first | exact trivial | exact id | exact rfl | exact fun _ => rfl | exact Nat.le_of_ble_eq_true rfl | exact fun _ => Nat.le_of_ble_eq_true rfl | exact Int.natCast_nonneg _ | exact fun _ => Int.natCast_nonneg _ | exact in_t _ _ _ | exact (in_t _ _ _).un | exact gq_f
    case zk =>
    refine Aw.sd tab_ok mixed mb0 [(5, a.c), (7, [.agg (Sp.c ⟨0, 100⟩)]), (8, [.bool (!(a == ⟨0, 100⟩))]), (16, a.c), (18, [.agg (Sp.c ⟨100, 100⟩)]), (19, [.bool (!(a == ⟨100, 100⟩))])] rfl (by kernel_rfl) rfl rfl ?zo ?zk
    case zo =>
      repeat' apply AllP.cons
      all_goals first | exact trivial | exact id | exact rfl | exact fun _ => rfl | exact Nat.le_of_ble_eq_true rfl | exact fun _ => Nat.le_of_ble_eq_true rfl | exact Int.natCast_nonneg _ | exact fun _ => Int.natCast_nonneg _ | exact in_t _ _ _ | exact (in_t _ _ _).un | exact gq_f | exact fun _ => gA | exact fun _ => ct0 | exact fun _ => ct1 | exact fun _ => neSp _ _ a ⟨0, 100⟩ | exact fun _ => neSp _ _ a ⟨100, 100⟩ | exact fun _ _ => rfl | exact gq_c | exact fun h1 h2 => gq_c h1 h2
    case zk =>
    refine Aw.cond rfl (fun h => ?_) (fun h => Aw.skip ?_)
    · exfalso
      have h : cond (cond (decide (((races.map NS.c).length : Int) > 1)) (!(a == ⟨0, 100⟩)) false) true (cond (((races.map NS.c).length : Int) == 1) (!(a == ⟨100, 100⟩)) false) = true := h
      rw [zr] at h
      by_cases h1 : races.length = 1
      · rw [if_pos h1] at hA
        rw [hA, h1] at h; exact absurd h (by decide)
      · rw [if_neg h1] at hA
        have e1 : ((races.length : Int) == 1) = false := by simp; omega
        rw [hA, e1] at h
        cases hd : decide ((races.length : Int) > 1) <;> rw [hd] at h <;> exact absurd h (by decide)
    refine Aw.em tab_ok mb0 [] rfl rfl ?zo ?zk
    case zo =>
      repeat' apply AllP.cons
      all_goals first | exact trivial | exact id | exact rfl | exact fun _ => rfl | exact Nat.le_of_ble_eq_true rfl | exact fun _ => Nat.le_of_ble_eq_true rfl | exact Int.natCast_nonneg _ | exact fun _ => Int.natCast_nonneg _ | exact in_t _ _ _ | exact (in_t _ _ _).un | exact gq_f | exact inrk r (by omega)
    case zk =>
    exact ⟨r + 1, hrl, by omega, ⟨.refl _, .refl _, .refl _, .refl _, trivial⟩, ⟨.refl _, trivial⟩, trivial, Nat.zero_le _⟩
  refine Aw.exit2 ?_
  refine Aw.sm tab_ok mb0 [(0, [.bool true])] rfl rfl ?zo ?zk
  case zo =>
    repeat' apply AllP.cons
    all_goals first | exact trivial | exact id | exact rfl | exact fun _ => rfl | exact Nat.le_of_ble_eq_true rfl | exact fun _ => Nat.le_of_ble_eq_true rfl | exact Int.natCast_nonneg _ | exact fun _ => Int.natCast_nonneg _ | exact in_t _ _ _ | exact (in_t _ _ _).un | exact gq_f | exact works_t
  case zk =>
  exact Aw.ret ⟨_, .cons (.tmp _) .nil, rfl⟩
end Go.Proofs.Ytdiclbgklegelaa

namespace Go.Proofs.Ytdiclbgklegelaa
open Go Go.AL Go.ChangeShapes Go.WideShapes Go.ChangeAt Go.RowKit
set_option maxRecDepth 100000 in
theorem stockMixed_lifted (os : Os) (started : os.Started) (H : Type) (enc : TypeId × Value → H) :
    ReturnsInHanded {} Try.checked os 9 .any (Rows.stockMixedSpec.pre6 enc Try.prog Try.f9 [] false) (Rows.stockMixedSpec.post enc Try.prog Try.f9 false true false false) := by
  refine lifted2 (tb := 4) (C := Try.checked) own started (by kernel_rfl) Try.func9
    (ChangeSpec.witness6 (enc := enc) (C := Try.checked) false ⟨#[], #[.slice none 0 0, .slice none 0 0], []⟩ 8 (by kernel_rfl) (by kernel_rfl) (by kernel_rfl) (by kernel_rfl))
    laidOut ?_ rfl rfl (by kernel_rfl) uBool ?_ ?_
  · rw [Try.params9]; exact all2t (p := fun t => Try.prog.readableRec t = true ∧ t < Try.prog.types.size) t31 t37
  · intro ds hd
    rw [Try.params9] at hd
    match ds, hd with
    | [d0, d1], _ => rfl
  · intro W base args ds p hval hA hwt
    rw [Try.params9] at hA hval
    obtain ⟨v0, v1, d0, d1, p0, p1, rfl, rfl, rfl, h0, h1⟩ := trodAll_two hA
    obtain ⟨b0, y0, q0, s0, z0⟩ := arg_signs (φ := fun _ => none) (hval 0 31 v0 rfl rfl) h0 fun k hk => hwt k (List.mem_append.2 (.inl hk))
    obtain ⟨b1, y1, q1, s1⟩ := arg_ints (φ := fun _ => none) (hval 1 37 v1 rfl rfl) h1 fun k hk => hwt k (List.mem_append.2 (.inr (List.mem_append.2 (.inl hk))))
    exact ⟨_, _, vrs2 q0 q1, mixedLaw_t b0 y0 b1 y1 s0 z0 s1⟩
theorem stockMixed_holds : Rows.StockMixedSaid :=
  OpenClaim.holds_of_wide 9 Try.f9 rfl rfl rfl rfl rfl rfl rfl ⟨rfl, rfl, rfl, rfl, rfl⟩ rfl rfl rfl rfl rfl (by kernel_rfl) Try.func9 (by kernel_rfl)
    (of_decide_eq_true (by kernel_rfl)) (by unfold Func.isWrapper; first | (rw [if_pos (by decide +kernel)]; kernel_rfl) | (rw [if_neg (by decide +kernel)]; exact ⟨rfl, rfl⟩))
    (fun os started H enc _ => stockMixed_lifted os started H enc)
end Go.Proofs.Ytdiclbgklegelaa

