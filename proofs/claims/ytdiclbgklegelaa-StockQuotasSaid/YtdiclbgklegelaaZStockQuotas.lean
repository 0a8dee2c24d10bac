/- StockQuotas holds: Check, Quota and First of the stock answer as the specification's do. No condition. -/
import Derived.Test.YtdiclbgklegelaaK6
set_option linter.all false
namespace Go.AL
open Go Go.RowKit Go.ChangeShapes Go.WideShapes Go.ChangeAt
section
variable {H : Type} {enc : TypeId × Value → H} {P : Program} {w : World} {base : Nat} {held : Bool} {φ : Names}
def CellsAre (φ : Names) (w : World) (az : List A) (cs : List Value) : Prop :=
  cs.length = az.length ∧ ∀ i, i < az.length → VR φ (allZ w) w (az.getD i .un) (cs.getD i undef) ∧ (cs.getD i undef).oneCell' = true
theorem CellsAre.nil : CellsAre φ w [] [] := ⟨rfl, fun i h => by simp at h⟩
theorem CellsAre.one {a : A} {v : Value} (h : VR φ (allZ w) w a v) (h1 : v.oneCell' = true) : CellsAre φ w [a] [v] := ⟨rfl, fun i hi => by
  have : i = 0 := by simp at hi; exact hi
  subst this; exact ⟨h, h1⟩⟩
theorem CellsAre.app {az bz : List A} {cs ds : List Value} (h : CellsAre φ w az cs) (k : CellsAre φ w bz ds) : CellsAre φ w (az ++ bz) (cs ++ ds) := by
  refine ⟨by simp [h.1, k.1], fun i hi => ?_⟩
  by_cases h1 : i < az.length
  · have := h.2 i h1
    rw [show (az ++ bz).getD i .un = az.getD i .un by simp [List.getD_eq_getElem?_getD, List.getElem?_append, h1],
      show (cs ++ ds).getD i undef = cs.getD i undef by simp [List.getD_eq_getElem?_getD, List.getElem?_append, h.1, h1]]
    exact this
  · have hi2 : i - az.length < bz.length := by simp only [List.length_append] at hi; omega
    have := k.2 (i - az.length) hi2
    rw [show (az ++ bz).getD i .un = bz.getD (i - az.length) .un by simp [List.getD_eq_getElem?_getD, List.getElem?_append, h1],
      show (cs ++ ds).getD i undef = ds.getD (i - az.length) undef by simp [List.getD_eq_getElem?_getD, List.getElem?_append, h.1, h1]]
    exact this
theorem CellsAre.agg {az : List A} {cs : List Value} (h : CellsAre φ w az cs) : VR φ (allZ w) w (.agg az) (.agg cs.toArray) := by
  have e : ∀ i, cs.toArray.getD i undef = cs.getD i undef := fun i => by simp [Array.getD_eq_getD_getElem?, List.getD_eq_getElem?_getD]
  refine .agg _ _ (by simp [h.1]) (fun i hi => ?_) fun i hi => ?_
  · rw [e]; exact (h.2 i hi).2
  · rw [e]; exact (h.2 i hi).1
def Reads (enc : TypeId × Value → H) (P : Program) (w : World) (base : Nat) (held : Bool) (φ : Names) (e sz : Nat) {α : Type} (c : α → List A) (Q : α → Prop) : Prop :=
  ∀ n cs y, DataW.trod enc P w base (fun _ => true) held n e cs = some y → (∀ k ∈ y.1.weights P e, k ≤ reachBytes) → ∃ a : α, Q a ∧ (c a).length = sz ∧ CellsAre φ w (c a) cs
theorem Reads.imp {e sz : Nat} {α β : Type} {c : α → List A} {d : β → List A} {Q : α → Prop} {R : β → Prop} (h : Reads enc P w base held φ e sz c Q) (k : ∀ a, Q a → ∃ b, R b ∧ d b = c a) : Reads enc P w base held φ e sz d R := fun n cs y hy hw => by
  obtain ⟨a, q, l, r⟩ := h n cs y hy hw
  obtain ⟨b, q2, e2⟩ := k a q
  exact ⟨b, q2, by rw [e2]; exact l, by rw [e2]; exact r⟩
theorem Reads.int {e : Nat} (he : P.underlying e = some (.int .i64)) : Reads enc P w base held φ e 1 (fun n : Int => [A.int n]) fun _ => True := fun n cs y h _ => by
  obtain ⟨z, rfl, _, _⟩ := DataW.trod_int he h
  exact ⟨z, trivial, rfl, .one (.s _) rfl⟩
theorem weightsAll_at {e : Nat} : ∀ {l : List (DataW H)} {d : DataW H}, d ∈ l → ∀ k ∈ d.weights P e, k ∈ DataW.weightsAll P e l
  | x :: l, d, hm, k, hk => by
    rw [DataW.weightsAll, List.mem_append]
    rcases List.mem_cons.1 hm with rfl | hm
    · exact .inl hk
    · exact .inr (weightsAll_at hm k hk)
theorem cells_spot {a : Addr} {n : Nat} {cs : List Value} (h : w.cells? base a n = some cs) (hn : 0 < n) : a.spot = none := by
  obtain ⟨hl, hc⟩ := cells_at h
  have h0 := hc 0 hn
  rw [List.getElem?_eq_getElem (by omega)] at h0
  have := World.cell?_spot h0
  rwa [show a.add 0 = a from by unfold Addr.add; simp] at this
theorem told_list {α : Type} {c : α → List A} {Q : α → Prop} {R : α → Nat → Prop} (n : Nat) (h : ∀ i, i < n → ∃ a, Q a ∧ R a i) : ∃ l : List α, l.length = n ∧ (∀ a ∈ l, Q a) ∧ ∀ i (hi : i < l.length), R l[i] i := by
  induction n with
  | zero => exact ⟨[], rfl, fun _ h => by simp at h, fun i hi => by simp at hi⟩
  | succ n ih =>
    obtain ⟨l, hl, hq, hr⟩ := ih fun i hi => h i (by omega)
    obtain ⟨a, qa, ra⟩ := h n (by omega)
    refine ⟨l ++ [a], by simp [hl], fun x hx => ?_, fun i hi => ?_⟩
    · rcases List.mem_append.1 hx with hx | hx
      · exact hq x hx
      · rw [List.mem_singleton.1 hx]; exact qa
    · by_cases h1 : i < l.length
      · rw [List.getElem_append_left h1]; exact hr i h1
      · have : i = l.length := by simp at hi; omega
        subst this
        rw [List.getElem_append_right (by omega)]
        simp only [Nat.sub_self, List.getElem_cons_zero]
        rw [hl]; exact ra
theorem Reads.slice {t e sz : Nat} {α : Type} {c : α → List A} {Q : α → Prop} (ht : P.underlying t = some (.slice e)) (hc : P.cellsOf e = sz) (h0 : 0 < sz) (h : Reads enc P w base held φ e sz c Q) :
    Reads enc P w base held φ t 1 (fun x : Bool × List α => [A.sl x.1 .any (x.2.map c)]) fun x => (∀ a ∈ x.2, Q a) ∧ x.2.length * P.bytesOf e ≤ reachBytes := by
  intro fuel cs y hy hw
  rcases DataW.trod_slice ht hy with ⟨rfl, _⟩ | ⟨ad, len, cap, elems, rest, n, _, rfl, hx, hbl, hl, hm, hlen, hel, hre, _⟩
  · exact ⟨(true, []), ⟨fun a ha => (nomatch ha), by simp⟩, rfl, .one (.nil _) rfl⟩
  · obtain ⟨hrl, hre⟩ := hre rfl
    have hwt : (elems.map (·.1)).length * P.bytesOf e ≤ reachBytes ∧ ∀ d ∈ elems.map (·.1), ∀ k ∈ d.weights P e, k ≤ reachBytes := by
      rw [hx] at hw
      simp only [DataW.weights, ht] at hw
      refine ⟨Nat.le_trans (Nat.mul_le_mul_right _ (Nat.le_add_right _ (rest.map (·.1)).length)) (hw _ (List.mem_cons_self ..)), fun d hd k hk => hw k (List.mem_cons_of_mem _ (List.mem_append.2 (.inl (weightsAll_at hd k hk))))⟩
    have hsp : cap = 0 ∨ ad.spot = none := by
      rcases Nat.eq_zero_or_pos cap with h | hpos
      · exact .inl h
      right
      rcases Nat.eq_zero_or_pos len with hz | hlp
      · subst hz
        have h1 := hre 0 (by omega)
        rw [hc] at h1
        obtain ⟨r, hr⟩ : ∃ r, rest[0]? = some r := ⟨rest[0]'(by omega), List.getElem?_eq_getElem _⟩
        rw [hr, Option.bind_eq_some_iff] at h1
        obtain ⟨cs, h2, _⟩ := h1
        rw [show ad.add ((0 + 0) * sz) = ad from by unfold Addr.add; simp] at h2
        exact cells_spot h2 h0
      · have h1 := hel 0 hlp
        rw [hc] at h1
        obtain ⟨r, hr⟩ : ∃ r, elems[0]? = some r := ⟨elems[0]'(by omega), List.getElem?_eq_getElem _⟩
        rw [hr, Option.bind_eq_some_iff] at h1
        obtain ⟨cs, h2, _⟩ := h1
        rw [show ad.add (0 * sz) = ad from by unfold Addr.add; simp] at h2
        exact cells_spot h2 h0
    rcases hsp with hz | hsp
    · subst hz
      have : len = 0 := by omega
      subst this
      exact ⟨(false, []), ⟨fun a ha => (nomatch ha), by simp⟩, rfl, .one (.slz _ ad) rfl⟩
    obtain ⟨b, off, sp⟩ := ad
    simp only at hsp
    subst hsp
    have each : ∀ i, i < len → ∃ a : α, Q a ∧ ((c a).length = sz ∧ ∃ cs, w.cells? base ((⟨b, off, none⟩ : Addr).add (i * sz)) sz = some cs ∧ CellsAre φ w (c a) cs) := fun i hi => by
      have h1 := hel i hi
      rw [hc] at h1
      rw [List.getElem?_eq_getElem (by omega), Option.bind_eq_some_iff] at h1
      obtain ⟨cs, h2, h3⟩ := h1
      obtain ⟨a, qa, la, ra⟩ := h n cs _ h3 (hwt.2 _ (List.mem_map.2 ⟨_, List.getElem_mem (by omega), rfl⟩))
      exact ⟨a, qa, la, cs, h2, ra⟩
    obtain ⟨l, hll, hq, hr⟩ := told_list (c := c) len each
    have hcell : ∀ i j, i < l.length → j < sz → ∃ v, w.cell? ⟨b, off + i * sz + j, none⟩ = some v ∧ VR φ (allZ w) w ((((l.map c).getD i []).getD j .un)) v ∧ v.oneCell' = true := fun i j hi hj => by
      obtain ⟨q1, cs, q2, q3⟩ := hr i hi
      have h1 := (cells_at q2).2 j hj
      rw [add_plain, add_plain] at h1
      have hcl : cs.length = sz := by rw [q3.1, q1]
      rw [List.getElem?_eq_getElem (by omega)] at h1
      have h2 := q3.2 j (by omega)
      have e1 : cs.getD j undef = cs[j]'(by omega) := by rw [List.getD_eq_getElem?_getD, List.getElem?_eq_getElem (by omega)]; rfl
      have e2 : (l.map c).getD i [] = c l[i] := by rw [List.getD_eq_getElem?_getD, List.getElem?_map, List.getElem?_eq_getElem hi]; rfl
      rw [e1] at h2
      exact ⟨_, h1, by rw [e2]; exact h2.1, h2.2⟩
    let val : Nat → Nat → Value := fun i j => (w.cell? ⟨b, off + i * sz + j, none⟩).getD undef
    have hval : ∀ i j, i < l.length → j < sz → w.cell? ⟨b, off + i * sz + j, none⟩ = some (val i j) ∧ VR φ (allZ w) w ((((l.map c).getD i []).getD j .un)) (val i j) ∧ (val i j).oneCell' = true := fun i j hi hj => by
      obtain ⟨v, h1, h2, h3⟩ := hcell i j hi hj
      have : val i j = v := by simp only [val, h1]; rfl
      rw [this]; exact ⟨h1, h2, h3⟩
    have hl2 : (l.map c).length = l.length := by simp
    refine ⟨(false, l), ⟨hq, ?_⟩, rfl, .one ?_ rfl⟩
    · have := hwt.1
      rw [List.length_map, hlen] at this
      rw [hll]; exact this
    · have key : VR φ (allZ w) w (.sl false .any (l.map c)) (.slice (some ⟨b, off, none⟩) (l.map c).length cap) := by
        refine .sl .any _ b off sz cap val (by rw [hl2, hll]; exact hl) (fun h => by cases h) hm (fun z hz => ?_) (fun i j hi hj => ?_) (fun i j hi hj => ?_) (fun i j hi hj => ?_) fun i j hi hj => ?_
        · obtain ⟨a, ha, rfl⟩ := List.mem_map.1 hz
          obtain ⟨i, hi, rfl⟩ := List.mem_iff_getElem.1 ha
          exact (hr i hi).1
        all_goals rw [hl2] at hi
        · exact ⟨_, (hval i j hi hj).1⟩
        · exact (hval i j hi hj).1
        · exact (hval i j hi hj).2.2
        · exact (hval i j hi hj).2.1
      rw [hl2, hll] at key; exact key
inductive Flds (enc : TypeId × Value → H) (P : Program) (w : World) (base : Nat) (held : Bool) (φ : Names) : Nat → List Field → {α : Type} → (α → List A) → (α → Prop) → Nat → Prop
  | nil (off : Nat) : Flds enc P w base held φ off [] (fun _ : Unit => []) (fun _ => True) 0
  | cons {off : Nat} {f : Field} {fs : List Field} {sz m : Nat} {α β : Type} {c : α → List A} {Q : α → Prop} {d : β → List A} {R : β → Prop} (ho : f.offset = off) (hc : P.cellsOf f.type = sz) (h : Reads enc P w base held φ f.type sz c Q)
      (k : Flds enc P w base held φ (off + sz) fs d R m) : Flds enc P w base held φ off (f :: fs) (fun x : α × β => c x.1 ++ d x.2) (fun x => Q x.1 ∧ R x.2) (sz + m)
theorem Flds.read {n : Nat} {cs : List Value} : ∀ {fs : List Field} {off m : Nat} {α : Type} {c : α → List A} {Q : α → Prop} {xs : List (DataW H × List MemPlace)}, Flds enc P w base held φ off fs c Q m → xs.length = fs.length →
    (∀ (i : Nat) (f : Field), fs[i]? = some f → DataW.trod enc P w base (fun _ => true) held n f.type ((cs.drop f.offset).take (P.cellsOf f.type)) = xs[i]?) → (∀ k ∈ DataW.weightsEach P (fs.map (·.type)) (xs.map (·.1)), k ≤ reachBytes) →
    cs.length = off + m → ∃ a, Q a ∧ (c a).length = m ∧ CellsAre φ w (c a) (cs.drop off)
  | _, _, _, _, _, _, [], .nil off, _, _, _, hl => ⟨(), trivial, rfl, by rw [List.drop_of_length_le (by omega)]; exact .nil⟩
  | f :: fs, off, _, _, _, _, x :: xs, .cons (sz := sz) (m := m) ho hc h k, hxl, hx, hw, hl => by
    have h0 := hx 0 f rfl
    rw [ho, hc] at h0
    obtain ⟨a, qa, la, ra⟩ := h n _ x h0 fun k hk => hw k (by
      simp only [List.map_cons, DataW.weightsEach, List.mem_append]; exact .inl hk)
    obtain ⟨b, qb, lb, rb⟩ := Flds.read k (by simpa using hxl) (fun i f' hf => hx (i + 1) f' hf) (fun k hk => hw k (by
      simp only [List.map_cons, DataW.weightsEach, List.mem_append]; exact .inr hk)) (by omega)
    refine ⟨(a, b), ⟨qa, qb⟩, by simp only [List.length_append, la, lb], ?_⟩
    have e : cs.drop off = (cs.drop off).take sz ++ cs.drop (off + sz) := by
      rw [← List.drop_drop, List.take_append_drop]
    rw [e]
    exact ra.app rb
theorem Reads.struct {e m m' : Nat} {fs : Array Field} {l : List Field} {α : Type} {c : α → List A} {Q : α → Prop} (he : P.underlying e = some (.struct fs)) (hc : P.cellsOf e = m) (h : Flds enc P w base held φ 0 l c Q m') (hl : fs.toList = l) (hm : m' = m) : Reads enc P w base held φ e m c Q := by
  subst hl; subst hm
  intro fuel cs y hy hw
  obtain ⟨xs, n, _, hx, hl, hlen, hf⟩ := DataW.trod_struct he hy
  rw [hx] at hw
  simp only [DataW.weights, he] at hw
  obtain ⟨a, q, l, r⟩ := h.read (n := n) (cs := cs) (xs := xs) (by simpa using hlen) (fun i f hf' => hf i f (by simpa using hf')) hw (by omega)
  exact ⟨a, q, l, by simpa using r⟩
theorem Reads.arg_agg {t m : Nat} {α : Type} {c : α → List A} {Q : α → Prop} {v : Value} {d : DataW H} {p : List MemPlace} (h : Reads enc P w base held φ t m c Q) (hv : ∃ cs, v = .agg cs)
    (ht : DataW.Trod enc P w base (fun _ => true) held t v d p) (hw : ∀ k ∈ d.weights P t, k ≤ reachBytes) : ∃ a, Q a ∧ VR φ (allZ w) w (.agg (c a)) v := by
  obtain ⟨⟨cs⟩, rfl⟩ := hv
  obtain ⟨fuel, ht⟩ := ht
  obtain ⟨a, q, _, r⟩ := h fuel cs _ ht hw
  exact ⟨a, q, r.agg⟩
theorem agg_struct {t : Nat} {fs : Array Field} {v : Value} {r : Reach} {b0 : Nat} (hu : P.underlying t = some (.struct fs)) (hok : Value.okWide P w r b0 t v) : ∃ cs, v = .agg cs := by
  unfold Value.okWide at hok
  rw [hu] at hok
  obtain ⟨cs, rfl, _⟩ := hok
  exact ⟨cs, rfl⟩
theorem Reads.ints {t n e : Nat} (hu : P.underlying t = some (.array n e)) (hc : P.cellsOf t = n) (ue : P.underlying e = some (.int .i64)) (ce : P.cellsOf e = 1) :
    Reads enc P w base held φ t n (fun l : List Int => l.map A.int) fun l => l.length = n := by
  intro fuel cs y hy _
  obtain ⟨xs, m, _, _, hl0, hl, hx⟩ := DataW.trod_array hu hy
  rw [ce] at hx
  have hcl : cs.length = n := by omega
  have each : ∀ i, i < n → ∃ z : Int, True ∧ cs[i]? = some (.int .i64 z) := fun i hi => by
    have h1 := hx i hi
    rw [List.getElem?_eq_getElem (by omega)] at h1
    obtain ⟨z, hz, _⟩ := DataW.trod_int ue h1
    refine ⟨z, trivial, ?_⟩
    have h5 := congrArg (fun l => l[0]?) hz
    simpa using h5
  obtain ⟨l, hll, _, hr⟩ := told_list (c := fun _ : Int => []) n each
  refine ⟨l, hll, by simp [hll], by simp [hll, hcl], fun i hi => ?_⟩
  have hi : i < l.length := by simpa using hi
  have h1 := hr i hi
  have e1 : cs.getD i undef = .int .i64 l[i] := by rw [List.getD_eq_getElem?_getD, h1]; rfl
  have e2 : (l.map A.int).getD i .un = A.int l[i] := by simp [List.getD_eq_getElem?_getD, hi]
  rw [e1, e2]
  exact ⟨.s _, rfl⟩
end
end Go.AL

namespace Go.AL.Q
open Go
end Go.AL.Q

namespace Go.AL.Q
open Go
def LeP (a b : List Int) : Prop := a.length = b.length ∧ ∀ i, a.getD i 0 ≤ b.getD i 0
theorem LeP.refl (a : List Int) : LeP a a := ⟨rfl, fun _ => Int.le_refl _⟩
theorem LeP.set {a b : List Int} (h : LeP a b) {i : Nat} {x y : Int} (hi : i < b.length) (hx : x ≤ y) : LeP (a.set i x) (b.set i y) :=
  ⟨by simp [h.1], fun j => by
    have hl := h.1
    rw [getD_set' _ _ _ _ (by omega), getD_set' _ _ _ _ hi]
    split
    · exact hx
    · exact h.2 j⟩
structure PlayIn (r : Rce) (takes recs : List Int) : Prop where
  ok : r.ok = true
  l1 : 1 ≤ takes.length
  l10 : takes.length ≤ 10
  len : recs.length = takes.length
  t : ∀ i, i < takes.length → 0 ≤ takes.getD i 0 ∧ takes.getD i 0 ≤ 100000000
  x : ∀ i, i < takes.length → 0 ≤ recs.getD i 0 ∧ recs.getD i 0 ≤ 100000
theorem PlayIn.of {r : Rce} {takes recs : List Int} (h : playOk r takes recs = true) : PlayIn r takes recs := by
  unfold playOk at h
  have h1 := ac1 h
  have h2 := fun i hi => List.all_eq_true.1 (ac2 h) i (List.mem_range.2 hi)
  unfold playHead at h1
  have a1 := wi_iff.1 (ac2 (ac1 h1))
  have a2 := eq_of_beq (ac2 h1)
  exact ⟨ac1 (ac1 h1), by omega, by omega, by omega, fun i hi => wi_iff.1 (ac1 (h2 i hi)), fun i hi => wi_iff.1 (ac2 (h2 i hi))⟩
theorem getD_mem {l : List Int} {x : Int} (h : x ∈ l) : ∃ i, i < l.length ∧ l.getD i 0 = x := by
  obtain ⟨i, hi, rfl⟩ := List.mem_iff_getElem.1 h
  exact ⟨i, hi, by simp [List.getD_eq_getElem?_getD, hi]⟩
theorem LeP.up {l : List Int} {i : Nat} {v : Int} (hi : i < l.length) (h : l.getD i 0 ≤ v) : LeP l (l.set i v) := ⟨by simp, fun j => by
  rw [getD_set' _ _ _ _ hi]
  split
  · rename_i e; subst e; exact h
  · exact Int.le_refl _⟩
theorem LeP.dn {l : List Int} {i : Nat} {v : Int} (hi : i < l.length) (h : v ≤ l.getD i 0) : LeP (l.set i v) l := ⟨by simp, fun j => by
  rw [getD_set' _ _ _ _ hi]
  split
  · rename_i e; subst e; exact h
  · exact Int.le_refl _⟩
end Go.AL.Q

namespace Go.AL.Q
open Go
def downF (n b : Int) : Int := (n - n % b).tdiv b
theorem up_take {q m : Int} (h : 0 ≤ q * m) : -(downF (-(q * m)) 100) = takeF q m := by
  unfold downF takeF
  generalize q * m = n at *
  rw [Int.tdiv_eq_ediv, Int.tdiv_eq_ediv, show Int.sign 100 = 1 from rfl]
  split <;> split <;> omega
theorem playF_prefix {r : Rce} : ∀ (ts xs l : List Int) (n i : Nat), i < n → (playF r l (ts.take n) xs).getD i 0 = (playF r l ts xs).getD i 0
  | [], xs, l, n, i, h => by simp
  | t :: ts, xs, l, 0, i, h => by omega
  | t :: ts, [], l, n + 1, i, h => by simp [playF]
  | t :: ts, x :: xs, l, n + 1, 0, h => by simp [playF]
  | t :: ts, x :: xs, l, n + 1, i + 1, h => by
    simp only [List.take_succ_cons, playF, List.getD_cons_succ]
    exact playF_prefix ts xs _ n i (by omega)
def Fish.brk (f : Fish) (q : Int) (y r s : Nat) : Bool := decide ((f.spawns r s q).getD y 0 < (f.race r).line)
def Fish.findS (f : Fish) (q : Int) (y r : Nat) (k : Nat) : Option Nat := (List.range' k (f.seasons.length - k)).find? (f.brk q y r)
def Fish.findR (f : Fish) (q : Int) (y : Nat) (k : Nat) : Option (Nat × Nat) := (List.range' k (f.many - k)).findSome? fun r => (f.findS q y r 0).map fun s => (r, s)
def Fish.findY (f : Fish) (q : Int) (k : Nat) : Option (Nat × Nat × Nat) := (List.range' k (f.years - k)).findSome? fun y => (f.findR q y 0).map fun p => (y, p)
theorem range'_step {k n : Nat} (h : k < n) : List.range' k (n - k) = k :: List.range' (k + 1) (n - (k + 1)) := by
  obtain ⟨d, hd⟩ : ∃ d, n - k = d + 1 := ⟨n - k - 1, by omega⟩
  rw [hd, show n - (k + 1) = d by omega]; rfl
theorem range'_end {k n : Nat} (h : n ≤ k) : List.range' k (n - k) = [] := by rw [show n - k = 0 by omega]; rfl
theorem findS_step {f : Fish} {q : Int} {y r k : Nat} (h : k < f.seasons.length) : f.findS q y r k = if f.brk q y r k then some k else f.findS q y r (k + 1) := by
  unfold Fish.findS
  rw [range'_step h, List.find?_cons]
  cases f.brk q y r k <;> rfl
theorem findS_end {f : Fish} {q : Int} {y r k : Nat} (h : f.seasons.length ≤ k) : f.findS q y r k = none := by unfold Fish.findS; rw [range'_end h]; rfl
theorem findR_step {f : Fish} {q : Int} {y k : Nat} (h : k < f.many) : f.findR q y k = match f.findS q y k 0 with | some s => some (k, s) | none => f.findR q y (k + 1) := by
  unfold Fish.findR
  rw [range'_step h, List.findSome?_cons]
  cases f.findS q y k 0 <;> rfl
theorem findR_end {f : Fish} {q : Int} {y k : Nat} (h : f.many ≤ k) : f.findR q y k = none := by unfold Fish.findR; rw [range'_end h]; rfl
theorem findY_step {f : Fish} {q : Int} {k : Nat} (h : k < f.years) : f.findY q k = match f.findR q k 0 with | some p => some (k, p) | none => f.findY q (k + 1) := by
  unfold Fish.findY
  rw [range'_step h, List.findSome?_cons]
  cases f.findR q k 0 <;> rfl
theorem findY_end {f : Fish} {q : Int} {k : Nat} (h : f.years ≤ k) : f.findY q k = none := by unfold Fish.findY; rw [range'_end h]; rfl
def foundA : Option (Nat × Nat × Nat) → List A
  | some (y, r, s) => [.int r, .int s, .int y, .bool true]
  | none => [.int 0, .int 0, .int 0, .bool false]
theorem foundA_free : ∀ (o : Option (Nat × Nat × Nat)), ∀ x ∈ foundA o, Free x
  | some (y, r, s) => allC (.s _) (allC (.s _) (allC (.s _) (all1 (.s _))))
  | none => allC (.s _) (allC (.s _) (allC (.s _) (all1 (.s _))))
end Go.AL.Q

namespace Go.AL.Q
open Go
theorem spawns_len {f : Fish} (hok : FishOk f) {r s : Nat} (hr : r < f.many) (hs : s < f.seasons.length) (q : Int) : (f.spawns r s q).length = f.years := by
  unfold Fish.spawns
  rw [playF_len _ _ _ _ (by simp), List.length_replicate, hok.rl s r hs hr]
theorem any_brk {f : Fish} (hok : FishOk f) {r s : Nat} (hr : r < f.many) (hs : s < f.seasons.length) (q : Int) : decide (f.breakY r s q ≥ 0) = true ↔ ∃ y, y < f.years ∧ f.brk q y r s = true := by
  unfold Fish.breakY
  rw [idxF_any, List.any_eq_true]
  have hl := spawns_len hok hr hs q
  constructor
  · rintro ⟨x, hx, h⟩
    obtain ⟨i, hi, rfl⟩ := getD_mem hx
    exact ⟨i, by omega, h⟩
  · rintro ⟨y, hy, h⟩
    refine ⟨(f.spawns r s q).getD y 0, ?_, h⟩
    rw [List.getD_eq_getElem?_getD, List.getElem?_eq_getElem (by omega)]
    exact List.getElem_mem (by omega)
theorem findY_none {f : Fish} {q : Int} : f.findY q 0 = none ↔ ∀ y, y < f.years → ∀ r, r < f.many → ∀ s, s < f.seasons.length → f.brk q y r s = false := by
  unfold Fish.findY Fish.findR Fish.findS
  simp only [List.findSome?_eq_none_iff, Option.map_eq_none_iff, List.find?_eq_none, List.mem_range'_1, Nat.sub_zero, Nat.zero_add, Nat.zero_le, true_and, Bool.not_eq_true]
theorem holds_find {f : Fish} (hok : FishOk f) (q : Int) : f.holds q = (f.findY q 0).isNone := by
  rw [Bool.eq_iff_iff, Option.isNone_iff_eq_none, findY_none]
  unfold Fish.holds
  simp only [List.all_eq_true, List.mem_range, Bool.not_eq_true']
  constructor
  · intro h y hy r hr s hs
    have h1 := h r hr s hs
    cases e : f.brk q y r s with
    | false => rfl
    | true =>
      rw [(any_brk hok hr hs q).2 ⟨y, hy, e⟩] at h1
      cases h1
  · intro h r hr s hs
    cases e : decide (f.breakY r s q ≥ 0) with
    | false => rfl
    | true =>
      obtain ⟨y, hy, h2⟩ := (any_brk hok hr hs q).1 e
      rw [h y hy r hr s hs] at h2
      cases h2
end Go.AL.Q

namespace Go.AL.Q
open Go
theorem idxF_first {p : Int → Bool} : ∀ (l : List Int) (k y : Nat), y < l.length → p (l.getD y 0) = true → (∀ i, i < y → p (l.getD i 0) = false) → idxF p k l = (k + y : Nat)
  | [], k, y, h, _, _ => by simp at h
  | n :: l, k, 0, h, h1, _ => by
    have h1 : p n = true := h1
    rw [idxF, h1]; simp
  | n :: l, k, y + 1, h, h1, h2 => by
    have h0 : p n = false := h2 0 (by omega)
    rw [idxF, h0]
    have := idxF_first (p := p) l (k + 1) y (by simpa using h) h1 fun i hi => h2 (i + 1) (by omega)
    simp only [Bool.false_eq_true, if_false]
    rw [this]; congr 1; omega
theorem break_is {f : Fish} (hok : FishOk f) {r s y : Nat} (hr : r < f.many) (hs : s < f.seasons.length) {q : Int} (hy : y < f.years) (h : f.brk q y r s = true) (h0 : ∀ i, i < y → f.brk q i r s = false) : f.breakY r s q = y := by
  unfold Fish.breakY
  rw [idxF_first _ 0 y (by rw [spawns_len hok hr hs]; exact hy) h h0]; simp
theorem break_ge {f : Fish} (hok : FishOk f) {r s y : Nat} (hr : r < f.many) (hs : s < f.seasons.length) {q : Int} (h0 : ∀ i, i < y → f.brk q i r s = false) (hb : f.breakY r s q ≥ 0) : f.breakY r s q ≥ y := by
  obtain ⟨m, hm⟩ : ∃ m : Nat, f.breakY r s q = m := ⟨(f.breakY r s q).toNat, by omega⟩
  obtain ⟨z, hz, hbz⟩ := (any_brk hok hr hs q).1 (decide_eq_true hb)
  have hex : ∃ z, z < f.years ∧ f.brk q z r s = true ∧ ∀ i, i < z → f.brk q i r s = false := by
    induction z using Nat.strongRecOn with
    | _ z ih =>
      by_cases h : ∃ i, i < z ∧ f.brk q i r s = true
      · obtain ⟨i, hi, hb⟩ := h
        exact ih i hi (by omega) hb
      · refine ⟨z, hz, hbz, fun i hi => ?_⟩
        cases e : f.brk q i r s with
        | false => rfl
        | true => exact absurd ⟨i, hi, e⟩ h
  obtain ⟨z, hz, hbz, hmin⟩ := hex
  rw [break_is hok hr hs hz hbz hmin]
  by_cases h : y ≤ z
  · omega
  · have := h0 z (by omega)
    rw [hbz] at this; cases this
def Late (y : Nat) (b : Int × Int × Int) : Prop := b.2.2 < 0 ∨ b.2.2 > y
theorem firstS_late {f : Fish} {q : Int} {r y : Nat} : ∀ (ss : List Nat) (b : Int × Int × Int), Late y b → (∀ s ∈ ss, f.breakY r s q < 0 ∨ f.breakY r s q > y) → Late y (firstS f q r ss b)
  | [], b, h, _ => h
  | s :: ss, b, h, hs => by
    rw [firstS]
    refine firstS_late ss _ ?_ fun t ht => hs t (List.mem_cons_of_mem _ ht)
    split
    · have := hs s (List.mem_cons_self ..)
      unfold Late
      show f.breakY r s q < 0 ∨ f.breakY r s q > y
      exact this
    · exact h
theorem firstS_keep {f : Fish} {q : Int} {r y : Nat} : ∀ (ss : List Nat) (b : Int × Int × Int), b.2.2 = y → (∀ s ∈ ss, f.breakY r s q < 0 ∨ f.breakY r s q ≥ y) → firstS f q r ss b = b
  | [], b, h, _ => rfl
  | s :: ss, b, h, hs => by
    rw [firstS]
    have := hs s (List.mem_cons_self ..)
    rw [if_neg (by omega)]
    exact firstS_keep ss b h fun t ht => hs t (List.mem_cons_of_mem _ ht)
theorem firstS_app {f : Fish} {q : Int} {r : Nat} : ∀ (a c : List Nat) (b : Int × Int × Int), firstS f q r (a ++ c) b = firstS f q r c (firstS f q r a b)
  | [], c, b => rfl
  | s :: a, c, b => by rw [List.cons_append, firstS, firstS, firstS_app a c]
theorem firstR_app {f : Fish} {q : Int} : ∀ (a c : List Nat) (b : Int × Int × Int), firstR f q (a ++ c) b = firstR f q c (firstR f q a b)
  | [], c, b => rfl
  | s :: a, c, b => by rw [List.cons_append, firstR, firstR, firstR_app a c]
theorem firstR_late {f : Fish} {q : Int} {y : Nat} : ∀ (rs : List Nat) (b : Int × Int × Int), Late y b → (∀ r ∈ rs, ∀ s, s < f.seasons.length → f.breakY r s q < 0 ∨ f.breakY r s q > y) → Late y (firstR f q rs b)
  | [], b, h, _ => h
  | r :: rs, b, h, hs => by
    rw [firstR]
    exact firstR_late rs _ (firstS_late _ _ h fun s m => hs r (List.mem_cons_self ..) s (List.mem_range.1 m)) fun t ht => hs t (List.mem_cons_of_mem _ ht)
theorem firstR_keep {f : Fish} {q : Int} {y : Nat} : ∀ (rs : List Nat) (b : Int × Int × Int), b.2.2 = y → (∀ r ∈ rs, ∀ s, s < f.seasons.length → f.breakY r s q < 0 ∨ f.breakY r s q ≥ y) → firstR f q rs b = b
  | [], b, h, _ => rfl
  | r :: rs, b, h, hs => by
    rw [firstR, firstS_keep _ b h fun s m => hs r (List.mem_cons_self ..) s (List.mem_range.1 m)]
    exact firstR_keep rs b h fun t ht => hs t (List.mem_cons_of_mem _ ht)
theorem range_split {r n : Nat} (h : r < n) : List.range n = List.range r ++ r :: List.range' (r + 1) (n - (r + 1)) := by
  have e : n = r + ((n - (r + 1)) + 1) := by omega
  rw [List.range_eq_range', List.range_eq_range']
  conv => lhs; rw [e, ← List.range'_append_1]
  rw [Nat.zero_add, List.range'_succ]
theorem first_is {f : Fish} {q : Int} {y r s : Nat} (hr : r < f.many) (hs : s < f.seasons.length) (hb : f.breakY r s q = y)
    (h1 : ∀ r', r' < r → ∀ s', s' < f.seasons.length → f.breakY r' s' q < 0 ∨ f.breakY r' s' q > y)
    (h2 : ∀ s', s' < s → f.breakY r s' q < 0 ∨ f.breakY r s' q > y)
    (h3 : ∀ r', r' < f.many → ∀ s', s' < f.seasons.length → f.breakY r' s' q < 0 ∨ f.breakY r' s' q ≥ y) : f.first q = ((r : Int), (s : Int), (y : Int)) := by
  unfold Fish.first
  rw [range_split hr, firstR_app, firstR, range_split hs, firstS_app, firstS]
  have l1 := firstR_late (f := f) (q := q) (y := y) (List.range r) (0, 0, -1) (.inl (by decide)) fun r' m s' hs' => h1 r' (List.mem_range.1 m) s' hs'
  have l2 := firstS_late (f := f) (q := q) (r := r) (y := y) (List.range s) _ l1 fun s' m => h2 s' (List.mem_range.1 m)
  unfold Late at l2
  rw [if_pos ⟨by omega, by rw [hb]; exact l2⟩, hb, firstS_keep (y := y) _ _ rfl fun s' m => h3 r hr s' (by have := List.mem_range'_1.1 m; omega)]
  exact firstR_keep (y := y) _ _ rfl fun r' m s' hs' => h3 r' (by have := List.mem_range'_1.1 m; omega) s' hs'
end Go.AL.Q

namespace Go.AL.Q
open Go
theorem lt_or_ge0 (a : Int) : a < 0 ∨ a ≥ 0 := by omega
theorem fs_some {β : Type} {g : Nat → Option β} : ∀ (d k : Nat) (b : β), (List.range' k d).findSome? g = some b → ∃ i, k ≤ i ∧ i < k + d ∧ g i = some b ∧ ∀ j, k ≤ j → j < i → g j = none
  | 0, k, b, h => by simp at h
  | d + 1, k, b, h => by
    rw [List.range'_succ, List.findSome?_cons] at h
    cases e : g k with
    | some x =>
      rw [e] at h
      exact ⟨k, Nat.le_refl _, by omega, by rw [e]; exact h, fun j h1 h2 => by omega⟩
    | none =>
      rw [e] at h
      obtain ⟨i, h1, h2, h3, h4⟩ := fs_some d (k + 1) b h
      refine ⟨i, by omega, by omega, h3, fun j j1 j2 => ?_⟩
      by_cases hj : j = k
      · rw [hj]; exact e
      · exact h4 j (by omega) j2
theorem f_some {p : Nat → Bool} : ∀ (d k i : Nat), (List.range' k d).find? p = some i → k ≤ i ∧ i < k + d ∧ p i = true ∧ ∀ j, k ≤ j → j < i → p j = false
  | 0, k, b, h => by simp at h
  | d + 1, k, b, h => by
    rw [List.range'_succ, List.find?_cons] at h
    cases e : p k with
    | true =>
      rw [e] at h
      cases h
      exact ⟨Nat.le_refl _, by omega, e, fun j h1 h2 => by omega⟩
    | false =>
      rw [e] at h
      obtain ⟨h1, h2, h3, h4⟩ := f_some d (k + 1) b h
      refine ⟨by omega, by omega, h3, fun j j1 j2 => ?_⟩
      by_cases hj : j = k
      · rw [hj]; exact e
      · exact h4 j (by omega) j2
theorem findS_none {f : Fish} {q : Int} {y r : Nat} (h : f.findS q y r 0 = none) : ∀ s, s < f.seasons.length → f.brk q y r s = false := by
  unfold Fish.findS at h
  simp only [List.find?_eq_none, List.mem_range'_1, Nat.sub_zero, Nat.zero_add, Nat.zero_le, true_and, Bool.not_eq_true] at h
  exact h
theorem findR_none {f : Fish} {q : Int} {y : Nat} (h : f.findR q y 0 = none) : ∀ r, r < f.many → ∀ s, s < f.seasons.length → f.brk q y r s = false := by
  unfold Fish.findR Fish.findS at h
  simp only [List.findSome?_eq_none_iff, Option.map_eq_none_iff, List.find?_eq_none, List.mem_range'_1, Nat.sub_zero, Nat.zero_add, Nat.zero_le, true_and, Bool.not_eq_true] at h
  exact h
structure Found (f : Fish) (q : Int) (y r s : Nat) : Prop where
  hy : y < f.years
  hr : r < f.many
  hs : s < f.seasons.length
  hb : f.brk q y r s = true
  before : ∀ y', y' < y → ∀ r', r' < f.many → ∀ s', s' < f.seasons.length → f.brk q y' r' s' = false
  races : ∀ r', r' < r → ∀ s', s' < f.seasons.length → f.brk q y r' s' = false
  seas : ∀ s', s' < s → f.brk q y r s' = false
theorem findY_some {f : Fish} {q : Int} {y r s : Nat} (h : f.findY q 0 = some (y, r, s)) : Found f q y r s := by
  unfold Fish.findY at h
  obtain ⟨i, _, hi, e, hy⟩ := fs_some _ _ _ h
  cases eR : f.findR q i 0 with
  | none => rw [eR] at e; cases e
  | some p =>
    rw [eR] at e
    cases e
    unfold Fish.findR at eR
    obtain ⟨j, _, hj, e2, hr⟩ := fs_some _ _ _ eR
    cases eS : f.findS q y j 0 with
    | none => rw [eS] at e2; cases e2
    | some p =>
      rw [eS] at e2
      cases e2
      unfold Fish.findS at eS
      obtain ⟨_, hs, hb, hss⟩ := f_some _ _ _ eS
      refine ⟨by omega, by omega, by omega, hb, fun y' h1 => findR_none ?_, fun r' h1 => findS_none ?_, fun s' h1 => hss s' (Nat.zero_le _) h1⟩
      · have := hy y' (Nat.zero_le _) h1
        cases e : f.findR q y' 0 with
        | none => rfl
        | some x => rw [e] at this; cases this
      · have := hr r' (Nat.zero_le _) h1
        cases e : f.findS q y r' 0 with
        | none => rfl
        | some x => rw [e] at this; cases this
theorem break_neg {f : Fish} (hok : FishOk f) {r s : Nat} (hr : r < f.many) (hs : s < f.seasons.length) {q : Int} {y : Nat} (h : ∀ i, i ≤ y → f.brk q i r s = false) : f.breakY r s q < 0 ∨ f.breakY r s q > y := by
  rcases lt_or_ge0 (f.breakY r s q) with h1 | h1
  · exact .inl h1
  · right
    have := break_ge hok hr hs (y := y + 1) (fun i hi => h i (by omega)) h1
    omega
theorem first_found {f : Fish} (hok : FishOk f) {q : Int} {y r s : Nat} (h : Found f q y r s) : f.first q = ((r : Int), (s : Int), (y : Int)) := by
  refine first_is h.hr h.hs (break_is hok h.hr h.hs h.hy h.hb fun i hi => h.before i hi r h.hr s h.hs) (fun r' h1 s' h2 => break_neg hok (by have := h.hr; omega) h2 fun i hi => ?_) (fun s' h1 => break_neg hok h.hr (by have := h.hs; omega) fun i hi => ?_) fun r' h1 s' h2 => ?_
  · by_cases e : i = y
    · subst e; exact h.races r' h1 s' h2
    · exact h.before i (by omega) r' (by have := h.hr; omega) s' h2
  · by_cases e : i = y
    · subst e; exact h.seas s' h1
    · exact h.before i (by omega) r h.hr s' (by have := h.hs; omega)
  · rcases lt_or_ge0 (f.breakY r' s' q) with h3 | h3
    · exact .inl h3
    · exact .inr (break_ge hok h1 h2 (fun i hi => h.before i hi r' h1 s' h2) h3)
theorem firstS_same {f : Fish} {q : Int} {r : Nat} : ∀ (ss : List Nat) (b : Int × Int × Int), (∀ s ∈ ss, f.breakY r s q < 0) → firstS f q r ss b = b
  | [], b, _ => rfl
  | s :: ss, b, h => by
    have := h s (List.mem_cons_self ..)
    rw [firstS, if_neg (by omega)]
    exact firstS_same ss b fun t ht => h t (List.mem_cons_of_mem _ ht)
theorem firstR_same {f : Fish} {q : Int} : ∀ (rs : List Nat) (b : Int × Int × Int), (∀ r ∈ rs, ∀ s, s < f.seasons.length → f.breakY r s q < 0) → firstR f q rs b = b
  | [], b, _ => rfl
  | r :: rs, b, h => by
    rw [firstR, firstS_same _ b fun s m => h r (List.mem_cons_self ..) s (List.mem_range.1 m)]
    exact firstR_same rs b fun t ht => h t (List.mem_cons_of_mem _ ht)
theorem first_none {f : Fish} (hok : FishOk f) {q : Int} (h : f.findY q 0 = none) : f.first q = (0, 0, -1) := by
  have h1 := findY_none.1 h
  refine firstR_same _ _ fun r hr s hs => ?_
  have hr := List.mem_range.1 hr
  rcases lt_or_ge0 (f.breakY r s q) with h3 | h3
  · exact h3
  · obtain ⟨y, hy, hb⟩ := (any_brk hok hr hs q).1 (decide_eq_true h3)
    rw [h1 y hy r hr s hs] at hb; cases hb
theorem firstR_find {f : Fish} {q : Int} (hok : f.ok = true) (hq : wi q 0 10000 = true) : f.firstR q = match f.findY q 0 with
    | some (y, r, s) => [.int r, .int s, .int y, .int 0]
    | none => [.int 0, .int 0, .int 0, .int 4] := by
  unfold Fish.firstR
  rw [if_pos hok, if_pos hq]
  cases e : f.findY q 0 with
  | none => rw [first_none (FishOk.of hok) e]; rfl
  | some p =>
    obtain ⟨y, r, s⟩ := p
    rw [first_found (FishOk.of hok) (findY_some e)]
    show (if (y : Int) < 0 then _ else _) = _
    rw [if_neg (by omega)]
end Go.AL.Q

set_option maxRecDepth 100000
namespace Go.Proofs.Ytdiclbgklegelaa
open Go Go.AL Go.AL.Q Go.ChangeShapes Go.WideShapes Go.ChangeAt Go.RowKit
theorem u39 : Try.prog.underlying 39 = some (.struct #[fld "Numbers" 37 0 0, fld "Keep" 37 1 24, fld "Spawn" 37 2 48, fld "Line" 3 3 72, fld "Mesh" 3 4 80]) := by kernel_rfl
theorem c39 : Try.prog.cellsOf 39 = 5 := by kernel_rfl
section
variable {H : Type} {enc : TypeId × Value → H} {w : World} {base : Nat} {spare : Nat → Bool} {held : Bool} {φ : Names}
end
end Go.Proofs.Ytdiclbgklegelaa

set_option maxRecDepth 100000
namespace Go.Proofs.Ytdiclbgklegelaa
open Go Go.AL Go.AL.Q Go.ChangeShapes Go.WideShapes Go.ChangeAt Go.RowKit
theorem t47 : Try.prog.readableRec 47 = true ∧ 47 < Try.prog.types.size := ty_ok (by kernel_rfl) (by kernel_rfl)
theorem u44 : Try.prog.underlying 44 = some (.slice 39) := by kernel_rfl
theorem u45 : Try.prog.underlying 45 = some (.slice 55) := by kernel_rfl
theorem u47 : Try.prog.underlying 47 = some (.struct #[fld "Races" 44 0 0, fld "Most" 37 1 24, fld "Seasons" 45 2 48]) := by kernel_rfl
theorem u55 : Try.prog.underlying 55 = some (.slice 37) := by kernel_rfl
theorem c44 : Try.prog.cellsOf 44 = 1 := by kernel_rfl
theorem c45 : Try.prog.cellsOf 45 = 1 := by kernel_rfl
theorem c47 : Try.prog.cellsOf 47 = 3 := by kernel_rfl
theorem c55 : Try.prog.cellsOf 55 = 1 := by kernel_rfl
theorem by37 : Try.prog.bytesOf 37 = 24 := by kernel_rfl
theorem by39 : Try.prog.bytesOf 39 = 88 := by kernel_rfl
theorem by55 : Try.prog.bytesOf 55 = 24 := by kernel_rfl
theorem fit_len {n k : Nat} (h : n * k ≤ reachBytes) (hk : 1 ≤ k) : (n : Int) ≤ 9223372036854775806 := by
  have h3 : n ≤ n * k := Nat.le_mul_of_pos_right _ hk
  have h5 : reachBytes = 140737488351232 := by decide
  omega
section
variable {H : Type} {enc : TypeId × Value → H} {w : World} {base : Nat} {held : Bool} {φ : Names}
theorem r3 : Reads enc Try.prog w base held φ 3 1 (fun n : Int => [A.int n]) fun _ => True := .int u3
theorem rdInts : Reads enc Try.prog w base held φ 37 1 NL.c nlFit := by
  have key := Reads.slice (enc := enc) (w := w) (base := base) (held := held) (φ := φ) u37 c3 (by decide) r3
  exact key.imp fun x h => ⟨⟨x.1, x.2⟩, fit_len h.2 (by rw [by3]; decide), rfl⟩
theorem rdRce : Reads enc Try.prog w base held φ 39 5 Rce.c Rce.Fit := by
  have key := Reads.struct (enc := enc) (w := w) (base := base) (held := held) (φ := φ) u39 c39 (Flds.cons (f := fld "Numbers" 37 0 0) rfl c37 rdInts (Flds.cons (f := fld "Keep" 37 1 24) rfl c37 rdInts (Flds.cons (f := fld "Spawn" 37 2 48) rfl c37 rdInts (Flds.cons (f := fld "Line" 3 3 72) rfl c3 r3 (Flds.cons (f := fld "Mesh" 3 4 80) rfl c3 r3 (Flds.nil _)))))) rfl rfl
  exact key.imp fun x h =>
    ⟨⟨x.1.n, x.1.l, x.2.1.n, x.2.1.l, x.2.2.1.n, x.2.2.1.l, x.2.2.2.1, x.2.2.2.2.1⟩, ⟨h.1, h.2.1, h.2.2.1⟩, rfl⟩
theorem rdRces : Reads enc Try.prog w base held φ 44 1 (fun x : Bool × List Rce => [A.sl x.1 .any (x.2.map Rce.c)]) (fun x => (∀ a ∈ x.2, a.Fit) ∧ (x.2.length : Int) ≤ 9223372036854775806) := by
  have key := Reads.slice (enc := enc) (w := w) (base := base) (held := held) (φ := φ) u44 c39 (by decide) rdRce
  exact key.imp fun x h => ⟨x, ⟨h.1, fit_len h.2 (by rw [by39]; decide)⟩, rfl⟩
theorem rdRow : Reads enc Try.prog w base held φ 55 1 NR.c (fun s => (s.l.length : Int) ≤ 5900000000000 ∧ ∀ l ∈ s.l, nlFit l) := by
  have key := Reads.slice (enc := enc) (w := w) (base := base) (held := held) (φ := φ) u55 c37 (by decide) rdInts
  exact key.imp fun x h => ⟨⟨x.1, x.2⟩, ⟨by
    have := h.2; rw [by37] at this
    have h5 : reachBytes = 140737488351232 := by decide
    show (x.2.length : Int) ≤ _
    omega, h.1⟩, rfl⟩
theorem rdRows : Reads enc Try.prog w base held φ 45 1 (fun x : Bool × List NR => [A.sl x.1 .any (x.2.map NR.c)]) (fun x => (∀ s ∈ x.2, (s.l.length : Int) ≤ 9223372036854775806 ∧ ∀ l ∈ s.l, nlFit l) ∧ (x.2.length : Int) ≤ 9223372036854775806) := by
  have key := Reads.slice (enc := enc) (w := w) (base := base) (held := held) (φ := φ) u45 c55 (by decide) rdRow
  exact key.imp fun x h => ⟨x, ⟨fun s hs => ⟨by have := (h.1 s hs).1; omega, (h.1 s hs).2⟩, fit_len h.2 (by rw [by55]; decide)⟩, rfl⟩
theorem rdFish : Reads enc Try.prog w base held φ 47 3 Fish.c Fish.Fit := by
  have key := Reads.struct (enc := enc) (w := w) (base := base) (held := held) (φ := φ) u47 c47 (Flds.cons (f := fld "Races" 44 0 0) rfl c44 rdRces (Flds.cons (f := fld "Most" 37 1 24) rfl c37 rdInts (Flds.cons (f := fld "Seasons" 45 2 48) rfl c45 rdRows (Flds.nil _)))) rfl rfl
  exact key.imp fun x h =>
    ⟨⟨x.1.1, x.1.2, x.2.1.n, x.2.1.l, x.2.2.1.1, x.2.2.1.2⟩, ⟨h.1.2, h.2.1, h.2.2.1.2, h.1.1, h.2.2.1.1⟩, rfl⟩
variable {v : Value} {d : DataW H} {p : List MemPlace} {r : Reach} {b0 : Nat}
theorem arg_fish (hok : Value.okWide Try.prog w r b0 47 v) (h : DataW.Trod enc Try.prog w base (fun _ => true) held 47 v d p) (hw : ∀ k ∈ d.weights Try.prog 47, k ≤ reachBytes) :
    ∃ y : Fish, VR φ (allZ w) w (.agg y.c) v ∧ y.Fit := by
  obtain ⟨x, q, e⟩ := (rdFish (φ := φ)).arg_agg (agg_struct u47 hok) h hw
  exact ⟨x, e, q⟩
end
end Go.Proofs.Ytdiclbgklegelaa

namespace Go.Proofs.Ytdiclbgklegelaa
open Go Go.AL Go.AL.Q
end Go.Proofs.Ytdiclbgklegelaa

namespace Go.Proofs.Ytdiclbgklegelaa
open Go Go.AL Go.AL.Q
theorem ints_flat (l : List Int) : (ints l).flatten.map A.down = l.map A.int := by
  induction l with
  | nil => rfl
  | cons x l ih =>
    rw [show ints (x :: l) = [.int x] :: ints l from rfl, List.flatten_cons, List.map_append, ih]; rfl
theorem ints_each (l : List Int) : ∀ z ∈ ints l, z.length = 1 := fun z hz => by obtain ⟨n, _, rfl⟩ := List.mem_map.1 hz; rfl
theorem cell_at {l : List Int} {a : Nat} (h : a < l.length) : ((l.map A.int).getD (0 + a * 1) .un).down = .int (l.getD a 0) := by
  rw [Nat.zero_add, Nat.mul_one]
  simp [List.getD_eq_getElem?_getD, h, A.down]
theorem cell_set {l : List Int} {a : Nat} (h : a < l.length) (v : Int) : setSeg (l.map A.int) (0 + a * 1) [A.int v] = (l.set a v).map A.int := by
  rw [Nat.zero_add, Nat.mul_one, setSeg_set h]
theorem rows_ints (l : List Int) : RowsAre (l.map A.int) (ints l) 1 := by
  have e : (ints l).flatten = l.map A.int := by
    induction l with
    | nil => rfl
    | cons x l ih => rw [show ints (x :: l) = [.int x] :: ints l from rfl, List.flatten_cons, ih]; rfl
  have := rows_all (c := fun n : Int => [A.int n]) (sz := 1) (fun _ => rfl) (fun _ => rfl) l
  rwa [show (l.map fun n : Int => [A.int n]) = ints l from rfl, e] at this
end Go.Proofs.Ytdiclbgklegelaa

namespace Go.Proofs.Ytdiclbgklegelaa
open Go Go.AL Go.AL.Q
theorem race_t (r : Rce) (hf : r.Fit) : Ans Try.prog 75 [.agg r.c] (.bool r.ok) := by
  have h1 := hf.n
  have h2 := hf.k
  have h3 := hf.s
  have ln := ints_lenI r.numbers
  have lk := ints_lenI r.keep
  have ls := ints_lenI r.spawn
  have lm : (r.many : Int) = r.numbers.length := rfl
  have hm : r.many = r.numbers.length := rfl
  have urc : Under 0 (A.pt r.c) := (Free.pt _ r.free).under
  refine told Try.func75 rfl rfl (Pure.of tab_ok Try.func75 rfl Try.ntmps75 rfl (all1 (.agg _ r.free)) (all1 (fun _ => rfl)) (by first | exact .s _ | assumption | exact .tup _ (by intro x hx; simp only [List.mem_cons, List.not_mem_nil, or_false] at hx; rcases hx with rfl | rfl | rfl | rfl <;> first | exact .s _ | (simp_all; done))) fun E hE => ?_)
  refine Aw.sm tab_ok mb0 [] rfl rfl ?zo ?zk
  case zo =>
    repeat' apply AllP.cons
    all_goals first | exact trivial | exact id | exact rfl | exact fun _ => rfl | exact Nat.le_of_ble_eq_true rfl | exact fun _ => Nat.le_of_ble_eq_true rfl | exact Int.natCast_nonneg _ | exact fun _ => Int.natCast_nonneg _ | exact in_t _ _ _ | exact (in_t _ _ _).un | exact gq_f
  case zk =>
  refine Aw.sm tab_ok mb0 [] rfl rfl ?zo ?zk
  case zo =>
    repeat' apply AllP.cons
    all_goals first | exact trivial | exact id | exact rfl | exact fun _ => rfl | exact Nat.le_of_ble_eq_true rfl | exact fun _ => Nat.le_of_ble_eq_true rfl | exact Int.natCast_nonneg _ | exact fun _ => Int.natCast_nonneg _ | exact in_t _ _ _ | exact (in_t _ _ _).un | exact gq_f
  case zk =>
  refine Aw.keep (n := 0) (cst := [(1, .pt r.c), (3, .int r.many)]) (v := []) (Hl := []) hE ⟨urc, .s _, trivial⟩ trivial trivial ⟨⟨.refl _, .of_eq (congrArg A.int ln.symm), trivial⟩, trivial, trivial, Nat.zero_le _⟩ ?_
  refine Aw.sm tab_ok mb0 [(1, [.bool (wi r.many 1 6)]), (19, [.bool (wi r.line 0 100000000)]), (26, [.bool (wi r.mesh 0 ((r.many:Int) - 1))])] rfl rfl ?zo ?zk
  case zo =>
    repeat' apply AllP.cons
    all_goals first | exact trivial | exact id | exact rfl | exact fun _ => rfl | exact Nat.le_of_ble_eq_true rfl | exact fun _ => Nat.le_of_ble_eq_true rfl | exact Int.natCast_nonneg _ | exact fun _ => Int.natCast_nonneg _ | exact in_t _ _ _ | exact (in_t _ _ _).un | exact gq_f | exact fun _ => (by simp only [Ob.of, inR]; omega)
  case zk =>
  have hd : A.bool r.head = A.bool (cond (cond (cond (cond (wi r.many 1 6) (((ints r.keep).length : Int) == r.many) false) (((ints r.spawn).length : Int) == r.many) false) (wi r.line 0 100000000) false) (wi r.mesh 0 ((r.many:Int) - 1)) false) := by rw [lk, ls]; rfl
  refine Aw.seq ?_
  refine Aw.sm tab_ok mb0 [] rfl rfl ?zo ?zk
  case zo =>
    repeat' apply AllP.cons
    all_goals first | exact trivial | exact id | exact rfl | exact fun _ => rfl | exact Nat.le_of_ble_eq_true rfl | exact fun _ => Nat.le_of_ble_eq_true rfl | exact Int.natCast_nonneg _ | exact fun _ => Int.natCast_nonneg _ | exact in_t _ _ _ | exact (in_t _ _ _).un | exact gq_f
  case zk =>
  have lr : (List.range r.many).length = r.many := List.length_range
  refine Aw.block (Aw.rounds 0 hE [(1, .pt r.c), (3, .int r.many)] (fun k : Nat => [(4, .bool (andAll r.head r.ageOk (List.range r.many) k)), (5, .int k)]) (fun _ => []) (fun k => k ≤ r.many) (fun k => r.many - k) 0
    (Nat.zero_le _) ⟨⟨.refl _, .refl _, trivial⟩, ⟨.of_eq (by rw [andAll_zero]; exact hd), .refl _, trivial⟩, trivial, Nat.le_refl _⟩ ⟨urc, .s _, trivial⟩ (fun _ _ => ⟨.s _, .s _, trivial⟩) (fun _ _ => trivial) fun k hk => ?_)
  refine Aw.seq ?_
  refine Aw.sm tab_ok mb0 [] rfl rfl ?zo ?zk
  case zo =>
    repeat' apply AllP.cons
    all_goals first | exact trivial | exact id | exact rfl | exact fun _ => rfl | exact Nat.le_of_ble_eq_true rfl | exact fun _ => Nat.le_of_ble_eq_true rfl | exact Int.natCast_nonneg _ | exact fun _ => Int.natCast_nonneg _ | exact in_t _ _ _ | exact (in_t _ _ _).un | exact gq_f
  case zk =>
  refine Aw.cond rfl (fun h1 => Aw.skip ?_) (fun h1 => ?_)
  · have h1 : cond (andAll r.head r.ageOk (List.range r.many) k) (decide ((k : Int) < r.many)) false = true := h1
    have hb := ac1 h1
    have hlt : k < r.many := by have := of_decide_eq_true (ac2 h1); omega
    have hh : r.head = true := by unfold andAll at hb; exact ac1 hb
    have hk1 : r.keep.length = r.many := by unfold Rce.head at hh; have := eq_of_beq (ac2 (ac1 (ac1 (ac1 hh)))); omega
    have hs1 : r.spawn.length = r.many := by unfold Rce.head at hh; have := eq_of_beq (ac2 (ac1 (ac1 hh))); omega
    refine Aw.seq (Aw.block ?_)
    refine Aw.em tab_ok mb0 [(3, [.int (r.numbers.getD k 0)]), (5, [.bool (wi (r.numbers.getD k 0) 0 100000)]), (10, [.int (r.keep.getD k 0)]), (12, [.bool (wi (r.keep.getD k 0) 0 1000)]), (18, [.int (r.spawn.getD k 0)]), (20, [.bool (wi (r.spawn.getD k 0) 0 100)])] rfl rfl ?zo ?zk
    case zo =>
      repeat' apply AllP.cons
      all_goals first | exact trivial | exact id | exact rfl | exact fun _ => rfl | exact Nat.le_of_ble_eq_true rfl | exact fun _ => Nat.le_of_ble_eq_true rfl | exact Int.natCast_nonneg _ | exact fun _ => Int.natCast_nonneg _ | exact in_t _ _ _ | exact (in_t _ _ _).un | exact gq_f | exact ints_getD hlt | exact fun _ => ints_getD (by omega)
    case zk =>
    refine Aw.em tab_ok mb0 [] rfl rfl ?zo ?zk
    case zo =>
      repeat' apply AllP.cons
      all_goals first | exact trivial | exact id | exact rfl | exact fun _ => rfl | exact Nat.le_of_ble_eq_true rfl | exact fun _ => Nat.le_of_ble_eq_true rfl | exact Int.natCast_nonneg _ | exact fun _ => Int.natCast_nonneg _ | exact in_t _ _ _ | exact (in_t _ _ _).un | exact gq_f | exact inrk k (by omega)
    case zk =>
    have e : andAll r.head r.ageOk (List.range r.many) (k + 1) = r.ageOk k := by
      rw [andAll_succ (by rw [lr]; exact hlt) hb, List.getElem_range]
    exact ⟨k + 1, hlt, by omega, ⟨.refl _, .refl _, trivial⟩, ⟨.of_eq (congrArg A.bool e), .refl _, trivial⟩, trivial, Nat.zero_le _⟩
  have h1 : cond (andAll r.head r.ageOk (List.range r.many) k) (decide ((k : Int) < r.many)) false = false := h1
  have hend : andAll r.head r.ageOk (List.range r.many) k = r.ok := (andAll_end (by
    cases e : andAll r.head r.ageOk (List.range r.many) k with
    | false => exact .inl rfl
    | true => rw [e] at h1; have := of_decide_eq_false h1; exact .inr (by rw [lr]; omega)) (by rw [lr]; exact hk)).trans rfl
  rw [hend]
  refine Aw.exit2 ?_
  refine Aw.sm tab_ok mb0 [] rfl rfl ?zo ?zk
  case zo =>
    repeat' apply AllP.cons
    all_goals first | exact trivial | exact id | exact rfl | exact fun _ => rfl | exact Nat.le_of_ble_eq_true rfl | exact fun _ => Nat.le_of_ble_eq_true rfl | exact Int.natCast_nonneg _ | exact fun _ => Int.natCast_nonneg _ | exact in_t _ _ _ | exact (in_t _ _ _).un | exact gq_f
  case zk =>
  exact Aw.ret ⟨_, .cons (.tmp _) .nil, rfl⟩
def numF (l : List Int) (n m : Int) : Bool := cond ((l.length : Int) == n) (l.all fun x => wi x 0 m) false
theorem numbers_t (b : Bool) (l : List Int) (n m : Int) (hl : (l.length : Int) ≤ 9223372036854775806) : Ans Try.prog 76 [.sl b .any (ints l), .int n, .int m] (.bool (numF l n m)) := by
  have lz := ints_lenI l
  refine told Try.func76 rfl rfl (Pure.of tab_ok Try.func76 rfl Try.ntmps76 rfl (allC (free_ints _ _ _) (allC (.s _) (all1 (.s _)))) (allC (fun _ => rfl) (allC (fun _ => rfl) (all1 (fun _ => rfl)))) (by first | exact .s _ | assumption | exact .tup _ (by intro x hx; simp only [List.mem_cons, List.not_mem_nil, or_false] at hx; rcases hx with rfl | rfl | rfl | rfl <;> first | exact .s _ | (simp_all; done))) fun E hE => ?_)
  refine Aw.sm tab_ok mb0 [] rfl rfl ?zo ?zk
  case zo =>
    repeat' apply AllP.cons
    all_goals first | exact trivial | exact id | exact rfl | exact fun _ => rfl | exact Nat.le_of_ble_eq_true rfl | exact fun _ => Nat.le_of_ble_eq_true rfl | exact Int.natCast_nonneg _ | exact fun _ => Int.natCast_nonneg _ | exact in_t _ _ _ | exact (in_t _ _ _).un | exact gq_f
  case zk =>
  refine Aw.sm tab_ok mb0 [] rfl rfl ?zo ?zk
  case zo =>
    repeat' apply AllP.cons
    all_goals first | exact trivial | exact id | exact rfl | exact fun _ => rfl | exact Nat.le_of_ble_eq_true rfl | exact fun _ => Nat.le_of_ble_eq_true rfl | exact Int.natCast_nonneg _ | exact fun _ => Int.natCast_nonneg _ | exact in_t _ _ _ | exact (in_t _ _ _).un | exact gq_f
  case zk =>
  have hd : A.bool ((l.length : Int) == n) = A.bool (((ints l).length : Int) == n) := by rw [lz]
  refine Aw.seq ?_
  refine Aw.sm tab_ok mb0 [] rfl rfl ?zo ?zk
  case zo =>
    repeat' apply AllP.cons
    all_goals first | exact trivial | exact id | exact rfl | exact fun _ => rfl | exact Nat.le_of_ble_eq_true rfl | exact fun _ => Nat.le_of_ble_eq_true rfl | exact Int.natCast_nonneg _ | exact fun _ => Int.natCast_nonneg _ | exact in_t _ _ _ | exact (in_t _ _ _).un | exact gq_f
  case zk =>
  have ul : Under 0 (A.sl b .any (ints l)) := (free_ints _ _ _).under
  refine Aw.block (Aw.rounds 0 hE [(0, .sl b .any (ints l)), (2, .int m)] (fun k : Nat => [(7, .bool (andAll ((l.length : Int) == n) (fun x => wi x 0 m) l k)), (8, .int k)]) (fun _ => []) (fun k => k ≤ l.length) (fun k => l.length - k) 0
    (Nat.zero_le _) ⟨⟨.refl _, .refl _, trivial⟩, ⟨.of_eq (by rw [andAll_zero]; exact hd), .refl _, trivial⟩, trivial, Nat.le_refl _⟩ ⟨ul, .s _, trivial⟩ (fun _ _ => ⟨.s _, .s _, trivial⟩) (fun _ _ => trivial) fun k hk => ?_)
  refine Aw.seq ?_
  refine Aw.sm tab_ok mb0 [] rfl rfl ?zo ?zk
  case zo =>
    repeat' apply AllP.cons
    all_goals first | exact trivial | exact id | exact rfl | exact fun _ => rfl | exact Nat.le_of_ble_eq_true rfl | exact fun _ => Nat.le_of_ble_eq_true rfl | exact Int.natCast_nonneg _ | exact fun _ => Int.natCast_nonneg _ | exact in_t _ _ _ | exact (in_t _ _ _).un | exact gq_f
  case zk =>
  refine Aw.cond rfl (fun h1 => Aw.skip ?_) (fun h1 => ?_)
  · have h1 : cond (andAll ((l.length : Int) == n) (fun x => wi x 0 m) l k) (decide ((k : Int) < ((ints l).length : Int))) false = true := h1
    have hb := ac1 h1
    have hlt : k < l.length := by have := of_decide_eq_true (ac2 h1); omega
    have e := andAll_succ hlt hb
    have g := ints_get hlt
    generalize l[k] = x at *
    refine Aw.seq (Aw.block ?_)
    refine Aw.em tab_ok mb0 [(2, [.int x]), (5, [.bool (wi x 0 m)])] rfl rfl ?zo ?zk
    case zo =>
      repeat' apply AllP.cons
      all_goals first | exact trivial | exact id | exact rfl | exact fun _ => rfl | exact Nat.le_of_ble_eq_true rfl | exact fun _ => Nat.le_of_ble_eq_true rfl | exact Int.natCast_nonneg _ | exact fun _ => Int.natCast_nonneg _ | exact in_t _ _ _ | exact (in_t _ _ _).un | exact gq_f | exact g
    case zk =>
    refine Aw.em tab_ok mb0 [] rfl rfl ?zo ?zk
    case zo =>
      repeat' apply AllP.cons
      all_goals first | exact trivial | exact id | exact rfl | exact fun _ => rfl | exact Nat.le_of_ble_eq_true rfl | exact fun _ => Nat.le_of_ble_eq_true rfl | exact Int.natCast_nonneg _ | exact fun _ => Int.natCast_nonneg _ | exact in_t _ _ _ | exact (in_t _ _ _).un | exact gq_f | exact inrk k (by omega)
    case zk =>
    exact ⟨k + 1, hlt, by omega, ⟨.refl _, .refl _, trivial⟩, ⟨.of_eq (congrArg A.bool e), .refl _, trivial⟩, trivial, Nat.zero_le _⟩
  have h1 : cond (andAll ((l.length : Int) == n) (fun x => wi x 0 m) l k) (decide ((k : Int) < ((ints l).length : Int))) false = false := h1
  have hend : andAll ((l.length : Int) == n) (fun x => wi x 0 m) l k = numF l n m := (andAll_end (by
    cases e : andAll ((l.length : Int) == n) (fun x => wi x 0 m) l k with
    | false => exact .inl rfl
    | true => rw [e] at h1; have := of_decide_eq_false h1; exact .inr (by omega)) hk)
  rw [hend]
  refine Aw.exit2 ?_
  refine Aw.sm tab_ok mb0 [] rfl rfl ?zo ?zk
  case zo =>
    repeat' apply AllP.cons
    all_goals first | exact trivial | exact id | exact rfl | exact fun _ => rfl | exact Nat.le_of_ble_eq_true rfl | exact fun _ => Nat.le_of_ble_eq_true rfl | exact Int.natCast_nonneg _ | exact fun _ => Int.natCast_nonneg _ | exact in_t _ _ _ | exact (in_t _ _ _).un | exact gq_f
  case zk =>
  exact Aw.ret ⟨_, .cons (.tmp _) .nil, rfl⟩
theorem spawners_t (r : Rce) (hr : RceOk r) (b : Bool) (l : List Int) (B : Int) (hp : Pop r B l) (hB : B ≤ 10000000) : Ans Try.prog 92 [.agg r.c, .sl b .any (ints l)] (.int (spawnF r l)) := by
  have lz := ints_lenI l
  have m6 := hr.m6
  have hlen := hp.len
  refine told Try.func92 rfl rfl (Pure.of tab_ok Try.func92 rfl Try.ntmps92 rfl (allC (.agg _ r.free) (all1 (free_ints _ _ _))) (allC (fun _ => rfl) (all1 (fun _ => rfl))) (by first | exact .s _ | assumption | exact .tup _ (by intro x hx; simp only [List.mem_cons, List.not_mem_nil, or_false] at hx; rcases hx with rfl | rfl | rfl | rfl <;> first | exact .s _ | (simp_all; done))) fun E hE => ?_)
  refine Aw.sm tab_ok mb0 [] rfl rfl ?zo ?zk
  case zo =>
    repeat' apply AllP.cons
    all_goals first | exact trivial | exact id | exact rfl | exact fun _ => rfl | exact Nat.le_of_ble_eq_true rfl | exact fun _ => Nat.le_of_ble_eq_true rfl | exact Int.natCast_nonneg _ | exact fun _ => Int.natCast_nonneg _ | exact in_t _ _ _ | exact (in_t _ _ _).un | exact gq_f
  case zk =>
  refine Aw.sm tab_ok mb0 [] rfl rfl ?zo ?zk
  case zo =>
    repeat' apply AllP.cons
    all_goals first | exact trivial | exact id | exact rfl | exact fun _ => rfl | exact Nat.le_of_ble_eq_true rfl | exact fun _ => Nat.le_of_ble_eq_true rfl | exact Int.natCast_nonneg _ | exact fun _ => Int.natCast_nonneg _ | exact in_t _ _ _ | exact (in_t _ _ _).un | exact gq_f
  case zk =>
  refine Aw.seq ?_
  refine Aw.sm tab_ok mb0 [] rfl rfl ?zo ?zk
  case zo =>
    repeat' apply AllP.cons
    all_goals first | exact trivial | exact id | exact rfl | exact fun _ => rfl | exact Nat.le_of_ble_eq_true rfl | exact fun _ => Nat.le_of_ble_eq_true rfl | exact Int.natCast_nonneg _ | exact fun _ => Int.natCast_nonneg _ | exact in_t _ _ _ | exact (in_t _ _ _).un | exact gq_f
  case zk =>
  have ul : Under 0 (A.sl b .any (ints l)) := (free_ints _ _ _).under
  have urc : Under 0 (A.pt r.c) := (Free.pt _ r.free).under
  have bd : ∀ k, k ≤ r.many → 0 ≤ (spawnN r l k).sum ∧ (spawnN r l k).sum ≤ 1000000000 * k := fun k => by
    induction k with
    | zero => intro _; simp [spawnN]
    | succ k ih =>
      intro hk
      have h1 := ih (by omega)
      have h2 := getD_pos hp.pos k
      have h3 := sum_ge hp.pos k
      have h4 := hr.sb k (by omega)
      have h5 := hp.sum
      have h6 := mul_bd (a := l.getD k 0) (b := r.spawn.getD k 0) (x := 10000000) (y := 100) ⟨h2, by omega⟩ h4
      have e : spawnN r l (k + 1) = spawnN r l k ++ [l.getD k 0 * r.spawn.getD k 0] := by unfold spawnN; rw [List.range_succ, List.map_append]; rfl
      rw [e, List.sum_append]
      simp only [List.sum_cons, List.sum_nil]
      omega
  refine Aw.block (Aw.rounds 0 hE [(1, .sl b .any (ints l)), (2, .pt r.c)] (fun k : Nat => [(5, .int (spawnN r l k).sum), (6, .int k)]) (fun _ => []) (fun k => k ≤ r.many) (fun k => r.many - k) 0
    (Nat.zero_le _) ⟨⟨.refl _, .refl _, trivial⟩, ⟨.refl _, .refl _, trivial⟩, trivial, Nat.le_refl _⟩ ⟨ul, urc, trivial⟩ (fun _ _ => ⟨.s _, .s _, trivial⟩) (fun _ _ => trivial) fun k hk => ?_)
  refine Aw.seq ?_
  refine Aw.sm tab_ok mb0 [] rfl rfl ?zo ?zk
  case zo =>
    repeat' apply AllP.cons
    all_goals first | exact trivial | exact id | exact rfl | exact fun _ => rfl | exact Nat.le_of_ble_eq_true rfl | exact fun _ => Nat.le_of_ble_eq_true rfl | exact Int.natCast_nonneg _ | exact fun _ => Int.natCast_nonneg _ | exact in_t _ _ _ | exact (in_t _ _ _).un | exact gq_f
  case zk =>
  refine Aw.cond rfl (fun h1 => Aw.skip ?_) (fun h1 => ?_)
  · have hlt : k < r.many := by have := of_decide_eq_true h1; omega
    have b1 := bd k hk
    have b2 := bd (k + 1) hlt
    have e : (spawnN r l (k + 1)).sum = (spawnN r l k).sum + l.getD k 0 * r.spawn.getD k 0 := by
      unfold spawnN; rw [List.range_succ, List.map_append, List.sum_append]; simp
    have g1 : (ints l)[k]? = some [.int (l.getD k 0)] := ints_getD (by omega)
    have g2 : (ints r.spawn)[k]? = some [.int (r.spawn.getD k 0)] := ints_getD (by have := hr.s; omega)
    have o1 : inR (l.getD k 0 * r.spawn.getD k 0) := by
      have := mul_bd (a := l.getD k 0) (b := r.spawn.getD k 0) (x := 10000000) (y := 100) ⟨getD_pos hp.pos k, by have := sum_ge hp.pos k; have := hp.sum; omega⟩ (hr.sb k (by omega))
      simp only [inR]; omega
    have o2 : inR ((spawnN r l k).sum + l.getD k 0 * r.spawn.getD k 0) := by rw [← e]; simp only [inR]; omega
    refine Aw.seq (Aw.block ?_)
    refine Aw.ed tab_ok mixed mb0 [(3, [.int (l.getD k 0)]), (8, [.int (r.spawn.getD k 0)])] rfl (by kernel_rfl) rfl rfl ?zo ?zk
    case zo =>
      repeat' apply AllP.cons
      all_goals first | exact trivial | exact id | exact rfl | exact fun _ => rfl | exact Nat.le_of_ble_eq_true rfl | exact fun _ => Nat.le_of_ble_eq_true rfl | exact Int.natCast_nonneg _ | exact fun _ => Int.natCast_nonneg _ | exact in_t _ _ _ | exact (in_t _ _ _).un | exact gq_f | exact g1 | exact g2 | exact o1 | exact o2
    case zk =>
    refine Aw.em tab_ok mb0 [] rfl rfl ?zo ?zk
    case zo =>
      repeat' apply AllP.cons
      all_goals first | exact trivial | exact id | exact rfl | exact fun _ => rfl | exact Nat.le_of_ble_eq_true rfl | exact fun _ => Nat.le_of_ble_eq_true rfl | exact Int.natCast_nonneg _ | exact fun _ => Int.natCast_nonneg _ | exact in_t _ _ _ | exact (in_t _ _ _).un | exact gq_f | exact inrk k (by omega)
    case zk =>
    exact ⟨k + 1, hlt, by omega, ⟨.refl _, .refl _, trivial⟩, ⟨.of_eq (congrArg A.int e), .refl _, trivial⟩, trivial, Nat.zero_le _⟩
  have hend : k = r.many := by have := of_decide_eq_false h1; omega
  subst hend
  refine Aw.exit2 ?_
  refine Aw.sm tab_ok mb0 [] rfl rfl ?zo ?zk
  case zo =>
    repeat' apply AllP.cons
    all_goals first | exact trivial | exact id | exact rfl | exact fun _ => rfl | exact Nat.le_of_ble_eq_true rfl | exact fun _ => Nat.le_of_ble_eq_true rfl | exact Int.natCast_nonneg _ | exact fun _ => Int.natCast_nonneg _ | exact in_t _ _ _ | exact (in_t _ _ _).un | exact gq_f
  case zk =>
  exact Aw.ret ⟨_, .cons (.tmp _) .nil, rfl⟩
end Go.Proofs.Ytdiclbgklegelaa

namespace Go.Proofs.Ytdiclbgklegelaa
open Go Go.AL Go.AL.Q
theorem caught_t (r : Rce) (hr : RceOk r) (b : Bool) (l : List Int) (take bd : Int) (hp : Pop r bd l) (hB : bd ≤ 10000000) (ht : 0 ≤ take ∧ take ≤ 1000000000) :
    Ans Try.prog 91 [.agg r.c, .sl b .any (ints l), .int take] (.sl false .any (ints (caughtF r l take))) := by
  have hfr : Free (.sl false .any (ints (caughtF r l take))) := free_ints _ _ _
  have lz := ints_lenI l
  have m1 := hr.m1
  have m6 := hr.m6
  have hlen := hp.len
  have hmesh := hr.h
  refine told Try.func91 rfl rfl (Pure.of tab_ok Try.func91 rfl Try.ntmps91 rfl (allC (.agg _ r.free) (allC (free_ints _ _ _) (all1 (.s _)))) (allC (fun _ => rfl) (allC (fun _ => rfl) (all1 (fun _ => rfl)))) (by first | exact .s _ | assumption | exact .tup _ (by intro x hx; simp only [List.mem_cons, List.not_mem_nil, or_false] at hx; rcases hx with rfl | rfl | rfl | rfl <;> first | exact .s _ | (simp_all; done))) fun E hE => ?_)
  have hE1 : ∀ id, 1 ≤ id → E.φ0 id = none := fun id h => hE id (by omega)
  have n1 : ints l ≠ [] := fun h => by rw [h] at lz; simp at lz; omega
  refine Aw.sm tab_ok mb0 [] rfl rfl ?zo ?zk
  case zo =>
    repeat' apply AllP.cons
    all_goals first | exact trivial | exact id | exact rfl | exact fun _ => rfl | exact Nat.le_of_ble_eq_true rfl | exact fun _ => Nat.le_of_ble_eq_true rfl | exact Int.natCast_nonneg _ | exact fun _ => Int.natCast_nonneg _ | exact in_t _ _ _ | exact (in_t _ _ _).un | exact gq_f
  case zk =>
  refine Aw.sm tab_ok mb0 [(2, [.ms 0 0 0])] rfl rfl ?zo ?zk
  case zo =>
    repeat' apply AllP.cons
    all_goals first | exact trivial | exact id | exact rfl | exact fun _ => rfl | exact Nat.le_of_ble_eq_true rfl | exact fun _ => Nat.le_of_ble_eq_true rfl | exact Int.natCast_nonneg _ | exact fun _ => Int.natCast_nonneg _ | exact in_t _ _ _ | exact (in_t _ _ _).un | exact gq_f | exact n1 | exact ints_each _ | exact (show (ints l).length * 8 ≤ 140737488355328 by omega) | exact (show (ints l).length ≤ maxLen by unfold maxLen; omega)
  case zk =>
  refine Aw.seq ?_
  refine Aw.sm tab_ok mb0 [] rfl rfl ?zo ?zk
  case zo =>
    repeat' apply AllP.cons
    all_goals first | exact trivial | exact id | exact rfl | exact fun _ => rfl | exact Nat.le_of_ble_eq_true rfl | exact fun _ => Nat.le_of_ble_eq_true rfl | exact Int.natCast_nonneg _ | exact fun _ => Int.natCast_nonneg _ | exact in_t _ _ _ | exact (in_t _ _ _).un | exact gq_f | exact (show inR (((ints l).length : Int) - 1) by simp only [inR]; omega)
  case zk =>
  have cu : ∀ l : List Int, UnderB 1 (.cells (l.map A.int)) := fun l => cells_under l
  refine Aw.block (Aw.rounds (ι := Nat × List Int × Int) 1 hE1 [(3, .pt r.c), (7, .ms 0 0 r.many)] (fun i => [(2, .int i.2.2), (8, .int (dn i.1))]) (fun i => [(0, .cells (i.2.1.map A.int))])
    (fun i => i.1 ≤ r.many ∧ Pop r bd i.2.1 ∧ (0 ≤ i.2.2 ∧ i.2.2 ≤ 1000000000) ∧ catchF i.2.1 r.mesh.toNat i.1 i.2.2 = caughtF r l take) (fun i => i.1) (r.many, l, take)
    ⟨Nat.le_refl _, hp, ht, rfl⟩ ⟨⟨.refl _, .of_eq (show A.ms 0 0 r.many = A.ms 0 0 (ints l).length by rw [ints_len, hlen]), trivial⟩, ⟨.refl _, .of_eq (congrArg A.int (by rw [dn_eq]; omega)), trivial⟩, ⟨congrArg (fun x => some (B.cells x)) (ints_flat l), trivial⟩, Nat.le_refl _⟩
    ⟨(Free.pt _ r.free).under, .ms _ _ _ (by decide), trivial⟩ (fun _ _ => ⟨.s _, .s _, trivial⟩) (fun _ _ => ⟨⟨by decide, cu _⟩, trivial⟩) ?_)
  rintro ⟨k, l1, tk⟩ ⟨hk, hpop, htk, hrun⟩
  simp only at hk hpop htk hrun
  refine Aw.seq ?_
  refine Aw.sm tab_ok mb0 [] rfl rfl ?zo ?zk
  case zo =>
    repeat' apply AllP.cons
    all_goals first | exact trivial | exact id | exact rfl | exact fun _ => rfl | exact Nat.le_of_ble_eq_true rfl | exact fun _ => Nat.le_of_ble_eq_true rfl | exact Int.natCast_nonneg _ | exact fun _ => Int.natCast_nonneg _ | exact in_t _ _ _ | exact (in_t _ _ _).un | exact gq_f
  case zk =>
  refine Aw.cond rfl (fun h1 => Aw.skip ?_) (fun h1 => ?_)
  · have h1' : dn k ≥ r.mesh := of_decide_eq_true h1
    obtain ⟨j, rfl⟩ : ∃ j, k = j + 1 := by cases k with
      | zero => have : (-1 : Int) ≥ r.mesh := h1'; omega
      | succ j => exact ⟨j, rfl⟩
    have h2 : r.mesh.toNat ≤ j := by have : (j : Int) ≥ r.mesh := h1'; omega
    rw [catchF, if_pos h2] at hrun
    have jl : j < l1.length := by rw [hpop.len]; omega
    have nn := getD_pos hpop.pos j
    have ns := sum_ge hpop.pos j
    have nsb := hpop.sum
    have hmn := minI (l1.getD j 0) tk
    have hg' := cell_at jl
    have pj' : 0 + j * 1 < (l1.map A.int).length := by rw [List.length_map]; omega
    have pj2 : 0 + j * 1 + 1 ≤ (l1.map A.int).length := by omega
    have j6 : (j : Int) < ((r.many : Nat) : Int) := by omega
    refine Aw.seq (Aw.block ?_)
    refine Aw.sm tab_ok mb0 [(3, [.int (l1.getD j 0)])] rfl rfl ?zo ?zk
    case zo =>
      repeat' apply AllP.cons
      all_goals first | exact trivial | exact id | exact rfl | exact fun _ => rfl | exact Nat.le_of_ble_eq_true rfl | exact fun _ => Nat.le_of_ble_eq_true rfl | exact Int.natCast_nonneg _ | exact fun _ => Int.natCast_nonneg _ | exact in_t _ _ _ | exact (in_t _ _ _).un | exact gq_f | exact hg' | exact pj' | exact j6
    case zk =>
    have ob1 : inR (tk - (if tk < l1.getD j 0 then tk else l1.getD j 0)) := by rw [hmn]; simp only [inR]; omega
    have ob2 : inR (l1.getD j 0 - (if tk < l1.getD j 0 then tk else l1.getD j 0)) := by rw [hmn]; simp only [inR]; omega
    have hst : setSeg (l1.map A.int) (0 + j * 1) [A.int (l1.getD j 0 - (if tk < l1.getD j 0 then tk else l1.getD j 0))] = (l1.set j (l1.getD j 0 - min (l1.getD j 0) tk)).map A.int := by
      rw [hmn, cell_set jl]
    refine Aw.sm tab_ok mb0 [(3, [.int (l1.getD j 0)])] rfl rfl ?zo ?zk
    case zo =>
      repeat' apply AllP.cons
      all_goals first | exact trivial | exact id | exact rfl | exact fun _ => rfl | exact Nat.le_of_ble_eq_true rfl | exact fun _ => Nat.le_of_ble_eq_true rfl | exact Int.natCast_nonneg _ | exact fun _ => Int.natCast_nonneg _ | exact in_t _ _ _ | exact (in_t _ _ _).un | exact gq_f | exact hg' | exact pj' | exact pj2 | exact j6 | exact ob2
    case zk =>
    refine Aw.em tab_ok mb0 [] rfl rfl ?zo ?zk
    case zo =>
      repeat' apply AllP.cons
      all_goals first | exact trivial | exact id | exact rfl | exact fun _ => rfl | exact Nat.le_of_ble_eq_true rfl | exact fun _ => Nat.le_of_ble_eq_true rfl | exact Int.natCast_nonneg _ | exact fun _ => Int.natCast_nonneg _ | exact in_t _ _ _ | exact (in_t _ _ _).un | exact gq_f | exact ob1
    case zk =>
    refine Aw.em tab_ok mb0 [] rfl rfl ?zo ?zk
    case zo =>
      repeat' apply AllP.cons
      all_goals first | exact trivial | exact id | exact rfl | exact fun _ => rfl | exact Nat.le_of_ble_eq_true rfl | exact fun _ => Nat.le_of_ble_eq_true rfl | exact Int.natCast_nonneg _ | exact fun _ => Int.natCast_nonneg _ | exact in_t _ _ _ | exact (in_t _ _ _).un | exact gq_f | exact (show inR ((j : Int) - 1) by simp only [inR]; omega)
    case zk =>
    have hpop2 := catchF_pop (mesh := j) (j + 1) tk l1 hpop htk.1 hk
    rw [catchF, if_pos (Nat.le_refl _), show ∀ (l : List Int) (t : Int), catchF l j j t = l from fun l t => by cases j with
      | zero => rfl
      | succ i => rw [catchF, if_neg (by omega)]] at hpop2
    exact ⟨(j, l1.set j (l1.getD j 0 - min (l1.getD j 0) tk), tk - min (l1.getD j 0) tk), ⟨by show j ≤ _; omega, hpop2, by show 0 ≤ tk - min (l1.getD j 0) tk ∧ tk - min (l1.getD j 0) tk ≤ _; omega, hrun⟩, Nat.lt_succ_self j,
      ⟨.refl _, .refl _, trivial⟩, ⟨.of_eq (show A.int (tk - min (l1.getD j 0) tk) = A.int (tk - (if tk < l1.getD j 0 then tk else l1.getD j 0)) by rw [hmn]), .of_eq (show A.int (dn j) = A.int ((j : Int) - 1) by rw [dn_eq]), trivial⟩,
      ⟨congrArg (fun x => some (B.cells x)) hst, trivial⟩, Nat.le_of_ble_eq_true rfl⟩
  have h1' : ¬ dn k ≥ r.mesh := of_decide_eq_false h1
  have hC : l1 = caughtF r l take := by
    rw [← hrun]
    cases k with
    | zero => rfl
    | succ j =>
      have : ¬ (j : Int) ≥ r.mesh := h1'
      rw [catchF, if_neg (by omega)]
  refine Aw.exit2 ?_
  rw [← hC]
  refine Aw.freezeS (id := 0) (t := 7) (sz := 1) (cs := l1.map A.int) (ints l1) rfl rfl (rows_ints _) (by rw [ints_len, hpop.len]) ?_
  refine Aw.sm tab_ok mb0 [] rfl rfl ?zo ?zk
  case zo =>
    repeat' apply AllP.cons
    all_goals first | exact trivial | exact id | exact rfl | exact fun _ => rfl | exact Nat.le_of_ble_eq_true rfl | exact fun _ => Nat.le_of_ble_eq_true rfl | exact Int.natCast_nonneg _ | exact fun _ => Int.natCast_nonneg _ | exact in_t _ _ _ | exact (in_t _ _ _).un | exact gq_f
  case zk =>
  exact Aw.ret ⟨_, .cons (.tmp _) .nil, rfl⟩
theorem winter_t (r : Rce) (hr : RceOk r) (b : Bool) (l : List Int) (x bd : Int) (hp : Pop r bd l) (hB : bd ≤ 10000000) (hx : 0 ≤ x ∧ x ≤ 100000) :
    Ans Try.prog 93 [.agg r.c, .sl b .any (ints l), .int x] (.sl false .any (ints (winF r l x))) := by
  have hfr : Free (.sl false .any (ints (winF r l x))) := free_ints _ _ _
  have lz := ints_lenI l
  have m1 := hr.m1
  have m6 := hr.m6
  have hlen := hp.len
  refine told Try.func93 rfl rfl (Pure.of tab_ok Try.func93 rfl Try.ntmps93 rfl (allC (.agg _ r.free) (allC (free_ints _ _ _) (all1 (.s _)))) (allC (fun _ => rfl) (allC (fun _ => rfl) (all1 (fun _ => rfl)))) (by first | exact .s _ | assumption | exact .tup _ (by intro x hx; simp only [List.mem_cons, List.not_mem_nil, or_false] at hx; rcases hx with rfl | rfl | rfl | rfl <;> first | exact .s _ | (simp_all; done))) fun E hE => ?_)
  have hE1 : ∀ id, 1 ≤ id → E.φ0 id = none := fun id h => hE id (by omega)
  refine Aw.sm tab_ok mb0 [] rfl rfl ?zo ?zk
  case zo =>
    repeat' apply AllP.cons
    all_goals first | exact trivial | exact id | exact rfl | exact fun _ => rfl | exact Nat.le_of_ble_eq_true rfl | exact fun _ => Nat.le_of_ble_eq_true rfl | exact Int.natCast_nonneg _ | exact fun _ => Int.natCast_nonneg _ | exact in_t _ _ _ | exact (in_t _ _ _).un | exact gq_f
  case zk =>
  refine Aw.sm tab_ok mb0 [] rfl rfl ?zo ?zk
  case zo =>
    repeat' apply AllP.cons
    all_goals first | exact trivial | exact id | exact rfl | exact fun _ => rfl | exact Nat.le_of_ble_eq_true rfl | exact fun _ => Nat.le_of_ble_eq_true rfl | exact Int.natCast_nonneg _ | exact fun _ => Int.natCast_nonneg _ | exact in_t _ _ _ | exact (in_t _ _ _).un | exact gq_f | exact (show (((ints l).length : Nat) : Int) ≤ maxLen by unfold maxLen; omega) | exact (show (8 : Int) * (((ints l).length : Nat) : Int) ≤ 140737488355328 by omega)
  case zk =>
  have cu : ∀ l : List Int, UnderB 1 (.cells (l.map A.int)) := fun l => cells_under l
  have hz : (((List.range (((ints l).length : Int).toNat * 1)).map fun j => ([A.s (.int .i64 0)] : List A).getD (j % 1) .un).map A.down) = (winN r l 0).map A.int := by
    rw [Int.toNat_natCast, ints_len, hlen, Nat.mul_one]
    refine List.ext_getElem (by simp [winN]) fun i h1 h2 => ?_
    simp [winN, Nat.mod_one, A.down]
  refine Aw.seq ?_
  refine Aw.sm tab_ok mb0 [] rfl rfl ?zo ?zk
  case zo =>
    repeat' apply AllP.cons
    all_goals first | exact trivial | exact id | exact rfl | exact fun _ => rfl | exact Nat.le_of_ble_eq_true rfl | exact fun _ => Nat.le_of_ble_eq_true rfl | exact Int.natCast_nonneg _ | exact fun _ => Int.natCast_nonneg _ | exact in_t _ _ _ | exact (in_t _ _ _).un | exact gq_f
  case zk =>
  refine Aw.block (Aw.rounds 1 hE1 [(1, .sl b .any (ints l)), (2, .int x), (3, .pt r.c), (7, .ms 0 0 r.many)] (fun k : Nat => [(8, .int k)]) (fun k => [(0, .cells ((winN r l k).map A.int))]) (fun k => k ≤ r.many) (fun k => r.many - k) 0
    (Nat.zero_le _) ⟨⟨.refl _, .refl _, .refl _, .of_eq (show A.ms 0 0 r.many = A.ms 0 0 ((ints l).length : Int).toNat by rw [Int.toNat_natCast, ints_len, hlen]), trivial⟩, ⟨.refl _, trivial⟩, ⟨congrArg (fun x => some (B.cells x)) hz, trivial⟩, Nat.le_refl _⟩
    ⟨(free_ints _ _ _).under, .s _, (Free.pt _ r.free).under, .ms _ _ _ (by decide), trivial⟩ (fun _ _ => ⟨.s _, trivial⟩) (fun _ _ => ⟨⟨by decide, cu _⟩, trivial⟩) fun k hk => ?_)
  refine Aw.seq ?_
  refine Aw.sm tab_ok mb0 [] rfl rfl ?zo ?zk
  case zo =>
    repeat' apply AllP.cons
    all_goals first | exact trivial | exact id | exact rfl | exact fun _ => rfl | exact Nat.le_of_ble_eq_true rfl | exact fun _ => Nat.le_of_ble_eq_true rfl | exact Int.natCast_nonneg _ | exact fun _ => Int.natCast_nonneg _ | exact in_t _ _ _ | exact (in_t _ _ _).un | exact gq_f
  case zk =>
  refine Aw.cond rfl (fun h1 => Aw.skip ?_) (fun h1 => ?_)
  · have hlt : k < r.many := by have := of_decide_eq_true h1; omega
    have hw := winN_pop hr hp k (by omega)
    have hkb := hr.kb k hlt
    have hc0 := getD_pos hp.pos k
    have hc1 := sum_ge hp.pos k
    have hc2 := hp.sum
    have hkl := hr.k
    have hck := mul_bd (a := l.getD k 0) (x := 10000000) ⟨hc0, by omega⟩ hkb
    have ok : inR (l.getD k 0 * r.keep.getD k 0) := by simp only [inR]; omega
    obtain ⟨m, hm1⟩ : ∃ m : Nat, m = min (k + 1) (r.many - 1) := ⟨_, rfl⟩
    have hmi : (if ((ints l).length : Int) - 1 < (k : Int) + 1 then ((ints l).length : Int) - 1 else (k : Int) + 1) = (m : Int) := by split <;> omega
    have wl := hw.len
    have hwg : (((winN r l k).map A.int).getD (0 + Int.toNat (if ((ints l).length : Int) - 1 < (k : Int) + 1 then ((ints l).length : Int) - 1 else (k : Int) + 1) * 1) .un).down = .int ((winN r l k).getD m 0) := by
      rw [hmi, Int.toNat_natCast]; exact cell_at (by omega)
    have wb := getD_pos hw.pos m
    have wg := sum_ge hw.pos m
    have ws := hw.sum
    have wt := sum_take_le hp.pos k
    have lb := live_bd hc0 hkb
    have q1 : 0 + Int.toNat (if ((ints l).length : Int) - 1 < (k : Int) + 1 then ((ints l).length : Int) - 1 else (k : Int) + 1) * 1 + 1 ≤ ((winN r l k).map A.int).length := by rw [hmi, Int.toNat_natCast, List.length_map, wl]; omega
    have q2 : 0 + Int.toNat (if ((ints l).length : Int) - 1 < (k : Int) + 1 then ((ints l).length : Int) - 1 else (k : Int) + 1) * 1 < ((winN r l k).map A.int).length := q1
    have q3 : 0 ≤ (if ((ints l).length : Int) - 1 < (k : Int) + 1 then ((ints l).length : Int) - 1 else (k : Int) + 1) := by rw [hmi]; omega
    have q4 : (if ((ints l).length : Int) - 1 < (k : Int) + 1 then ((ints l).length : Int) - 1 else (k : Int) + 1) < ((r.many : Nat) : Int) := by rw [hmi]; omega
    have q5 : inR ((winN r l k).getD m 0 + (l.getD k 0 * r.keep.getD k 0).tdiv 1000) := by simp only [inR]; omega
    have q6 : (1000 : Int) ≠ 0 ∧ inR ((l.getD k 0 * r.keep.getD k 0).tdiv 1000) := ⟨by decide, by simp only [inR]; omega⟩
    have q7 : inR (((ints l).length : Int) - 1) := by simp only [inR]; omega
    have hst : setSeg ((winN r l k).map A.int) (0 + Int.toNat (if ((ints l).length : Int) - 1 < (k : Int) + 1 then ((ints l).length : Int) - 1 else (k : Int) + 1) * 1) [A.int ((winN r l k).getD m 0 + (l.getD k 0 * r.keep.getD k 0).tdiv 1000)] = (winN r l (k + 1)).map A.int := by
      rw [hmi, Int.toNat_natCast, cell_set (by omega), winN, ← hm1]
    refine Aw.seq (Aw.block ?_)
    refine Aw.ed tab_ok mixed mb0 [(8, [.int ((winN r l k).getD m 0)]), (11, [.int (l.getD k 0)]), (16, [.int (r.keep.getD k 0)])] rfl (by kernel_rfl) rfl rfl ?zo ?zk
    case zo =>
      repeat' apply AllP.cons
      all_goals first | exact trivial | exact id | exact rfl | exact fun _ => rfl | exact Nat.le_of_ble_eq_true rfl | exact fun _ => Nat.le_of_ble_eq_true rfl | exact Int.natCast_nonneg _ | exact fun _ => Int.natCast_nonneg _ | exact in_t _ _ _ | exact (in_t _ _ _).un | exact gq_f | exact ok | exact hwg | exact ints_getD (by omega) | exact q1 | exact q2 | exact q3 | exact q4 | exact q5 | exact q6 | exact q7 | exact inrk k (by omega)
    case zk =>
    refine Aw.em tab_ok mb0 [] rfl rfl ?zo ?zk
    case zo =>
      repeat' apply AllP.cons
      all_goals first | exact trivial | exact id | exact rfl | exact fun _ => rfl | exact Nat.le_of_ble_eq_true rfl | exact fun _ => Nat.le_of_ble_eq_true rfl | exact Int.natCast_nonneg _ | exact fun _ => Int.natCast_nonneg _ | exact in_t _ _ _ | exact (in_t _ _ _).un | exact gq_f | exact inrk k (by omega)
    case zk =>
    exact ⟨k + 1, hlt, by omega, ⟨.refl _, .refl _, .refl _, .refl _, trivial⟩, ⟨.refl _, trivial⟩, ⟨congrArg (fun x => some (B.cells x)) hst, trivial⟩, Nat.le_of_ble_eq_true rfl⟩
  have hle : k = r.many := by have := of_decide_eq_false h1; omega
  subst hle
  have hw := winN_pop hr hp r.many (Nat.le_refl _)
  have wl := hw.len
  have wb := getD_pos hw.pos 0
  have wg := sum_ge hw.pos 0
  have ws := hw.sum
  have wt := sum_take_le hp.pos r.many
  have hps := hp.sum
  have z1 : (((winN r l r.many).map A.int).getD (0 + 0 * 1) .un).down = .int ((winN r l r.many).getD 0 0) := cell_at (by omega)
  have z2 : 0 + 0 * 1 < ((winN r l r.many).map A.int).length := by rw [List.length_map, wl]; omega
  have z3 : (0 : Int) < ((r.many : Nat) : Int) := by omega
  refine Aw.exit2 ?_
  refine Aw.sm tab_ok mb0 [(2, [.int ((winN r l r.many).getD 0 0)])] rfl rfl ?zo ?zk
  case zo =>
    repeat' apply AllP.cons
    all_goals first | exact trivial | exact id | exact rfl | exact fun _ => rfl | exact Nat.le_of_ble_eq_true rfl | exact fun _ => Nat.le_of_ble_eq_true rfl | exact Int.natCast_nonneg _ | exact fun _ => Int.natCast_nonneg _ | exact in_t _ _ _ | exact (in_t _ _ _).un | exact gq_f | exact z1 | exact z2 | exact z3 | exact (show inR ((winN r l r.many).getD 0 0 + x) by simp only [inR]; omega)
  case zk =>
  have hst : setSeg ((winN r l r.many).map A.int) (0 + 0 * 1) [A.int ((winN r l r.many).getD 0 0 + x)] = (winF r l x).map A.int := by
    rw [cell_set (by omega)]; rfl
  refine Aw.freezeS (id := 0) (t := 7) (sz := 1) (cs := setSeg ((winN r l r.many).map A.int) (0 + 0 * 1) [A.int ((winN r l r.many).getD 0 0 + x)]) (ints (winF r l x)) rfl rfl (by rw [hst]; exact rows_ints _) (by rw [ints_len]; simp [winF, wl]) ?_
  refine Aw.sm tab_ok mb0 [] rfl rfl ?zo ?zk
  case zo =>
    repeat' apply AllP.cons
    all_goals first | exact trivial | exact id | exact rfl | exact fun _ => rfl | exact Nat.le_of_ble_eq_true rfl | exact fun _ => Nat.le_of_ble_eq_true rfl | exact Int.natCast_nonneg _ | exact fun _ => Int.natCast_nonneg _ | exact in_t _ _ _ | exact (in_t _ _ _).un | exact gq_f
  case zk =>
  exact Aw.ret ⟨_, .cons (.tmp _) .nil, rfl⟩
end Go.Proofs.Ytdiclbgklegelaa

namespace Go.Proofs.Ytdiclbgklegelaa
open Go Go.AL Go.AL.Q
theorem rplay_t (r : Rce) (hr : RceOk r) (p q : Bool) (takes recs : List Int) (hlen : takes.length ≤ recs.length) (h10 : takes.length ≤ 10)
    (ht : ∀ i, i < takes.length → 0 ≤ takes.getD i 0 ∧ takes.getD i 0 ≤ 100000000) (hx : ∀ i, i < takes.length → 0 ≤ recs.getD i 0 ∧ recs.getD i 0 ≤ 100000) :
    Ans Try.prog 77 [.agg r.c, .sl p .any (ints takes), .sl q .any (ints recs)] (outA (playF r r.numbers takes recs)) := by
  have hfr := outA_free (playF r r.numbers takes recs)
  have lt := ints_lenI takes
  have lc := ints_lenI recs
  refine told Try.func77 rfl rfl (Pure.of tab_ok Try.func77 rfl Try.ntmps77 rfl (allC (.agg _ r.free) (allC (free_ints _ _ _) (all1 (free_ints _ _ _)))) (allC (fun _ => rfl) (allC (fun _ => rfl) (all1 (fun _ => rfl)))) (by first | exact .s _ | assumption | exact .tup _ (by intro x hx; simp only [List.mem_cons, List.not_mem_nil, or_false] at hx; rcases hx with rfl | rfl | rfl | rfl <;> first | exact .s _ | (simp_all; done))) fun E hE => ?_)
  refine Aw.sm tab_ok mb0 [] rfl rfl ?zo ?zk
  case zo =>
    repeat' apply AllP.cons
    all_goals first | exact trivial | exact id | exact rfl | exact fun _ => rfl | exact Nat.le_of_ble_eq_true rfl | exact fun _ => Nat.le_of_ble_eq_true rfl | exact Int.natCast_nonneg _ | exact fun _ => Int.natCast_nonneg _ | exact in_t _ _ _ | exact (in_t _ _ _).un | exact gq_f
  case zk =>
  refine Aw.sm tab_ok mb0 [] rfl rfl ?zo ?zk
  case zo =>
    repeat' apply AllP.cons
    all_goals first | exact trivial | exact id | exact rfl | exact fun _ => rfl | exact Nat.le_of_ble_eq_true rfl | exact fun _ => Nat.le_of_ble_eq_true rfl | exact Int.natCast_nonneg _ | exact fun _ => Int.natCast_nonneg _ | exact in_t _ _ _ | exact (in_t _ _ _).un | exact gq_f
  case zk =>
  refine Aw.sm tab_ok mb0 [] rfl rfl ?zo ?zk
  case zo =>
    repeat' apply AllP.cons
    all_goals first | exact trivial | exact id | exact rfl | exact fun _ => rfl | exact Nat.le_of_ble_eq_true rfl | exact fun _ => Nat.le_of_ble_eq_true rfl | exact Int.natCast_nonneg _ | exact fun _ => Int.natCast_nonneg _ | exact in_t _ _ _ | exact (in_t _ _ _).un | exact gq_f
  case zk =>
  refine Aw.seq ?_
  refine Aw.sm tab_ok mb0 [] rfl rfl ?zo ?zk
  case zo =>
    repeat' apply AllP.cons
    all_goals first | exact trivial | exact id | exact rfl | exact fun _ => rfl | exact Nat.le_of_ble_eq_true rfl | exact fun _ => Nat.le_of_ble_eq_true rfl | exact Int.natCast_nonneg _ | exact fun _ => Int.natCast_nonneg _ | exact in_t _ _ _ | exact (in_t _ _ _).un | exact gq_f
  case zk =>
  have ut : ∀ {n}, Under n (A.sl p .any (ints takes)) := (free_ints _ _ _).under
  have uq : ∀ {n}, Under n (A.sl q .any (ints recs)) := (free_ints _ _ _).under
  have ur : ∀ {n}, Under n (A.pt r.c) := (Free.pt _ r.free).under
  refine Aw.block (Aw.rounds (ι := Nat × Bool × List Int × List Int) 0 hE [(1, .sl p .any (ints takes)), (2, .sl q .any (ints recs)), (3, .pt r.c)] (fun i => [(7, grL 3 i.2.2.2), (8, .sl i.2.1 .any (ints i.2.2.1)), (9, .int i.1)]) (fun _ => [])
    (fun i => i.1 ≤ takes.length ∧ Pop r (600000 + 100000 * i.1) i.2.2.1 ∧ i.2.2.2.length = i.1 ∧ i.2.2.2 ++ playF r i.2.2.1 (takes.drop i.1) (recs.drop i.1) = playF r r.numbers takes recs) (fun i => takes.length - i.1) (0, r.nn, r.numbers, [])
    ⟨Nat.zero_le _, by simpa using first_pop hr, rfl, rfl⟩ ⟨⟨.refl _, .refl _, .refl _, trivial⟩, ⟨.refl _, .refl _, .refl _, trivial⟩, trivial, Nat.le_refl _⟩ ⟨ut, uq, ur, trivial⟩ (fun _ _ => ⟨grL_under _, (free_ints _ _ _).under, .s _, trivial⟩) (fun _ _ => trivial) ?_)
  rintro ⟨k, bb, lk, out⟩ ⟨hk, hpop, hol, hrun⟩
  simp only at hk hpop hol hrun
  refine Aw.seq ?_
  refine Aw.sm tab_ok mb0 [] rfl rfl ?zo ?zk
  case zo =>
    repeat' apply AllP.cons
    all_goals first | exact trivial | exact id | exact rfl | exact fun _ => rfl | exact Nat.le_of_ble_eq_true rfl | exact fun _ => Nat.le_of_ble_eq_true rfl | exact Int.natCast_nonneg _ | exact fun _ => Int.natCast_nonneg _ | exact in_t _ _ _ | exact (in_t _ _ _).un | exact gq_f
  case zk =>
  refine Aw.cond rfl (fun h1 => Aw.skip ?_) (fun h1 => ?_)
  · have hlt : k < takes.length := by have := of_decide_eq_true h1; omega
    have hlc : k < recs.length := by omega
    have b1 := ht k hlt
    have b2 := hx k hlt
    have et : takes.drop k = takes.getD k 0 :: takes.drop (k + 1) := by rw [List.drop_eq_getElem_cons hlt, List.getD_eq_getElem?_getD, List.getElem?_eq_getElem hlt]; rfl
    have ec : recs.drop k = recs.getD k 0 :: recs.drop (k + 1) := by rw [List.drop_eq_getElem_cons hlc, List.getD_eq_getElem?_getD, List.getElem?_eq_getElem hlc]; rfl
    rw [et, ec, playF] at hrun
    have g1 : (ints takes)[k]? = some [.int (takes.getD k 0)] := ints_getD hlt
    have g2 : (ints recs)[k]? = some [.int (recs.getD k 0)] := ints_getD hlc
    generalize takes.getD k 0 = t at *
    generalize recs.getD k 0 = x at *
    have hC := caughtF_pop hpop b1.1
    have hW := yearF_pop hr hpop b1.1 b2.1
    rw [show yearF r lk t x = (spawnF r (caughtF r lk t), winF r (caughtF r lk t) x) from rfl] at hrun hW
    simp only at hrun hW
    have c1 := caught_t r hr bb lk t _ hpop (by omega) ⟨b1.1, by omega⟩
    have c2 := spawners_t r hr false (caughtF r lk t) _ hC (by omega)
    have c3 := winter_t r hr false (caughtF r lk t) x _ hC (by omega) b2
    generalize caughtF r lk t = C at *
    generalize winF r C x = W at *
    generalize spawnF r C = s at *
    refine Aw.seq (Aw.block ?_)
    refine Aw.sd tab_ok mixed mb0 [(4, [.int t]), (6, [.sl false .any (ints C)])] rfl (by kernel_rfl) rfl rfl ?zo ?zk
    case zo =>
      repeat' apply AllP.cons
      all_goals first | exact trivial | exact id | exact rfl | exact fun _ => rfl | exact Nat.le_of_ble_eq_true rfl | exact fun _ => Nat.le_of_ble_eq_true rfl | exact Int.natCast_nonneg _ | exact fun _ => Int.natCast_nonneg _ | exact in_t _ _ _ | exact (in_t _ _ _).un | exact gq_f | exact g1 | exact c1
    case zk =>
    have fin : out ++ s :: playF r W (takes.drop (k + 1)) (recs.drop (k + 1)) = (out ++ [s]) ++ playF r W (takes.drop (k + 1)) (recs.drop (k + 1)) := by simp
    rw [fin] at hrun
    have hpop2 : Pop r (600000 + 100000 * ((k + 1 : Nat) : Int)) W := ⟨hW.len, hW.pos, by have := hW.sum; omega⟩
    cases out with
    | nil =>
      refine Aw.sm tab_ok mb0 [(3, [.int s])] rfl rfl ?zo ?zk
      case zo =>
        repeat' apply AllP.cons
        all_goals first | exact trivial | exact id | exact rfl | exact fun _ => rfl | exact Nat.le_of_ble_eq_true rfl | exact fun _ => Nat.le_of_ble_eq_true rfl | exact Int.natCast_nonneg _ | exact fun _ => Int.natCast_nonneg _ | exact in_t _ _ _ | exact (in_t _ _ _).un | exact gq_f | exact c2 | exact (show ∀ z ∈ [] ++ [[A.int _]], z.length = 1 from fun z hz => by simp at hz; subst hz; rfl) | exact (by simp only [Ob.of]; decide)
      case zk =>
      refine Aw.ed tab_ok mixed mb0 [(4, [.int x]), (6, [.sl false .any (ints W)])] rfl (by kernel_rfl) rfl rfl ?zo ?zk
      case zo =>
        repeat' apply AllP.cons
        all_goals first | exact trivial | exact id | exact rfl | exact fun _ => rfl | exact Nat.le_of_ble_eq_true rfl | exact fun _ => Nat.le_of_ble_eq_true rfl | exact Int.natCast_nonneg _ | exact fun _ => Int.natCast_nonneg _ | exact in_t _ _ _ | exact (in_t _ _ _).un | exact gq_f | exact g2 | exact c3
      case zk =>
      refine Aw.em tab_ok mb0 [] rfl rfl ?zo ?zk
      case zo =>
        repeat' apply AllP.cons
        all_goals first | exact trivial | exact id | exact rfl | exact fun _ => rfl | exact Nat.le_of_ble_eq_true rfl | exact fun _ => Nat.le_of_ble_eq_true rfl | exact Int.natCast_nonneg _ | exact fun _ => Int.natCast_nonneg _ | exact in_t _ _ _ | exact (in_t _ _ _).un | exact gq_f | exact inrk k (by omega)
      case zk =>
      exact ⟨(k + 1, false, W, [] ++ [s]), ⟨hlt, hpop2, by simp at hol ⊢; omega, hrun⟩, by show takes.length - (k + 1) < takes.length - k; omega, ⟨.refl _, .refl _, .refl _, trivial⟩, ⟨.of_eq rfl, .refl _, .refl _, trivial⟩, trivial, Nat.zero_le _⟩
    | cons y ys =>
      have hlen2 : (ints (y :: ys)).length = k := by rw [ints_len]; exact hol
      have hz := ints_one (y :: ys)
      refine Aw.sm tab_ok mb0 [(3, [.int s])] rfl rfl ?zo ?zk
      case zo =>
        repeat' apply AllP.cons
        all_goals first | exact trivial | exact id | exact rfl | exact fun _ => rfl | exact Nat.le_of_ble_eq_true rfl | exact fun _ => Nat.le_of_ble_eq_true rfl | exact Int.natCast_nonneg _ | exact fun _ => Int.natCast_nonneg _ | exact in_t _ _ _ | exact (in_t _ _ _).un | exact gq_f | exact c2 | exact (show ∀ z ∈ [[A.int _]], z.length = 1 from fun z hz => by simp at hz; subst hz; rfl) | exact hz | exact (show ((ints (y :: ys)).length + 1) * 8 ≤ 140737488355328 by omega) | exact (show (ints (y :: ys)).length + 1 ≤ maxLen by unfold maxLen; omega)
      case zk =>
      refine Aw.ed tab_ok mixed mb0 [(4, [.int x]), (6, [.sl false .any (ints W)])] rfl (by kernel_rfl) rfl rfl ?zo ?zk
      case zo =>
        repeat' apply AllP.cons
        all_goals first | exact trivial | exact id | exact rfl | exact fun _ => rfl | exact Nat.le_of_ble_eq_true rfl | exact fun _ => Nat.le_of_ble_eq_true rfl | exact Int.natCast_nonneg _ | exact fun _ => Int.natCast_nonneg _ | exact in_t _ _ _ | exact (in_t _ _ _).un | exact gq_f | exact g2 | exact c3
      case zk =>
      refine Aw.em tab_ok mb0 [] rfl rfl ?zo ?zk
      case zo =>
        repeat' apply AllP.cons
        all_goals first | exact trivial | exact id | exact rfl | exact fun _ => rfl | exact Nat.le_of_ble_eq_true rfl | exact fun _ => Nat.le_of_ble_eq_true rfl | exact Int.natCast_nonneg _ | exact fun _ => Int.natCast_nonneg _ | exact in_t _ _ _ | exact (in_t _ _ _).un | exact gq_f | exact inrk k (by omega)
      case zk =>
      exact ⟨(k + 1, false, W, (y :: ys) ++ [s]), ⟨hlt, hpop2, by simp at hol ⊢; omega, hrun⟩, by show takes.length - (k + 1) < takes.length - k; omega, ⟨.refl _, .refl _, .refl _, trivial⟩,
        ⟨.of_eq (show grL 3 ((y :: ys) ++ [s]) = A.sl false (.own 3) (ints (y :: ys) ++ [[A.int s]]) by simp [grL, ints]), .refl _, .refl _, trivial⟩, trivial, Nat.zero_le _⟩
  have hend : k = takes.length := by have := of_decide_eq_false h1; omega
  have hdone : out = playF r r.numbers takes recs := by
    rw [← hrun, hend, List.drop_length]; simp [playF]
  refine Aw.exit2 ?_
  rw [← hdone]
  cases out with
  | nil =>
    refine Aw.sm tab_ok mb0 [] rfl rfl ?zo ?zk
    case zo =>
      repeat' apply AllP.cons
      all_goals first | exact trivial | exact id | exact rfl | exact fun _ => rfl | exact Nat.le_of_ble_eq_true rfl | exact fun _ => Nat.le_of_ble_eq_true rfl | exact Int.natCast_nonneg _ | exact fun _ => Int.natCast_nonneg _ | exact in_t _ _ _ | exact (in_t _ _ _).un | exact gq_f
    case zk =>
    exact Aw.ret ⟨_, .cons (.tmp _) .nil, rfl⟩
  | cons y ys =>
    refine Aw.sm tab_ok mb0 [] rfl rfl ?zo ?zk
    case zo =>
      repeat' apply AllP.cons
      all_goals first | exact trivial | exact id | exact rfl | exact fun _ => rfl | exact Nat.le_of_ble_eq_true rfl | exact fun _ => Nat.le_of_ble_eq_true rfl | exact Int.natCast_nonneg _ | exact fun _ => Int.natCast_nonneg _ | exact in_t _ _ _ | exact (in_t _ _ _).un | exact gq_f
    case zk =>
    exact Aw.ret ⟨_, .cons (.tmp _) .nil, rfl⟩
end Go.Proofs.Ytdiclbgklegelaa

namespace Go.Proofs.Ytdiclbgklegelaa
open Go Go.AL Go.AL.Q
theorem years_t (f : Fish) : Ans Try.prog 80 [.agg f.c] (.int f.years) := by
  have ls : ((f.seasons.map NR.c).length : Int) = f.seasons.length := by simp
  refine told Try.func80 rfl rfl (Pure.of tab_ok Try.func80 rfl Try.ntmps80 rfl (all1 (.agg _ f.free)) (all1 (fun _ => rfl)) (by first | exact .s _ | assumption | exact .tup _ (by intro x hx; simp only [List.mem_cons, List.not_mem_nil, or_false] at hx; rcases hx with rfl | rfl | rfl | rfl <;> first | exact .s _ | (simp_all; done))) fun E hE => ?_)
  refine Aw.sm tab_ok mb0 [] rfl rfl ?zo ?zk
  case zo =>
    repeat' apply AllP.cons
    all_goals first | exact trivial | exact id | exact rfl | exact fun _ => rfl | exact Nat.le_of_ble_eq_true rfl | exact fun _ => Nat.le_of_ble_eq_true rfl | exact Int.natCast_nonneg _ | exact fun _ => Int.natCast_nonneg _ | exact in_t _ _ _ | exact (in_t _ _ _).un | exact gq_f
  case zk =>
  cases hs : f.seasons with
  | nil =>
    have e : f.years = 0 := by unfold Fish.years Fish.recs; rw [hs]; rfl
    rw [e]
    have z : f.c = [.sl f.rn .any (f.races.map Rce.c), .sl f.mn .any (ints f.most), .sl f.sn .any []] := by unfold Fish.c; rw [hs]; rfl
    rw [z]
    refine Aw.seq ?_
    refine Aw.sm tab_ok mb0 [(7, [.sl true .any []])] rfl rfl ?zo ?zk
    case zo =>
      repeat' apply AllP.cons
      all_goals first | exact trivial | exact id | exact rfl | exact fun _ => rfl | exact Nat.le_of_ble_eq_true rfl | exact fun _ => Nat.le_of_ble_eq_true rfl | exact Int.natCast_nonneg _ | exact fun _ => Int.natCast_nonneg _ | exact in_t _ _ _ | exact (in_t _ _ _).un | exact gq_f | exact (fun h => by cases h) | exact (fun _ => rfl)
    case zk =>
    refine Aw.cond rfl (fun _ => ?_) (fun h => by cases h)
    refine Aw.sm tab_ok mb0 [] rfl rfl ?zo ?zk
    case zo =>
      repeat' apply AllP.cons
      all_goals first | exact trivial | exact id | exact rfl | exact fun _ => rfl | exact Nat.le_of_ble_eq_true rfl | exact fun _ => Nat.le_of_ble_eq_true rfl | exact Int.natCast_nonneg _ | exact fun _ => Int.natCast_nonneg _ | exact in_t _ _ _ | exact (in_t _ _ _).un | exact gq_f
    case zk =>
    exact Aw.ret ⟨_, .cons (.tmp _) .nil, rfl⟩
  | cons s ss =>
    have z : f.c = [.sl f.rn .any (f.races.map Rce.c), .sl f.mn .any (ints f.most), .sl f.sn .any (s.c :: ss.map NR.c)] := by unfold Fish.c; rw [hs]; rfl
    rw [z]
    have g0 : (s.c :: ss.map NR.c)[Int.toNat 0]? = some s.c := rfl
    have c0 : (0 : Int) < ((s.c :: ss.map NR.c).length : Int) := by simp only [List.length_cons]; omega
    have y0 : f.years = (s.l.getD 0 ⟨false, []⟩).l.length := by unfold Fish.years Fish.recs; rw [hs]; rfl
    have b0 : ((((s.c :: ss.map NR.c).length : Nat) : Int) == 0) = false := by rw [beq_eq_false_iff_ne]; simp only [List.length_cons]; omega
    refine Aw.seq ?_
    refine Aw.sm tab_ok mb0 [(7, s.c)] rfl rfl ?zo ?zk
    case zo =>
      repeat' apply AllP.cons
      all_goals first | exact trivial | exact id | exact rfl | exact fun _ => rfl | exact Nat.le_of_ble_eq_true rfl | exact fun _ => Nat.le_of_ble_eq_true rfl | exact Int.natCast_nonneg _ | exact fun _ => Int.natCast_nonneg _ | exact in_t _ _ _ | exact (in_t _ _ _).un | exact gq_f | exact fun _ => g0 | exact fun _ => c0 | exact fun _ => Int.le_refl _
    case zk =>
    refine Aw.cond rfl (fun h => ?_) (fun h => Aw.skip ?_)
    · have h : cond ((((s.c :: ss.map NR.c).length : Nat) : Int) == 0) true ((((s.l.map NL.c).length : Nat) : Int) == 0) = true := h
      rw [b0] at h
      have h := eq_of_beq (show ((((s.l.map NL.c).length : Nat) : Int) == 0) = true from h)
      have e : f.years = 0 := by
        rw [y0]
        cases hl : s.l with
        | nil => rfl
        | cons x xs => rw [hl] at h; simp at h; omega
      rw [e]
      refine Aw.sm tab_ok mb0 [] rfl rfl ?zo ?zk
      case zo =>
        repeat' apply AllP.cons
        all_goals first | exact trivial | exact id | exact rfl | exact fun _ => rfl | exact Nat.le_of_ble_eq_true rfl | exact fun _ => Nat.le_of_ble_eq_true rfl | exact Int.natCast_nonneg _ | exact fun _ => Int.natCast_nonneg _ | exact in_t _ _ _ | exact (in_t _ _ _).un | exact gq_f
      case zk =>
      exact Aw.ret ⟨_, .cons (.tmp _) .nil, rfl⟩
    · have h : cond ((((s.c :: ss.map NR.c).length : Nat) : Int) == 0) true ((((s.l.map NL.c).length : Nat) : Int) == 0) = false := h
      rw [b0] at h
      have h := beq_eq_false_iff_ne.1 (show ((((s.l.map NL.c).length : Nat) : Int) == 0) = false from h)
      have p0 : 0 < s.l.length := by
        cases hl : s.l with
        | nil => rw [hl] at h; simp at h
        | cons x xs => simp
      have g1 : (s.l.map NL.c)[Int.toNat 0]? = some (s.l.getD 0 ⟨false, []⟩).c := by
        rw [show Int.toNat 0 = 0 from rfl, get_map p0, List.getD_eq_getElem?_getD, List.getElem?_eq_getElem p0]; rfl
      have c1 : (0 : Int) < ((s.l.map NL.c).length : Int) := by rw [List.length_map]; omega
      have z1 := ints_lenI (s.l.getD 0 ⟨false, []⟩).l
      rw [y0]
      refine Aw.sm tab_ok mb0 [(2, s.c), (4, (s.l.getD 0 ⟨false, []⟩).c)] rfl rfl ?zo ?zk
      case zo =>
        repeat' apply AllP.cons
        all_goals first | exact trivial | exact id | exact rfl | exact fun _ => rfl | exact Nat.le_of_ble_eq_true rfl | exact fun _ => Nat.le_of_ble_eq_true rfl | exact Int.natCast_nonneg _ | exact fun _ => Int.natCast_nonneg _ | exact in_t _ _ _ | exact (in_t _ _ _).un | exact gq_f | exact g0 | exact c0 | exact g1 | exact c1 | exact Int.le_refl _
      case zk =>
      exact Aw.ret ⟨_, .cons (.tmp _) .nil, congrArg A.int z1⟩
def rhead (f : Fish) : Bool := cond (cond (cond (wi f.many 1 3) (numF f.most f.many 100) false) (wi f.seasons.length 1 6) false) (wi f.years 1 10) false
def rok (f : Fish) : Bool := cond (cond (rhead f) (f.races.all Rce.ok) false) (f.seasons.all (seasonOk f.many f.years)) false
theorem rok_eq (f : Fish) : rok f = f.ok := by
  have hr : ∀ i, (hi : i < f.many) → f.races.getD i ⟨false, [], false, [], false, [], 0, 0⟩ = f.races[i] := fun i hi => by
    rw [List.getD_eq_getElem?_getD, List.getElem?_eq_getElem hi]; rfl
  rw [Bool.eq_iff_iff]
  unfold rok rhead Fish.ok Fish.head numF
  simp only [c_and, Bool.and_eq_true, List.all_eq_true, List.mem_range]
  constructor
  · rintro ⟨⟨⟨⟨⟨h1, h2, h3⟩, h4⟩, h5⟩, h6⟩, h7⟩
    have hl : f.most.length = f.many := by have := eq_of_beq h2; omega
    refine ⟨⟨⟨⟨⟨h1, h2⟩, h4⟩, fun i hi => ?_⟩, h5⟩, h7⟩
    unfold Fish.raceOk
    rw [hr i hi, h6 _ (List.getElem_mem hi), List.getD_eq_getElem?_getD, List.getElem?_eq_getElem (by omega)]
    exact h3 _ (List.getElem_mem (by omega))
  · rintro ⟨⟨⟨⟨⟨h1, h2⟩, h4⟩, h6⟩, h5⟩, h7⟩
    have hl : f.most.length = f.many := by have := eq_of_beq h2; omega
    refine ⟨⟨⟨⟨⟨h1, h2, fun x hx => ?_⟩, h4⟩, h5⟩, fun r hx => ?_⟩, h7⟩
    · obtain ⟨i, hi, rfl⟩ := getD_mem hx
      have := h6 i (by omega)
      unfold Fish.raceOk at this
      exact ac2 this
    · obtain ⟨i, hi, rfl⟩ := List.mem_iff_getElem.1 hx
      have := h6 i hi
      unfold Fish.raceOk at this
      rw [hr i hi] at this
      exact ac1 this
theorem rcheck_t (f : Fish) (hf : f.Fit) : Ans Try.prog 30 [.agg f.c] (.int f.err) := by
  have h1 := hf.r
  have h2 := hf.m
  have h3 := hf.s
  have lr : ((f.races.map Rce.c).length : Int) = f.many := by simp [Fish.many]
  have ls : ((f.seasons.map NR.c).length : Int) = f.seasons.length := by simp
  have ufc : Under 0 (A.pt f.c) := (Free.pt _ f.free).under
  refine told Try.func30 rfl rfl (Pure.of tab_ok Try.func30 rfl Try.ntmps30 rfl (all1 (.agg _ f.free)) (all1 (fun _ => rfl)) (by first | exact .s _ | assumption | exact .tup _ (by intro x hx; simp only [List.mem_cons, List.not_mem_nil, or_false] at hx; rcases hx with rfl | rfl | rfl | rfl <;> first | exact .s _ | (simp_all; done))) fun E hE => ?_)
  refine Aw.sm tab_ok mb0 [] rfl rfl ?zo ?zk
  case zo =>
    repeat' apply AllP.cons
    all_goals first | exact trivial | exact id | exact rfl | exact fun _ => rfl | exact Nat.le_of_ble_eq_true rfl | exact fun _ => Nat.le_of_ble_eq_true rfl | exact Int.natCast_nonneg _ | exact fun _ => Int.natCast_nonneg _ | exact in_t _ _ _ | exact (in_t _ _ _).un | exact gq_f
  case zk =>
  refine Aw.sm tab_ok mb0 [(3, [.bool (wi f.many 1 3)]), (10, [.bool (numF f.most f.many 100)]), (16, [.bool (wi f.seasons.length 1 6)]), (20, [.int f.years]), (21, [.bool (wi f.years 1 10)])] rfl rfl ?zo ?zk
  case zo =>
    repeat' apply AllP.cons
    all_goals first | exact trivial | exact id | exact rfl | exact fun _ => rfl | exact Nat.le_of_ble_eq_true rfl | exact fun _ => Nat.le_of_ble_eq_true rfl | exact Int.natCast_nonneg _ | exact fun _ => Int.natCast_nonneg _ | exact in_t _ _ _ | exact (in_t _ _ _).un | exact gq_f | exact (lr ▸ in_t _ _ _) | exact fun _ => (lr ▸ numbers_t _ _ _ _ h2) | exact fun _ => (ls ▸ in_t _ _ _) | exact fun _ => years_t f | exact fun _ => in_t _ _ _
  case zk =>
  refine Aw.seq ?_
  refine Aw.sm tab_ok mb0 [] rfl rfl ?zo ?zk
  case zo =>
    repeat' apply AllP.cons
    all_goals first | exact trivial | exact id | exact rfl | exact fun _ => rfl | exact Nat.le_of_ble_eq_true rfl | exact fun _ => Nat.le_of_ble_eq_true rfl | exact Int.natCast_nonneg _ | exact fun _ => Int.natCast_nonneg _ | exact in_t _ _ _ | exact (in_t _ _ _).un | exact gq_f
  case zk =>
  refine Aw.block (Aw.rounds 0 hE [(1, .pt f.c)] (fun k : Nat => [(3, .bool (andAll (rhead f) Rce.ok f.races k)), (4, .int k)]) (fun _ => []) (fun k => k ≤ f.many) (fun k => f.many - k) 0
    (Nat.zero_le _) ⟨⟨.refl _, trivial⟩, ⟨.of_eq (by rw [andAll_zero]; rfl), .refl _, trivial⟩, trivial, Nat.le_refl _⟩ ⟨ufc, trivial⟩ (fun _ _ => ⟨.s _, .s _, trivial⟩) (fun _ _ => trivial) fun k hk => ?_)
  refine Aw.seq ?_
  refine Aw.sm tab_ok mb0 [] rfl rfl ?zo ?zk
  case zo =>
    repeat' apply AllP.cons
    all_goals first | exact trivial | exact id | exact rfl | exact fun _ => rfl | exact Nat.le_of_ble_eq_true rfl | exact fun _ => Nat.le_of_ble_eq_true rfl | exact Int.natCast_nonneg _ | exact fun _ => Int.natCast_nonneg _ | exact in_t _ _ _ | exact (in_t _ _ _).un | exact gq_f
  case zk =>
  refine Aw.cond rfl (fun h1 => Aw.skip ?_) (fun h1 => ?_)
  · have h1 : cond (andAll (rhead f) Rce.ok f.races k) (decide ((k : Int) < ((f.races.map Rce.c).length : Int))) false = true := h1
    have hb := ac1 h1
    have hlt : k < f.races.length := by have := of_decide_eq_true (ac2 h1); have : (f.many : Int) = f.races.length := rfl; omega
    have hg : (f.races.map Rce.c)[k]? = some f.races[k].c := get_map hlt
    have e := andAll_succ hlt hb
    have hfit := hf.race f.races[k] (List.getElem_mem hlt)
    refine Aw.seq (Aw.block ?_)
    refine Aw.em tab_ok mb0 [(3, f.races[k].c), (5, [.bool f.races[k].ok])] rfl rfl ?zo ?zk
    case zo =>
      repeat' apply AllP.cons
      all_goals first | exact trivial | exact id | exact rfl | exact fun _ => rfl | exact Nat.le_of_ble_eq_true rfl | exact fun _ => Nat.le_of_ble_eq_true rfl | exact Int.natCast_nonneg _ | exact fun _ => Int.natCast_nonneg _ | exact in_t _ _ _ | exact (in_t _ _ _).un | exact gq_f | exact hg | exact race_t _ hfit
    case zk =>
    refine Aw.em tab_ok mb0 [] rfl rfl ?zo ?zk
    case zo =>
      repeat' apply AllP.cons
      all_goals first | exact trivial | exact id | exact rfl | exact fun _ => rfl | exact Nat.le_of_ble_eq_true rfl | exact fun _ => Nat.le_of_ble_eq_true rfl | exact Int.natCast_nonneg _ | exact fun _ => Int.natCast_nonneg _ | exact in_t _ _ _ | exact (in_t _ _ _).un | exact gq_f | exact inrk k (by have : f.many = f.races.length := rfl; omega)
    case zk =>
    exact ⟨k + 1, hlt, by have : f.many = f.races.length := rfl; omega, ⟨.refl _, trivial⟩, ⟨.of_eq (congrArg A.bool e), .refl _, trivial⟩, trivial, Nat.zero_le _⟩
  have h1 : cond (andAll (rhead f) Rce.ok f.races k) (decide ((k : Int) < ((f.races.map Rce.c).length : Int))) false = false := h1
  have hend := andAll_end (b := rhead f) (p := Rce.ok) (l := f.races) (k := k) (by
    cases e : andAll (rhead f) Rce.ok f.races k with
    | false => exact .inl rfl
    | true => rw [e] at h1; have := of_decide_eq_false h1; have : f.many = f.races.length := rfl; exact .inr (by omega)) hk
  refine Aw.exit2 ?_
  rw [hend]
  have hrk : rok f = cond (cond (rhead f) (f.races.all Rce.ok) false) (f.seasons.all (seasonOk f.many f.years)) false := rfl
  generalize cond (rhead f) (f.races.all Rce.ok) false = B1 at *
  refine Aw.keep (n := 0) (cst := [(1, .pt f.c)]) (v := [(3, .bool B1)]) (Hl := []) hE ⟨ufc, trivial⟩ ⟨.s _, trivial⟩ trivial ⟨⟨.refl _, trivial⟩, ⟨.refl _, trivial⟩, trivial, Nat.zero_le _⟩ ?_
  refine Aw.seq ?_
  refine Aw.sm tab_ok mb0 [] rfl rfl ?zo ?zk
  case zo =>
    repeat' apply AllP.cons
    all_goals first | exact trivial | exact id | exact rfl | exact fun _ => rfl | exact Nat.le_of_ble_eq_true rfl | exact fun _ => Nat.le_of_ble_eq_true rfl | exact Int.natCast_nonneg _ | exact fun _ => Int.natCast_nonneg _ | exact in_t _ _ _ | exact (in_t _ _ _).un | exact gq_f
  case zk =>
  refine Aw.block (Aw.rounds 0 hE [(1, .pt f.c)] (fun k : Nat => [(3, .bool (andAll B1 (seasonOk f.many f.years) f.seasons k)), (5, .int k)]) (fun _ => []) (fun k => k ≤ f.seasons.length) (fun k => f.seasons.length - k) 0
    (Nat.zero_le _) ⟨⟨.refl _, trivial⟩, ⟨.of_eq (by rw [andAll_zero]; rfl), .refl _, trivial⟩, trivial, Nat.zero_le _⟩ ⟨ufc, trivial⟩ (fun _ _ => ⟨.s _, .s _, trivial⟩) (fun _ _ => trivial) fun k hk => ?_)
  refine Aw.seq ?_
  refine Aw.sm tab_ok mb0 [] rfl rfl ?zo ?zk
  case zo =>
    repeat' apply AllP.cons
    all_goals first | exact trivial | exact id | exact rfl | exact fun _ => rfl | exact Nat.le_of_ble_eq_true rfl | exact fun _ => Nat.le_of_ble_eq_true rfl | exact Int.natCast_nonneg _ | exact fun _ => Int.natCast_nonneg _ | exact in_t _ _ _ | exact (in_t _ _ _).un | exact gq_f
  case zk =>
  refine Aw.cond rfl (fun h1 => Aw.skip ?_) (fun h1 => ?_)
  · have h1 : cond (andAll B1 (seasonOk f.many f.years) f.seasons k) (decide ((k : Int) < ((f.seasons.map NR.c).length : Int))) false = true := h1
    have hb := ac1 h1
    have hlt : k < f.seasons.length := by have := of_decide_eq_true (ac2 h1); omega
    have hgk : (f.seasons.map NR.c)[k]? = some f.seasons[k].c := get_map hlt
    have hfs := hf.sea f.seasons[k] (List.getElem_mem hlt)
    have e := andAll_succ hlt hb
    generalize f.seasons[k] = s at *
    have lsl : ((s.l.map NL.c).length : Int) = s.l.length := by simp
    refine Aw.seq (Aw.block ?_)
    refine Aw.sd tab_ok mixed mb0 [(3, s.c)] rfl (by kernel_rfl) rfl rfl ?zo ?zk
    case zo =>
      repeat' apply AllP.cons
      all_goals first | exact trivial | exact id | exact rfl | exact fun _ => rfl | exact Nat.le_of_ble_eq_true rfl | exact fun _ => Nat.le_of_ble_eq_true rfl | exact Int.natCast_nonneg _ | exact fun _ => Int.natCast_nonneg _ | exact in_t _ _ _ | exact (in_t _ _ _).un | exact gq_f | exact hgk
    case zk =>
    refine Aw.sm tab_ok mb0 [] rfl rfl ?zo ?zk
    case zo =>
      repeat' apply AllP.cons
      all_goals first | exact trivial | exact id | exact rfl | exact fun _ => rfl | exact Nat.le_of_ble_eq_true rfl | exact fun _ => Nat.le_of_ble_eq_true rfl | exact Int.natCast_nonneg _ | exact fun _ => Int.natCast_nonneg _ | exact in_t _ _ _ | exact (in_t _ _ _).un | exact gq_f
    case zk =>
    have hd : A.bool ((s.l.length : Int) == f.many) = A.bool (((s.l.map NL.c).length : Int) == ((f.races.map Rce.c).length : Int)) := by rw [lsl, lr]
    refine Aw.block (Aw.rounds 0 hE [(1, .pt f.c), (5, .int k)] (fun j : Nat => [(3, .bool (andAll ((s.l.length : Int) == f.many) (recOk f.years) s.l j)), (6, .int j)]) (fun _ => []) (fun j => j ≤ f.many) (fun j => f.many - j) 0
      (Nat.zero_le _) ⟨⟨.refl _, .refl _, trivial⟩, ⟨.of_eq (by rw [andAll_zero]; exact hd), .refl _, trivial⟩, trivial, Nat.zero_le _⟩ ⟨ufc, .s _, trivial⟩ (fun _ _ => ⟨.s _, .s _, trivial⟩) (fun _ _ => trivial) fun j hj => ?_)
    refine Aw.seq ?_
    refine Aw.sm tab_ok mb0 [] rfl rfl ?zo ?zk
    case zo =>
      repeat' apply AllP.cons
      all_goals first | exact trivial | exact id | exact rfl | exact fun _ => rfl | exact Nat.le_of_ble_eq_true rfl | exact fun _ => Nat.le_of_ble_eq_true rfl | exact Int.natCast_nonneg _ | exact fun _ => Int.natCast_nonneg _ | exact in_t _ _ _ | exact (in_t _ _ _).un | exact gq_f
    case zk =>
    refine Aw.cond rfl (fun h2 => Aw.skip ?_) (fun h2 => ?_)
    · have h2 : cond (andAll ((s.l.length : Int) == f.many) (recOk f.years) s.l j) (decide ((j : Int) < ((f.races.map Rce.c).length : Int))) false = true := h2
      have hb2 := ac1 h2
      have hjm : j < f.many := by have := of_decide_eq_true (ac2 h2); omega
      have hsl : s.l.length = f.many := by unfold andAll at hb2; have := eq_of_beq (ac1 hb2); omega
      have hjl : j < s.l.length := by omega
      have hgj : (s.l.map NL.c)[j]? = some s.l[j].c := get_map hjl
      have e2 := andAll_succ hjl hb2
      have hfx := hfs.2 s.l[j] (List.getElem_mem hjl)
      have hnum : Ans Try.prog 76 [.sl s.l[j].n .any (ints s.l[j].l), .int f.years, .int 100000] (.bool (recOk f.years s.l[j])) := numbers_t _ _ _ _ hfx
      refine Aw.seq (Aw.block ?_)
      refine Aw.ed tab_ok mixed mb0 [(3, s.c), (6, s.l[j].c), (9, [.int f.years]), (10, [.bool (recOk f.years s.l[j])])] rfl (by kernel_rfl) rfl rfl ?zo ?zk
      case zo =>
        repeat' apply AllP.cons
        all_goals first | exact trivial | exact id | exact rfl | exact fun _ => rfl | exact Nat.le_of_ble_eq_true rfl | exact fun _ => Nat.le_of_ble_eq_true rfl | exact Int.natCast_nonneg _ | exact fun _ => Int.natCast_nonneg _ | exact in_t _ _ _ | exact (in_t _ _ _).un | exact gq_f | exact hgk | exact hgj | exact years_t f | exact hnum
      case zk =>
      refine Aw.em tab_ok mb0 [] rfl rfl ?zo ?zk
      case zo =>
        repeat' apply AllP.cons
        all_goals first | exact trivial | exact id | exact rfl | exact fun _ => rfl | exact Nat.le_of_ble_eq_true rfl | exact fun _ => Nat.le_of_ble_eq_true rfl | exact Int.natCast_nonneg _ | exact fun _ => Int.natCast_nonneg _ | exact in_t _ _ _ | exact (in_t _ _ _).un | exact gq_f | exact inrk j (by have : f.many = f.races.length := rfl; omega)
      case zk =>
      exact ⟨j + 1, hjm, by omega, ⟨.refl _, .refl _, trivial⟩, ⟨.of_eq (congrArg A.bool e2), .refl _, trivial⟩, trivial, Nat.zero_le _⟩
    · have h2 : cond (andAll ((s.l.length : Int) == f.many) (recOk f.years) s.l j) (decide ((j : Int) < ((f.races.map Rce.c).length : Int))) false = false := h2
      have hend2 : andAll ((s.l.length : Int) == f.many) (recOk f.years) s.l j = seasonOk f.many f.years s := by
        by_cases hsl : ((s.l.length : Int) == f.many) = true
        · have hsl' : s.l.length = f.many := by have := eq_of_beq hsl; omega
          exact (andAll_end (by
            cases e : andAll ((s.l.length : Int) == f.many) (recOk f.years) s.l j with
            | false => exact .inl rfl
            | true => rw [e] at h2; have := of_decide_eq_false h2; exact .inr (by omega)) (by omega)).trans rfl
        · have hsl : ((s.l.length : Int) == f.many) = false := by simpa using hsl
          unfold andAll seasonOk
          rw [hsl]; rfl
      refine Aw.exit2 ?_
      rw [hend2]
      refine Aw.em tab_ok mb0 [] rfl rfl ?zo ?zk
      case zo =>
        repeat' apply AllP.cons
        all_goals first | exact trivial | exact id | exact rfl | exact fun _ => rfl | exact Nat.le_of_ble_eq_true rfl | exact fun _ => Nat.le_of_ble_eq_true rfl | exact Int.natCast_nonneg _ | exact fun _ => Int.natCast_nonneg _ | exact in_t _ _ _ | exact (in_t _ _ _).un | exact gq_f | exact inrk k (by omega)
      case zk =>
      exact ⟨k + 1, hlt, by omega, ⟨.refl _, trivial⟩, ⟨.of_eq (congrArg A.bool e), .refl _, trivial⟩, trivial, Nat.zero_le _⟩
  have h1 : cond (andAll B1 (seasonOk f.many f.years) f.seasons k) (decide ((k : Int) < ((f.seasons.map NR.c).length : Int))) false = false := h1
  have hend3 : andAll B1 (seasonOk f.many f.years) f.seasons k = f.ok := (andAll_end (by
    cases e : andAll B1 (seasonOk f.many f.years) f.seasons k with
    | false => exact .inl rfl
    | true => rw [e] at h1; have := of_decide_eq_false h1; exact .inr (by omega)) hk).trans (hrk.symm.trans (rok_eq f))
  refine Aw.exit2 ?_
  rw [hend3]
  refine Aw.seq ?_
  refine Aw.sm tab_ok mb0 [] rfl rfl ?zo ?zk
  case zo =>
    repeat' apply AllP.cons
    all_goals first | exact trivial | exact id | exact rfl | exact fun _ => rfl | exact Nat.le_of_ble_eq_true rfl | exact fun _ => Nat.le_of_ble_eq_true rfl | exact Int.natCast_nonneg _ | exact fun _ => Int.natCast_nonneg _ | exact in_t _ _ _ | exact (in_t _ _ _).un | exact gq_f
  case zk =>
  refine Aw.cond rfl (fun h => ?_) (fun h => Aw.skip ?_)
  · have hno : f.ok = false := by simpa using h
    refine Aw.sm tab_ok mb0 [] rfl rfl ?zo ?zk
    case zo =>
      repeat' apply AllP.cons
      all_goals first | exact trivial | exact id | exact rfl | exact fun _ => rfl | exact Nat.le_of_ble_eq_true rfl | exact fun _ => Nat.le_of_ble_eq_true rfl | exact Int.natCast_nonneg _ | exact fun _ => Int.natCast_nonneg _ | exact in_t _ _ _ | exact (in_t _ _ _).un | exact gq_f
    case zk =>
    exact Aw.ret ⟨_, .cons (.tmp _) .nil, by unfold Fish.err; rw [hno]; rfl⟩
  · have hyes : f.ok = true := by simpa using h
    refine Aw.sm tab_ok mb0 [] rfl rfl ?zo ?zk
    case zo =>
      repeat' apply AllP.cons
      all_goals first | exact trivial | exact id | exact rfl | exact fun _ => rfl | exact Nat.le_of_ble_eq_true rfl | exact fun _ => Nat.le_of_ble_eq_true rfl | exact Int.natCast_nonneg _ | exact fun _ => Int.natCast_nonneg _ | exact in_t _ _ _ | exact (in_t _ _ _).un | exact gq_f
    case zk =>
    exact Aw.ret ⟨_, .cons (.tmp _) .nil, by unfold Fish.err; rw [hyes]; rfl⟩
end Go.Proofs.Ytdiclbgklegelaa

namespace Go.Proofs.Ytdiclbgklegelaa
open Go Go.AL Go.AL.Q
theorem down_t (n b : Int) (hb : 0 < b) (hb2 : b ≤ 1000000) (hn : -1000000000000 ≤ n ∧ n ≤ 1000000000000) : Ans Try.prog 43 [.int n, .int b] (.int (downF n b)) := by
  have h1 := Int.emod_nonneg n (show b ≠ 0 by omega)
  have h2 := Int.emod_lt_of_pos n hb
  have o1 : inR (n - n % b) := by simp only [inR]; omega
  have o2 : b ≠ 0 ∧ inR ((n - n % b).tdiv b) := by
    refine ⟨by omega, ?_⟩
    have h3 := Int.natAbs_tdiv_le_natAbs (n - n % b) b
    simp only [inR]; omega
  refine told Try.func43 rfl rfl (Pure.of tab_ok Try.func43 rfl Try.ntmps43 rfl (allC (.s _) (all1 (.s _))) (allC (fun _ => rfl) (all1 (fun _ => rfl))) (by first | exact .s _ | assumption | exact .tup _ (by intro x hx; simp only [List.mem_cons, List.not_mem_nil, or_false] at hx; rcases hx with rfl | rfl | rfl | rfl <;> first | exact .s _ | (simp_all; done))) fun E hE => ?_)
  refine Aw.sm tab_ok mb0 [] rfl rfl ?zo ?zk
  case zo =>
    repeat' apply AllP.cons
    all_goals first | exact trivial | exact id | exact rfl | exact fun _ => rfl | exact Nat.le_of_ble_eq_true rfl | exact fun _ => Nat.le_of_ble_eq_true rfl | exact Int.natCast_nonneg _ | exact fun _ => Int.natCast_nonneg _ | exact in_t _ _ _ | exact (in_t _ _ _).un | exact gq_f
  case zk =>
  refine Aw.sm tab_ok mb0 [(3, [.int (n % b)])] rfl rfl ?zo ?zk
  case zo =>
    repeat' apply AllP.cons
    all_goals first | exact trivial | exact id | exact rfl | exact fun _ => rfl | exact Nat.le_of_ble_eq_true rfl | exact fun _ => Nat.le_of_ble_eq_true rfl | exact Int.natCast_nonneg _ | exact fun _ => Int.natCast_nonneg _ | exact in_t _ _ _ | exact (in_t _ _ _).un | exact gq_f | exact mod_t n b hb (by omega) | exact o1 | exact o2
  case zk =>
  exact Aw.ret ⟨_, .cons (.tmp _) .nil, rfl⟩
theorem up_t (q m : Int) (hq : 0 ≤ q * m ∧ q * m ≤ 1000000000000) : Ans Try.prog 44 [.int (q * m), .int 100] (.int (takeF q m)) := by
  have e := up_take hq.1
  have c := down_t (-(q * m)) 100 (by omega) (by omega) (by omega)
  have bd : inR (-(downF (-(q * m)) 100)) := by
    rw [e]; unfold takeF; rw [Int.tdiv_eq_ediv_of_nonneg (by omega)]; simp only [inR]; omega
  generalize q * m = n at *
  refine told Try.func44 rfl rfl (Pure.of tab_ok Try.func44 rfl Try.ntmps44 rfl (allC (.s _) (all1 (.s _))) (allC (fun _ => rfl) (all1 (fun _ => rfl))) (by first | exact .s _ | assumption | exact .tup _ (by intro x hx; simp only [List.mem_cons, List.not_mem_nil, or_false] at hx; rcases hx with rfl | rfl | rfl | rfl <;> first | exact .s _ | (simp_all; done))) fun E hE => ?_)
  refine Aw.sm tab_ok mb0 [] rfl rfl ?zo ?zk
  case zo =>
    repeat' apply AllP.cons
    all_goals first | exact trivial | exact id | exact rfl | exact fun _ => rfl | exact Nat.le_of_ble_eq_true rfl | exact fun _ => Nat.le_of_ble_eq_true rfl | exact Int.natCast_nonneg _ | exact fun _ => Int.natCast_nonneg _ | exact in_t _ _ _ | exact (in_t _ _ _).un | exact gq_f
  case zk =>
  refine Aw.sm tab_ok mb0 [(3, [.int (downF (-n) 100)])] rfl rfl ?zo ?zk
  case zo =>
    repeat' apply AllP.cons
    all_goals first | exact trivial | exact id | exact rfl | exact fun _ => rfl | exact Nat.le_of_ble_eq_true rfl | exact fun _ => Nat.le_of_ble_eq_true rfl | exact Int.natCast_nonneg _ | exact fun _ => Int.natCast_nonneg _ | exact in_t _ _ _ | exact (in_t _ _ _).un | exact gq_f | exact c | exact (show inR (-n) by simp only [inR]; omega) | exact bd
  case zk =>
  exact Aw.ret ⟨_, .cons (.tmp _) .nil, congrArg A.int e⟩
theorem grL_cons {l : List Int} (h : l ≠ []) : grL 3 l = .sl false (.own 3) (ints l) := by
  cases l with
  | nil => exact absurd rfl h
  | cons x l => rfl
theorem outA_ne {l : List Int} (h : l ≠ []) : outA l = .sl false .any (ints l) := by
  cases l with
  | nil => exact absurd rfl h
  | cons x l => rfl
theorem nl_at (l : List NL) {r : Nat} (h : r < l.length) : (l.map NL.c)[r]? = some (l.getD r ⟨false, []⟩).c := by
  rw [get_map h, List.getD_eq_getElem?_getD, List.getElem?_eq_getElem h]; rfl
theorem playF_len2 (r : Rce) : ∀ (ts xs l : List Int), ts.length ≤ xs.length → (playF r l ts xs).length = ts.length
  | [], _, _, _ => rfl
  | t :: ts, [], l, h => by simp at h
  | t :: ts, x :: xs, l, h => by simp [playF, playF_len2 r ts xs _ (by simpa using h)]
theorem rfirst_t (f : Fish) (hf : f.Fit) (hok : FishOk f) (q : Int) (hq : 0 ≤ q ∧ q ≤ 10001) : Ans Try.prog 79 [.agg f.c, .int q] (.tup (foundA (f.findY q 0))) := by
  have hfr : Free (.tup (foundA (f.findY q 0))) := .tup _ (foundA_free _)
  have lr : ((f.races.map Rce.c).length : Int) = f.many := by simp [Fish.many]
  have ls : ((f.seasons.map NR.c).length : Int) = f.seasons.length := by simp
  have y10 := hok.y10
  have m3 := hok.m3
  have s6 := hok.s6
  have ufc : ∀ {n}, Under n (A.pt f.c) := (Free.pt _ f.free).under
  refine told Try.func79 rfl rfl (Pure.of tab_ok Try.func79 rfl Try.ntmps79 rfl (allC (.agg _ f.free) (all1 (.s _))) (allC (fun _ => rfl) (all1 (fun _ => rfl))) (by first | exact .s _ | assumption | exact .tup _ (by intro x hx; simp only [List.mem_cons, List.not_mem_nil, or_false] at hx; rcases hx with rfl | rfl | rfl | rfl <;> first | exact .s _ | (simp_all; done))) fun E hE => ?_)
  refine Aw.sm tab_ok mb0 [] rfl rfl ?zo ?zk
  case zo =>
    repeat' apply AllP.cons
    all_goals first | exact trivial | exact id | exact rfl | exact fun _ => rfl | exact Nat.le_of_ble_eq_true rfl | exact fun _ => Nat.le_of_ble_eq_true rfl | exact Int.natCast_nonneg _ | exact fun _ => Int.natCast_nonneg _ | exact in_t _ _ _ | exact (in_t _ _ _).un | exact gq_f
  case zk =>
  refine Aw.seq ?_
  refine Aw.sm tab_ok mb0 [] rfl rfl ?zo ?zk
  case zo =>
    repeat' apply AllP.cons
    all_goals first | exact trivial | exact id | exact rfl | exact fun _ => rfl | exact Nat.le_of_ble_eq_true rfl | exact fun _ => Nat.le_of_ble_eq_true rfl | exact Int.natCast_nonneg _ | exact fun _ => Int.natCast_nonneg _ | exact in_t _ _ _ | exact (in_t _ _ _).un | exact gq_f
  case zk =>
  generalize hW : f.findY q 0 = W at *
  refine Aw.block (Aw.rounds 0 hE [(1, .int q), (2, .pt f.c)] (fun k : Nat => [(8, .int k)]) (fun _ => []) (fun k => k ≤ f.years ∧ f.findY q k = W) (fun k => f.years - k) 0
    ⟨Nat.zero_le _, hW⟩ ⟨⟨.refl _, .refl _, trivial⟩, ⟨.refl _, trivial⟩, trivial, Nat.le_refl _⟩ ⟨.s _, ufc, trivial⟩ (fun _ _ => ⟨.s _, trivial⟩) (fun _ _ => trivial) ?_)
  rintro y ⟨hy, hWy⟩
  refine Aw.seq ?_
  refine Aw.sm tab_ok mb0 [(2, [.int f.years])] rfl rfl ?zo ?zk
  case zo =>
    repeat' apply AllP.cons
    all_goals first | exact trivial | exact id | exact rfl | exact fun _ => rfl | exact Nat.le_of_ble_eq_true rfl | exact fun _ => Nat.le_of_ble_eq_true rfl | exact Int.natCast_nonneg _ | exact fun _ => Int.natCast_nonneg _ | exact in_t _ _ _ | exact (in_t _ _ _).un | exact gq_f | exact years_t f
  case zk =>
  refine Aw.cond rfl (fun h1 => Aw.skip ?_) (fun h1 => ?_)
  · have hyl : y < f.years := by have := of_decide_eq_true h1; omega
    rw [findY_step hyl] at hWy
    refine Aw.seq (Aw.block ?_)
    refine Aw.sm tab_ok mb0 [] rfl rfl ?zo ?zk
    case zo =>
      repeat' apply AllP.cons
      all_goals first | exact trivial | exact id | exact rfl | exact fun _ => rfl | exact Nat.le_of_ble_eq_true rfl | exact fun _ => Nat.le_of_ble_eq_true rfl | exact Int.natCast_nonneg _ | exact fun _ => Int.natCast_nonneg _ | exact in_t _ _ _ | exact (in_t _ _ _).un | exact gq_f
    case zk =>
    generalize hR : f.findR q y 0 = R at *
    refine Aw.block (Aw.rounds 0 hE [(1, .int q), (2, .pt f.c), (8, .int y)] (fun k : Nat => [(9, .int k)]) (fun _ => []) (fun k => k ≤ f.many ∧ f.findR q y k = R) (fun k => f.many - k) 0
      ⟨Nat.zero_le _, hR⟩ ⟨⟨.refl _, .refl _, .refl _, trivial⟩, ⟨.refl _, trivial⟩, trivial, Nat.zero_le _⟩ ⟨.s _, ufc, .s _, trivial⟩ (fun _ _ => ⟨.s _, trivial⟩) (fun _ _ => trivial) ?_)
    rintro r ⟨hr, hRr⟩
    refine Aw.seq ?_
    refine Aw.sm tab_ok mb0 [] rfl rfl ?zo ?zk
    case zo =>
      repeat' apply AllP.cons
      all_goals first | exact trivial | exact id | exact rfl | exact fun _ => rfl | exact Nat.le_of_ble_eq_true rfl | exact fun _ => Nat.le_of_ble_eq_true rfl | exact Int.natCast_nonneg _ | exact fun _ => Int.natCast_nonneg _ | exact in_t _ _ _ | exact (in_t _ _ _).un | exact gq_f
    case zk =>
    refine Aw.cond rfl (fun h2 => Aw.skip ?_) (fun h2 => ?_)
    · have hrl : r < f.many := by have := of_decide_eq_true h2; omega
      rw [findR_step hrl] at hRr
      have hmb := hok.mb r hrl
      have hml : r < f.most.length := by rw [hok.most]; exact hrl
      have gm : (ints f.most)[r]? = some [.int (f.most.getD r 0)] := ints_getD hml
      have hqm : 0 ≤ q * f.most.getD r 0 ∧ q * f.most.getD r 0 ≤ 10001 * 100 := mul_bd hq hmb
      have cu := up_t q (f.most.getD r 0) ⟨hqm.1, by omega⟩
      have tb : 0 ≤ takeF q (f.most.getD r 0) ∧ takeF q (f.most.getD r 0) ≤ 100000000 := by
        unfold takeF; rw [Int.tdiv_eq_ediv_of_nonneg (by omega)]; omega
      have om : inR (q * f.most.getD r 0) := by simp only [inR]; omega
      refine Aw.seq (Aw.block ?_)
      refine Aw.sm tab_ok mb0 [] rfl rfl ?zo ?zk
      case zo =>
        repeat' apply AllP.cons
        all_goals first | exact trivial | exact id | exact rfl | exact fun _ => rfl | exact Nat.le_of_ble_eq_true rfl | exact fun _ => Nat.le_of_ble_eq_true rfl | exact Int.natCast_nonneg _ | exact fun _ => Int.natCast_nonneg _ | exact in_t _ _ _ | exact (in_t _ _ _).un | exact gq_f
      case zk =>
      refine Aw.seq ?_
      refine Aw.sm tab_ok mb0 [] rfl rfl ?zo ?zk
      case zo =>
        repeat' apply AllP.cons
        all_goals first | exact trivial | exact id | exact rfl | exact fun _ => rfl | exact Nat.le_of_ble_eq_true rfl | exact fun _ => Nat.le_of_ble_eq_true rfl | exact Int.natCast_nonneg _ | exact fun _ => Int.natCast_nonneg _ | exact in_t _ _ _ | exact (in_t _ _ _).un | exact gq_f
      case zk =>
      generalize hT : takeF q (f.most.getD r 0) = T at *
      refine Aw.block (Aw.rounds 0 hE [(1, .int q), (2, .pt f.c), (8, .int y), (9, .int r)] (fun k : Nat => [(10, grL 3 (List.replicate k T)), (11, .int k)]) (fun _ => []) (fun k => k ≤ y + 1) (fun k => y + 1 - k) 0
        (Nat.zero_le _) ⟨⟨.refl _, .refl _, .refl _, .refl _, trivial⟩, ⟨.refl _, .refl _, trivial⟩, trivial, Nat.zero_le _⟩ ⟨.s _, ufc, .s _, .s _, trivial⟩ (fun _ _ => ⟨grL_under _, .s _, trivial⟩) (fun _ _ => trivial) ?_)
      rintro k hk
      refine Aw.seq ?_
      refine Aw.sm tab_ok mb0 [] rfl rfl ?zo ?zk
      case zo =>
        repeat' apply AllP.cons
        all_goals first | exact trivial | exact id | exact rfl | exact fun _ => rfl | exact Nat.le_of_ble_eq_true rfl | exact fun _ => Nat.le_of_ble_eq_true rfl | exact Int.natCast_nonneg _ | exact fun _ => Int.natCast_nonneg _ | exact in_t _ _ _ | exact (in_t _ _ _).un | exact gq_f
      case zk =>
      refine Aw.cond rfl (fun h3 => Aw.skip ?_) (fun h3 => ?_)
      · have hkl : k < y + 1 := by have := of_decide_eq_true h3; omega
        refine Aw.seq (Aw.block ?_)
        cases k with
        | zero =>
          refine Aw.em tab_ok mb0 [(5, [.int (f.most.getD r 0)]), (8, [.int T])] rfl rfl ?zo ?zk
          case zo =>
            repeat' apply AllP.cons
            all_goals first | exact trivial | exact id | exact rfl | exact fun _ => rfl | exact Nat.le_of_ble_eq_true rfl | exact fun _ => Nat.le_of_ble_eq_true rfl | exact Int.natCast_nonneg _ | exact fun _ => Int.natCast_nonneg _ | exact in_t _ _ _ | exact (in_t _ _ _).un | exact gq_f | exact gm | exact cu | exact om | exact (show ∀ z ∈ [] ++ [[A.int _]], z.length = 1 from fun z hz => by simp at hz; subst hz; rfl) | exact (by simp only [Ob.of]; decide)
          case zk =>
          refine Aw.em tab_ok mb0 [] rfl rfl ?zo ?zk
          case zo =>
            repeat' apply AllP.cons
            all_goals first | exact trivial | exact id | exact rfl | exact fun _ => rfl | exact Nat.le_of_ble_eq_true rfl | exact fun _ => Nat.le_of_ble_eq_true rfl | exact Int.natCast_nonneg _ | exact fun _ => Int.natCast_nonneg _ | exact in_t _ _ _ | exact (in_t _ _ _).un | exact gq_f | exact (show inR (0 + 1) by simp only [inR]; omega)
          case zk =>
          exact ⟨1, hkl, by omega, ⟨.refl _, .refl _, .refl _, .refl _, trivial⟩, ⟨.of_eq rfl, .refl _, trivial⟩, trivial, Nat.zero_le _⟩
        | succ j =>
          have hlen2 : (ints (List.replicate (j + 1) T)).length = j + 1 := by rw [ints_len]; simp
          have hz := ints_one (List.replicate (j + 1) T)
          rw [grL_cons (l := List.replicate (j + 1) T) (by simp)]
          refine Aw.em tab_ok mb0 [(5, [.int (f.most.getD r 0)]), (8, [.int T])] rfl rfl ?zo ?zk
          case zo =>
            repeat' apply AllP.cons
            all_goals first | exact trivial | exact id | exact rfl | exact fun _ => rfl | exact Nat.le_of_ble_eq_true rfl | exact fun _ => Nat.le_of_ble_eq_true rfl | exact Int.natCast_nonneg _ | exact fun _ => Int.natCast_nonneg _ | exact in_t _ _ _ | exact (in_t _ _ _).un | exact gq_f | exact gm | exact cu | exact om | exact (show ∀ z ∈ [[A.int _]], z.length = 1 from fun z hz => by simp at hz; subst hz; rfl) | exact hz | exact (show ((ints (List.replicate (j + 1) T)).length + 1) * 8 ≤ 140737488355328 by omega) | exact (show (ints (List.replicate (j + 1) T)).length + 1 ≤ maxLen by unfold maxLen; omega)
          case zk =>
          refine Aw.em tab_ok mb0 [] rfl rfl ?zo ?zk
          case zo =>
            repeat' apply AllP.cons
            all_goals first | exact trivial | exact id | exact rfl | exact fun _ => rfl | exact Nat.le_of_ble_eq_true rfl | exact fun _ => Nat.le_of_ble_eq_true rfl | exact Int.natCast_nonneg _ | exact fun _ => Int.natCast_nonneg _ | exact in_t _ _ _ | exact (in_t _ _ _).un | exact gq_f | exact inrk (j + 1) (by omega)
          case zk =>
          exact ⟨j + 1 + 1, hkl, by omega, ⟨.refl _, .refl _, .refl _, .refl _, trivial⟩, ⟨.of_eq (show grL 3 (List.replicate (j + 1 + 1) T) = A.sl false (.own 3) (ints (List.replicate (j + 1) T) ++ [[A.int T]]) by rw [grL_cons (by simp), List.replicate_succ' (n := j + 1)]; simp [ints]), .refl _, trivial⟩, trivial, Nat.zero_le _⟩
      have hk1 : k = y + 1 := by have := of_decide_eq_false h3; omega
      subst hk1
      refine Aw.exit2 ?_
      rw [grL_cons (l := List.replicate (y + 1) T) (by simp)]
      have uT : ∀ {n}, Under n (A.sl false .any (ints (List.replicate (y + 1) T))) := (free_ints _ _ _).under
      refine Aw.keep (n := 0) (cst := [(1, .int q), (2, .pt f.c), (8, .int y), (9, .int r), (10, .sl false .any (ints (List.replicate (y + 1) T)))]) (v := []) (Hl := []) hE ⟨.s _, ufc, .s _, .s _, uT, trivial⟩ trivial trivial ⟨⟨.refl _, .refl _, .refl _, .refl _, .any _ _ _, trivial⟩, trivial, trivial, Nat.zero_le _⟩ ?_
      refine Aw.sm tab_ok mb0 [] rfl rfl ?zo ?zk
      case zo =>
        repeat' apply AllP.cons
        all_goals first | exact trivial | exact id | exact rfl | exact fun _ => rfl | exact Nat.le_of_ble_eq_true rfl | exact fun _ => Nat.le_of_ble_eq_true rfl | exact Int.natCast_nonneg _ | exact fun _ => Int.natCast_nonneg _ | exact in_t _ _ _ | exact (in_t _ _ _).un | exact gq_f
      case zk =>
      generalize hS : f.findS q y r 0 = S at *
      refine Aw.block (Aw.rounds 0 hE [(1, .int q), (2, .pt f.c), (8, .int y), (9, .int r), (10, .sl false .any (ints (List.replicate (y + 1) T)))] (fun k : Nat => [(12, .int k)]) (fun _ => []) (fun k => k ≤ f.seasons.length ∧ f.findS q y r k = S) (fun k => f.seasons.length - k) 0
        ⟨Nat.zero_le _, hS⟩ ⟨⟨.refl _, .refl _, .refl _, .refl _, .refl _, trivial⟩, ⟨.refl _, trivial⟩, trivial, Nat.zero_le _⟩ ⟨.s _, ufc, .s _, .s _, uT, trivial⟩ (fun _ _ => ⟨.s _, trivial⟩) (fun _ _ => trivial) ?_)
      rintro s ⟨hs, hSs⟩
      refine Aw.seq ?_
      refine Aw.sm tab_ok mb0 [] rfl rfl ?zo ?zk
      case zo =>
        repeat' apply AllP.cons
        all_goals first | exact trivial | exact id | exact rfl | exact fun _ => rfl | exact Nat.le_of_ble_eq_true rfl | exact fun _ => Nat.le_of_ble_eq_true rfl | exact Int.natCast_nonneg _ | exact fun _ => Int.natCast_nonneg _ | exact in_t _ _ _ | exact (in_t _ _ _).un | exact gq_f
      case zk =>
      refine Aw.cond rfl (fun h4 => Aw.skip ?_) (fun h4 => ?_)
      · have hsl : s < f.seasons.length := by have := of_decide_eq_true h4; omega
        rw [findS_step hsl] at hSs
        have hri : f.race r = f.races[r]'hrl := by unfold Fish.race; rw [List.getD_eq_getElem?_getD, List.getElem?_eq_getElem hrl]; rfl
        have hgr : (f.races.map Rce.c)[r]? = some (f.race r).c := by rw [get_map hrl, hri]
        have hsn : f.seasons.getD s ⟨false, []⟩ = f.seasons[s] := by rw [List.getD_eq_getElem?_getD, List.getElem?_eq_getElem hsl]; rfl
        have hgs : (f.seasons.map NR.c)[s]? = some (f.seasons.getD s ⟨false, []⟩).c := by rw [get_map hsl, hsn]
        have hsr : r < (f.seasons.getD s ⟨false, []⟩).l.length := by rw [hok.sl s hsl]; exact hrl
        have hgl := nl_at (f.seasons.getD s ⟨false, []⟩).l hsr
        have hrl2 := hok.rl s r hsl hrl
        have hrb := hok.rb s r hsl hrl
        have hrep : (List.replicate (y + 1) T).length = y + 1 := List.length_replicate
        have cP := rplay_t (f.race r) (hok.race r hrl) false ((f.seasons.getD s ⟨false, []⟩).l.getD r ⟨false, []⟩).n (List.replicate (y + 1) T) (f.recs s r) (by rw [hrep]; omega) (by rw [hrep]; omega)
          (fun i hi => by rw [List.getD_eq_getElem?_getD, List.getElem?_replicate, if_pos (by omega)]; exact tb)
          (fun i hi => by
            have hi2 : i < (f.recs s r).length := by omega
            rw [List.getD_eq_getElem?_getD, List.getElem?_eq_getElem hi2]
            exact hrb _ (List.getElem_mem hi2))
        have hPy : (playF (f.race r) (f.race r).numbers (List.replicate (y + 1) T) (f.recs s r)).getD y 0 = (f.spawns r s q).getD y 0 := by
          unfold Fish.spawns
          rw [hT, show List.replicate (y + 1) T = (List.replicate (f.recs s r).length T).take (y + 1) by rw [List.take_replicate, Nat.min_eq_left (by omega)]]
          exact playF_prefix _ _ _ _ _ (by omega)
        have hPl : y < (playF (f.race r) (f.race r).numbers (List.replicate (y + 1) T) (f.recs s r)).length := by
          rw [playF_len2 _ _ _ _ (by rw [hrep]; omega), hrep]; omega
        have neP : playF (f.race r) (f.race r).numbers (List.replicate (y + 1) T) (f.recs s r) ≠ [] := fun h => by rw [h] at hPl; simp at hPl
        rw [outA_ne neP] at cP
        have hbk : f.brk q y r s = decide ((playF (f.race r) (f.race r).numbers (List.replicate (y + 1) T) (f.recs s r)).getD y 0 < (f.race r).line) := by unfold Fish.brk; rw [hPy]
        have gP := ints_getD hPl
        have cP : Ans Try.prog 77 [.agg (f.race r).c, .sl false .any (ints (List.replicate (y + 1) T)), .sl ((f.seasons.getD s ⟨false, []⟩).l.getD r ⟨false, []⟩).n .any (ints ((f.seasons.getD s ⟨false, []⟩).l.getD r ⟨false, []⟩).l)] (.sl false .any (ints (playF (f.race r) (f.race r).numbers (List.replicate (y + 1) T) (f.recs s r)))) := cP
        generalize playF (f.race r) (f.race r).numbers (List.replicate (y + 1) T) (f.recs s r) = P at *
        generalize (f.seasons.getD s ⟨false, []⟩).l.getD r ⟨false, []⟩ = xr at *
        refine Aw.seq (Aw.block ?_)
        refine Aw.sd tab_ok mixed mb0 [(3, (f.race r).c), (9, (f.seasons.getD s ⟨false, []⟩).c), (12, xr.c), (14, [.sl false .any (ints P)]), (16, [.int (P.getD y 0)]), (21, (f.race r).c)] rfl (by kernel_rfl) rfl rfl ?zo ?zk
        case zo =>
          repeat' apply AllP.cons
          all_goals first | exact trivial | exact id | exact rfl | exact fun _ => rfl | exact Nat.le_of_ble_eq_true rfl | exact fun _ => Nat.le_of_ble_eq_true rfl | exact Int.natCast_nonneg _ | exact fun _ => Int.natCast_nonneg _ | exact in_t _ _ _ | exact (in_t _ _ _).un | exact gq_f | exact hgr | exact hgs | exact hgl | exact cP | exact gP
        case zk =>
        refine Aw.cond rfl (fun h5 => ?_) (fun h5 => Aw.skip ?_)
        · have h5 : f.brk q y r s = true := hbk.trans h5
          rw [h5, if_pos rfl] at hSs
          subst hSs
          have hRr : some (r, s) = R := hRr
          subst hRr
          have hWy : some (y, (r, s)) = W := hWy
          subst hWy
          refine Aw.sm tab_ok mb0 [] rfl rfl ?zo ?zk
          case zo =>
            repeat' apply AllP.cons
            all_goals first | exact trivial | exact id | exact rfl | exact fun _ => rfl | exact Nat.le_of_ble_eq_true rfl | exact fun _ => Nat.le_of_ble_eq_true rfl | exact Int.natCast_nonneg _ | exact fun _ => Int.natCast_nonneg _ | exact in_t _ _ _ | exact (in_t _ _ _).un | exact gq_f
          case zk =>
          exact Aw.ret ⟨_, .cons (.tmp _) (.cons (.tmp _) (.cons (.tmp _) (.cons (.tmp _) .nil))), rfl⟩
        · have h5 : f.brk q y r s = false := hbk.trans h5
          rw [h5, if_neg (by decide)] at hSs
          refine Aw.em tab_ok mb0 [] rfl rfl ?zo ?zk
          case zo =>
            repeat' apply AllP.cons
            all_goals first | exact trivial | exact id | exact rfl | exact fun _ => rfl | exact Nat.le_of_ble_eq_true rfl | exact fun _ => Nat.le_of_ble_eq_true rfl | exact Int.natCast_nonneg _ | exact fun _ => Int.natCast_nonneg _ | exact in_t _ _ _ | exact (in_t _ _ _).un | exact gq_f | exact inrk s (by omega)
          case zk =>
          exact ⟨s + 1, ⟨hsl, hSs⟩, by omega, ⟨.refl _, .refl _, .refl _, .refl _, .refl _, trivial⟩, ⟨.refl _, trivial⟩, trivial, Nat.zero_le _⟩
      · have hse : s = f.seasons.length := by have := of_decide_eq_false h4; omega
        have hS0 : S = none := by rw [← hSs]; exact findS_end (by omega)
        subst hS0
        have hRr : f.findR q y (r + 1) = R := hRr
        refine Aw.exit2 ?_
        refine Aw.em tab_ok mb0 [] rfl rfl ?zo ?zk
        case zo =>
          repeat' apply AllP.cons
          all_goals first | exact trivial | exact id | exact rfl | exact fun _ => rfl | exact Nat.le_of_ble_eq_true rfl | exact fun _ => Nat.le_of_ble_eq_true rfl | exact Int.natCast_nonneg _ | exact fun _ => Int.natCast_nonneg _ | exact in_t _ _ _ | exact (in_t _ _ _).un | exact gq_f | exact inrk r (by omega)
        case zk =>
        exact ⟨r + 1, ⟨hrl, hRr⟩, by omega, ⟨.refl _, .refl _, .refl _, trivial⟩, ⟨.refl _, trivial⟩, trivial, Nat.zero_le _⟩
    · have hre : r = f.many := by have := of_decide_eq_false h2; omega
      have hR0 : R = none := by rw [← hRr]; exact findR_end (by omega)
      subst hR0
      have hWy : f.findY q (y + 1) = W := hWy
      refine Aw.exit2 ?_
      refine Aw.em tab_ok mb0 [] rfl rfl ?zo ?zk
      case zo =>
        repeat' apply AllP.cons
        all_goals first | exact trivial | exact id | exact rfl | exact fun _ => rfl | exact Nat.le_of_ble_eq_true rfl | exact fun _ => Nat.le_of_ble_eq_true rfl | exact Int.natCast_nonneg _ | exact fun _ => Int.natCast_nonneg _ | exact in_t _ _ _ | exact (in_t _ _ _).un | exact gq_f | exact inrk y (by omega)
      case zk =>
      exact ⟨y + 1, ⟨hyl, hWy⟩, by omega, ⟨.refl _, .refl _, trivial⟩, ⟨.refl _, trivial⟩, trivial, Nat.zero_le _⟩
  · have hye : y = f.years := by have := of_decide_eq_false h1; omega
    have hW0 : W = none := by rw [← hWy]; exact findY_end (by omega)
    subst hW0
    refine Aw.exit2 ?_
    refine Aw.sm tab_ok mb0 [] rfl rfl ?zo ?zk
    case zo =>
      repeat' apply AllP.cons
      all_goals first | exact trivial | exact id | exact rfl | exact fun _ => rfl | exact Nat.le_of_ble_eq_true rfl | exact fun _ => Nat.le_of_ble_eq_true rfl | exact Int.natCast_nonneg _ | exact fun _ => Int.natCast_nonneg _ | exact in_t _ _ _ | exact (in_t _ _ _).un | exact gq_f
    case zk =>
    exact Aw.ret ⟨_, .cons (.tmp _) (.cons (.tmp _) (.cons (.tmp _) (.cons (.tmp _) .nil))), rfl⟩
end Go.Proofs.Ytdiclbgklegelaa

namespace Go.Proofs.Ytdiclbgklegelaa
open Go Go.AL Go.AL.Q
theorem found_is {f : Fish} (hok : FishOk f) (q : Int) : ∃ a b c : Int, foundA (f.findY q 0) = [.int a, .int b, .int c, .bool (!f.holds q)] := by
  rw [holds_find hok]
  cases f.findY q 0 with
  | none => exact ⟨0, 0, 0, rfl⟩
  | some p => obtain ⟨y, r, s⟩ := p; exact ⟨r, s, y, rfl⟩
theorem rQuota_t (f : Fish) (hfit : f.Fit) : Ans Try.prog 28 [.agg f.c] (.tup f.quotaR) := by
  have hfr : Free (.tup f.quotaR) := .tup _ (by
    unfold Q.Fish.quotaR
    split
    · split <;> exact allC (.s _) (all1 (.s _))
    · exact allC (.s _) (all1 (.s _)))
  refine told Try.func28 rfl rfl (Pure.of tab_ok Try.func28 rfl Try.ntmps28 rfl (all1 (.agg _ f.free)) (all1 (fun _ => rfl)) (by first | exact .s _ | assumption | exact .tup _ (by intro x hx; simp only [List.mem_cons, List.not_mem_nil, or_false] at hx; rcases hx with rfl | rfl | rfl | rfl <;> first | exact .s _ | (simp_all; done))) fun E hE => ?_)
  refine Aw.sm tab_ok mb0 [] rfl rfl ?zo ?zk
  case zo =>
    repeat' apply AllP.cons
    all_goals first | exact trivial | exact id | exact rfl | exact fun _ => rfl | exact Nat.le_of_ble_eq_true rfl | exact fun _ => Nat.le_of_ble_eq_true rfl | exact Int.natCast_nonneg _ | exact fun _ => Int.natCast_nonneg _ | exact in_t _ _ _ | exact (in_t _ _ _).un | exact gq_f
  case zk =>
  refine Aw.seq ?_
  refine Aw.sm tab_ok mb0 [(1, [.int f.err])] rfl rfl ?zo ?zk
  case zo =>
    repeat' apply AllP.cons
    all_goals first | exact trivial | exact id | exact rfl | exact fun _ => rfl | exact Nat.le_of_ble_eq_true rfl | exact fun _ => Nat.le_of_ble_eq_true rfl | exact Int.natCast_nonneg _ | exact fun _ => Int.natCast_nonneg _ | exact in_t _ _ _ | exact (in_t _ _ _).un | exact gq_f | exact rcheck_t f hfit
  case zk =>
  refine Aw.sm tab_ok mb0 [] rfl rfl ?zo ?zk
  case zo =>
    repeat' apply AllP.cons
    all_goals first | exact trivial | exact id | exact rfl | exact fun _ => rfl | exact Nat.le_of_ble_eq_true rfl | exact fun _ => Nat.le_of_ble_eq_true rfl | exact Int.natCast_nonneg _ | exact fun _ => Int.natCast_nonneg _ | exact in_t _ _ _ | exact (in_t _ _ _).un | exact gq_f
  case zk =>
  refine Aw.cond rfl (fun h1 => ?_) (fun h1 => Aw.skip ?_)
  · have hno : f.ok = false := by
      cases h : f.ok with
      | false => rfl
      | true => rw [err_ok h] at h1; exact absurd h1 (by decide)
    refine Aw.sm tab_ok mb0 [] rfl rfl ?zo ?zk
    case zo =>
      repeat' apply AllP.cons
      all_goals first | exact trivial | exact id | exact rfl | exact fun _ => rfl | exact Nat.le_of_ble_eq_true rfl | exact fun _ => Nat.le_of_ble_eq_true rfl | exact Int.natCast_nonneg _ | exact fun _ => Int.natCast_nonneg _ | exact in_t _ _ _ | exact (in_t _ _ _).un | exact gq_f
    case zk =>
    exact Aw.ret ⟨_, .cons (.tmp _) (.cons (.tmp _) .nil), by unfold Q.Fish.quotaR; rw [hno, err_no hno]; rfl⟩
  have hok : f.ok = true := by
    cases h : f.ok with
    | true => rfl
    | false => rw [err_no h] at h1; exact absurd h1 (by decide)
  have hf := FishOk.of hok
  have ufc : ∀ {n}, Under n (A.pt f.c) := (Free.pt _ f.free).under
  have hR : f.quotaR = if f.holds 0 then [.int f.quota, .int 0] else [.int 0, .int 4] := by unfold Q.Fish.quotaR; rw [hok]; rfl
  rw [hR]
  refine Aw.keep (n := 0) (cst := [(1, .pt f.c)]) (v := []) (Hl := []) hE ⟨ufc, trivial⟩ trivial trivial ⟨⟨.refl _, trivial⟩, trivial, trivial, Nat.zero_le _⟩ ?_
  obtain ⟨a, b, c, e0⟩ := found_is hf 0
  have c0 := rfirst_t f hfit hf 0 (by decide)
  rw [e0] at c0
  refine Aw.seq ?_
  refine Aw.sm tab_ok mb0 [(1, [.tup [.int a, .int b, .int c, .bool (!f.holds 0)]])] rfl rfl ?zo ?zk
  case zo =>
    repeat' apply AllP.cons
    all_goals first | exact trivial | exact id | exact rfl | exact fun _ => rfl | exact Nat.le_of_ble_eq_true rfl | exact fun _ => Nat.le_of_ble_eq_true rfl | exact Int.natCast_nonneg _ | exact fun _ => Int.natCast_nonneg _ | exact in_t _ _ _ | exact (in_t _ _ _).un | exact gq_f | exact c0
  case zk =>
  refine Aw.sm tab_ok mb0 [] rfl rfl ?zo ?zk
  case zo =>
    repeat' apply AllP.cons
    all_goals first | exact trivial | exact id | exact rfl | exact fun _ => rfl | exact Nat.le_of_ble_eq_true rfl | exact fun _ => Nat.le_of_ble_eq_true rfl | exact Int.natCast_nonneg _ | exact fun _ => Int.natCast_nonneg _ | exact in_t _ _ _ | exact (in_t _ _ _).un | exact gq_f
  case zk =>
  refine Aw.cond rfl (fun h1 => ?_) (fun h1 => Aw.skip ?_)
  · have hno : f.holds 0 = false := by simpa using h1
    refine Aw.sm tab_ok mb0 [] rfl rfl ?zo ?zk
    case zo =>
      repeat' apply AllP.cons
      all_goals first | exact trivial | exact id | exact rfl | exact fun _ => rfl | exact Nat.le_of_ble_eq_true rfl | exact fun _ => Nat.le_of_ble_eq_true rfl | exact Int.natCast_nonneg _ | exact fun _ => Int.natCast_nonneg _ | exact in_t _ _ _ | exact (in_t _ _ _).un | exact gq_f
    case zk =>
    exact Aw.ret ⟨_, .cons (.tmp _) (.cons (.tmp _) .nil), by rw [hno]; rfl⟩
  have hyes : f.holds 0 = true := by simpa using h1
  rw [hyes]
  have hq : f.quota = halve f.holds 10001 0 10001 := rfl
  generalize f.quota = R at *
  refine Aw.sm tab_ok mb0 [] rfl rfl ?zo ?zk
  case zo =>
    repeat' apply AllP.cons
    all_goals first | exact trivial | exact id | exact rfl | exact fun _ => rfl | exact Nat.le_of_ble_eq_true rfl | exact fun _ => Nat.le_of_ble_eq_true rfl | exact Int.natCast_nonneg _ | exact fun _ => Int.natCast_nonneg _ | exact in_t _ _ _ | exact (in_t _ _ _).un | exact gq_f
  case zk =>
  refine Aw.seq (Aw.block (Aw.rounds (ι := Nat × Int × Int) 0 hE [(1, .pt f.c)] (fun i => [(9, .int i.2.1), (10, .int i.2.2)]) (fun _ => []) (fun i => 0 ≤ i.2.1 ∧ i.2.1 < i.2.2 ∧ i.2.2 ≤ 10001 ∧ i.2.2 - i.2.1 ≤ i.1 ∧ halve f.holds i.1 i.2.1 i.2.2 = R) (fun i => (i.2.2 - i.2.1).toNat) (10001, 0, 10001)
    ⟨by decide, by decide, by decide, by decide, hq.symm⟩ ⟨⟨.refl _, trivial⟩, ⟨.refl _, .refl _, trivial⟩, trivial, Nat.zero_le _⟩ ⟨ufc, trivial⟩ (fun _ _ => ⟨.s _, .s _, trivial⟩) (fun _ _ => trivial) ?_))
  rintro ⟨n, lo, hi⟩ ⟨h1, h2, h3, h4, hrun⟩
  simp only at h1 h2 h3 h4 hrun
  refine Aw.seq ?_
  refine Aw.sm tab_ok mb0 [] rfl rfl ?zo ?zk
  case zo =>
    repeat' apply AllP.cons
    all_goals first | exact trivial | exact id | exact rfl | exact fun _ => rfl | exact Nat.le_of_ble_eq_true rfl | exact fun _ => Nat.le_of_ble_eq_true rfl | exact Int.natCast_nonneg _ | exact fun _ => Int.natCast_nonneg _ | exact in_t _ _ _ | exact (in_t _ _ _).un | exact gq_f | exact (by simp only [Ob.of, inR]; omega)
  case zk =>
  refine Aw.cond rfl (fun h5 => Aw.skip ?_) (fun h5 => ?_)
  · have h5' : hi - lo > 1 := of_decide_eq_true h5
    obtain ⟨n, rfl⟩ : ∃ m, n = m + 1 := ⟨n - 1, by omega⟩
    rw [halve, if_pos h5'] at hrun
    have hmid : lo < (lo + hi).tdiv 2 ∧ (lo + hi).tdiv 2 < hi := by rw [Int.tdiv_eq_ediv_of_nonneg (by omega)]; omega
    have ob1 : (2 : Int) ≠ 0 ∧ inR ((lo + hi).tdiv 2) := ⟨by decide, by simp only [inR]; omega⟩
    refine Aw.block ?_
    refine Aw.sm tab_ok mb0 [] rfl rfl ?zo ?zk
    case zo =>
      repeat' apply AllP.cons
      all_goals first | exact trivial | exact id | exact rfl | exact fun _ => rfl | exact Nat.le_of_ble_eq_true rfl | exact fun _ => Nat.le_of_ble_eq_true rfl | exact Int.natCast_nonneg _ | exact fun _ => Int.natCast_nonneg _ | exact in_t _ _ _ | exact (in_t _ _ _).un | exact gq_f | exact (by simp only [Ob.of, inR]; omega) | exact ob1
    case zk =>
    generalize (lo + hi).tdiv 2 = mid at *
    obtain ⟨a1, b1, c1, e1⟩ := found_is hf mid
    have k1 := rfirst_t f hfit hf mid (by omega)
    rw [e1] at k1
    refine Aw.sm tab_ok mb0 [(2, [.tup [.int a1, .int b1, .int c1, .bool (!f.holds mid)]])] rfl rfl ?zo ?zk
    case zo =>
      repeat' apply AllP.cons
      all_goals first | exact trivial | exact id | exact rfl | exact fun _ => rfl | exact Nat.le_of_ble_eq_true rfl | exact fun _ => Nat.le_of_ble_eq_true rfl | exact Int.natCast_nonneg _ | exact fun _ => Int.natCast_nonneg _ | exact in_t _ _ _ | exact (in_t _ _ _).un | exact gq_f | exact k1
    case zk =>
    refine Aw.sm tab_ok mb0 [] rfl rfl ?zo ?zk
    case zo =>
      repeat' apply AllP.cons
      all_goals first | exact trivial | exact id | exact rfl | exact fun _ => rfl | exact Nat.le_of_ble_eq_true rfl | exact fun _ => Nat.le_of_ble_eq_true rfl | exact Int.natCast_nonneg _ | exact fun _ => Int.natCast_nonneg _ | exact in_t _ _ _ | exact (in_t _ _ _).un | exact gq_f
    case zk =>
    refine Aw.cond rfl (fun h6 => ?_) (fun h6 => ?_)
    · have h6' : f.holds mid = false := by simpa using h6
      rw [h6'] at hrun
      refine Aw.em tab_ok mb0 [] rfl rfl ?zo ?zk
      case zo =>
        repeat' apply AllP.cons
        all_goals first | exact trivial | exact id | exact rfl | exact fun _ => rfl | exact Nat.le_of_ble_eq_true rfl | exact fun _ => Nat.le_of_ble_eq_true rfl | exact Int.natCast_nonneg _ | exact fun _ => Int.natCast_nonneg _ | exact in_t _ _ _ | exact (in_t _ _ _).un | exact gq_f
      case zk =>
      exact ⟨(n, lo, mid), ⟨h1, hmid.1, by show mid ≤ 10001; omega, by show mid - lo ≤ n; omega, hrun⟩, by show (mid - lo).toNat < (hi - lo).toNat; omega, ⟨.refl _, trivial⟩, ⟨.refl _, .refl _, trivial⟩, trivial, Nat.zero_le _⟩
    · have h6' : f.holds mid = true := by simpa using h6
      rw [if_pos h6'] at hrun
      refine Aw.em tab_ok mb0 [] rfl rfl ?zo ?zk
      case zo =>
        repeat' apply AllP.cons
        all_goals first | exact trivial | exact id | exact rfl | exact fun _ => rfl | exact Nat.le_of_ble_eq_true rfl | exact fun _ => Nat.le_of_ble_eq_true rfl | exact Int.natCast_nonneg _ | exact fun _ => Int.natCast_nonneg _ | exact in_t _ _ _ | exact (in_t _ _ _).un | exact gq_f
      case zk =>
      exact ⟨(n, mid, hi), ⟨by show 0 ≤ mid; omega, hmid.2, h3, by show hi - mid ≤ n; omega, hrun⟩, by show (hi - mid).toNat < (hi - lo).toNat; omega, ⟨.refl _, trivial⟩, ⟨.refl _, .refl _, trivial⟩, trivial, Nat.zero_le _⟩
  · have h5' : ¬ hi - lo > 1 := of_decide_eq_false h5
    have hR1 : R = lo := by
      rw [← hrun]
      cases n with
      | zero => rfl
      | succ n => rw [halve, if_neg h5']
    subst hR1
    refine Aw.exit2 ?_
    refine Aw.sm tab_ok mb0 [] rfl rfl ?zo ?zk
    case zo =>
      repeat' apply AllP.cons
      all_goals first | exact trivial | exact id | exact rfl | exact fun _ => rfl | exact Nat.le_of_ble_eq_true rfl | exact fun _ => Nat.le_of_ble_eq_true rfl | exact Int.natCast_nonneg _ | exact fun _ => Int.natCast_nonneg _ | exact in_t _ _ _ | exact (in_t _ _ _).un | exact gq_f
    case zk =>
    exact Aw.ret ⟨_, .cons (.tmp _) (.cons (.tmp _) .nil), rfl⟩
end Go.Proofs.Ytdiclbgklegelaa

namespace Go.Proofs.Ytdiclbgklegelaa
open Go Go.AL Go.AL.Q
theorem firstR_free (f : Fish) (q : Int) : Free (.tup (f.firstR q)) := .tup _ (by
    have h4 : ∀ a b c d : Int, ∀ x ∈ [A.int a, .int b, .int c, .int d], Free x := fun _ _ _ _ => allC (.s _) (allC (.s _) (allC (.s _) (all1 (.s _))))
    unfold Q.Fish.firstR
    split
    · split
      · split <;> exact h4 _ _ _ _
      · exact h4 _ _ _ _
    · exact h4 _ _ _ _)
theorem rFirst_t (f : Fish) (hfit : f.Fit) (q : Int) : Ans Try.prog 32 [.agg f.c, .int q] (.tup (f.firstR q)) := by
  have hfr := firstR_free f q
  refine told Try.func32 rfl rfl (Pure.of tab_ok Try.func32 rfl Try.ntmps32 rfl (allC (.agg _ f.free) (all1 (.s _))) (allC (fun _ => rfl) (all1 (fun _ => rfl))) (by first | exact .s _ | assumption | exact .tup _ (by intro x hx; simp only [List.mem_cons, List.not_mem_nil, or_false] at hx; rcases hx with rfl | rfl | rfl | rfl <;> first | exact .s _ | (simp_all; done))) fun E hE => ?_)
  refine Aw.sm tab_ok mb0 [] rfl rfl ?zo ?zk
  case zo =>
    repeat' apply AllP.cons
    all_goals first | exact trivial | exact id | exact rfl | exact fun _ => rfl | exact Nat.le_of_ble_eq_true rfl | exact fun _ => Nat.le_of_ble_eq_true rfl | exact Int.natCast_nonneg _ | exact fun _ => Int.natCast_nonneg _ | exact in_t _ _ _ | exact (in_t _ _ _).un | exact gq_f
  case zk =>
  refine Aw.seq ?_
  refine Aw.sm tab_ok mb0 [(1, [.int f.err])] rfl rfl ?zo ?zk
  case zo =>
    repeat' apply AllP.cons
    all_goals first | exact trivial | exact id | exact rfl | exact fun _ => rfl | exact Nat.le_of_ble_eq_true rfl | exact fun _ => Nat.le_of_ble_eq_true rfl | exact Int.natCast_nonneg _ | exact fun _ => Int.natCast_nonneg _ | exact in_t _ _ _ | exact (in_t _ _ _).un | exact gq_f | exact rcheck_t f hfit
  case zk =>
  refine Aw.sm tab_ok mb0 [] rfl rfl ?zo ?zk
  case zo =>
    repeat' apply AllP.cons
    all_goals first | exact trivial | exact id | exact rfl | exact fun _ => rfl | exact Nat.le_of_ble_eq_true rfl | exact fun _ => Nat.le_of_ble_eq_true rfl | exact Int.natCast_nonneg _ | exact fun _ => Int.natCast_nonneg _ | exact in_t _ _ _ | exact (in_t _ _ _).un | exact gq_f
  case zk =>
  refine Aw.cond rfl (fun h1 => ?_) (fun h1 => Aw.skip ?_)
  · have hno : f.ok = false := by
      cases h : f.ok with
      | false => rfl
      | true => rw [err_ok h] at h1; exact absurd h1 (by decide)
    refine Aw.sm tab_ok mb0 [] rfl rfl ?zo ?zk
    case zo =>
      repeat' apply AllP.cons
      all_goals first | exact trivial | exact id | exact rfl | exact fun _ => rfl | exact Nat.le_of_ble_eq_true rfl | exact fun _ => Nat.le_of_ble_eq_true rfl | exact Int.natCast_nonneg _ | exact fun _ => Int.natCast_nonneg _ | exact in_t _ _ _ | exact (in_t _ _ _).un | exact gq_f
    case zk =>
    exact Aw.ret ⟨_, .cons (.tmp _) (.cons (.tmp _) (.cons (.tmp _) (.cons (.tmp _) .nil))), by unfold Q.Fish.firstR; rw [hno, err_no hno]; rfl⟩
  have hok : f.ok = true := by
    cases h : f.ok with
    | true => rfl
    | false => rw [err_no h] at h1; exact absurd h1 (by decide)
  have hf := FishOk.of hok
  refine Aw.seq ?_
  refine Aw.sm tab_ok mb0 [(1, [.bool (wi q 0 10000)])] rfl rfl ?zo ?zk
  case zo =>
    repeat' apply AllP.cons
    all_goals first | exact trivial | exact id | exact rfl | exact fun _ => rfl | exact Nat.le_of_ble_eq_true rfl | exact fun _ => Nat.le_of_ble_eq_true rfl | exact Int.natCast_nonneg _ | exact fun _ => Int.natCast_nonneg _ | exact in_t _ _ _ | exact (in_t _ _ _).un | exact gq_f
  case zk =>
  refine Aw.cond rfl (fun h1 => ?_) (fun h1 => Aw.skip ?_)
  · have hno : wi q 0 10000 = false := by simpa using h1
    refine Aw.sm tab_ok mb0 [] rfl rfl ?zo ?zk
    case zo =>
      repeat' apply AllP.cons
      all_goals first | exact trivial | exact id | exact rfl | exact fun _ => rfl | exact Nat.le_of_ble_eq_true rfl | exact fun _ => Nat.le_of_ble_eq_true rfl | exact Int.natCast_nonneg _ | exact fun _ => Int.natCast_nonneg _ | exact in_t _ _ _ | exact (in_t _ _ _).un | exact gq_f
    case zk =>
    exact Aw.ret ⟨_, .cons (.tmp _) (.cons (.tmp _) (.cons (.tmp _) (.cons (.tmp _) .nil))), by unfold Q.Fish.firstR; rw [hok, hno]; rfl⟩
  have hyes : wi q 0 10000 = true := by simpa using h1
  have hq := wi_iff.1 hyes
  have c := rfirst_t f hfit hf q (by omega)
  rw [firstR_find hok hyes]
  cases e : f.findY q 0 with
  | none =>
    rw [e] at c
    refine Aw.sm tab_ok mb0 [(2, [.tup [.int 0, .int 0, .int 0, .bool false]])] rfl rfl ?zo ?zk
    case zo =>
      repeat' apply AllP.cons
      all_goals first | exact trivial | exact id | exact rfl | exact fun _ => rfl | exact Nat.le_of_ble_eq_true rfl | exact fun _ => Nat.le_of_ble_eq_true rfl | exact Int.natCast_nonneg _ | exact fun _ => Int.natCast_nonneg _ | exact in_t _ _ _ | exact (in_t _ _ _).un | exact gq_f | exact c
    case zk =>
    refine Aw.seq ?_
    refine Aw.sm tab_ok mb0 [] rfl rfl ?zo ?zk
    case zo =>
      repeat' apply AllP.cons
      all_goals first | exact trivial | exact id | exact rfl | exact fun _ => rfl | exact Nat.le_of_ble_eq_true rfl | exact fun _ => Nat.le_of_ble_eq_true rfl | exact Int.natCast_nonneg _ | exact fun _ => Int.natCast_nonneg _ | exact in_t _ _ _ | exact (in_t _ _ _).un | exact gq_f
    case zk =>
    refine Aw.cond rfl (fun h1 => ?_) (fun h1 => (absurd h1 (by decide)))
    refine Aw.sm tab_ok mb0 [] rfl rfl ?zo ?zk
    case zo =>
      repeat' apply AllP.cons
      all_goals first | exact trivial | exact id | exact rfl | exact fun _ => rfl | exact Nat.le_of_ble_eq_true rfl | exact fun _ => Nat.le_of_ble_eq_true rfl | exact Int.natCast_nonneg _ | exact fun _ => Int.natCast_nonneg _ | exact in_t _ _ _ | exact (in_t _ _ _).un | exact gq_f
    case zk =>
    exact Aw.ret ⟨_, .cons (.tmp _) (.cons (.tmp _) (.cons (.tmp _) (.cons (.tmp _) .nil))), rfl⟩
  | some p =>
    obtain ⟨y, r, s⟩ := p
    rw [e] at c
    refine Aw.sm tab_ok mb0 [(2, [.tup [.int r, .int s, .int y, .bool true]])] rfl rfl ?zo ?zk
    case zo =>
      repeat' apply AllP.cons
      all_goals first | exact trivial | exact id | exact rfl | exact fun _ => rfl | exact Nat.le_of_ble_eq_true rfl | exact fun _ => Nat.le_of_ble_eq_true rfl | exact Int.natCast_nonneg _ | exact fun _ => Int.natCast_nonneg _ | exact in_t _ _ _ | exact (in_t _ _ _).un | exact gq_f | exact c
    case zk =>
    refine Aw.seq ?_
    refine Aw.sm tab_ok mb0 [] rfl rfl ?zo ?zk
    case zo =>
      repeat' apply AllP.cons
      all_goals first | exact trivial | exact id | exact rfl | exact fun _ => rfl | exact Nat.le_of_ble_eq_true rfl | exact fun _ => Nat.le_of_ble_eq_true rfl | exact Int.natCast_nonneg _ | exact fun _ => Int.natCast_nonneg _ | exact in_t _ _ _ | exact (in_t _ _ _).un | exact gq_f
    case zk =>
    refine Aw.cond rfl (fun h1 => (absurd h1 (by decide))) (fun h1 => Aw.skip ?_)
    refine Aw.sm tab_ok mb0 [] rfl rfl ?zo ?zk
    case zo =>
      repeat' apply AllP.cons
      all_goals first | exact trivial | exact id | exact rfl | exact fun _ => rfl | exact Nat.le_of_ble_eq_true rfl | exact fun _ => Nat.le_of_ble_eq_true rfl | exact Int.natCast_nonneg _ | exact fun _ => Int.natCast_nonneg _ | exact in_t _ _ _ | exact (in_t _ _ _).un | exact gq_f
    case zk =>
    exact Aw.ret ⟨_, .cons (.tmp _) (.cons (.tmp _) (.cons (.tmp _) (.cons (.tmp _) .nil))), rfl⟩
theorem firstR_is (f : Fish) (q : Int) : ∃ a b c d : Int, f.firstR q = [.int a, .int b, .int c, .int d] := by
  unfold Q.Fish.firstR
  split
  · split
    · split <;> exact ⟨_, _, _, _, rfl⟩
    · exact ⟨_, _, _, _, rfl⟩
  · exact ⟨_, _, _, _, rfl⟩
theorem quotaR_is (f : Fish) : ∃ a b : Int, f.quotaR = [.int a, .int b] := by
  unfold Q.Fish.quotaR
  split
  · split <;> exact ⟨_, _, rfl⟩
  · exact ⟨_, _, rfl⟩
theorem quotas_t (f : Fish) (q : Int) (hfit : f.Fit) : Ans Try.prog 6 [.agg f.c, .int q] (.bool true) := by
  have c1 := quota_t f hfit
  have c2 := rQuota_t f hfit
  have c3 := check_t f hfit
  have c4 := rcheck_t f hfit
  have c5 := First_t f hfit q
  have c6 := rFirst_t f hfit q
  obtain ⟨a, b, e1⟩ := quotaR_is f
  obtain ⟨x, y, z, g, e2⟩ := firstR_is f q
  rw [e1] at c1 c2
  rw [e2] at c5 c6
  refine told Try.func6 rfl rfl (Pure.of tab_ok Try.func6 rfl Try.ntmps6 rfl (allC (.agg _ f.free) (all1 (.s _))) (allC (fun _ => rfl) (all1 (fun _ => rfl))) (by first | exact .s _ | assumption | exact .tup _ (by intro x hx; simp only [List.mem_cons, List.not_mem_nil, or_false] at hx; rcases hx with rfl | rfl | rfl | rfl <;> first | exact .s _ | (simp_all; done))) fun E hE => ?_)
  refine Aw.sm tab_ok mb0 [] rfl rfl ?zo ?zk
  case zo =>
    repeat' apply AllP.cons
    all_goals first | exact trivial | exact id | exact rfl | exact fun _ => rfl | exact Nat.le_of_ble_eq_true rfl | exact fun _ => Nat.le_of_ble_eq_true rfl | exact Int.natCast_nonneg _ | exact fun _ => Int.natCast_nonneg _ | exact in_t _ _ _ | exact (in_t _ _ _).un | exact gq_f
  case zk =>
  refine Aw.sm tab_ok mb0 [(1, [.tup [.int a, .int b]])] rfl rfl ?zo ?zk
  case zo =>
    repeat' apply AllP.cons
    all_goals first | exact trivial | exact id | exact rfl | exact fun _ => rfl | exact Nat.le_of_ble_eq_true rfl | exact fun _ => Nat.le_of_ble_eq_true rfl | exact Int.natCast_nonneg _ | exact fun _ => Int.natCast_nonneg _ | exact in_t _ _ _ | exact (in_t _ _ _).un | exact gq_f | exact c1
  case zk =>
  refine Aw.sm tab_ok mb0 [(1, [.tup [.int a, .int b]])] rfl rfl ?zo ?zk
  case zo =>
    repeat' apply AllP.cons
    all_goals first | exact trivial | exact id | exact rfl | exact fun _ => rfl | exact Nat.le_of_ble_eq_true rfl | exact fun _ => Nat.le_of_ble_eq_true rfl | exact Int.natCast_nonneg _ | exact fun _ => Int.natCast_nonneg _ | exact in_t _ _ _ | exact (in_t _ _ _).un | exact gq_f | exact c2
  case zk =>
  refine Aw.seq ?_
  refine Aw.sd tab_ok mixed mb0 [(10, [.int f.err]), (12, [.int f.err])] rfl (by kernel_rfl) rfl rfl ?zo ?zk
  case zo =>
    repeat' apply AllP.cons
    all_goals first | exact trivial | exact id | exact rfl | exact fun _ => rfl | exact Nat.le_of_ble_eq_true rfl | exact fun _ => Nat.le_of_ble_eq_true rfl | exact Int.natCast_nonneg _ | exact fun _ => Int.natCast_nonneg _ | exact in_t _ _ _ | exact (in_t _ _ _).un | exact gq_f | exact fun _ => c3 | exact fun _ => c4
  case zk =>
  refine Aw.cond rfl (fun h => ?_) (fun h => Aw.skip ?_)
  · have h : cond (cond (a != a) true (b != b)) true (f.err != f.err) = true := h
    simp at h
  refine Aw.sm tab_ok mb0 [(2, [.tup [.int x, .int y, .int z, .int g]])] rfl rfl ?zo ?zk
  case zo =>
    repeat' apply AllP.cons
    all_goals first | exact trivial | exact id | exact rfl | exact fun _ => rfl | exact Nat.le_of_ble_eq_true rfl | exact fun _ => Nat.le_of_ble_eq_true rfl | exact Int.natCast_nonneg _ | exact fun _ => Int.natCast_nonneg _ | exact in_t _ _ _ | exact (in_t _ _ _).un | exact gq_f | exact c5
  case zk =>
  refine Aw.sm tab_ok mb0 [(2, [.tup [.int x, .int y, .int z, .int g]])] rfl rfl ?zo ?zk
  case zo =>
    repeat' apply AllP.cons
    all_goals first | exact trivial | exact id | exact rfl | exact fun _ => rfl | exact Nat.le_of_ble_eq_true rfl | exact fun _ => Nat.le_of_ble_eq_true rfl | exact Int.natCast_nonneg _ | exact fun _ => Int.natCast_nonneg _ | exact in_t _ _ _ | exact (in_t _ _ _).un | exact gq_f | exact c6
  case zk =>
  refine Aw.sm tab_ok mb0 [(19, [.bool true])] rfl rfl ?zo ?zk
  case zo =>
    repeat' apply AllP.cons
    all_goals first | exact trivial | exact id | exact rfl | exact fun _ => rfl | exact Nat.le_of_ble_eq_true rfl | exact fun _ => Nat.le_of_ble_eq_true rfl | exact Int.natCast_nonneg _ | exact fun _ => Int.natCast_nonneg _ | exact in_t _ _ _ | exact (in_t _ _ _).un | exact gq_f | exact fun _ => works_t
  case zk =>
  refine Aw.ret ⟨_, .cons (.tmp _) .nil, ?_⟩
  have e : cond (cond (cond (cond (x == x) (y == y) false) (z == z) false) (g == g) false) true false = true := by simp
  exact congrArg A.bool e
end Go.Proofs.Ytdiclbgklegelaa

namespace Go.Proofs.Ytdiclbgklegelaa
open Go Go.AL Go.ChangeShapes Go.WideShapes Go.ChangeAt Go.RowKit
set_option maxRecDepth 100000 in
theorem stockQuotas_lifted (os : Os) (started : os.Started) (H : Type) (enc : TypeId × Value → H) :
    ReturnsInHanded {} Try.checked os 6 .any (Rows.stockQuotasSpec.pre6 enc Try.prog Try.f6 [] false) (Rows.stockQuotasSpec.post enc Try.prog Try.f6 false true false false) := by
  refine lifted2 (tb := 4) (C := Try.checked) own started (by kernel_rfl) Try.func6
    (ChangeSpec.witness6 (enc := enc) (C := Try.checked) false ⟨#[], #[.agg #[.slice none 0 0, .slice none 0 0, .slice none 0 0], .int .i64 0], []⟩ 8 (by kernel_rfl) (by kernel_rfl) (by kernel_rfl) (by kernel_rfl))
    laidOut ?_ rfl rfl (by kernel_rfl) uBool ?_ ?_
  · rw [Try.params6]; exact all2t (p := fun t => Try.prog.readableRec t = true ∧ t < Try.prog.types.size) t47 t3
  · intro ds hd
    rw [Try.params6] at hd
    match ds, hd with
    | [d0, d1], _ => rfl
  · intro W base args ds p hval hA hwt
    rw [Try.params6] at hA hval
    obtain ⟨v0, v1, d0, d1, p0, p1, rfl, rfl, rfl, h0, h1⟩ := trodAll_two hA
    obtain ⟨y0, q0, s0⟩ := arg_fish (φ := fun _ => none) (hval 0 47 v0 rfl rfl) h0 fun k hk => hwt k (List.mem_append.2 (.inl hk))
    obtain ⟨y1, q1⟩ := arg_int (φ := fun _ => none) (hval 1 3 v1 rfl rfl) h1
    exact ⟨_, _, vrs2 q0 q1, quotas_t y0 y1 s0⟩
theorem stockQuotas_holds : Rows.StockQuotasSaid :=
  OpenClaim.holds_of_wide 6 Try.f6 rfl rfl rfl rfl rfl rfl rfl ⟨rfl, rfl, rfl, rfl, rfl⟩ rfl rfl rfl rfl rfl (by kernel_rfl) Try.func6 (by kernel_rfl)
    (of_decide_eq_true (by kernel_rfl)) (by unfold Func.isWrapper; first | (rw [if_pos (by decide +kernel)]; kernel_rfl) | (rw [if_neg (by decide +kernel)]; exact ⟨rfl, rfl⟩))
    (fun os started H enc _ => stockQuotas_lifted os started H enc)
end Go.Proofs.Ytdiclbgklegelaa

