/- StockMore holds: with more recruits, a lower Line, a greater Keep or a lesser Most the greatest quota is no less; with a season more it is no greater. No condition. -/
import Derived.Test.YtdiclbgklegelaaK6
set_option linter.all false
namespace Go.AL
open Go Go.RowKit Go.ChangeShapes Go.WideShapes Go.ChangeAt
section
variable {H : Type} {enc : TypeId × Value → H} {P : Program} {w : World} {base : Nat} {held : Bool} {φ : Names}
def CellsAre (φ : Names) (w : World) (az : List A) (cs : List Value) : Prop :=
  cs.length = az.length ∧ ∀ i, i < az.length → VR φ (allZ w) w (az.getD i .un) (cs.getD i undef) ∧ (cs.getD i undef).oneCell' = true
theorem CellsAre.nil : CellsAre φ w [] [] := ⟨rfl, fun i h => by simp at h⟩
theorem CellsAre.one {a : A} {v : Value} (h : VR φ (allZ w) w a v) (h1 : v.oneCell' = true) : CellsAre φ w [a] [v] := ⟨rfl, fun i hi => by
  have : i = 0 := by simp at hi; exact hi
  subst this; exact ⟨h, h1⟩⟩
theorem CellsAre.app {az bz : List A} {cs ds : List Value} (h : CellsAre φ w az cs) (k : CellsAre φ w bz ds) : CellsAre φ w (az ++ bz) (cs ++ ds) := by
  refine ⟨by simp [h.1, k.1], fun i hi => ?_⟩
  by_cases h1 : i < az.length
  · have := h.2 i h1
    rw [show (az ++ bz).getD i .un = az.getD i .un by simp [List.getD_eq_getElem?_getD, List.getElem?_append, h1],
      show (cs ++ ds).getD i undef = cs.getD i undef by simp [List.getD_eq_getElem?_getD, List.getElem?_append, h.1, h1]]
    exact this
  · have hi2 : i - az.length < bz.length := by simp only [List.length_append] at hi; omega
    have := k.2 (i - az.length) hi2
    rw [show (az ++ bz).getD i .un = bz.getD (i - az.length) .un by simp [List.getD_eq_getElem?_getD, List.getElem?_append, h1],
      show (cs ++ ds).getD i undef = ds.getD (i - az.length) undef by simp [List.getD_eq_getElem?_getD, List.getElem?_append, h.1, h1]]
    exact this
theorem CellsAre.agg {az : List A} {cs : List Value} (h : CellsAre φ w az cs) : VR φ (allZ w) w (.agg az) (.agg cs.toArray) := by
  have e : ∀ i, cs.toArray.getD i undef = cs.getD i undef := fun i => by simp [Array.getD_eq_getD_getElem?, List.getD_eq_getElem?_getD]
  refine .agg _ _ (by simp [h.1]) (fun i hi => ?_) fun i hi => ?_
  · rw [e]; exact (h.2 i hi).2
  · rw [e]; exact (h.2 i hi).1
def Reads (enc : TypeId × Value → H) (P : Program) (w : World) (base : Nat) (held : Bool) (φ : Names) (e sz : Nat) {α : Type} (c : α → List A) (Q : α → Prop) : Prop :=
  ∀ n cs y, DataW.trod enc P w base (fun _ => true) held n e cs = some y → (∀ k ∈ y.1.weights P e, k ≤ reachBytes) → ∃ a : α, Q a ∧ (c a).length = sz ∧ CellsAre φ w (c a) cs
theorem Reads.imp {e sz : Nat} {α β : Type} {c : α → List A} {d : β → List A} {Q : α → Prop} {R : β → Prop} (h : Reads enc P w base held φ e sz c Q) (k : ∀ a, Q a → ∃ b, R b ∧ d b = c a) : Reads enc P w base held φ e sz d R := fun n cs y hy hw => by
  obtain ⟨a, q, l, r⟩ := h n cs y hy hw
  obtain ⟨b, q2, e2⟩ := k a q
  exact ⟨b, q2, by rw [e2]; exact l, by rw [e2]; exact r⟩
theorem Reads.int {e : Nat} (he : P.underlying e = some (.int .i64)) : Reads enc P w base held φ e 1 (fun n : Int => [A.int n]) fun _ => True := fun n cs y h _ => by
  obtain ⟨z, rfl, _, _⟩ := DataW.trod_int he h
  exact ⟨z, trivial, rfl, .one (.s _) rfl⟩
theorem weightsAll_at {e : Nat} : ∀ {l : List (DataW H)} {d : DataW H}, d ∈ l → ∀ k ∈ d.weights P e, k ∈ DataW.weightsAll P e l
  | x :: l, d, hm, k, hk => by
    rw [DataW.weightsAll, List.mem_append]
    rcases List.mem_cons.1 hm with rfl | hm
    · exact .inl hk
    · exact .inr (weightsAll_at hm k hk)
theorem cells_spot {a : Addr} {n : Nat} {cs : List Value} (h : w.cells? base a n = some cs) (hn : 0 < n) : a.spot = none := by
  obtain ⟨hl, hc⟩ := cells_at h
  have h0 := hc 0 hn
  rw [List.getElem?_eq_getElem (by omega)] at h0
  have := World.cell?_spot h0
  rwa [show a.add 0 = a from by unfold Addr.add; simp] at this
theorem told_list {α : Type} {c : α → List A} {Q : α → Prop} {R : α → Nat → Prop} (n : Nat) (h : ∀ i, i < n → ∃ a, Q a ∧ R a i) : ∃ l : List α, l.length = n ∧ (∀ a ∈ l, Q a) ∧ ∀ i (hi : i < l.length), R l[i] i := by
  induction n with
  | zero => exact ⟨[], rfl, fun _ h => by simp at h, fun i hi => by simp at hi⟩
  | succ n ih =>
    obtain ⟨l, hl, hq, hr⟩ := ih fun i hi => h i (by omega)
    obtain ⟨a, qa, ra⟩ := h n (by omega)
    refine ⟨l ++ [a], by simp [hl], fun x hx => ?_, fun i hi => ?_⟩
    · rcases List.mem_append.1 hx with hx | hx
      · exact hq x hx
      · rw [List.mem_singleton.1 hx]; exact qa
    · by_cases h1 : i < l.length
      · rw [List.getElem_append_left h1]; exact hr i h1
      · have : i = l.length := by simp at hi; omega
        subst this
        rw [List.getElem_append_right (by omega)]
        simp only [Nat.sub_self, List.getElem_cons_zero]
        rw [hl]; exact ra
theorem Reads.slice {t e sz : Nat} {α : Type} {c : α → List A} {Q : α → Prop} (ht : P.underlying t = some (.slice e)) (hc : P.cellsOf e = sz) (h0 : 0 < sz) (h : Reads enc P w base held φ e sz c Q) :
    Reads enc P w base held φ t 1 (fun x : Bool × List α => [A.sl x.1 .any (x.2.map c)]) fun x => (∀ a ∈ x.2, Q a) ∧ x.2.length * P.bytesOf e ≤ reachBytes := by
  intro fuel cs y hy hw
  rcases DataW.trod_slice ht hy with ⟨rfl, _⟩ | ⟨ad, len, cap, elems, rest, n, _, rfl, hx, hbl, hl, hm, hlen, hel, hre, _⟩
  · exact ⟨(true, []), ⟨fun a ha => (nomatch ha), by simp⟩, rfl, .one (.nil _) rfl⟩
  · obtain ⟨hrl, hre⟩ := hre rfl
    have hwt : (elems.map (·.1)).length * P.bytesOf e ≤ reachBytes ∧ ∀ d ∈ elems.map (·.1), ∀ k ∈ d.weights P e, k ≤ reachBytes := by
      rw [hx] at hw
      simp only [DataW.weights, ht] at hw
      refine ⟨Nat.le_trans (Nat.mul_le_mul_right _ (Nat.le_add_right _ (rest.map (·.1)).length)) (hw _ (List.mem_cons_self ..)), fun d hd k hk => hw k (List.mem_cons_of_mem _ (List.mem_append.2 (.inl (weightsAll_at hd k hk))))⟩
    have hsp : cap = 0 ∨ ad.spot = none := by
      rcases Nat.eq_zero_or_pos cap with h | hpos
      · exact .inl h
      right
      rcases Nat.eq_zero_or_pos len with hz | hlp
      · subst hz
        have h1 := hre 0 (by omega)
        rw [hc] at h1
        obtain ⟨r, hr⟩ : ∃ r, rest[0]? = some r := ⟨rest[0]'(by omega), List.getElem?_eq_getElem _⟩
        rw [hr, Option.bind_eq_some_iff] at h1
        obtain ⟨cs, h2, _⟩ := h1
        rw [show ad.add ((0 + 0) * sz) = ad from by unfold Addr.add; simp] at h2
        exact cells_spot h2 h0
      · have h1 := hel 0 hlp
        rw [hc] at h1
        obtain ⟨r, hr⟩ : ∃ r, elems[0]? = some r := ⟨elems[0]'(by omega), List.getElem?_eq_getElem _⟩
        rw [hr, Option.bind_eq_some_iff] at h1
        obtain ⟨cs, h2, _⟩ := h1
        rw [show ad.add (0 * sz) = ad from by unfold Addr.add; simp] at h2
        exact cells_spot h2 h0
    rcases hsp with hz | hsp
    · subst hz
      have : len = 0 := by omega
      subst this
      exact ⟨(false, []), ⟨fun a ha => (nomatch ha), by simp⟩, rfl, .one (.slz _ ad) rfl⟩
    obtain ⟨b, off, sp⟩ := ad
    simp only at hsp
    subst hsp
    have each : ∀ i, i < len → ∃ a : α, Q a ∧ ((c a).length = sz ∧ ∃ cs, w.cells? base ((⟨b, off, none⟩ : Addr).add (i * sz)) sz = some cs ∧ CellsAre φ w (c a) cs) := fun i hi => by
      have h1 := hel i hi
      rw [hc] at h1
      rw [List.getElem?_eq_getElem (by omega), Option.bind_eq_some_iff] at h1
      obtain ⟨cs, h2, h3⟩ := h1
      obtain ⟨a, qa, la, ra⟩ := h n cs _ h3 (hwt.2 _ (List.mem_map.2 ⟨_, List.getElem_mem (by omega), rfl⟩))
      exact ⟨a, qa, la, cs, h2, ra⟩
    obtain ⟨l, hll, hq, hr⟩ := told_list (c := c) len each
    have hcell : ∀ i j, i < l.length → j < sz → ∃ v, w.cell? ⟨b, off + i * sz + j, none⟩ = some v ∧ VR φ (allZ w) w ((((l.map c).getD i []).getD j .un)) v ∧ v.oneCell' = true := fun i j hi hj => by
      obtain ⟨q1, cs, q2, q3⟩ := hr i hi
      have h1 := (cells_at q2).2 j hj
      rw [add_plain, add_plain] at h1
      have hcl : cs.length = sz := by rw [q3.1, q1]
      rw [List.getElem?_eq_getElem (by omega)] at h1
      have h2 := q3.2 j (by omega)
      have e1 : cs.getD j undef = cs[j]'(by omega) := by rw [List.getD_eq_getElem?_getD, List.getElem?_eq_getElem (by omega)]; rfl
      have e2 : (l.map c).getD i [] = c l[i] := by rw [List.getD_eq_getElem?_getD, List.getElem?_map, List.getElem?_eq_getElem hi]; rfl
      rw [e1] at h2
      exact ⟨_, h1, by rw [e2]; exact h2.1, h2.2⟩
    let val : Nat → Nat → Value := fun i j => (w.cell? ⟨b, off + i * sz + j, none⟩).getD undef
    have hval : ∀ i j, i < l.length → j < sz → w.cell? ⟨b, off + i * sz + j, none⟩ = some (val i j) ∧ VR φ (allZ w) w ((((l.map c).getD i []).getD j .un)) (val i j) ∧ (val i j).oneCell' = true := fun i j hi hj => by
      obtain ⟨v, h1, h2, h3⟩ := hcell i j hi hj
      have : val i j = v := by simp only [val, h1]; rfl
      rw [this]; exact ⟨h1, h2, h3⟩
    have hl2 : (l.map c).length = l.length := by simp
    refine ⟨(false, l), ⟨hq, ?_⟩, rfl, .one ?_ rfl⟩
    · have := hwt.1
      rw [List.length_map, hlen] at this
      rw [hll]; exact this
    · have key : VR φ (allZ w) w (.sl false .any (l.map c)) (.slice (some ⟨b, off, none⟩) (l.map c).length cap) := by
        refine .sl .any _ b off sz cap val (by rw [hl2, hll]; exact hl) (fun h => by cases h) hm (fun z hz => ?_) (fun i j hi hj => ?_) (fun i j hi hj => ?_) (fun i j hi hj => ?_) fun i j hi hj => ?_
        · obtain ⟨a, ha, rfl⟩ := List.mem_map.1 hz
          obtain ⟨i, hi, rfl⟩ := List.mem_iff_getElem.1 ha
          exact (hr i hi).1
        all_goals rw [hl2] at hi
        · exact ⟨_, (hval i j hi hj).1⟩
        · exact (hval i j hi hj).1
        · exact (hval i j hi hj).2.2
        · exact (hval i j hi hj).2.1
      rw [hl2, hll] at key; exact key
inductive Flds (enc : TypeId × Value → H) (P : Program) (w : World) (base : Nat) (held : Bool) (φ : Names) : Nat → List Field → {α : Type} → (α → List A) → (α → Prop) → Nat → Prop
  | nil (off : Nat) : Flds enc P w base held φ off [] (fun _ : Unit => []) (fun _ => True) 0
  | cons {off : Nat} {f : Field} {fs : List Field} {sz m : Nat} {α β : Type} {c : α → List A} {Q : α → Prop} {d : β → List A} {R : β → Prop} (ho : f.offset = off) (hc : P.cellsOf f.type = sz) (h : Reads enc P w base held φ f.type sz c Q)
      (k : Flds enc P w base held φ (off + sz) fs d R m) : Flds enc P w base held φ off (f :: fs) (fun x : α × β => c x.1 ++ d x.2) (fun x => Q x.1 ∧ R x.2) (sz + m)
theorem Flds.read {n : Nat} {cs : List Value} : ∀ {fs : List Field} {off m : Nat} {α : Type} {c : α → List A} {Q : α → Prop} {xs : List (DataW H × List MemPlace)}, Flds enc P w base held φ off fs c Q m → xs.length = fs.length →
    (∀ (i : Nat) (f : Field), fs[i]? = some f → DataW.trod enc P w base (fun _ => true) held n f.type ((cs.drop f.offset).take (P.cellsOf f.type)) = xs[i]?) → (∀ k ∈ DataW.weightsEach P (fs.map (·.type)) (xs.map (·.1)), k ≤ reachBytes) →
    cs.length = off + m → ∃ a, Q a ∧ (c a).length = m ∧ CellsAre φ w (c a) (cs.drop off)
  | _, _, _, _, _, _, [], .nil off, _, _, _, hl => ⟨(), trivial, rfl, by rw [List.drop_of_length_le (by omega)]; exact .nil⟩
  | f :: fs, off, _, _, _, _, x :: xs, .cons (sz := sz) (m := m) ho hc h k, hxl, hx, hw, hl => by
    have h0 := hx 0 f rfl
    rw [ho, hc] at h0
    obtain ⟨a, qa, la, ra⟩ := h n _ x h0 fun k hk => hw k (by
      simp only [List.map_cons, DataW.weightsEach, List.mem_append]; exact .inl hk)
    obtain ⟨b, qb, lb, rb⟩ := Flds.read k (by simpa using hxl) (fun i f' hf => hx (i + 1) f' hf) (fun k hk => hw k (by
      simp only [List.map_cons, DataW.weightsEach, List.mem_append]; exact .inr hk)) (by omega)
    refine ⟨(a, b), ⟨qa, qb⟩, by simp only [List.length_append, la, lb], ?_⟩
    have e : cs.drop off = (cs.drop off).take sz ++ cs.drop (off + sz) := by
      rw [← List.drop_drop, List.take_append_drop]
    rw [e]
    exact ra.app rb
theorem Reads.struct {e m m' : Nat} {fs : Array Field} {l : List Field} {α : Type} {c : α → List A} {Q : α → Prop} (he : P.underlying e = some (.struct fs)) (hc : P.cellsOf e = m) (h : Flds enc P w base held φ 0 l c Q m') (hl : fs.toList = l) (hm : m' = m) : Reads enc P w base held φ e m c Q := by
  subst hl; subst hm
  intro fuel cs y hy hw
  obtain ⟨xs, n, _, hx, hl, hlen, hf⟩ := DataW.trod_struct he hy
  rw [hx] at hw
  simp only [DataW.weights, he] at hw
  obtain ⟨a, q, l, r⟩ := h.read (n := n) (cs := cs) (xs := xs) (by simpa using hlen) (fun i f hf' => hf i f (by simpa using hf')) hw (by omega)
  exact ⟨a, q, l, by simpa using r⟩
theorem Reads.arg_agg {t m : Nat} {α : Type} {c : α → List A} {Q : α → Prop} {v : Value} {d : DataW H} {p : List MemPlace} (h : Reads enc P w base held φ t m c Q) (hv : ∃ cs, v = .agg cs)
    (ht : DataW.Trod enc P w base (fun _ => true) held t v d p) (hw : ∀ k ∈ d.weights P t, k ≤ reachBytes) : ∃ a, Q a ∧ VR φ (allZ w) w (.agg (c a)) v := by
  obtain ⟨⟨cs⟩, rfl⟩ := hv
  obtain ⟨fuel, ht⟩ := ht
  obtain ⟨a, q, _, r⟩ := h fuel cs _ ht hw
  exact ⟨a, q, r.agg⟩
theorem agg_struct {t : Nat} {fs : Array Field} {v : Value} {r : Reach} {b0 : Nat} (hu : P.underlying t = some (.struct fs)) (hok : Value.okWide P w r b0 t v) : ∃ cs, v = .agg cs := by
  unfold Value.okWide at hok
  rw [hu] at hok
  obtain ⟨cs, rfl, _⟩ := hok
  exact ⟨cs, rfl⟩
theorem agg_array {t n e : Nat} {v : Value} {r : Reach} {b0 : Nat} (hu : P.underlying t = some (.array n e)) (hok : Value.okWide P w r b0 t v) : ∃ cs, v = .agg cs := by
  unfold Value.okWide at hok
  rw [hu] at hok
  obtain ⟨cs, rfl, _⟩ := hok
  exact ⟨cs, rfl⟩
theorem Reads.ints {t n e : Nat} (hu : P.underlying t = some (.array n e)) (hc : P.cellsOf t = n) (ue : P.underlying e = some (.int .i64)) (ce : P.cellsOf e = 1) :
    Reads enc P w base held φ t n (fun l : List Int => l.map A.int) fun l => l.length = n := by
  intro fuel cs y hy _
  obtain ⟨xs, m, _, _, hl0, hl, hx⟩ := DataW.trod_array hu hy
  rw [ce] at hx
  have hcl : cs.length = n := by omega
  have each : ∀ i, i < n → ∃ z : Int, True ∧ cs[i]? = some (.int .i64 z) := fun i hi => by
    have h1 := hx i hi
    rw [List.getElem?_eq_getElem (by omega)] at h1
    obtain ⟨z, hz, _⟩ := DataW.trod_int ue h1
    refine ⟨z, trivial, ?_⟩
    have h5 := congrArg (fun l => l[0]?) hz
    simpa using h5
  obtain ⟨l, hll, _, hr⟩ := told_list (c := fun _ : Int => []) n each
  refine ⟨l, hll, by simp [hll], by simp [hll, hcl], fun i hi => ?_⟩
  have hi : i < l.length := by simpa using hi
  have h1 := hr i hi
  have e1 : cs.getD i undef = .int .i64 l[i] := by rw [List.getD_eq_getElem?_getD, h1]; rfl
  have e2 : (l.map A.int).getD i .un = A.int l[i] := by simp [List.getD_eq_getElem?_getD, hi]
  rw [e1, e2]
  exact ⟨.s _, rfl⟩
end
end Go.AL

namespace Go.AL.Q
open Go
end Go.AL.Q

namespace Go.AL.Q
open Go
def LeP (a b : List Int) : Prop := a.length = b.length ∧ ∀ i, a.getD i 0 ≤ b.getD i 0
theorem LeP.refl (a : List Int) : LeP a a := ⟨rfl, fun _ => Int.le_refl _⟩
theorem LeP.set {a b : List Int} (h : LeP a b) {i : Nat} {x y : Int} (hi : i < b.length) (hx : x ≤ y) : LeP (a.set i x) (b.set i y) :=
  ⟨by simp [h.1], fun j => by
    have hl := h.1
    rw [getD_set' _ _ _ _ (by omega), getD_set' _ _ _ _ hi]
    split
    · exact hx
    · exact h.2 j⟩
theorem catchF_mono {mesh : Nat} : ∀ (k : Nat) (t t' : Int) (l l' : List Int), LeP l l' → k ≤ l'.length → t' ≤ t → LeP (catchF l mesh k t) (catchF l' mesh k t')
  | 0, t, t', l, l', h, _, _ => h
  | k + 1, t, t', l, l', h, hk, ht => by
    unfold catchF
    have h1 := h.2 k
    have hl := h.1
    split
    · exact catchF_mono k _ _ _ _ (h.set (by omega) (by omega)) (by simp; omega) (by omega)
    · exact h
theorem sum_mono {α : Type} {f g : α → Int} : ∀ {l : List α}, (∀ x ∈ l, f x ≤ g x) → (l.map f).sum ≤ (l.map g).sum
  | [], _ => by simp
  | x :: l, h => by
    have h1 := h x (List.mem_cons_self ..)
    have h2 := sum_mono (f := f) (g := g) (l := l) fun y hy => h y (List.mem_cons_of_mem _ hy)
    simp only [List.map_cons, List.sum_cons]; omega
theorem spawnF_mono {r : Rce} (hr : RceOk r) {l l' : List Int} (h : LeP l l') : spawnF r l ≤ spawnF r l' := by
  unfold spawnF spawnN
  exact sum_mono fun i hi => Int.mul_le_mul_of_nonneg_right (h.2 i) (hr.sb i (List.mem_range.1 hi)).1
theorem tdiv_mono {a b : Int} (h : a ≤ b) : a.tdiv 1000 ≤ b.tdiv 1000 := by
  rw [Int.tdiv_eq_ediv, Int.tdiv_eq_ediv, show Int.sign 1000 = 1 from rfl]
  split <;> split <;> omega
theorem winN_len {r : Rce} {l : List Int} : ∀ k, (winN r l k).length = r.many
  | 0 => by simp [winN]
  | k + 1 => by simp [winN, winN_len k]
theorem winN_mono {r : Rce} (hr : RceOk r) {l l' : List Int} (h : LeP l l') : ∀ k, k ≤ r.many → LeP (winN r l k) (winN r l' k)
  | 0, _ => LeP.refl _
  | k + 1, hk => by
    have ih := winN_mono hr h k (by omega)
    have h1 := hr.m1
    have h2 := Int.mul_le_mul_of_nonneg_right (h.2 k) (hr.kb k (by omega)).1
    have h3 := tdiv_mono h2
    have h4 := ih.2 (min (k + 1) (r.many - 1))
    exact ih.set (by rw [winN_len]; omega) (by omega)
theorem winF_mono {r : Rce} (hr : RceOk r) {l l' : List Int} {x x' : Int} (h : LeP l l') (hx : x ≤ x') : LeP (winF r l x) (winF r l' x') := by
  have ih := winN_mono hr h r.many (Nat.le_refl _)
  have h1 := hr.m1
  have h2 := ih.2 0
  exact ih.set (by rw [winN_len]; omega) (by omega)
theorem playF_mono {r : Rce} (hr : RceOk r) : ∀ (ts ts' xs xs' l l' : List Int), LeP l l' → r.many ≤ l'.length → LeP ts' ts → LeP xs xs' → ts.length = xs.length → LeP (playF r l ts xs) (playF r l' ts' xs')
  | [], [], xs, xs', l, l', _, _, _, _, _ => by cases xs <;> cases xs' <;> exact LeP.refl _
  | t :: ts, [], xs, xs', l, l', _, _, h, _, _ => by cases h.1
  | [], t' :: ts', xs, xs', l, l', _, _, h, _, _ => by cases h.1
  | t :: ts, t' :: ts', [], xs', l, l', _, _, h, hx, e => by cases e
  | t :: ts, t' :: ts', x :: xs, [], l, l', _, _, h, hx, e => by cases hx.1
  | t :: ts, t' :: ts', x :: xs, x' :: xs', l, l', hl, hm, ht, hx, e => by
    have t0 : t' ≤ t := ht.2 0
    have x0 : x ≤ x' := hx.2 0
    have hts : LeP ts' ts := ⟨by simpa using ht.1, fun i => by simpa using ht.2 (i + 1)⟩
    have hxs : LeP xs xs' := ⟨by simpa using hx.1, fun i => by simpa using hx.2 (i + 1)⟩
    have hc : LeP (caughtF r l t) (caughtF r l' t') := catchF_mono _ _ _ _ _ hl hm t0
    have hs := spawnF_mono hr hc
    have hw := winF_mono hr hc x0
    have ih := playF_mono hr ts ts' xs xs' _ _ hw (by simp [winF, winN_len]) hts hxs (by simpa using e)
    unfold playF yearF
    exact ⟨by simp [ih.1], fun i => by
      cases i with
      | zero => exact hs
      | succ i => exact ih.2 i⟩
def Rce.aliveHead (r : Rce) : Bool := cond (cond (cond (wi r.many 1 6) ((r.keep.length : Int) == r.many) false) ((r.spawn.length : Int) == r.many) false) (wi r.mesh 0 ((r.many : Int) - 1)) false
def Rce.alive (r : Rce) : Bool := cond r.aliveHead ((List.range r.many).all r.ageOk) false
theorem Rce.alive_of {r : Rce} (h : r.ok = true) : r.alive = true := by
  unfold Rce.ok at h
  have h0 := ac1 h
  have h2 := ac2 h
  unfold Rce.head at h0
  have b1 := ac1 (ac1 (ac1 (ac1 h0)))
  have b2 := ac2 (ac1 (ac1 (ac1 h0)))
  have b3 := ac2 (ac1 (ac1 h0))
  have b5 := ac2 h0
  unfold Rce.alive Rce.aliveHead
  rw [b1, b2, b3, b5, h2]; rfl
structure PlayIn (r : Rce) (takes recs : List Int) : Prop where
  ok : r.ok = true
  l1 : 1 ≤ takes.length
  l10 : takes.length ≤ 10
  len : recs.length = takes.length
  t : ∀ i, i < takes.length → 0 ≤ takes.getD i 0 ∧ takes.getD i 0 ≤ 100000000
  x : ∀ i, i < takes.length → 0 ≤ recs.getD i 0 ∧ recs.getD i 0 ≤ 100000
theorem PlayIn.of {r : Rce} {takes recs : List Int} (h : playOk r takes recs = true) : PlayIn r takes recs := by
  unfold playOk at h
  have h1 := ac1 h
  have h2 := fun i hi => List.all_eq_true.1 (ac2 h) i (List.mem_range.2 hi)
  unfold playHead at h1
  have a1 := wi_iff.1 (ac2 (ac1 h1))
  have a2 := eq_of_beq (ac2 h1)
  exact ⟨ac1 (ac1 h1), by omega, by omega, by omega, fun i hi => wi_iff.1 (ac1 (h2 i hi)), fun i hi => wi_iff.1 (ac2 (h2 i hi))⟩
theorem PlayIn.to {r : Rce} {takes recs : List Int} (h : PlayIn r takes recs) : playOk r takes recs = true := by
  have h1 := h.l1
  have h2 := h.l10
  have h3 := h.len
  have e1 : wi takes.length 1 10 = true := wi_iff.2 ⟨by omega, by omega⟩
  have e2 : ((recs.length : Int) == takes.length) = true := by rw [h3]; simp
  unfold playOk playHead
  rw [h.ok, e1, e2]
  show (List.range takes.length).all (playYear takes recs) = true
  refine List.all_eq_true.2 fun i hi => ?_
  have hi := List.mem_range.1 hi
  unfold playYear
  rw [wi_iff.2 (h.t i hi), wi_iff.2 (h.x i hi)]; rfl
theorem getD_mem {l : List Int} {x : Int} (h : x ∈ l) : ∃ i, i < l.length ∧ l.getD i 0 = x := by
  obtain ⟨i, hi, rfl⟩ := List.mem_iff_getElem.1 h
  exact ⟨i, hi, by simp [List.getD_eq_getElem?_getD, hi]⟩
theorem LeP.up {l : List Int} {i : Nat} {v : Int} (hi : i < l.length) (h : l.getD i 0 ≤ v) : LeP l (l.set i v) := ⟨by simp, fun j => by
  rw [getD_set' _ _ _ _ hi]
  split
  · rename_i e; subst e; exact h
  · exact Int.le_refl _⟩
theorem LeP.dn {l : List Int} {i : Nat} {v : Int} (hi : i < l.length) (h : v ≤ l.getD i 0) : LeP (l.set i v) l := ⟨by simp, fun j => by
  rw [getD_set' _ _ _ _ hi]
  split
  · rename_i e; subst e; exact h
  · exact Int.le_refl _⟩
end Go.AL.Q

namespace Go.AL.Q
open Go
def Fish.brk (f : Fish) (q : Int) (y r s : Nat) : Bool := decide ((f.spawns r s q).getD y 0 < (f.race r).line)
def Fish.findS (f : Fish) (q : Int) (y r : Nat) (k : Nat) : Option Nat := (List.range' k (f.seasons.length - k)).find? (f.brk q y r)
def Fish.findR (f : Fish) (q : Int) (y : Nat) (k : Nat) : Option (Nat × Nat) := (List.range' k (f.many - k)).findSome? fun r => (f.findS q y r 0).map fun s => (r, s)
def Fish.findY (f : Fish) (q : Int) (k : Nat) : Option (Nat × Nat × Nat) := (List.range' k (f.years - k)).findSome? fun y => (f.findR q y 0).map fun p => (y, p)
end Go.AL.Q

namespace Go.AL.Q
open Go
theorem spawns_len {f : Fish} (hok : FishOk f) {r s : Nat} (hr : r < f.many) (hs : s < f.seasons.length) (q : Int) : (f.spawns r s q).length = f.years := by
  unfold Fish.spawns
  rw [playF_len _ _ _ _ (by simp), List.length_replicate, hok.rl s r hs hr]
theorem any_brk {f : Fish} (hok : FishOk f) {r s : Nat} (hr : r < f.many) (hs : s < f.seasons.length) (q : Int) : decide (f.breakY r s q ≥ 0) = true ↔ ∃ y, y < f.years ∧ f.brk q y r s = true := by
  unfold Fish.breakY
  rw [idxF_any, List.any_eq_true]
  have hl := spawns_len hok hr hs q
  constructor
  · rintro ⟨x, hx, h⟩
    obtain ⟨i, hi, rfl⟩ := getD_mem hx
    exact ⟨i, by omega, h⟩
  · rintro ⟨y, hy, h⟩
    refine ⟨(f.spawns r s q).getD y 0, ?_, h⟩
    rw [List.getD_eq_getElem?_getD, List.getElem?_eq_getElem (by omega)]
    exact List.getElem_mem (by omega)
theorem findY_none {f : Fish} {q : Int} : f.findY q 0 = none ↔ ∀ y, y < f.years → ∀ r, r < f.many → ∀ s, s < f.seasons.length → f.brk q y r s = false := by
  unfold Fish.findY Fish.findR Fish.findS
  simp only [List.findSome?_eq_none_iff, Option.map_eq_none_iff, List.find?_eq_none, List.mem_range'_1, Nat.sub_zero, Nat.zero_add, Nat.zero_le, true_and, Bool.not_eq_true]
theorem holds_find {f : Fish} (hok : FishOk f) (q : Int) : f.holds q = (f.findY q 0).isNone := by
  rw [Bool.eq_iff_iff, Option.isNone_iff_eq_none, findY_none]
  unfold Fish.holds
  simp only [List.all_eq_true, List.mem_range, Bool.not_eq_true']
  constructor
  · intro h y hy r hr s hs
    have h1 := h r hr s hs
    cases e : f.brk q y r s with
    | false => rfl
    | true =>
      rw [(any_brk hok hr hs q).2 ⟨y, hy, e⟩] at h1
      cases h1
  · intro h r hr s hs
    cases e : decide (f.breakY r s q ≥ 0) with
    | false => rfl
    | true =>
      obtain ⟨y, hy, h2⟩ := (any_brk hok hr hs q).1 e
      rw [h y hy r hr s hs] at h2
      cases h2
end Go.AL.Q

namespace Go.AL.Q
open Go
end Go.AL.Q

namespace Go.AL.Q
open Go
structure Found (f : Fish) (q : Int) (y r s : Nat) : Prop where
  hy : y < f.years
  hr : r < f.many
  hs : s < f.seasons.length
  hb : f.brk q y r s = true
  before : ∀ y', y' < y → ∀ r', r' < f.many → ∀ s', s' < f.seasons.length → f.brk q y' r' s' = false
  races : ∀ r', r' < r → ∀ s', s' < f.seasons.length → f.brk q y r' s' = false
  seas : ∀ s', s' < s → f.brk q y r s' = false
end Go.AL.Q

namespace Go.AL.Q
open Go
theorem halve_spec {h : Int → Bool} : ∀ (n : Nat) (lo hi : Int), 0 ≤ lo → lo < hi → hi - lo ≤ n → h lo = true → lo ≤ halve h n lo hi ∧ halve h n lo hi < hi ∧ h (halve h n lo hi) = true ∧ (halve h n lo hi + 1 = hi ∨ h (halve h n lo hi + 1) = false)
  | 0, lo, hi, h0, h1, h2, h3 => by omega
  | n + 1, lo, hi, h0, h1, h2, h3 => by
    rw [halve]
    split
    · rename_i hgt
      have hmid : lo < (lo + hi).tdiv 2 ∧ (lo + hi).tdiv 2 < hi := by rw [Int.tdiv_eq_ediv_of_nonneg (by omega)]; omega
      generalize (lo + hi).tdiv 2 = m at *
      split
      · rename_i hm
        obtain ⟨a, b, c, d⟩ := halve_spec n m hi (by omega) hmid.2 (by omega) hm
        exact ⟨by omega, b, c, d⟩
      · rename_i hm
        obtain ⟨a, b, c, d⟩ := halve_spec n lo m h0 hmid.1 (by omega) h3
        refine ⟨a, by omega, c, .inr ?_⟩
        rcases d with d | d
        · rw [d]; simpa using hm
        · exact d
    · exact ⟨Int.le_refl _, h1, h3, .inl (by omega)⟩
theorem quota_spec {f : Fish} (h0 : f.holds 0 = true) : 0 ≤ f.quota ∧ f.quota ≤ 10000 ∧ f.holds f.quota = true ∧ (f.quota = 10000 ∨ f.holds (f.quota + 1) = false) := by
  unfold Fish.quota
  obtain ⟨a, b, c, d⟩ := halve_spec (h := f.holds) 10001 0 10001 (by decide) (by decide) (by decide) h0
  exact ⟨a, by omega, c, d.imp (fun h => by omega) id⟩
end Go.AL.Q

namespace Go.AL.Q
open Go
theorem LeP.trans {a b c : List Int} (h : LeP a b) (k : LeP b c) : LeP a c := ⟨h.1.trans k.1, fun i => Int.le_trans (h.2 i) (k.2 i)⟩
theorem LeP.map {f : Int → Int} {l : List Int} (h : ∀ x ∈ l, x ≤ f x) : LeP l (l.map f) := ⟨by simp, fun i => by
  simp only [List.getD_eq_getElem?_getD, List.getElem?_map]
  cases e : l[i]? with
  | none => exact Int.le_refl _
  | some x => exact h x (List.mem_of_getElem? e)⟩
theorem RceOk.to {r : Rce} (h : RceOk r) : r.ok = true := by
  have h1 := h.m1; have h2 := h.m6; have h3 := h.k; have h4 := h.s; have h5 := h.h
  unfold Rce.ok Rce.head
  rw [wi_iff.2 (show (1 : Int) ≤ (r.many : Int) ∧ (r.many : Int) ≤ 6 by omega), h3, h4, wi_iff.2 h.l, wi_iff.2 (show (0 : Int) ≤ r.mesh ∧ r.mesh ≤ (r.many : Int) - 1 by omega)]
  simp only [beq_self_eq_true, cond_true]
  refine List.all_eq_true.2 fun i hi => ?_
  have hi := List.mem_range.1 hi
  unfold Rce.ageOk
  rw [wi_iff.2 (h.nb i hi), wi_iff.2 (h.kb i hi), wi_iff.2 (h.sb i hi)]; rfl
theorem FishOk.to {f : Fish} (h : FishOk f) : f.ok = true := by
  have h1 := h.m1; have h2 := h.m3; have h3 := h.most; have h4 := h.s1; have h5 := h.s6; have h6 := h.y1; have h7 := h.y10
  unfold Fish.ok Fish.head
  rw [wi_iff.2 (show (1 : Int) ≤ (f.many : Int) ∧ (f.many : Int) ≤ 3 by omega), h3, wi_iff.2 (show (1 : Int) ≤ (f.seasons.length : Int) ∧ (f.seasons.length : Int) ≤ 6 by omega), wi_iff.2 (show (1 : Int) ≤ (f.years : Int) ∧ (f.years : Int) ≤ 10 by omega)]
  have e : ((List.range f.many).all f.raceOk) = true := List.all_eq_true.2 fun i hi => by
    have hi := List.mem_range.1 hi
    unfold Fish.raceOk
    have := (h.race i hi).to
    rw [show f.races.getD i ⟨false, [], false, [], false, [], 0, 0⟩ = f.race i from rfl, this, wi_iff.2 (h.mb i hi)]; rfl
  rw [e]
  simp only [beq_self_eq_true, cond_true]
  refine List.all_eq_true.2 fun S hS => ?_
  obtain ⟨s, hs, rfl⟩ := List.getElem_of_mem hS
  have es : f.seasons[s] = f.seasons.getD s ⟨false, []⟩ := by simp [List.getD_eq_getElem?_getD, hs]
  have hl := h.sl s hs
  unfold seasonOk
  rw [es, hl]
  simp only [beq_self_eq_true, cond_true]
  refine List.all_eq_true.2 fun L hL => ?_
  obtain ⟨r, hr, e2⟩ := List.getElem_of_mem hL
  have hr' : r < f.many := by rw [← hl]; exact hr
  have eL : L.l = f.recs s r := by
    unfold Fish.recs
    generalize f.seasons.getD s ⟨false, []⟩ = S at *
    simp [List.getD_eq_getElem?_getD, hr, e2]
  unfold recOk
  rw [eL, h.rl s r hs hr']
  simp only [beq_self_eq_true, cond_true]
  exact List.all_eq_true.2 fun x hx => wi_iff.2 (h.rb s r hs hr' x hx)
theorem holds_iff {f : Fish} (hok : FishOk f) {q : Int} : f.holds q = true ↔ ∀ y, y < f.years → ∀ r, r < f.many → ∀ s, s < f.seasons.length → (f.race r).line ≤ (f.spawns r s q).getD y 0 := by
  rw [holds_find hok, Option.isNone_iff_eq_none, findY_none]
  constructor
  · intro h y hy r hr s hs
    have := of_decide_eq_false (show decide (_ < _) = false from h y hy r hr s hs)
    omega
  · intro h y hy r hr s hs
    have := h y hy r hr s hs
    exact decide_eq_false (show ¬ (f.spawns r s q).getD y 0 < (f.race r).line by omega)
structure RaceLe (a b : Rce) : Prop where
  n : b.numbers = a.numbers
  s : b.spawn = a.spawn
  m : b.mesh = a.mesh
  k : LeP a.keep b.keep
theorem RaceLe.refl (a : Rce) : RaceLe a a := ⟨rfl, rfl, rfl, .refl _⟩
theorem winN_keep {a b : Rce} (h : RaceLe a b) {l : List Int} (hl : ∀ i, 0 ≤ l.getD i 0) (hm : 1 ≤ a.many) : ∀ k, k ≤ a.many → LeP (winN a l k) (winN b l k)
  | 0, _ => by
    have : b.many = a.many := by unfold Rce.many; rw [h.n]
    simp only [winN, this]; exact .refl _
  | k + 1, hk => by
    have hmn : b.many = a.many := by unfold Rce.many; rw [h.n]
    have ih := winN_keep h hl hm k (by omega)
    have h2 := Int.mul_le_mul_of_nonneg_left (h.k.2 k) (hl k)
    have h3 := tdiv_mono h2
    have h4 := ih.2 (min (k + 1) (a.many - 1))
    simp only [winN, hmn]
    exact ih.set (by rw [winN_len, hmn]; omega) (by omega)
theorem winF_keep {a b : Rce} (h : RaceLe a b) {l : List Int} (hl : ∀ i, 0 ≤ l.getD i 0) (hm : 1 ≤ a.many) (x : Int) : LeP (winF a l x) (winF b l x) := by
  have hmn : b.many = a.many := by unfold Rce.many; rw [h.n]
  have ih := winN_keep h hl hm a.many (Nat.le_refl _)
  have h2 := ih.2 0
  unfold winF
  rw [hmn]
  exact ih.set (by rw [winN_len, hmn]; omega) (by omega)
theorem playF_keep {a b : Rce} (ha : RaceLe a b) (hoa : RceOk a) (hob : RceOk b) : ∀ (ts xs l : List Int) (B : Int), Pop b B l → (∀ t ∈ ts, 0 ≤ t) → (∀ x ∈ xs, 0 ≤ x) → ts.length = xs.length → LeP (playF a l ts xs) (playF b l ts xs)
  | [], xs, l, B, _, _, _, _ => by cases xs <;> exact LeP.refl _
  | t :: ts, [], l, B, _, _, _, h => by cases h
  | t :: ts, x :: xs, l, B, hl, ht, hx, he => by
    have t0 := ht t (List.mem_cons_self ..)
    have x0 := hx x (List.mem_cons_self ..)
    have hmn : b.many = a.many := by unfold Rce.many; rw [ha.n]
    have hc : caughtF a l t = caughtF b l t := by unfold caughtF; rw [ha.m, hmn]
    have hp := caughtF_pop hl t0
    have hw := winF_keep (x := x) ha (fun i => getD_pos hp.pos i) hoa.m1
    have hs : spawnF a (caughtF b l t) = spawnF b (caughtF b l t) := by unfold spawnF spawnN; rw [ha.s, hmn]
    have hpw := winF_pop hob hp x0
    have he' : ts.length = xs.length := by simpa using he
    have i1 := playF_mono hoa ts ts xs xs _ _ hw (by rw [hpw.len, hmn]; exact Nat.le_refl _) (.refl _) (.refl _) he'
    have i2 := playF_keep ha hoa hob ts xs _ _ hpw (fun y hy => ht y (List.mem_cons_of_mem _ hy)) (fun y hy => hx y (List.mem_cons_of_mem _ hy)) he'
    have ih := i1.trans i2
    unfold playF yearF
    rw [hc, hs]
    exact ⟨by simp [ih.1], fun i => by
      cases i with
      | zero => exact Int.le_refl _
      | succ i => exact ih.2 i⟩
theorem takeF_mono {q q' m m' : Int} (hq : 0 ≤ q') (hqq : q' ≤ q) (hm : 0 ≤ m') (hmm : m' ≤ m) : takeF q' m' ≤ takeF q m := by
  unfold takeF
  have h : q' * m' ≤ q * m := Int.mul_le_mul hqq hmm hm (by omega)
  have h0 : 0 ≤ q' * m' := Int.mul_nonneg hq hm
  rw [Int.tdiv_eq_ediv_of_nonneg (by omega), Int.tdiv_eq_ediv_of_nonneg (by omega)]; omega
theorem LeP.rep {n n' : Nat} {t t' : Int} (hn : n = n') (h : t' ≤ t) : LeP (List.replicate n' t') (List.replicate n t) := by
  subst hn
  exact ⟨by simp, fun i => by
    simp only [List.getD_eq_getElem?_getD, List.getElem?_replicate]
    split
    · exact h
    · exact Int.le_refl _⟩
theorem spawns_le {f g : Fish} (hf : FishOk f) (hg : FishOk g) {r s s' : Nat} (hr : r < f.many) (hr' : r < g.many) (hs : s < f.seasons.length) (hs' : s' < g.seasons.length) {q q' : Int} (hq : 0 ≤ q') (hqq : q' ≤ q)
    (hm : g.most.getD r 0 ≤ f.most.getD r 0) (hrc : LeP (f.recs s r) (g.recs s' r)) (hk : RaceLe (f.race r) (g.race r)) : LeP (f.spawns r s q) (g.spawns r s' q') := by
  have h1 := hf.race r hr
  have h2 := hg.race r hr'
  have hl := hrc.1
  have ht := takeF_mono hq hqq (hg.mb r hr').1 hm
  unfold Fish.spawns
  rw [hk.n]
  have a := playF_mono h1 (List.replicate (f.recs s r).length (takeF q (f.most.getD r 0))) (List.replicate (g.recs s' r).length (takeF q' (g.most.getD r 0))) (f.recs s r) (g.recs s' r) (f.race r).numbers (f.race r).numbers (.refl _) (Nat.le_refl _) (LeP.rep hl ht) hrc (by simp)
  have hp := first_pop h2
  rw [hk.n] at hp
  have t0 : 0 ≤ takeF q' (g.most.getD r 0) := take_nn hq (hg.mb r hr').1
  exact a.trans (playF_keep hk h1 h2 _ _ _ _ hp (fun t ht => by rw [List.mem_replicate] at ht; rw [ht.2]; exact t0) (fun x hx => (hg.rb s' r hs' hr' x hx).1) (by simp))
structure FishLe (f g : Fish) : Prop where
  many : g.many = f.many
  years : g.years = f.years
  most : ∀ r, r < f.many → g.most.getD r 0 ≤ f.most.getD r 0
  race : ∀ r, r < f.many → RaceLe (f.race r) (g.race r) ∧ (g.race r).line ≤ (f.race r).line
  recs : ∀ r, r < f.many → ∀ s', s' < g.seasons.length → ∃ s, s < f.seasons.length ∧ LeP (f.recs s r) (g.recs s' r)
theorem FishLe.holds {f g : Fish} (hf : FishOk f) (hg : FishOk g) (h : FishLe f g) {q q' : Int} (hq : 0 ≤ q') (hqq : q' ≤ q) (hh : f.holds q = true) : g.holds q' = true := by
  rw [holds_iff hf] at hh
  rw [holds_iff hg]
  intro y hy r hr s' hs'
  rw [h.years] at hy
  have hr2 : r < f.many := by rw [← h.many]; exact hr
  obtain ⟨s, hs, h1⟩ := h.recs r hr2 s' hs'
  have h2 := h.race r hr2
  have h3 := (spawns_le hf hg hr2 hr hs hs' hq hqq (h.most r hr2) h1 h2.1).2 y
  exact Int.le_trans h2.2 (Int.le_trans (hh y hy r hr2 s hs) h3)
theorem FishLe.refl (f : Fish) : FishLe f f := ⟨rfl, rfl, fun _ _ => Int.le_refl _, fun _ _ => ⟨.refl _, Int.le_refl _⟩, fun r _ s hs => ⟨s, hs, .refl _⟩⟩
theorem FishLe.quota {f g : Fish} (hf : FishOk f) (hg : FishOk g) (h : FishLe f g) (h0 : f.holds 0 = true) : g.holds 0 = true ∧ f.quota ≤ g.quota := by
  have g0 := h.holds hf hg (Int.le_refl 0) (Int.le_refl 0) h0
  obtain ⟨a1, a2, a3, a4⟩ := quota_spec h0
  obtain ⟨b1, b2, b3, b4⟩ := quota_spec g0
  refine ⟨g0, ?_⟩
  rcases b4 with b4 | b4
  · omega
  · by_cases hlt : f.quota ≤ g.quota
    · exact hlt
    · have := h.holds hf hg (q' := g.quota + 1) (by omega) (by omega) a3
      rw [b4] at this; cases this
def easeUp (top m v : Int) : Int := if v + m < top then v + m else top
def easeDn (m v : Int) : Int := if v - m > 0 then v - m else 0
def easeR (k : Nat) (m : Int) (r : Rce) : Rce := match k with
  | 1 => { r with line := easeDn m r.line }
  | 2 => { r with kn := false, keep := r.keep.map (easeUp 1000 m) }
  | _ => r
def easeS (f : Fish) (r s : Nat) (m : Int) : NR := ⟨false, (f.seasons.getD s ⟨false, []⟩).l.set r ⟨false, (f.recs s r).map (easeUp 100000 m)⟩⟩
def easeF (f : Fish) (r s : Nat) (m : Int) : Nat → Fish
  | 0 => ⟨false, f.races.set r (f.race r), f.mn, f.most, false, f.seasons.set s (easeS f r s m)⟩
  | 3 => ⟨false, f.races.set r (f.race r), false, f.most.set r (easeDn m (f.most.getD r 0)), f.sn, f.seasons⟩
  | k => ⟨false, f.races.set r (easeR k m (f.race r)), f.mn, f.most, f.sn, f.seasons⟩
def addS (f : Fish) (r s : Nat) : NR := ⟨false, (f.seasons.getD s ⟨false, []⟩).l.set r ⟨false, List.replicate (f.recs s r).length 0⟩⟩
def addF (f : Fish) (r s : Nat) : Fish := ⟨f.rn, f.races, f.mn, f.most, false, f.seasons ++ [addS f r s]⟩
theorem getD_setA {α : Type} (l : List α) (k i : Nat) (v d : α) (h : k < l.length) : (l.set k v).getD i d = if i = k then v else l.getD i d := by
  simp only [List.getD_eq_getElem?_getD, List.getElem?_set]
  by_cases e : k = i
  · subst e; simp [h]
  · simp [e, show ¬ i = k from fun h => e h.symm]
theorem easeUp_bd {top m v : Int} (hm : 0 ≤ m) (hv : 0 ≤ v ∧ v ≤ top) : v ≤ easeUp top m v ∧ 0 ≤ easeUp top m v ∧ easeUp top m v ≤ top := by unfold easeUp; split <;> omega
theorem easeDn_bd {m v : Int} (hm : 0 ≤ m) (hv : 0 ≤ v) : 0 ≤ easeDn m v ∧ easeDn m v ≤ v := by unfold easeDn; split <;> omega
theorem map_bd {top m : Int} (hm : 0 ≤ m) {l : List Int} (h : ∀ x ∈ l, 0 ≤ x ∧ x ≤ top) : LeP l (l.map (easeUp top m)) ∧ ∀ x ∈ l.map (easeUp top m), 0 ≤ x ∧ x ≤ top :=
  ⟨.map fun x hx => (easeUp_bd hm (h x hx)).1, fun x hx => by obtain ⟨y, hy, rfl⟩ := List.mem_map.1 hx; exact (easeUp_bd hm (h y hy)).2⟩
theorem mem_getD {l : List Int} {a b : Int} (h : ∀ i, i < l.length → a ≤ l.getD i 0 ∧ l.getD i 0 ≤ b) : ∀ x ∈ l, a ≤ x ∧ x ≤ b := fun x hx => by
  obtain ⟨i, hi, rfl⟩ := getD_mem hx; exact h i hi
theorem getD_all {l : List Int} {a b : Int} (h : ∀ x ∈ l, a ≤ x ∧ x ≤ b) {i : Nat} (hi : i < l.length) : a ≤ l.getD i 0 ∧ l.getD i 0 ≤ b := by
  rw [List.getD_eq_getElem?_getD, List.getElem?_eq_getElem hi]; exact h _ (List.getElem_mem hi)
theorem easeR_ok {k : Nat} {m : Int} (hm : 0 ≤ m) {r : Rce} (h : RceOk r) : RceOk (easeR k m r) ∧ RaceLe r (easeR k m r) ∧ (easeR k m r).line ≤ r.line := by
  have hl := easeDn_bd (m := m) hm h.l.1
  have hk := map_bd (top := 1000) (m := m) hm (mem_getD (l := r.keep) (a := 0) (b := 1000) fun i hi => h.kb i (by rw [← h.k]; exact hi))
  unfold easeR
  split
  · exact ⟨⟨h.m1, h.m6, h.k, h.s, ⟨hl.1, Int.le_trans hl.2 h.l.2⟩, h.h, h.nb, h.kb, h.sb⟩, ⟨rfl, rfl, rfl, .refl _⟩, hl.2⟩
  · exact ⟨⟨h.m1, h.m6, by show (r.keep.map _).length = r.many; rw [List.length_map]; exact h.k, h.s, h.l, h.h, h.nb, fun i hi => getD_all hk.2 (by rw [List.length_map, h.k]; exact hi), h.sb⟩, ⟨rfl, rfl, rfl, hk.1⟩, Int.le_refl _⟩
  · exact ⟨h, .refl _, Int.le_refl _⟩
theorem ease_ok {f : Fish} (hf : FishOk f) {r s : Nat} (hr : r < f.many) (hs : s < f.seasons.length) {m : Int} (hm : 0 ≤ m) {k : Nat} (hk : k < 4) : FishOk (easeF f r s m k) ∧ FishLe f (easeF f r s m k) := by
  have hrl : r < f.races.length := hr
  have many : ∀ x : Rce, (f.races.set r x).length = f.many := fun x => by rw [List.length_set]; rfl
  have hraces : ∀ x : Rce, RceOk x → RaceLe (f.race r) x → x.line ≤ (f.race r).line → ∀ i, i < f.many → RceOk ((f.races.set r x).getD i race0) ∧ RaceLe (f.race i) ((f.races.set r x).getD i race0) ∧ ((f.races.set r x).getD i race0).line ≤ (f.race i).line := fun x h1 h2 h3 i hi => by
    rw [getD_setA _ _ _ _ _ hrl]
    split
    · rename_i e; subst e; exact ⟨h1, h2, h3⟩
    · exact ⟨hf.race i hi, .refl _, Int.le_refl _⟩
  have hr0 := hf.race r hr
  have same := hraces (f.race r) hr0 (.refl _) (Int.le_refl _)
  have recs1 : ∀ r', r' < f.many → ∀ s', s' < f.seasons.length → ∃ s, s < f.seasons.length ∧ LeP (f.recs s r') (f.recs s' r') := fun r' _ s' h => ⟨s', h, .refl _⟩
  have other : ∀ x : Rce, (h : RceOk x ∧ RaceLe (f.race r) x ∧ x.line ≤ (f.race r).line) → FishOk ⟨false, f.races.set r x, f.mn, f.most, f.sn, f.seasons⟩ ∧ FishLe f ⟨false, f.races.set r x, f.mn, f.most, f.sn, f.seasons⟩ := fun x h => by
    have hx := hraces x h.1 h.2.1 h.2.2
    have em : (⟨false, f.races.set r x, f.mn, f.most, f.sn, f.seasons⟩ : Fish).many = f.many := many x
    refine ⟨⟨by rw [em]; exact hf.m1, by rw [em]; exact hf.m3, by rw [em]; exact hf.most, fun i hi => hf.mb i (by rw [← em]; exact hi), hf.s1, hf.s6, fun i hi => (hx i (by rw [← em]; exact hi)).1, hf.y1, hf.y10, fun s' h => by rw [em]; exact hf.sl s' h,
      fun s' r' h1 h2 => hf.rl s' r' h1 (by rw [← em]; exact h2), fun s' r' h1 h2 => hf.rb s' r' h1 (by rw [← em]; exact h2)⟩, ⟨em, rfl, fun _ _ => Int.le_refl _, fun i hi => (hx i hi).2, recs1⟩⟩
  match k, hk with
  | 1, _ => exact other _ (easeR_ok hm hr0)
  | 2, _ => exact other _ (easeR_ok hm hr0)
  | 3, _ =>
    have em : (easeF f r s m 3).many = f.many := many _
    have hml := hf.most
    have hb := hf.mb r hr
    have hd := easeDn_bd (m := m) hm hb.1
    have hmost : ∀ i, (easeF f r s m 3).most.getD i 0 = if i = r then easeDn m (f.most.getD r 0) else f.most.getD i 0 := fun i => getD_setA _ _ _ _ _ (by omega)
    refine ⟨⟨by rw [em]; exact hf.m1, by rw [em]; exact hf.m3, by rw [em, ← hml]; exact List.length_set .., fun i hi => ?_, hf.s1, hf.s6, fun i hi => (same i (by rw [← em]; exact hi)).1, hf.y1, hf.y10, fun s' h => by rw [em]; exact hf.sl s' h,
      fun s' r' h1 h2 => hf.rl s' r' h1 (by rw [← em]; exact h2), fun s' r' h1 h2 => hf.rb s' r' h1 (by rw [← em]; exact h2)⟩, ⟨em, rfl, fun i hi => ?_, fun i hi => (same i hi).2, recs1⟩⟩
    · rw [hmost]; split
      · exact ⟨hd.1, by omega⟩
      · exact hf.mb i (by rw [← em]; exact hi)
    · rw [hmost]; split
      · rename_i e; subst e; exact hd.2
      · exact Int.le_refl _
  | 0, _ =>
    have em : (easeF f r s m 0).many = f.many := many _
    have hlen : (easeF f r s m 0).seasons.length = f.seasons.length := List.length_set ..
    have hS : ∀ s', (easeF f r s m 0).seasons.getD s' ⟨false, []⟩ = if s' = s then easeS f r s m else f.seasons.getD s' ⟨false, []⟩ := fun s' => getD_setA _ _ _ _ _ hs
    have hsl := hf.sl s hs
    have hrb := map_bd (top := 100000) (m := m) hm (hf.rb s r hs hr)
    have hrec : ∀ s' r', (easeF f r s m 0).recs s' r' = if s' = s ∧ r' = r then (f.recs s r).map (easeUp 100000 m) else f.recs s' r' := fun s' r' => by
      unfold Fish.recs
      rw [hS]
      by_cases e : s' = s
      · subst e
        rw [if_pos rfl]
        show ((((f.seasons.getD s' ⟨false, []⟩).l.set r ⟨false, (f.recs s' r).map (easeUp 100000 m)⟩).getD r' ⟨false, []⟩).l) = _
        rw [getD_setA _ _ _ _ _ (by rw [hsl]; exact hr)]
        by_cases e2 : r' = r
        · rw [if_pos e2, if_pos ⟨rfl, e2⟩]; rfl
        · rw [if_neg e2, if_neg fun h => e2 h.2]
      · rw [if_neg e, if_neg fun h => e h.1]
    have hle : ∀ s' r', LeP (f.recs s' r') ((easeF f r s m 0).recs s' r') := fun s' r' => by
      rw [hrec]; split
      · rename_i e; rw [e.1, e.2]; exact hrb.1
      · exact .refl _
    have ey : (easeF f r s m 0).years = f.years := (hle 0 0).1.symm
    refine ⟨⟨by rw [em]; exact hf.m1, by rw [em]; exact hf.m3, by rw [em]; exact hf.most, fun i hi => hf.mb i (by rw [← em]; exact hi), by rw [hlen]; exact hf.s1, by rw [hlen]; exact hf.s6, fun i hi => (same i (by rw [← em]; exact hi)).1, by rw [ey]; exact hf.y1, by rw [ey]; exact hf.y10, fun s' h => ?_,
      fun s' r' h1 h2 => ?_, fun s' r' h1 h2 => ?_⟩, ⟨em, ey, fun _ _ => Int.le_refl _, fun i hi => (same i hi).2, fun r' hr' s' hs' => ⟨s', by rw [← hlen]; exact hs', hle s' r'⟩⟩⟩
    · rw [em, hS]; split
      · show ((f.seasons.getD s ⟨false, []⟩).l.set r _).length = _; rw [List.length_set]; exact hsl
      · exact hf.sl s' (by rw [← hlen]; exact h)
    · rw [ey, ← (hle s' r').1]; exact hf.rl s' r' (by rw [← hlen]; exact h1) (by rw [← em]; exact h2)
    · rw [hrec]; split
      · exact hrb.2
      · exact hf.rb s' r' (by rw [← hlen]; exact h1) (by rw [← em]; exact h2)
theorem add_ok {f : Fish} (hf : FishOk f) {r s : Nat} (hr : r < f.many) (hs : s < f.seasons.length) (h6 : f.seasons.length < 6) : FishOk (addF f r s) ∧ FishLe (addF f r s) f := by
  have hlen : (addF f r s).seasons.length = f.seasons.length + 1 := by show (f.seasons ++ [addS f r s]).length = _; simp
  have h1 := hf.s1
  have hS : ∀ s', s' < f.seasons.length → (addF f r s).seasons.getD s' ⟨false, []⟩ = f.seasons.getD s' ⟨false, []⟩ := fun s' h => by
    show (f.seasons ++ [addS f r s]).getD s' _ = _
    simp only [List.getD_eq_getElem?_getD, List.getElem?_append_left h]
  have hL : (addF f r s).seasons.getD f.seasons.length ⟨false, []⟩ = addS f r s := by
    show (f.seasons ++ [addS f r s]).getD f.seasons.length _ = _
    simp [List.getD_eq_getElem?_getD]
  have ey : (addF f r s).years = f.years := by unfold Fish.years Fish.recs; rw [hS 0 (by omega)]
  have hsl := hf.sl s hs
  have hrec : ∀ s' r', s' < f.seasons.length → (addF f r s).recs s' r' = f.recs s' r' := fun s' r' h => by unfold Fish.recs; rw [hS s' h]
  have hrecL : ∀ r', (addF f r s).recs f.seasons.length r' = if r' = r then List.replicate (f.recs s r).length 0 else f.recs s r' := fun r' => by
    unfold Fish.recs
    rw [hL]
    show ((((f.seasons.getD s ⟨false, []⟩).l.set r ⟨false, List.replicate (f.recs s r).length 0⟩).getD r' ⟨false, []⟩).l) = _
    rw [getD_setA _ _ _ _ _ (by rw [hsl]; exact hr)]
    split <;> rfl
  refine ⟨⟨hf.m1, hf.m3, hf.most, hf.mb, by omega, by omega, hf.race, by rw [ey]; exact hf.y1, by rw [ey]; exact hf.y10, fun s' h => ?_, fun s' r' q1 q2 => ?_, fun s' r' q1 q2 => ?_⟩,
    ⟨rfl, ey.symm, fun _ _ => Int.le_refl _, fun i hi => ⟨.refl _, Int.le_refl _⟩, fun r' hr' s' hs' => ⟨s', by omega, by rw [hrec s' r' hs']; exact .refl _⟩⟩⟩
  · by_cases e : s' < f.seasons.length
    · rw [hS s' e]; exact hf.sl s' e
    · have : s' = f.seasons.length := by omega
      subst this
      rw [hL]; show ((f.seasons.getD s ⟨false, []⟩).l.set r _).length = _; rw [List.length_set]; exact hsl
  · rw [ey]
    by_cases e : s' < f.seasons.length
    · rw [hrec s' r' e]; exact hf.rl s' r' e q2
    · have : s' = f.seasons.length := by omega
      subst this
      rw [hrecL]; split
      · rw [List.length_replicate]; exact hf.rl s r hs hr
      · exact hf.rl s r' hs q2
  · by_cases e : s' < f.seasons.length
    · rw [hrec s' r' e]; exact hf.rb s' r' e q2
    · have : s' = f.seasons.length := by omega
      subst this
      rw [hrecL]; split
      · intro x hx; rw [List.mem_replicate] at hx; omega
      · exact hf.rb s r' hs q2
theorem fit_of {f : Fish} (hf : FishOk f) : f.Fit := by
  have h1 := hf.m1; have h2 := hf.m3; have h3 := hf.most; have h4 := hf.s6; have h5 := hf.y10
  have hl : f.races.length = f.many := rfl
  refine ⟨by omega, by omega, by omega, fun x hx => ?_, fun S hS => ?_⟩
  · obtain ⟨i, hi, rfl⟩ := List.getElem_of_mem hx
    have := hf.race i hi
    rw [show f.race i = f.races[i] by unfold Fish.race; simp [List.getD_eq_getElem?_getD, hi]] at this
    have a := this.m6; have b := this.k; have c := this.s
    have d : f.races[i].many = f.races[i].numbers.length := rfl
    exact ⟨by omega, by omega, by omega⟩
  · obtain ⟨s, hs, rfl⟩ := List.getElem_of_mem hS
    have es : f.seasons[s] = f.seasons.getD s ⟨false, []⟩ := by simp [List.getD_eq_getElem?_getD, hs]
    have hsl := hf.sl s hs
    rw [es]
    refine ⟨by omega, fun L hL => ?_⟩
    obtain ⟨r, hr, rfl⟩ := List.getElem_of_mem hL
    have := hf.rl s r hs (by omega)
    unfold Fish.recs at this
    generalize f.seasons.getD s ⟨false, []⟩ = S at *
    have e : S.l.getD r ⟨false, []⟩ = S.l[r] := by simp [List.getD_eq_getElem?_getD, hr]
    rw [e] at this
    unfold nlFit; omega
def quotaQ (f : Fish) : Int := if f.holds 0 then f.quota else 0
def quotaE (f : Fish) : Int := if f.holds 0 then 0 else 4
theorem quotaR_qe {f : Fish} (h : FishOk f) : f.quotaR = [.int (quotaQ f), .int (quotaE f)] := by
  unfold Fish.quotaR quotaQ quotaE
  rw [h.to]; simp only [if_true]; split <;> rfl
theorem eased_quota {f : Fish} (hf : FishOk f) {r s : Nat} (hr : r < f.many) (hs : s < f.seasons.length) {m : Int} (hm : 0 ≤ m) {k : Nat} (hk : k < 4) :
    (quotaE f = 0 ∧ quotaE (easeF f r s m k) = 0 ∧ quotaQ f ≤ quotaQ (easeF f r s m k)) ∨ (quotaE f = 4 ∧ (quotaE (easeF f r s m k) = 0 ∨ quotaE (easeF f r s m k) = 4)) := by
  obtain ⟨h1, h2⟩ := ease_ok hf hr hs hm hk
  unfold quotaE quotaQ
  cases h0 : f.holds 0 with
  | true =>
    obtain ⟨a, b⟩ := h2.quota hf h1 h0
    rw [a]; exact .inl ⟨rfl, rfl, b⟩
  | false => refine .inr ⟨rfl, ?_⟩; split <;> simp
theorem added_quota {f : Fish} (hf : FishOk f) {r s : Nat} (hr : r < f.many) (hs : s < f.seasons.length) (h6 : f.seasons.length < 6) :
    (quotaE (addF f r s) = 0 ∧ quotaE f = 0 ∧ quotaQ (addF f r s) ≤ quotaQ f) ∨ (quotaE (addF f r s) = 4 ∧ quotaQ (addF f r s) = 0) := by
  obtain ⟨h1, h2⟩ := add_ok hf hr hs h6
  unfold quotaE quotaQ
  cases h0 : (addF f r s).holds 0 with
  | true =>
    obtain ⟨a, b⟩ := h2.quota h1 hf h0
    rw [a]; exact .inl ⟨rfl, rfl, b⟩
  | false => exact .inr ⟨rfl, rfl⟩
end Go.AL.Q

set_option maxRecDepth 100000
namespace Go.Proofs.Ytdiclbgklegelaa
open Go Go.AL Go.AL.Q Go.ChangeShapes Go.WideShapes Go.ChangeAt Go.RowKit
theorem u39 : Try.prog.underlying 39 = some (.struct #[fld "Numbers" 37 0 0, fld "Keep" 37 1 24, fld "Spawn" 37 2 48, fld "Line" 3 3 72, fld "Mesh" 3 4 80]) := by kernel_rfl
theorem c39 : Try.prog.cellsOf 39 = 5 := by kernel_rfl
section
variable {H : Type} {enc : TypeId × Value → H} {w : World} {base : Nat} {spare : Nat → Bool} {held : Bool} {φ : Names}
end
end Go.Proofs.Ytdiclbgklegelaa

set_option maxRecDepth 100000
namespace Go.Proofs.Ytdiclbgklegelaa
open Go Go.AL Go.AL.Q Go.ChangeShapes Go.WideShapes Go.ChangeAt Go.RowKit
theorem t47 : Try.prog.readableRec 47 = true ∧ 47 < Try.prog.types.size := ty_ok (by kernel_rfl) (by kernel_rfl)
theorem t80 : Try.prog.readableRec 80 = true ∧ 80 < Try.prog.types.size := ty_ok (by kernel_rfl) (by kernel_rfl)
theorem u44 : Try.prog.underlying 44 = some (.slice 39) := by kernel_rfl
theorem u45 : Try.prog.underlying 45 = some (.slice 55) := by kernel_rfl
theorem u47 : Try.prog.underlying 47 = some (.struct #[fld "Races" 44 0 0, fld "Most" 37 1 24, fld "Seasons" 45 2 48]) := by kernel_rfl
theorem u55 : Try.prog.underlying 55 = some (.slice 37) := by kernel_rfl
theorem u80 : Try.prog.underlying 80 = some (.array 4 3) := by kernel_rfl
theorem c44 : Try.prog.cellsOf 44 = 1 := by kernel_rfl
theorem c45 : Try.prog.cellsOf 45 = 1 := by kernel_rfl
theorem c47 : Try.prog.cellsOf 47 = 3 := by kernel_rfl
theorem c55 : Try.prog.cellsOf 55 = 1 := by kernel_rfl
theorem c80 : Try.prog.cellsOf 80 = 4 := by kernel_rfl
theorem by37 : Try.prog.bytesOf 37 = 24 := by kernel_rfl
theorem by39 : Try.prog.bytesOf 39 = 88 := by kernel_rfl
theorem by55 : Try.prog.bytesOf 55 = 24 := by kernel_rfl
theorem fit_len {n k : Nat} (h : n * k ≤ reachBytes) (hk : 1 ≤ k) : (n : Int) ≤ 9223372036854775806 := by
  have h3 : n ≤ n * k := Nat.le_mul_of_pos_right _ hk
  have h5 : reachBytes = 140737488351232 := by decide
  omega
section
variable {H : Type} {enc : TypeId × Value → H} {w : World} {base : Nat} {held : Bool} {φ : Names}
theorem r3 : Reads enc Try.prog w base held φ 3 1 (fun n : Int => [A.int n]) fun _ => True := .int u3
theorem rdInts : Reads enc Try.prog w base held φ 37 1 NL.c nlFit := by
  have key := Reads.slice (enc := enc) (w := w) (base := base) (held := held) (φ := φ) u37 c3 (by decide) r3
  exact key.imp fun x h => ⟨⟨x.1, x.2⟩, fit_len h.2 (by rw [by3]; decide), rfl⟩
theorem rdRce : Reads enc Try.prog w base held φ 39 5 Rce.c Rce.Fit := by
  have key := Reads.struct (enc := enc) (w := w) (base := base) (held := held) (φ := φ) u39 c39 (Flds.cons (f := fld "Numbers" 37 0 0) rfl c37 rdInts (Flds.cons (f := fld "Keep" 37 1 24) rfl c37 rdInts (Flds.cons (f := fld "Spawn" 37 2 48) rfl c37 rdInts (Flds.cons (f := fld "Line" 3 3 72) rfl c3 r3 (Flds.cons (f := fld "Mesh" 3 4 80) rfl c3 r3 (Flds.nil _)))))) rfl rfl
  exact key.imp fun x h =>
    ⟨⟨x.1.n, x.1.l, x.2.1.n, x.2.1.l, x.2.2.1.n, x.2.2.1.l, x.2.2.2.1, x.2.2.2.2.1⟩, ⟨h.1, h.2.1, h.2.2.1⟩, rfl⟩
theorem rdRces : Reads enc Try.prog w base held φ 44 1 (fun x : Bool × List Rce => [A.sl x.1 .any (x.2.map Rce.c)]) (fun x => (∀ a ∈ x.2, a.Fit) ∧ (x.2.length : Int) ≤ 9223372036854775806) := by
  have key := Reads.slice (enc := enc) (w := w) (base := base) (held := held) (φ := φ) u44 c39 (by decide) rdRce
  exact key.imp fun x h => ⟨x, ⟨h.1, fit_len h.2 (by rw [by39]; decide)⟩, rfl⟩
theorem rdRow : Reads enc Try.prog w base held φ 55 1 NR.c (fun s => (s.l.length : Int) ≤ 5900000000000 ∧ ∀ l ∈ s.l, nlFit l) := by
  have key := Reads.slice (enc := enc) (w := w) (base := base) (held := held) (φ := φ) u55 c37 (by decide) rdInts
  exact key.imp fun x h => ⟨⟨x.1, x.2⟩, ⟨by
    have := h.2; rw [by37] at this
    have h5 : reachBytes = 140737488351232 := by decide
    show (x.2.length : Int) ≤ _
    omega, h.1⟩, rfl⟩
theorem rdRows : Reads enc Try.prog w base held φ 45 1 (fun x : Bool × List NR => [A.sl x.1 .any (x.2.map NR.c)]) (fun x => (∀ s ∈ x.2, (s.l.length : Int) ≤ 9223372036854775806 ∧ ∀ l ∈ s.l, nlFit l) ∧ (x.2.length : Int) ≤ 9223372036854775806) := by
  have key := Reads.slice (enc := enc) (w := w) (base := base) (held := held) (φ := φ) u45 c55 (by decide) rdRow
  exact key.imp fun x h => ⟨x, ⟨fun s hs => ⟨by have := (h.1 s hs).1; omega, (h.1 s hs).2⟩, fit_len h.2 (by rw [by55]; decide)⟩, rfl⟩
theorem rdFish : Reads enc Try.prog w base held φ 47 3 Fish.c Fish.Fit := by
  have key := Reads.struct (enc := enc) (w := w) (base := base) (held := held) (φ := φ) u47 c47 (Flds.cons (f := fld "Races" 44 0 0) rfl c44 rdRces (Flds.cons (f := fld "Most" 37 1 24) rfl c37 rdInts (Flds.cons (f := fld "Seasons" 45 2 48) rfl c45 rdRows (Flds.nil _)))) rfl rfl
  exact key.imp fun x h =>
    ⟨⟨x.1.1, x.1.2, x.2.1.n, x.2.1.l, x.2.2.1.1, x.2.2.1.2⟩, ⟨h.1.2, h.2.1, h.2.2.1.2, h.1.1, h.2.2.1.1⟩, rfl⟩
variable {v : Value} {d : DataW H} {p : List MemPlace} {r : Reach} {b0 : Nat}
theorem arg_fish (hok : Value.okWide Try.prog w r b0 47 v) (h : DataW.Trod enc Try.prog w base (fun _ => true) held 47 v d p) (hw : ∀ k ∈ d.weights Try.prog 47, k ≤ reachBytes) :
    ∃ y : Fish, VR φ (allZ w) w (.agg y.c) v ∧ y.Fit := by
  obtain ⟨x, q, e⟩ := (rdFish (φ := φ)).arg_agg (agg_struct u47 hok) h hw
  exact ⟨x, e, q⟩
theorem arg_4 (hok : Value.okWide Try.prog w r b0 80 v) (h : DataW.Trod enc Try.prog w base (fun _ => true) held 80 v d p) (hw : ∀ k ∈ d.weights Try.prog 80, k ≤ reachBytes) : ∃ y : Int × Int × Int × Int, VR φ (allZ w) w (.agg [.int y.1, .int y.2.1, .int y.2.2.1, .int y.2.2.2]) v := by
  obtain ⟨x, q, e⟩ := (Reads.ints (φ := φ) u80 c80 u3 c3).arg_agg (agg_array u80 hok) h hw
  match x, q with
  | [a, b, c, d], _ => exact ⟨(a, b, c, d), e⟩
end
end Go.Proofs.Ytdiclbgklegelaa

namespace Go.Proofs.Ytdiclbgklegelaa
open Go Go.AL Go.AL.Q
end Go.Proofs.Ytdiclbgklegelaa

namespace Go.Proofs.Ytdiclbgklegelaa
open Go Go.AL Go.AL.Q
theorem alive_t (r : Rce) (hf : r.Fit) : Ans Try.prog 46 [.agg r.c] (.bool r.alive) := by
  have h1 := hf.n
  have h2 := hf.k
  have h3 := hf.s
  have ln := ints_lenI r.numbers
  have lk := ints_lenI r.keep
  have ls := ints_lenI r.spawn
  have lm : (r.many : Int) = r.numbers.length := rfl
  have hm : r.many = r.numbers.length := rfl
  have urc : Under 0 (A.pt r.c) := (Free.pt _ r.free).under
  refine told Try.func46 rfl rfl (Pure.of tab_ok Try.func46 rfl Try.ntmps46 rfl (all1 (.agg _ r.free)) (all1 (fun _ => rfl)) (by first | exact .s _ | assumption | exact .tup _ (by intro x hx; simp only [List.mem_cons, List.not_mem_nil, or_false] at hx; rcases hx with rfl | rfl | rfl | rfl <;> first | exact .s _ | (simp_all; done))) fun E hE => ?_)
  refine Aw.sm tab_ok mb0 [] rfl rfl ?zo ?zk
  case zo =>
    repeat' apply AllP.cons
    all_goals first | exact trivial | exact id | exact rfl | exact fun _ => rfl | exact Nat.le_of_ble_eq_true rfl | exact fun _ => Nat.le_of_ble_eq_true rfl | exact Int.natCast_nonneg _ | exact fun _ => Int.natCast_nonneg _ | exact in_t _ _ _ | exact (in_t _ _ _).un | exact gq_f
  case zk =>
  refine Aw.sm tab_ok mb0 [] rfl rfl ?zo ?zk
  case zo =>
    repeat' apply AllP.cons
    all_goals first | exact trivial | exact id | exact rfl | exact fun _ => rfl | exact Nat.le_of_ble_eq_true rfl | exact fun _ => Nat.le_of_ble_eq_true rfl | exact Int.natCast_nonneg _ | exact fun _ => Int.natCast_nonneg _ | exact in_t _ _ _ | exact (in_t _ _ _).un | exact gq_f
  case zk =>
  refine Aw.keep (n := 0) (cst := [(1, .pt r.c), (3, .int r.many)]) (v := []) (Hl := []) hE ⟨urc, .s _, trivial⟩ trivial trivial ⟨⟨.refl _, .of_eq (congrArg A.int ln.symm), trivial⟩, trivial, trivial, Nat.zero_le _⟩ ?_
  refine Aw.sm tab_ok mb0 [(1, [.bool (wi r.many 1 6)]), (21, [.bool (wi r.mesh 0 ((r.many:Int) - 1))])] rfl rfl ?zo ?zk
  case zo =>
    repeat' apply AllP.cons
    all_goals first | exact trivial | exact id | exact rfl | exact fun _ => rfl | exact Nat.le_of_ble_eq_true rfl | exact fun _ => Nat.le_of_ble_eq_true rfl | exact Int.natCast_nonneg _ | exact fun _ => Int.natCast_nonneg _ | exact in_t _ _ _ | exact (in_t _ _ _).un | exact gq_f | exact fun _ => (by simp only [Ob.of, inR]; omega)
  case zk =>
  have hd : A.bool r.aliveHead = A.bool (cond (cond (cond (wi r.many 1 6) (((ints r.keep).length : Int) == r.many) false) (((ints r.spawn).length : Int) == r.many) false) (wi r.mesh 0 ((r.many:Int) - 1)) false) := by rw [lk, ls]; rfl
  refine Aw.seq ?_
  refine Aw.sm tab_ok mb0 [] rfl rfl ?zo ?zk
  case zo =>
    repeat' apply AllP.cons
    all_goals first | exact trivial | exact id | exact rfl | exact fun _ => rfl | exact Nat.le_of_ble_eq_true rfl | exact fun _ => Nat.le_of_ble_eq_true rfl | exact Int.natCast_nonneg _ | exact fun _ => Int.natCast_nonneg _ | exact in_t _ _ _ | exact (in_t _ _ _).un | exact gq_f
  case zk =>
  have lr : (List.range r.many).length = r.many := List.length_range
  refine Aw.block (Aw.rounds 0 hE [(1, .pt r.c), (3, .int r.many)] (fun k : Nat => [(4, .bool (andAll r.aliveHead r.ageOk (List.range r.many) k)), (5, .int k)]) (fun _ => []) (fun k => k ≤ r.many) (fun k => r.many - k) 0
    (Nat.zero_le _) ⟨⟨.refl _, .refl _, trivial⟩, ⟨.of_eq (by rw [andAll_zero]; exact hd), .refl _, trivial⟩, trivial, Nat.le_refl _⟩ ⟨urc, .s _, trivial⟩ (fun _ _ => ⟨.s _, .s _, trivial⟩) (fun _ _ => trivial) fun k hk => ?_)
  refine Aw.seq ?_
  refine Aw.sm tab_ok mb0 [] rfl rfl ?zo ?zk
  case zo =>
    repeat' apply AllP.cons
    all_goals first | exact trivial | exact id | exact rfl | exact fun _ => rfl | exact Nat.le_of_ble_eq_true rfl | exact fun _ => Nat.le_of_ble_eq_true rfl | exact Int.natCast_nonneg _ | exact fun _ => Int.natCast_nonneg _ | exact in_t _ _ _ | exact (in_t _ _ _).un | exact gq_f
  case zk =>
  refine Aw.cond rfl (fun h1 => Aw.skip ?_) (fun h1 => ?_)
  · have h1 : cond (andAll r.aliveHead r.ageOk (List.range r.many) k) (decide ((k : Int) < r.many)) false = true := h1
    have hb := ac1 h1
    have hlt : k < r.many := by have := of_decide_eq_true (ac2 h1); omega
    have hh : r.aliveHead = true := by unfold andAll at hb; exact ac1 hb
    have hk1 : r.keep.length = r.many := by unfold Rce.aliveHead at hh; have := eq_of_beq (ac2 (ac1 (ac1 hh))); omega
    have hs1 : r.spawn.length = r.many := by unfold Rce.aliveHead at hh; have := eq_of_beq (ac2 (ac1 hh)); omega
    refine Aw.seq (Aw.block ?_)
    refine Aw.em tab_ok mb0 [(3, [.int (r.numbers.getD k 0)]), (5, [.bool (wi (r.numbers.getD k 0) 0 100000)]), (10, [.int (r.keep.getD k 0)]), (12, [.bool (wi (r.keep.getD k 0) 0 1000)]), (18, [.int (r.spawn.getD k 0)]), (20, [.bool (wi (r.spawn.getD k 0) 0 100)])] rfl rfl ?zo ?zk
    case zo =>
      repeat' apply AllP.cons
      all_goals first | exact trivial | exact id | exact rfl | exact fun _ => rfl | exact Nat.le_of_ble_eq_true rfl | exact fun _ => Nat.le_of_ble_eq_true rfl | exact Int.natCast_nonneg _ | exact fun _ => Int.natCast_nonneg _ | exact in_t _ _ _ | exact (in_t _ _ _).un | exact gq_f | exact ints_getD hlt | exact fun _ => ints_getD (by omega)
    case zk =>
    refine Aw.em tab_ok mb0 [] rfl rfl ?zo ?zk
    case zo =>
      repeat' apply AllP.cons
      all_goals first | exact trivial | exact id | exact rfl | exact fun _ => rfl | exact Nat.le_of_ble_eq_true rfl | exact fun _ => Nat.le_of_ble_eq_true rfl | exact Int.natCast_nonneg _ | exact fun _ => Int.natCast_nonneg _ | exact in_t _ _ _ | exact (in_t _ _ _).un | exact gq_f | exact inrk k (by omega)
    case zk =>
    have e : andAll r.aliveHead r.ageOk (List.range r.many) (k + 1) = r.ageOk k := by
      rw [andAll_succ (by rw [lr]; exact hlt) hb, List.getElem_range]
    exact ⟨k + 1, hlt, by omega, ⟨.refl _, .refl _, trivial⟩, ⟨.of_eq (congrArg A.bool e), .refl _, trivial⟩, trivial, Nat.zero_le _⟩
  have h1 : cond (andAll r.aliveHead r.ageOk (List.range r.many) k) (decide ((k : Int) < r.many)) false = false := h1
  have hend : andAll r.aliveHead r.ageOk (List.range r.many) k = r.alive := (andAll_end (by
    cases e : andAll r.aliveHead r.ageOk (List.range r.many) k with
    | false => exact .inl rfl
    | true => rw [e] at h1; have := of_decide_eq_false h1; exact .inr (by rw [lr]; omega)) (by rw [lr]; exact hk)).trans rfl
  rw [hend]
  refine Aw.exit2 ?_
  refine Aw.sm tab_ok mb0 [] rfl rfl ?zo ?zk
  case zo =>
    repeat' apply AllP.cons
    all_goals first | exact trivial | exact id | exact rfl | exact fun _ => rfl | exact Nat.le_of_ble_eq_true rfl | exact fun _ => Nat.le_of_ble_eq_true rfl | exact Int.natCast_nonneg _ | exact fun _ => Int.natCast_nonneg _ | exact in_t _ _ _ | exact (in_t _ _ _).un | exact gq_f
  case zk =>
  exact Aw.ret ⟨_, .cons (.tmp _) .nil, rfl⟩
end Go.Proofs.Ytdiclbgklegelaa

namespace Go.Proofs.Ytdiclbgklegelaa
open Go Go.AL Go.AL.Q
end Go.Proofs.Ytdiclbgklegelaa

namespace Go.Proofs.Ytdiclbgklegelaa
open Go Go.AL Go.AL.Q
end Go.Proofs.Ytdiclbgklegelaa

namespace Go.Proofs.Ytdiclbgklegelaa
open Go Go.AL Go.AL.Q
end Go.Proofs.Ytdiclbgklegelaa

namespace Go.Proofs.Ytdiclbgklegelaa
open Go Go.AL Go.AL.Q
end Go.Proofs.Ytdiclbgklegelaa

namespace Go.Proofs.Ytdiclbgklegelaa
open Go Go.AL Go.AL.Q
theorem grL_cons {l : List Int} (h : l ≠ []) : grL 3 l = .sl false (.own 3) (ints l) := by
  cases l with
  | nil => exact absurd rfl h
  | cons x l => rfl
theorem nl_at (l : List NL) {r : Nat} (h : r < l.length) : (l.map NL.c)[r]? = some (l.getD r ⟨false, []⟩).c := by
  rw [get_map h, List.getD_eq_getElem?_getD, List.getElem?_eq_getElem h]; rfl
end Go.Proofs.Ytdiclbgklegelaa

namespace Go.Proofs.Ytdiclbgklegelaa
open Go Go.AL Go.AL.Q
end Go.Proofs.Ytdiclbgklegelaa

namespace Go.Proofs.Ytdiclbgklegelaa
open Go Go.AL Go.AL.Q
end Go.Proofs.Ytdiclbgklegelaa

namespace Go.Proofs.Ytdiclbgklegelaa
open Go Go.AL Go.AL.Q
theorem in_is {n a b : Int} (h : a ≤ n ∧ n ≤ b) : Ans Try.prog 38 [.int n, .int a, .int b] (.bool true) := (wi_iff.2 h) ▸ in_t n a b
theorem race_at (f : Fish) {r : Nat} (h : r < f.many) : (f.races.map Rce.c)[r]? = some (f.race r).c := by
  have h : r < f.races.length := h
  rw [get_map h]; unfold Fish.race; rw [List.getD_eq_getElem?_getD, List.getElem?_eq_getElem h]; rfl
theorem seas_at (f : Fish) {s : Nat} (h : s < f.seasons.length) : (f.seasons.map NR.c)[s]? = some (f.seasons.getD s ⟨false, []⟩).c := by
  rw [get_map h, List.getD_eq_getElem?_getD, List.getElem?_eq_getElem h]; rfl
theorem race_fit {f : Fish} (hf : f.Fit) {r : Nat} (h : r < f.many) : (f.race r).Fit := by
  have h : r < f.races.length := h
  unfold Fish.race; rw [List.getD_eq_getElem?_getD, List.getElem?_eq_getElem h]; exact hf.race _ (List.getElem_mem h)
theorem race_ok {f : Fish} (hok : f.ok = true) {r : Nat} (h : r < f.many) : (f.race r).ok = true := by
  unfold Fish.ok at hok
  have := List.all_eq_true.1 (ac2 (ac1 (ac1 hok))) r (List.mem_range.2 h)
  exact ac1 this
theorem fished_t (f : Fish) (hfit : f.Fit) (hok : f.ok = true) : Ans Try.prog 47 [.agg f.c] (.bool true) := by
  have hf := FishOk.of hok
  have m1 := hf.m1
  have m3 := hf.m3
  have s1 := hf.s1
  have s6 := hf.s6
  have y1 := hf.y1
  have y10 := hf.y10
  have lr : ((f.races.map Rce.c).length : Int) = f.many := by simp [Fish.many]
  have ls : ((f.seasons.map NR.c).length : Int) = f.seasons.length := by simp
  have lm := ints_lenI f.most
  have hmost := hf.most
  have c0 := check_t f hfit
  rw [err_ok hok] at c0
  have i1 : Ans Try.prog 38 [.int ((f.races.map Rce.c).length : Int), .int 1, .int 3] (.bool true) := in_is (by omega)
  have i2 : Ans Try.prog 38 [.int ((f.seasons.map NR.c).length : Int), .int 1, .int 6] (.bool true) := in_is (by omega)
  have ufc : ∀ {n}, Under n (A.pt f.c) := (Free.pt _ f.free).under
  refine told Try.func47 rfl rfl (Pure.of tab_ok Try.func47 rfl Try.ntmps47 rfl (all1 (.agg _ f.free)) (all1 (fun _ => rfl)) (by first | exact .s _ | assumption | exact .tup _ (by intro x hx; simp only [List.mem_cons, List.not_mem_nil, or_false] at hx; rcases hx with rfl | rfl | rfl | rfl <;> first | exact .s _ | (simp_all; done))) fun E hE => ?_)
  refine Aw.sm tab_ok mb0 [] rfl rfl ?zo ?zk
  case zo =>
    repeat' apply AllP.cons
    all_goals first | exact trivial | exact id | exact rfl | exact fun _ => rfl | exact Nat.le_of_ble_eq_true rfl | exact fun _ => Nat.le_of_ble_eq_true rfl | exact Int.natCast_nonneg _ | exact fun _ => Int.natCast_nonneg _ | exact in_t _ _ _ | exact (in_t _ _ _).un | exact gq_f
  case zk =>
  refine Aw.sm tab_ok mb0 [(1, [.int 0]), (7, [.bool true]), (22, [.bool true])] rfl rfl ?zo ?zk
  case zo =>
    repeat' apply AllP.cons
    all_goals first | exact trivial | exact id | exact rfl | exact fun _ => rfl | exact Nat.le_of_ble_eq_true rfl | exact fun _ => Nat.le_of_ble_eq_true rfl | exact Int.natCast_nonneg _ | exact fun _ => Int.natCast_nonneg _ | exact in_t _ _ _ | exact (in_t _ _ _).un | exact gq_f | exact c0 | exact fun _ => i1 | exact fun _ => i2
  case zk =>
  have hb : (((ints f.most).length : Int) == ((f.races.map Rce.c).length : Int)) = true := by rw [lm, lr, hmost]; simp
  refine Aw.keep (n := 0) (cst := [(1, .pt f.c)]) (v := [(3, .bool true)]) (Hl := []) hE ⟨ufc, trivial⟩ ⟨.s _, trivial⟩ trivial ⟨⟨.refl _, trivial⟩, ⟨.of_eq (show A.bool true = A.bool (cond (cond true (((ints f.most).length : Int) == ((f.races.map Rce.c).length : Int)) false) true false) by rw [hb]; rfl), trivial⟩, trivial, Nat.le_refl _⟩ ?_
  refine Aw.seq ?_
  refine Aw.sm tab_ok mb0 [] rfl rfl ?zo ?zk
  case zo =>
    repeat' apply AllP.cons
    all_goals first | exact trivial | exact id | exact rfl | exact fun _ => rfl | exact Nat.le_of_ble_eq_true rfl | exact fun _ => Nat.le_of_ble_eq_true rfl | exact Int.natCast_nonneg _ | exact fun _ => Int.natCast_nonneg _ | exact in_t _ _ _ | exact (in_t _ _ _).un | exact gq_f
  case zk =>
  refine Aw.block (Aw.rounds 0 hE [(1, .pt f.c)] (fun k : Nat => [(3, .bool true), (4, .int k)]) (fun _ => []) (fun k => k ≤ f.many) (fun k => f.many - k) 0
    (Nat.zero_le _) ⟨⟨.refl _, trivial⟩, ⟨.refl _, .refl _, trivial⟩, trivial, Nat.zero_le _⟩ ⟨ufc, trivial⟩ (fun _ _ => ⟨.s _, .s _, trivial⟩) (fun _ _ => trivial) fun k hk => ?_)
  refine Aw.seq ?_
  refine Aw.sm tab_ok mb0 [] rfl rfl ?zo ?zk
  case zo =>
    repeat' apply AllP.cons
    all_goals first | exact trivial | exact id | exact rfl | exact fun _ => rfl | exact Nat.le_of_ble_eq_true rfl | exact fun _ => Nat.le_of_ble_eq_true rfl | exact Int.natCast_nonneg _ | exact fun _ => Int.natCast_nonneg _ | exact in_t _ _ _ | exact (in_t _ _ _).un | exact gq_f
  case zk =>
  refine Aw.cond rfl (fun h1 => Aw.skip ?_) (fun h1 => ?_)
  · have hlt : k < f.many := by
      have := of_decide_eq_true (show decide ((k : Int) < ((f.races.map Rce.c).length : Int)) = true from h1); omega
    have gr := race_at f hlt
    have gm : (ints f.most)[k]? = some [.int (f.most.getD k 0)] := ints_getD (by omega)
    have al := alive_t (f.race k) (race_fit hfit hlt)
    rw [Rce.alive_of (race_ok hok hlt)] at al
    have im : Ans Try.prog 38 [.int (f.most.getD k 0), .int 0, .int 100] (.bool true) := in_is (hf.mb k hlt)
    refine Aw.seq (Aw.block ?_)
    refine Aw.em tab_ok mb0 [(3, (f.race k).c), (5, [.bool true]), (10, [.int (f.most.getD k 0)]), (12, [.bool true])] rfl rfl ?zo ?zk
    case zo =>
      repeat' apply AllP.cons
      all_goals first | exact trivial | exact id | exact rfl | exact fun _ => rfl | exact Nat.le_of_ble_eq_true rfl | exact fun _ => Nat.le_of_ble_eq_true rfl | exact Int.natCast_nonneg _ | exact fun _ => Int.natCast_nonneg _ | exact in_t _ _ _ | exact (in_t _ _ _).un | exact gq_f | exact gr | exact al | exact fun _ => gm | exact fun _ => im
    case zk =>
    refine Aw.em tab_ok mb0 [] rfl rfl ?zo ?zk
    case zo =>
      repeat' apply AllP.cons
      all_goals first | exact trivial | exact id | exact rfl | exact fun _ => rfl | exact Nat.le_of_ble_eq_true rfl | exact fun _ => Nat.le_of_ble_eq_true rfl | exact Int.natCast_nonneg _ | exact fun _ => Int.natCast_nonneg _ | exact in_t _ _ _ | exact (in_t _ _ _).un | exact gq_f | exact inrk k (by omega)
    case zk =>
    exact ⟨k + 1, hlt, by omega, ⟨.refl _, trivial⟩, ⟨.refl _, .refl _, trivial⟩, trivial, Nat.zero_le _⟩
  refine Aw.exit2 ?_
  refine Aw.keep (n := 0) (cst := [(1, .pt f.c)]) (v := [(3, .bool true)]) (Hl := []) hE ⟨ufc, trivial⟩ ⟨.s _, trivial⟩ trivial ⟨⟨.refl _, trivial⟩, ⟨.refl _, trivial⟩, trivial, Nat.zero_le _⟩ ?_
  clear hk h1
  refine Aw.seq ?_
  refine Aw.sm tab_ok mb0 [] rfl rfl ?zo ?zk
  case zo =>
    repeat' apply AllP.cons
    all_goals first | exact trivial | exact id | exact rfl | exact fun _ => rfl | exact Nat.le_of_ble_eq_true rfl | exact fun _ => Nat.le_of_ble_eq_true rfl | exact Int.natCast_nonneg _ | exact fun _ => Int.natCast_nonneg _ | exact in_t _ _ _ | exact (in_t _ _ _).un | exact gq_f
  case zk =>
  refine Aw.block (Aw.rounds 0 hE [(1, .pt f.c)] (fun k : Nat => [(3, .bool true), (5, .int k)]) (fun _ => []) (fun k => k ≤ f.seasons.length) (fun k => f.seasons.length - k) 0
    (Nat.zero_le _) ⟨⟨.refl _, trivial⟩, ⟨.refl _, .refl _, trivial⟩, trivial, Nat.zero_le _⟩ ⟨ufc, trivial⟩ (fun _ _ => ⟨.s _, .s _, trivial⟩) (fun _ _ => trivial) fun k hk => ?_)
  refine Aw.seq ?_
  refine Aw.sm tab_ok mb0 [] rfl rfl ?zo ?zk
  case zo =>
    repeat' apply AllP.cons
    all_goals first | exact trivial | exact id | exact rfl | exact fun _ => rfl | exact Nat.le_of_ble_eq_true rfl | exact fun _ => Nat.le_of_ble_eq_true rfl | exact Int.natCast_nonneg _ | exact fun _ => Int.natCast_nonneg _ | exact in_t _ _ _ | exact (in_t _ _ _).un | exact gq_f
  case zk =>
  refine Aw.cond rfl (fun h1 => Aw.skip ?_) (fun h1 => ?_)
  · have hlt : k < f.seasons.length := by
      have := of_decide_eq_true (show decide ((k : Int) < ((f.seasons.map NR.c).length : Int)) = true from h1); omega
    have gs := seas_at f hlt
    have gs0 : (f.seasons.map NR.c)[(0 : Int).toNat]? = some (f.seasons.getD 0 ⟨false, []⟩).c := seas_at f (by omega)
    have hsl := hf.sl k hlt
    have hrl := hf.rl k
    have hgl : ∀ j, j < f.many → ((f.seasons.getD k ⟨false, []⟩).l.map NL.c)[j]? = some ((f.seasons.getD k ⟨false, []⟩).l.getD j ⟨false, []⟩).c := fun j hj => nl_at _ (by omega)
    have hg0 : ((f.seasons.getD 0 ⟨false, []⟩).l.map NL.c)[(0 : Int).toNat]? = some ((f.seasons.getD 0 ⟨false, []⟩).l.getD 0 ⟨false, []⟩).c := nl_at _ (by have := hf.sl 0 (by omega); show 0 < _; omega)
    have hy0 : ((f.seasons.getD 0 ⟨false, []⟩).l.getD 0 ⟨false, []⟩).l.length = f.years := rfl
    have hrl : ∀ j, j < f.many → ((f.seasons.getD k ⟨false, []⟩).l.getD j ⟨false, []⟩).l.length = f.years := fun j hj => hf.rl k j hlt hj
    generalize f.seasons.getD k ⟨false, []⟩ = S at *
    have lS : ((S.l.map NL.c).length : Int) = S.l.length := by simp
    refine Aw.seq (Aw.block ?_)
    refine Aw.sd tab_ok mixed mb0 [(3, S.c)] rfl (by kernel_rfl) rfl rfl ?zo ?zk
    case zo =>
      repeat' apply AllP.cons
      all_goals first | exact trivial | exact id | exact rfl | exact fun _ => rfl | exact Nat.le_of_ble_eq_true rfl | exact fun _ => Nat.le_of_ble_eq_true rfl | exact Int.natCast_nonneg _ | exact fun _ => Int.natCast_nonneg _ | exact in_t _ _ _ | exact (in_t _ _ _).un | exact gq_f | exact gs
    case zk =>
    refine Aw.sm tab_ok mb0 [] rfl rfl ?zo ?zk
    case zo =>
      repeat' apply AllP.cons
      all_goals first | exact trivial | exact id | exact rfl | exact fun _ => rfl | exact Nat.le_of_ble_eq_true rfl | exact fun _ => Nat.le_of_ble_eq_true rfl | exact Int.natCast_nonneg _ | exact fun _ => Int.natCast_nonneg _ | exact in_t _ _ _ | exact (in_t _ _ _).un | exact gq_f
    case zk =>
    have hd : A.bool true = A.bool (((S.l.map NL.c).length : Int) == ((f.races.map Rce.c).length : Int)) := by rw [lS, lr, hsl]; simp
    refine Aw.block (Aw.rounds 0 hE [(1, .pt f.c), (5, .int k)] (fun j : Nat => [(3, .bool true), (6, .int j)]) (fun _ => []) (fun j => j ≤ f.many) (fun j => f.many - j) 0
      (Nat.zero_le _) ⟨⟨.refl _, .refl _, trivial⟩, ⟨.of_eq hd, .refl _, trivial⟩, trivial, Nat.zero_le _⟩ ⟨ufc, .s _, trivial⟩ (fun _ _ => ⟨.s _, .s _, trivial⟩) (fun _ _ => trivial) fun j hj => ?_)
    refine Aw.seq ?_
    refine Aw.sm tab_ok mb0 [] rfl rfl ?zo ?zk
    case zo =>
      repeat' apply AllP.cons
      all_goals first | exact trivial | exact id | exact rfl | exact fun _ => rfl | exact Nat.le_of_ble_eq_true rfl | exact fun _ => Nat.le_of_ble_eq_true rfl | exact Int.natCast_nonneg _ | exact fun _ => Int.natCast_nonneg _ | exact in_t _ _ _ | exact (in_t _ _ _).un | exact gq_f
    case zk =>
    refine Aw.cond rfl (fun h2 => Aw.skip ?_) (fun h2 => ?_)
    · have hjl : j < f.many := by
        have := of_decide_eq_true (show decide ((j : Int) < ((f.races.map Rce.c).length : Int)) = true from h2); omega
      have hgj := hgl j hjl
      have hlj := hrl j hjl
      generalize S.l.getD j ⟨false, []⟩ = L at *
      generalize (f.seasons.getD 0 ⟨false, []⟩).l.getD 0 ⟨false, []⟩ = L0 at *
      have zL := ints_lenI L.l
      have z0 := ints_lenI L0.l
      have iL : Ans Try.prog 38 [.int ((ints L.l).length : Int), .int 1, .int 10] (.bool true) := in_is (by omega)
      refine Aw.seq (Aw.block ?_)
      refine Aw.ed tab_ok mixed mb0 [(3, S.c), (6, L.c), (9, [.bool true]), (14, S.c), (17, L.c), (22, (f.seasons.getD 0 ⟨false, []⟩).c), (24, L0.c)] rfl (by kernel_rfl) rfl rfl ?zo ?zk
      case zo =>
        repeat' apply AllP.cons
        all_goals first | exact trivial | exact id | exact rfl | exact fun _ => rfl | exact Nat.le_of_ble_eq_true rfl | exact fun _ => Nat.le_of_ble_eq_true rfl | exact Int.natCast_nonneg _ | exact fun _ => Int.natCast_nonneg _ | exact in_t _ _ _ | exact (in_t _ _ _).un | exact gq_f | exact gs | exact hgj | exact iL | exact fun _ => gs | exact fun _ => hgj | exact fun _ => gs0 | exact fun _ => hg0
      case zk =>
      refine Aw.em tab_ok mb0 [] rfl rfl ?zo ?zk
      case zo =>
        repeat' apply AllP.cons
        all_goals first | exact trivial | exact id | exact rfl | exact fun _ => rfl | exact Nat.le_of_ble_eq_true rfl | exact fun _ => Nat.le_of_ble_eq_true rfl | exact Int.natCast_nonneg _ | exact fun _ => Int.natCast_nonneg _ | exact in_t _ _ _ | exact (in_t _ _ _).un | exact gq_f | exact inrk j (by omega)
      case zk =>
      exact ⟨j + 1, hjl, by omega, ⟨.refl _, .refl _, trivial⟩, ⟨.of_eq (show A.bool true = A.bool (((ints L.l).length : Int) == ((ints L0.l).length : Int)) by rw [zL, z0, hlj, hy0]; simp), .refl _, trivial⟩, trivial, Nat.zero_le _⟩
    refine Aw.exit2 ?_
    refine Aw.em tab_ok mb0 [] rfl rfl ?zo ?zk
    case zo =>
      repeat' apply AllP.cons
      all_goals first | exact trivial | exact id | exact rfl | exact fun _ => rfl | exact Nat.le_of_ble_eq_true rfl | exact fun _ => Nat.le_of_ble_eq_true rfl | exact Int.natCast_nonneg _ | exact fun _ => Int.natCast_nonneg _ | exact in_t _ _ _ | exact (in_t _ _ _).un | exact gq_f | exact inrk k (by omega)
    case zk =>
    exact ⟨k + 1, hlt, by omega, ⟨.refl _, trivial⟩, ⟨.refl _, .refl _, trivial⟩, trivial, Nat.zero_le _⟩
  refine Aw.exit2 ?_
  refine Aw.sm tab_ok mb0 [] rfl rfl ?zo ?zk
  case zo =>
    repeat' apply AllP.cons
    all_goals first | exact trivial | exact id | exact rfl | exact fun _ => rfl | exact Nat.le_of_ble_eq_true rfl | exact fun _ => Nat.le_of_ble_eq_true rfl | exact Int.natCast_nonneg _ | exact fun _ => Int.natCast_nonneg _ | exact in_t _ _ _ | exact (in_t _ _ _).un | exact gq_f
  case zk =>
  exact Aw.ret ⟨_, .cons (.tmp _) .nil, rfl⟩
end Go.Proofs.Ytdiclbgklegelaa

namespace Go.Proofs.Ytdiclbgklegelaa
open Go Go.AL Go.AL.Q
theorem nms_ofL2 {D : Nat → Prop} : ∀ {l : List (Nat × A)}, (∀ p ∈ l, Nms D p.2) → ∀ t, Nms D (ofL l t)
  | [], _, t => .un
  | (i, x) :: l, h, t => by
    simp only [ofL, upd_apply]
    split
    · exact h (i, x) (List.mem_cons_self ..)
    · exact nms_ofL2 (fun p hp => h p (List.mem_cons_of_mem _ hp)) t
section
variable {X : Ctx} {φ : Names} {Z : Still} {st : St} {a : Act} {w : World} {cst : List (Nat × A)} {fc C row : List A} {n cap j : Nat}
theorem grown4 (hr : Rel X φ Z st a w) (hA : AllLe st.S cst) (hV : st.S 230 = .gs 4 (n + 1) cap) (h0 : st.H 0 = some (.cells fc)) (h4 : st.H 4 = some (.cells (C ++ row ++ List.replicate j .un))) (hc : st.c ≤ 12) :
    Rel X φ Z ⟨ofL2 cst [(230, .ms 4 0 (n + 1))], ofH [(0, .cells fc), (4, .cells (C ++ row))], 12⟩ a w :=
  hr.weaken (AllLe.le (l := (230, .ms 4 0 (n + 1)) :: cst) ⟨by rw [hV]; exact A.Le.ms _ _ _, hA⟩) (fun id bx hb => by
    simp only [ofH, updH_apply] at hb
    split at hb
    · rename_i e; subst e; cases hb; exact ⟨_, h0, .refl _⟩
    · split at hb
      · rename_i e; subst e; cases hb; exact ⟨_, h4, .fronts⟩
      · cases hb) hc
theorem grown11 (hr : Rel X φ Z st a w) (h0' : X.φ0 4 = none) (hcst : ∀ p ∈ cst, Nms (· ≠ 4) p.2) (hfc : ∀ x ∈ fc, Free x) (hC : ∀ x ∈ C ++ row, Free x) (hsp : ∀ x ∈ C ++ row, ∀ u, spareOf x u = none) (hA : AllLe st.S cst) (hV : st.S 230 = .gs 11 (n + 1) cap) (h0 : st.H 0 = some (.cells fc)) (h4 : st.H 11 = some (.cells (C ++ row ++ List.replicate j .un))) (hc : st.c = 12)
    (hA2 : AllLe (upd (ofL2 cst [(230, .gs 11 (n + 1) cap)]) 230 (.gs 4 (n + 1) cap)) cst) :
    ∃ φ2, Rel X φ2 Z ⟨ofL2 cst [(230, .ms 4 0 (n + 1))], ofH [(0, .cells fc), (4, .cells (C ++ row))], 12⟩ a w := by
  have h1 : Rel X φ Z ⟨ofL2 cst [(230, .gs 11 (n + 1) cap)], ofH [(11, .cells (C ++ row ++ List.replicate j .un)), (0, .cells fc)], 12⟩ a w :=
    hr.weaken (AllLe.le (l := (230, .gs 11 (n + 1) cap) :: cst) ⟨by rw [hV]; exact .refl _, hA⟩) (fun id bx hb => by
      simp only [ofH, updH_apply] at hb
      split at hb
      · rename_i e; subst e; cases hb; exact ⟨_, h4, .refl _⟩
      · split at hb
        · rename_i e; subst e; cases hb; exact ⟨_, h0, .refl _⟩
        · cases hb) (by omega)
  have hfree : ∀ x ∈ C ++ row ++ List.replicate j A.un, Free x := fun x hx => by
    rcases List.mem_append.1 hx with h | h
    · exact hC x h
    · rw [List.mem_replicate] at h; rw [h.2]; exact .un
  have h2 := h1.renameS (id1 := 11) (id2 := 4) (j := 230) rfl rfl (by decide) rfl h0' (show 4 < 12 by decide) (nms_ofL2 fun p hp => by
    rcases List.mem_append.1 hp with h | h
    · simp at h; subst h; exact .gs _ _ _ (by decide)
    · exact hcst p h) (fun id bx hb => by
      simp only [ofH, updH_apply] at hb
      split at hb
      · cases hb; exact .cells _ fun x hx => (hfree x hx).nms
      · split at hb
        · cases hb; exact .cells _ fun x hx => (hfc x hx).nms
        · cases hb) (fun v hv u => by
      rcases List.mem_append.1 hv with h | h
      · exact hsp v h u
      · rw [List.mem_replicate] at h; rw [h.2]; rfl)
  exact ⟨_, grown4 h2 hA2 rfl rfl rfl (Nat.le_refl _)⟩
end
theorem seg1 {cs : List A} {k : Nat} {v : A} (h : k < cs.length) : setSeg cs (0 + k * 1) [v] = cs.set k v := by
  rw [Nat.zero_add, Nat.mul_one, List.set_eq_take_append_cons_drop, if_pos h]; rfl
theorem zeros (n : Nat) : (((List.range (Int.toNat ((n : Nat) : Int) * 1)).map fun j => (tab.zr 3).getD (j % 1) .un).map A.down) = (List.replicate n (0 : Int)).map A.int := by
  rw [Nat.mul_one, Int.toNat_natCast, List.map_map]
  refine List.ext_getElem (by simp) fun i p q => ?_
  simp only [List.getElem_map, List.getElem_range, List.getElem_replicate]
  show ((tab.zr 3).getD (i % 1) .un).down = A.int 0
  rw [Nat.mod_one]; rfl
theorem rows1 (L : List Int) : RowsAre (L.map A.int) (ints L) 1 := ⟨ints_one L, by rw [ints_len, Nat.mul_one, List.length_map]; exact Nat.le_refl _, fun i j hi hj => by
  obtain rfl : j = 0 := by omega
  rw [ints_len] at hi
  simp [ints, List.getD_eq_getElem?_getD, hi]; rfl⟩
theorem NL.set_flat {l : List NL} {k : Nat} (h : k < l.length) (b : Bool) (v : List Int) : (l.map NL.c).flatten.set k (.sl b .any (ints v)) = ((l.set k ⟨b, v⟩).map NL.c).flatten := by
  have h1 := rows_set (c := NL.c) (sz := 1) (fun _ => rfl) (fun _ => rfl) h ⟨b, v⟩
  rw [flat_down (fun _ => rfl)] at h1
  have hl : (l.map NL.c).flatten.length = l.length := by rw [flat_len (sz := 1) fun y hy => by obtain ⟨z, _, rfl⟩ := List.mem_map.1 hy; rfl, List.length_map, Nat.mul_one]
  rw [← h1, show (NL.c ⟨b, v⟩) = [.sl b .any (ints v)] from rfl, seg1 (by omega)]
def upT (g : Int → Int) (l : List Int) (y : Nat) : List Int := (l.take y).map g
theorem upT_step {g : Int → Int} {l : List Int} {y : Nat} (h : y < l.length) : upT g l (y + 1) = upT g l y ++ [g (l.getD y 0)] := by
  unfold upT
  rw [List.take_succ_eq_append_getElem h, List.map_append]
  simp [List.getD_eq_getElem?_getD, h]
theorem upT_len {g : Int → Int} {l : List Int} {y : Nat} (hy : y ≤ l.length) : (upT g l y).length = y := by unfold upT; rw [List.length_map, List.length_take]; exact Nat.min_eq_left hy
theorem upT_all {g : Int → Int} {l : List Int} : upT g l l.length = l.map g := by simp [upT]
theorem grL_app {l : List Int} (x : Int) (h : l ≠ []) : grL 3 (l ++ [x]) = A.sl false (.own 3) (ints l ++ [[A.int x]]) := by
  rw [grL_cons (by simp)]; simp [ints]
def boxK (r : Rce) (g : Int → Int) (y : Nat) : B := .cells [.sl r.nn .any (ints r.numbers), grL 3 (upT g r.keep y), .sl r.sn .any (ints r.spawn), .int r.line, .int r.mesh]
theorem boxK_under (r : Rce) (g : Int → Int) (y : Nat) {n : Nat} : UnderB n (boxK r g y) := .cells _ (allC (free_ints _ _ _).under (allC (grL_under _) (allC (free_ints _ _ _).under (allC (.s _) (all1 (.s _))))))
def boxM (n : Nat) (y z : A) : B := .cells [.ms 6 0 n, y, z]
theorem boxM_under {n k : Nat} {y z : A} (hn : 7 ≤ n) (hy : Under n y) (hz : Under n z) : UnderB n (boxM k y z) := .cells _ (allC (.ms _ _ _ (by omega)) (allC hy (all1 hz)))
theorem cells_free {l : List A} (h : ∀ x ∈ l, Free x) {n : Nat} : UnderB n (.cells l) := .cells _ fun x hx => (h x hx).under
theorem flat_free {α : Type} {c : α → List A} (h : ∀ x, ∀ y ∈ c x, Free y) (l : List α) : ∀ y ∈ (l.map c).flatten, Free y := fun y hy => by
  obtain ⟨z, hz, hy⟩ := List.mem_flatten.1 hy
  obtain ⟨x, _, rfl⟩ := List.mem_map.1 hz
  exact h x y hy
def mostA (f : Fish) (r s : Nat) (m : Int) (k : Nat) : A := .sl (easeF f r s m k).mn .any (ints (easeF f r s m k).most)
def seasA (f : Fish) (r s : Nat) (m : Int) (k : Nat) : A := .sl (easeF f r s m k).sn .any ((easeF f r s m k).seasons.map NR.c)
theorem mostA_free (f : Fish) (r s : Nat) (m : Int) (k : Nat) : Free (mostA f r s m k) := free_ints _ _ _
theorem seasA_free (f : Fish) (r s : Nat) (m : Int) (k : Nat) : Free (seasA f r s m k) := free_map NR.free _ _ _
set_option maxRecDepth 100000 in
set_option maxHeartbeats 4000000 in
theorem more_l (f : Fish) (n0 n1 n2 n3 : Int) (hfit : f.Fit) : Ans Try.prog 15 [.agg f.c, .agg [.int n0, .int n1, .int n2, .int n3]] (.bool true) := by
  have c1 := quota_t f hfit
  have hn : ∀ x ∈ [A.int n0, A.int n1, A.int n2, A.int n3], Free x := allC (.s _) (allC (.s _) (allC (.s _) (all1 (.s _))))
  have un : ∀ {n : Nat}, Under n (A.pt [.int n0, .int n1, .int n2, .int n3]) := (Free.pt _ hn).under
  have uf : ∀ {n : Nat}, Under n (A.pt f.c) := (Free.pt _ f.free).under
  refine told Try.func15 rfl rfl (Pure.of tab_ok Try.func15 rfl Try.ntmps15 rfl (allC (.agg _ f.free) (all1 (.agg _ hn))) (allC (fun _ => rfl) (all1 (fun _ => rfl))) (by first | exact .s _ | assumption | exact .tup _ (by intro x hx; simp only [List.mem_cons, List.not_mem_nil, or_false] at hx; rcases hx with rfl | rfl | rfl | rfl <;> first | exact .s _ | (simp_all; done))) fun E hE => ?_)
  refine Aw.sm tab_ok mb0 [] rfl rfl ?zo ?zk
  case zo =>
    repeat' apply AllP.cons
    all_goals first | exact trivial
  case zk =>
  cases hok : f.ok with
  | false =>
    have e1 : f.quotaR = [.int 0, .int 93] := by unfold Q.Fish.quotaR; rw [hok]; rfl
    rw [e1] at c1
    refine Aw.sm tab_ok mb0 [(1, [.tup [.int 0, .int 93]])] rfl rfl ?zo ?zk
    case zo =>
      repeat' apply AllP.cons
      all_goals first | exact trivial | exact Nat.le_of_ble_eq_true rfl | exact c1
    case zk =>
    refine Aw.seq ?_
    refine Aw.sm tab_ok mb0 [(8, [.bool true])] rfl rfl ?zo ?zk
    case zo =>
      repeat' apply AllP.cons
      all_goals first | exact trivial | exact id | exact fun _ => rfl | exact fun _ => Nat.le_of_ble_eq_true rfl | exact gq_f | exact fun h => by cases h
    case zk =>
    refine Aw.cond rfl (fun h => ?_) (fun h => absurd h (by decide))
    refine Aw.sm tab_ok mb0 [(7, [.bool true])] rfl rfl ?zo ?zk
    case zo =>
      repeat' apply AllP.cons
      all_goals first | exact trivial | exact id | exact fun _ => rfl | exact fun _ => works_t
    case zk =>
    exact Aw.ret ⟨_, .cons (.tmp _) .nil, rfl⟩
  | true =>
  have hf := FishOk.of hok
  rw [quotaR_qe hf] at c1
  have hqe : quotaE f = 0 ∨ quotaE f = 4 := by unfold quotaE; split <;> simp
  have cf := fished_t f hfit hok
  have m1 := hf.m1
  have m3 := hf.m3
  have s1 := hf.s1
  have s6 := hf.s6
  have y1 := hf.y1
  have y10 := hf.y10
  have lr : ((f.races.map Rce.c).length : Int) = f.many := by simp [Fish.many]
  have ls : ((f.seasons.map NR.c).length : Int) = f.seasons.length := by simp
  obtain ⟨r, hr⟩ : ∃ r : Nat, n0 % (f.many : Int) = (r : Int) := ⟨(n0 % f.many).toNat, by have := Int.emod_nonneg n0 (show (f.many : Int) ≠ 0 by omega); omega⟩
  obtain ⟨s, hs⟩ : ∃ s : Nat, n1 % (f.seasons.length : Int) = (s : Int) := ⟨(n1 % f.seasons.length).toNat, by have := Int.emod_nonneg n1 (show (f.seasons.length : Int) ≠ 0 by omega); omega⟩
  have hrl : r < f.many := by have := Int.emod_lt_of_pos n0 (show (0 : Int) < f.many by omega); omega
  have hsl : s < f.seasons.length := by have := Int.emod_lt_of_pos n1 (show (0 : Int) < f.seasons.length by omega); omega
  have hm0 : 0 ≤ n2 % 100 ∧ n2 % 100 < 100 := by omega
  obtain ⟨k, hk⟩ : ∃ k : Nat, n3 % 4 = (k : Int) := ⟨(n3 % 4).toNat, by omega⟩
  have hk4 : k < 4 := by omega
  have x1 := eased_quota hf hrl hsl hm0.1 hk4
  have x2 := added_quota hf hrl hsl
  have x3 := (ease_ok hf hrl hsl hm0.1 hk4).1
  have x4 := fun h => (add_ok hf hrl hsl h).1
  have c2 := quota_t _ (fit_of x3)
  have c3 := fun h => quota_t _ (fit_of (x4 h))
  rw [quotaR_qe x3] at c2
  have c3 : ∀ h : f.seasons.length < 6, Ans Try.prog 27 [.agg (addF f r s).c] (.tup [.int (quotaQ (addF f r s)), .int (quotaE (addF f r s))]) := fun h => by have := c3 h; rwa [quotaR_qe (x4 h)] at this
  have cm0 : Ans Try.prog 35 [.int n0, .int ((f.races.map Rce.c).length : Int)] (.int r) := by rw [lr, ← hr]; exact mod_t n0 f.many (by omega) (by omega)
  have cm1 : Ans Try.prog 35 [.int n1, .int ((f.seasons.map NR.c).length : Int)] (.int s) := by rw [ls, ← hs]; exact mod_t n1 f.seasons.length (by omega) (by omega)
  have cm2 : Ans Try.prog 35 [.int n2, .int 100] (.int (n2 % 100)) := mod_t n2 100 (by omega) (by omega)
  have cm3 : Ans Try.prog 35 [.int n3, .int 4] (.int k) := by rw [← hk]; exact mod_t n3 4 (by omega) (by omega)
  generalize n2 % 100 = m at *
  generalize hq0 : quotaQ f = q at *
  generalize he0 : quotaE f = e at *
  generalize quotaQ (easeF f r s m k) = q2 at *
  generalize quotaE (easeF f r s m k) = e2 at *
  have gr := race_at f hrl
  have gs := seas_at f hsl
  have hsl2 := hf.sl s hsl
  have hyl := hf.rl s r hsl hrl
  have hone : ∀ w ∈ f.races.map Rce.c, w.length = 5 := fun w hw => by obtain ⟨m, _, rfl⟩ := List.mem_map.1 hw; rfl
  have hne : f.races.map Rce.c ≠ [] := fun h => by have := congrArg List.length h; rw [List.length_map] at this; have hl : f.races.length = f.many := rfl; simp at this; rw [this] at hl; simp at hl; omega
  have hll : (f.races.map Rce.c).length ≤ 3 := by rw [List.length_map]; exact m3
  refine Aw.sm tab_ok mb0 [(1, [.tup [.int q, .int e]])] rfl rfl ?zo ?zk
  case zo =>
    repeat' apply AllP.cons
    all_goals first | exact trivial | exact Nat.le_of_ble_eq_true rfl | exact c1
  case zk =>
  refine Aw.seq ?_
  refine Aw.sm tab_ok mb0 [(8, [.bool true])] rfl rfl ?zo ?zk
  case zo =>
    repeat' apply AllP.cons
    all_goals first | exact trivial | exact id | exact fun _ => rfl | exact fun _ => Nat.le_of_ble_eq_true rfl | exact gq_f | exact fun _ => cf
  case zk =>
  refine Aw.cond rfl (fun h => absurd h (by rcases hqe with rfl | rfl <;> decide)) (fun h => Aw.skip ?_)
  refine Aw.keep (n := 0) (cst := [(2, .pt f.c), (3, .pt [.int n0, .int n1, .int n2, .int n3]), (5, .int q), (6, .int e)]) (v := []) (Hl := []) hE ?zu ?zw ?zx ⟨?zc, ?zv, ?zh, Nat.le_of_ble_eq_true rfl⟩ ?zr
  case zu =>
    (repeat' (first | exact trivial | exact Under.s _ | exact (Free.pt _ (by assumption)).under | exact uf | (refine And.intro ?_ ?_)))
  case zw =>
    (repeat' (first | exact trivial))
  case zx =>
    (repeat' (first | exact trivial))
  case zc =>
    (repeat' (first | (refine And.intro ?_ ?_) | exact trivial | exact A.Le.refl _))
  case zv =>
    (repeat' (first | exact trivial))
  case zh =>
    (repeat' (first | exact trivial))
  case zr =>
  refine Aw.sd tab_ok mixed mb0 [(5, [.int r]), (11, [.int s])] rfl (by kernel_rfl) rfl rfl ?zo ?zk
  case zo =>
    repeat' apply AllP.cons
    all_goals first | exact trivial | exact Nat.le_of_ble_eq_true rfl | exact Int.natCast_nonneg _ | exact cm0 | exact cm1
  case zk =>
  refine Aw.keep (n := 0) (cst := [(2, .pt f.c), (3, .pt [.int n0, .int n1, .int n2, .int n3]), (5, .int q), (6, .int e), (7, .int r), (8, .int s)]) (v := []) (Hl := []) hE ?zu ?zw ?zx ⟨?zc, ?zv, ?zh, Nat.le_of_ble_eq_true rfl⟩ ?zr
  case zu =>
    (repeat' (first | exact trivial | exact Under.s _ | exact (Free.pt _ (by assumption)).under | exact uf | (refine And.intro ?_ ?_)))
  case zw =>
    (repeat' (first | exact trivial))
  case zx =>
    (repeat' (first | exact trivial))
  case zc =>
    (repeat' (first | (refine And.intro ?_ ?_) | exact trivial | exact A.Le.refl _))
  case zv =>
    (repeat' (first | exact trivial))
  case zh =>
    (repeat' (first | exact trivial))
  case zr =>
  refine Aw.sd tab_ok mixed mb0 [(3, [.int m])] rfl (by kernel_rfl) rfl rfl ?zo ?zk
  case zo =>
    repeat' apply AllP.cons
    all_goals first | exact trivial | exact rfl | exact Nat.le_of_ble_eq_true rfl | exact Int.natCast_nonneg _ | exact cm2
  case zk =>
  have h1e : ∀ id, 1 ≤ id → E.φ0 id = none := fun id _ => hE id (by omega)
  have h5e : ∀ id, 5 ≤ id → E.φ0 id = none := fun id _ => hE id (by omega)
  have ufb : ∀ {n : Nat}, UnderB n (.cells f.c) := .cells _ fun x hx => (f.free x hx).under
  refine Aw.keep (n := 5) (cst := [(2, .pt f.c), (3, .pt [.int n0, .int n1, .int n2, .int n3]), (5, .int q), (6, .int e), (7, .int r), (8, .int s), (9, .ref 4 0), (10, .int m)]) (v := []) (Hl := [(4, .cells f.c)]) h5e ?zu ?zw ?zx ⟨?zc, ?zv, ?zh, Nat.le_of_ble_eq_true rfl⟩ ?zr
  case zu =>
    (repeat' (first | exact trivial | exact Under.s _ | exact Under.ref _ _ (by decide) | exact (Free.pt _ (by assumption)).under | exact uf | (refine And.intro ?_ ?_)))
  case zw =>
    (repeat' (first | exact trivial))
  case zx =>
    (repeat' (first | exact trivial | exact Nat.le_of_ble_eq_true rfl | exact ufb | (refine And.intro ?_ ?_)))
  case zc =>
    (repeat' (first | (refine And.intro ?_ ?_) | exact trivial | exact A.Le.refl _))
  case zv =>
    (repeat' (first | exact trivial))
  case zh =>
    (repeat' (first | (refine And.intro ?_ ?_) | exact trivial | exact rfl))
  case zr =>
  refine Aw.sm tab_ok mb0 [(3, (f.race r).c)] rfl rfl ?zo ?zk
  case zo =>
    repeat' apply AllP.cons
    all_goals first | exact trivial | exact rfl | exact Nat.le_of_ble_eq_true rfl | exact Int.natCast_nonneg _ | exact gr
  case zk =>
  refine Aw.sm tab_ok mb0 [(3, [.ms 0 0 0])] rfl rfl ?zo ?zk
  case zo =>
    repeat' apply AllP.cons
    all_goals first | exact trivial | exact rfl | exact Nat.le_of_ble_eq_true rfl | exact hone | exact hne | exact (show (f.races.map Rce.c).length * 88 ≤ 140737488355328 by omega) | exact (show (f.races.map Rce.c).length ≤ maxLen by unfold maxLen; omega)
  case zk =>
  have h7e : ∀ id, 7 ≤ id → E.φ0 id = none := fun id _ => hE id (by omega)
  have umo : ∀ {n : Nat}, Under n (A.sl f.mn .any (ints f.most)) := (free_ints _ _ _).under
  have use : ∀ {n : Nat}, Under n (A.sl f.sn .any (f.seasons.map NR.c)) := (free_map NR.free _ _ _).under
  have urc : ∀ {n : Nat}, UnderB n (.cells (f.race r).c) := cells_free (f.race r).free
  have ura : ∀ {n : Nat}, UnderB n (.cells (f.races.map Rce.c).flatten) := cells_free (flat_free Rce.free _)
  have hfl : (f.races.map Rce.c).flatten.map A.down = (f.races.map Rce.c).flatten := flat_down (fun m => rfl) _
  refine Aw.keep (n := 7) (cst := [(2, .pt f.c), (3, .pt [.int n0, .int n1, .int n2, .int n3]), (5, .int q), (6, .int e), (7, .int r), (8, .int s), (9, .ref 4 0), (10, .int m), (11, .ref 5 0)]) (v := []) (Hl := [(4, boxM (f.races.map Rce.c).length (.sl f.mn .any (ints f.most)) (.sl f.sn .any (f.seasons.map NR.c))), (5, .cells (f.race r).c), (6, .cells (f.races.map Rce.c).flatten)]) h7e ?zu ?zw ?zx ⟨?zc, ?zv, ?zh, Nat.le_of_ble_eq_true rfl⟩ ?zr
  case zu =>
    (repeat' (first | exact trivial | exact Under.s _ | exact Under.ref _ _ (by decide) | exact (Free.pt _ (by assumption)).under | exact uf | (refine And.intro ?_ ?_)))
  case zw =>
    (repeat' (first | exact trivial))
  case zx =>
    (repeat' (first | exact trivial | exact Nat.le_of_ble_eq_true rfl | exact urc | exact ura | exact boxM_under (by decide) umo use | (refine And.intro ?_ ?_)))
  case zc =>
    (repeat' (first | (refine And.intro ?_ ?_) | exact trivial | exact A.Le.refl _))
  case zv =>
    (repeat' (first | exact trivial))
  case zh =>
    (repeat' (first | (refine And.intro ?_ ?_) | exact trivial | exact rfl | exact congrArg (fun x => some (B.cells x)) hfl))
  case zr =>
  refine Aw.join1 7 h7e [(2, .pt f.c), (3, .pt [.int n0, .int n1, .int n2, .int n3]), (5, .int q), (6, .int e), (7, .int r), (8, .int s), (9, .ref 4 0), (10, .int m), (11, .ref 5 0)] [] [(4, boxM (f.races.map Rce.c).length (mostA f r s m k) (seasA f r s m k)), (5, .cells (easeR k m (f.race r)).c), (6, .cells (f.races.map Rce.c).flatten)] ⟨uf, un, .s _, .s _, .s _, .s _, .ref _ _ (by decide), .s _, .ref _ _ (by decide), trivial⟩ trivial ⟨⟨by decide, boxM_under (by decide) (mostA_free _ _ _ _ _).under (seasA_free _ _ _ _ _).under⟩, ⟨by decide, cells_free (easeR k m (f.race r)).free⟩, ⟨by decide, ura⟩, trivial⟩ ?_ ?_
  · have gl : ((f.seasons.getD s ⟨false, []⟩).l.map NL.c)[r]? = some ((f.seasons.getD s ⟨false, []⟩).l.getD r ⟨false, []⟩).c := nl_at _ (by omega)
    have hrb := hf.rb s r hsl hrl
    have hR := hf.race r hrl
    have hmb := hf.mb r hrl
    have hml := hf.most
    clear x1 x2 x3 x4 c2 c3 c1 cf cm0 cm1 cm2
    match k, hk4 with
    | 0, _ =>
      have hrc : f.recs s r = ((f.seasons.getD s ⟨false, []⟩).l.getD r ⟨false, []⟩).l := rfl
      have hes : easeS f r s m = ⟨false, (f.seasons.getD s ⟨false, []⟩).l.set r ⟨false, (f.recs s r).map (easeUp 100000 m)⟩⟩ := rfl
      have hsA : seasA f r s m 0 = .sl false .any ((f.seasons.set s (easeS f r s m)).map NR.c) := rfl
      rw [hsA, hes]
      rw [hrc] at hyl hrb ⊢
      generalize (f.seasons.getD s ⟨false, []⟩).l.getD r ⟨false, []⟩ = L at *
      generalize f.seasons.getD s ⟨false, []⟩ = S at *
      have hfS : (f.seasons.map NR.c).flatten.map A.down = (f.seasons.map NR.c).flatten := flat_down (fun m => rfl) _
      have hn1 : ∀ w ∈ f.seasons.map NR.c, w.length = 1 := fun w hw => by obtain ⟨m, _, rfl⟩ := List.mem_map.1 hw; rfl
      have hne2 : f.seasons.map NR.c ≠ [] := fun h => by have := congrArg List.length h; rw [List.length_map] at this; simp at this; rw [this] at s1; simp at s1
      have hll2 : (f.seasons.map NR.c).length ≤ 6 := by rw [List.length_map]; exact s6
      have hfSl : (f.seasons.map NR.c).flatten.length = (f.seasons.map NR.c).length := by rw [flat_len hn1, Nat.mul_one]
      have hL1 : ∀ w ∈ S.l.map NL.c, w.length = 1 := fun w hw => by obtain ⟨m, _, rfl⟩ := List.mem_map.1 hw; rfl
      have hLn : S.l.map NL.c ≠ [] := fun h => by have := congrArg List.length h; rw [List.length_map] at this; simp at this; rw [this] at hsl2; simp at hsl2; omega
      have hLl : (S.l.map NL.c).length ≤ 3 := by rw [List.length_map]; omega
      have hfL : (S.l.map NL.c).flatten.map A.down = (S.l.map NL.c).flatten := flat_down (fun m => rfl) _
      have hfLl : (S.l.map NL.c).flatten.length = (S.l.map NL.c).length := by rw [flat_len hL1, Nat.mul_one]
      have zL := ints_lenI L.l
      have h8e : ∀ id, 8 ≤ id → E.φ0 id = none := fun id _ => hE id (by omega)
      have h9e : ∀ id, 9 ≤ id → E.φ0 id = none := fun id _ => hE id (by omega)
      have uM : ∀ {n : Nat}, 7 ≤ n → UnderB n (boxM (f.races.map Rce.c).length (.sl f.mn .any (ints f.most)) (.sl f.sn .any (f.seasons.map NR.c))) := fun h => boxM_under h umo use
      have uLC : ∀ {n : Nat}, UnderB n (.cells (S.l.map NL.c).flatten) := cells_free (flat_free NL.free _)
      have hsn : s < f.seasons.length := hsl
      have hset := rows_set (c := NR.c) (sz := 1) (fun _ => rfl) (fun _ => rfl) hsn ⟨false, S.l.set r ⟨false, L.l.map (easeUp 100000 m)⟩⟩
      rw [hfS] at hset
      have hset : some (B.cells (setSeg (f.seasons.map NR.c).flatten (0 + Int.toNat (s : Int) * 1) [A.sl false .any ((S.l.set r ⟨false, L.l.map (easeUp 100000 m)⟩).map NL.c)])) = some (B.cells ((f.seasons.set s ⟨false, S.l.set r ⟨false, L.l.map (easeUp 100000 m)⟩⟩).map NR.c).flatten) := by
        rw [Int.toNat_natCast]; exact congrArg (fun x => some (B.cells x)) hset
      refine Aw.postK (K' := Keep 9 [(2, .pt f.c), (3, .pt [.int n0, .int n1, .int n2, .int n3]), (5, .int q), (6, .int e), (7, .int r), (8, .int s), (9, .ref 4 0), (10, .int m), (11, .ref 5 0)] [] [(4, .cells [.ms 6 0 (f.races.map Rce.c).length, .sl f.mn .any (ints f.most), .ms 8 0 (f.seasons.map NR.c).length]), (5, .cells (f.race r).c), (6, .cells (f.races.map Rce.c).flatten), (8, .cells ((f.seasons.set s ⟨false, S.l.set r ⟨false, L.l.map (easeUp 100000 m)⟩⟩).map NR.c).flatten)]) ?_ fun s1 hk1 φ Z a w hr => ?_
      rotate_left
      · obtain ⟨Z', h⟩ := (hr.keepW hk1).freezeC (id := 8) (id2 := 4) (j := 2) (n := (f.seasons.map NR.c).length) (sz := 1) ((f.seasons.set s ⟨false, S.l.set r ⟨false, L.l.map (easeUp 100000 m)⟩⟩).map NR.c) rfl rfl (by decide) (Nat.le_of_ble_eq_true rfl) rfl (rows_all (c := NR.c) (sz := 1) (fun m => rfl) (fun m => rfl) _) (by simp)
        have := hk1.c
        exact ⟨_, φ, Z', ⟨⟨.refl _, .refl _, .refl _, .refl _, .refl _, .refl _, .refl _, .refl _, .refl _, trivial⟩, trivial, ⟨rfl, rfl, rfl, trivial⟩, by show 7 ≤ s1.c; omega⟩, h⟩
      refine Aw.sm tab_ok mb0 [(2, [.int (0 : Nat)])] rfl rfl ?zo ?zk
      case zo =>
        repeat' apply AllP.cons
        all_goals first | exact trivial | exact Nat.le_of_ble_eq_true rfl | exact Int.natCast_nonneg _ | exact cm3
      case zk =>
      refine Aw.block ?_
      refine Aw.sm tab_ok mb0 [] rfl rfl ?zo ?zk
      case zo =>
        repeat' apply AllP.cons
        all_goals first | exact trivial
      case zk =>
      refine Aw.cond rfl (fun _ => ?_) (fun h => absurd h (by decide))
      refine Aw.sm tab_ok mb0 [(4, S.c), (6, [.ms 0 0 0])] rfl rfl ?zo ?zk
      case zo =>
        repeat' apply AllP.cons
        all_goals first | exact trivial | exact rfl | exact Nat.le_of_ble_eq_true rfl | exact Int.natCast_nonneg _ | exact gs | exact hL1 | exact hLn | exact (show (S.l.map NL.c).length * 24 ≤ 140737488355328 by omega) | exact (show (S.l.map NL.c).length ≤ maxLen by unfold maxLen; omega)
      case zk =>
      refine Aw.keep (n := 8) (cst := [(2, .pt f.c), (3, .pt [.int n0, .int n1, .int n2, .int n3]), (5, .int q), (6, .int e), (7, .int r), (8, .int s), (9, .ref 4 0), (10, .int m), (11, .ref 5 0), (12, .ms 7 0 (S.l.map NL.c).length)]) (v := []) (Hl := [(4, boxM (f.races.map Rce.c).length (.sl f.mn .any (ints f.most)) (.sl f.sn .any (f.seasons.map NR.c))), (5, .cells (f.race r).c), (6, .cells (f.races.map Rce.c).flatten), (7, .cells (S.l.map NL.c).flatten)]) h8e ?zu ?zw ?zx ⟨?zc, ?zv, ?zh, Nat.le_of_ble_eq_true rfl⟩ ?zr
      case zu =>
        (repeat' (first | exact trivial | exact Under.s _ | exact Under.ref _ _ (by decide) | exact Under.ms _ _ _ (by decide) | exact (Free.pt _ (by assumption)).under | exact uf | (refine And.intro ?_ ?_)))
      case zw =>
        (repeat' (first | exact trivial))
      case zx =>
        (repeat' (first | exact trivial | exact Nat.le_of_ble_eq_true rfl | exact uM (by decide) | exact urc | exact ura | exact uLC | (refine And.intro ?_ ?_)))
      case zc =>
        (repeat' (first | (refine And.intro ?_ ?_) | exact trivial | exact A.Le.refl _))
      case zv =>
        (repeat' (first | exact trivial))
      case zh =>
        (repeat' (first | (refine And.intro ?_ ?_) | exact trivial | exact rfl | exact congrArg (fun x => some (B.cells x)) hfL))
      case zr =>
      refine Aw.sm tab_ok mb0 [] rfl rfl ?zo ?zk
      case zo =>
        repeat' apply AllP.cons
        all_goals first | exact trivial
      case zk =>
      refine Aw.seq ?_
      refine Aw.sm tab_ok mb0 [] rfl rfl ?zo ?zk
      case zo =>
        repeat' apply AllP.cons
        all_goals first | exact trivial
      case zk =>
      refine Aw.block (Aw.rounds 8 h8e [(2, .pt f.c), (3, .pt [.int n0, .int n1, .int n2, .int n3]), (5, .int q), (6, .int e), (7, .int r), (8, .int s), (9, .ref 4 0), (10, .int m), (11, .ref 5 0), (12, .ms 7 0 (S.l.map NL.c).length)] (fun y : Nat => [(13, grL 3 (upT (easeUp 100000 m) L.l y)), (14, .int y)]) (fun y => [(4, boxM (f.races.map Rce.c).length (.sl f.mn .any (ints f.most)) (.sl f.sn .any (f.seasons.map NR.c))), (5, .cells (f.race r).c), (6, .cells (f.races.map Rce.c).flatten), (7, .cells (S.l.map NL.c).flatten)]) (fun y => y ≤ L.l.length) (fun y => L.l.length - y) 0 ?zg ⟨?zc, ?zv, ?zh, Nat.le_of_ble_eq_true rfl⟩ ?zu (fun y zhk => ?zw) (fun y zhk => ?zx) fun y hk => ?zr)
      case zg =>
        (repeat' (first | exact Nat.zero_le _))
      case zc =>
        (repeat' (first | (refine And.intro ?_ ?_) | exact trivial | exact A.Le.refl _))
      case zv =>
        (repeat' (first | (refine And.intro ?_ ?_) | exact trivial | exact A.Le.refl _))
      case zh =>
        (repeat' (first | (refine And.intro ?_ ?_) | exact trivial | exact rfl))
      case zu =>
        (repeat' (first | exact trivial | exact Under.s _ | exact Under.ref _ _ (by decide) | exact Under.ms _ _ _ (by decide) | exact (Free.pt _ (by assumption)).under | exact uf | (refine And.intro ?_ ?_)))
      case zw =>
        (repeat' (first | exact trivial | exact Under.s _ | exact grL_under _ | (refine And.intro ?_ ?_)))
      case zx =>
        (repeat' (first | exact trivial | exact Nat.le_of_ble_eq_true rfl | exact uM (by decide) | exact urc | exact ura | exact uLC | (refine And.intro ?_ ?_)))
      case zr =>
      refine Aw.seq ?_
      refine Aw.sm tab_ok mb0 [(4, S.c), (7, L.c)] rfl rfl ?zo ?zk
      case zo =>
        repeat' apply AllP.cons
        all_goals first | exact trivial | exact rfl | exact Nat.le_of_ble_eq_true rfl | exact Int.natCast_nonneg _ | exact gs | exact gl
      case zk =>
      refine Aw.cond rfl (fun h1 => Aw.skip1 ?_) (fun h1 => ?_)
      · have hlt : y < L.l.length := by
          have := of_decide_eq_true (show decide ((y : Int) < ((ints L.l).length : Int)) = true from h1); omega
        have gk := ints_getD hlt
        have hbd := getD_all hrb hlt
        have hst := upT_step (g := easeUp 100000 m) hlt
        have hlen := upT_len (g := easeUp 100000 m) (l := L.l) (y := y) (by omega)
        refine Aw.seq (Aw.block ?_)
        by_cases hz : y = 0
        · subst hz
          refine Aw.em tab_ok mb0 [(4, S.c), (7, L.c), (10, [.int (L.l.getD 0 0)])] rfl rfl ?zo ?zk
          case zo =>
            repeat' apply AllP.cons
            all_goals first | exact trivial | exact rfl | exact Nat.le_of_ble_eq_true rfl | exact Int.natCast_nonneg _ | exact gs | exact gl | exact gk | exact (show ∀ z ∈ [] ++ [[A.int _]], z.length = 1 from fun z hz => by simp at hz; subst hz; rfl) | exact (by simp only [Ob.of, inR]; omega)
          case zk =>
          refine Aw.em tab_ok mb0 [] rfl rfl ?zo ?zk
          case zo =>
            repeat' apply AllP.cons
            all_goals first | exact trivial | exact inrk 0 (by omega)
          case zk =>
          refine ⟨0 + 1, ?zg, ?zm, ⟨?zc, ?zv, ?zh, Nat.le_of_ble_eq_true rfl⟩⟩
          case zg =>
            (repeat' (first | assumption))
          case zm =>
            (repeat' (first | omega))
          case zc =>
            (repeat' (first | (refine And.intro ?_ ?_) | exact trivial | exact A.Le.refl _))
          case zv =>
            (repeat' (first | (refine And.intro ?_ ?_) | exact trivial | exact A.Le.refl _ | exact .of_eq (by rw [hst]; rfl)))
          case zh =>
            (repeat' (first | (refine And.intro ?_ ?_) | exact trivial | exact rfl))
        · have hne : upT (easeUp 100000 m) L.l y ≠ [] := fun h => by rw [h] at hlen; simp at hlen; omega
          have hzz := ints_one (upT (easeUp 100000 m) L.l y)
          have hlen2 := ints_len (upT (easeUp 100000 m) L.l y)
          rw [grL_cons hne]
          refine Aw.em tab_ok mb0 [(4, S.c), (7, L.c), (10, [.int (L.l.getD y 0)])] rfl rfl ?zo ?zk
          case zo =>
            repeat' apply AllP.cons
            all_goals first | exact trivial | exact rfl | exact Nat.le_of_ble_eq_true rfl | exact Int.natCast_nonneg _ | exact gs | exact gl | exact gk | exact (show ∀ z ∈ [[A.int _]], z.length = 1 from fun z hz => by simp at hz; subst hz; rfl) | exact hzz | exact (show ((ints (upT (easeUp 100000 m) L.l y)).length + 1) * 8 ≤ 140737488355328 by omega) | exact (show (ints (upT (easeUp 100000 m) L.l y)).length + 1 ≤ maxLen by unfold maxLen; omega) | exact (by simp only [Ob.of, inR]; omega)
          case zk =>
          refine Aw.em tab_ok mb0 [] rfl rfl ?zo ?zk
          case zo =>
            repeat' apply AllP.cons
            all_goals first | exact trivial | exact inrk y (by omega)
          case zk =>
          refine ⟨y + 1, ?zg, ?zm, ⟨?zc, ?zv, ?zh, Nat.le_of_ble_eq_true rfl⟩⟩
          case zg =>
            (repeat' (first | assumption))
          case zm =>
            (repeat' (first | omega))
          case zc =>
            (repeat' (first | (refine And.intro ?_ ?_) | exact trivial | exact A.Le.refl _))
          case zv =>
            (repeat' (first | (refine And.intro ?_ ?_) | exact trivial | exact A.Le.refl _ | exact .of_eq (by rw [hst]; exact grL_app _ hne)))
          case zh =>
            (repeat' (first | (refine And.intro ?_ ?_) | exact trivial | exact rfl))
      have hke : y = L.l.length := by
        have := of_decide_eq_false (show decide ((y : Int) < ((ints L.l).length : Int)) = false from h1); omega
      subst hke
      rw [upT_all]
      have hne : L.l.map (easeUp 100000 m) ≠ [] := fun h => by have := congrArg List.length h; rw [List.length_map] at this; simp at this; rw [this] at hyl; simp at hyl; omega
      rw [grL_cons hne]
      refine Aw.exit2 ?_
      have hSn : r < S.l.length := by omega
      generalize L.l.map (easeUp 100000 m) = U at *
      have q7 : (r : Int) < ((S.l.map NL.c).length : Int) := by rw [List.length_map]; omega
      have q8 : 0 + Int.toNat (r : Int) * 1 + 1 ≤ (S.l.map NL.c).flatten.length := by rw [hfLl, List.length_map, Int.toNat_natCast]; omega
      have hb7 : some (B.cells (setSeg (S.l.map NL.c).flatten (0 + Int.toNat (r : Int) * 1) [.sl false .any (ints U)])) = some (B.cells ((S.l.map NL.c).flatten.set r (.sl false .any (ints U)))) := by
        rw [Int.toNat_natCast, seg1 (by rw [hfLl, List.length_map]; omega)]
      refine Aw.sm tab_ok mb0 [] rfl rfl ?zo ?zk
      case zo =>
        repeat' apply AllP.cons
        all_goals first | exact trivial | exact rfl | exact Int.natCast_nonneg _ | exact q7 | exact q8
      case zk =>
      have u7 : ∀ {n : Nat}, UnderB n (.cells ((S.l.map NL.c).flatten.set r (.sl false .any (ints U)))) := .cells _ fun x hx => by
        rcases List.mem_or_eq_of_mem_set hx with h' | rfl
        · exact (flat_free NL.free _ x h').under
        · exact (free_ints _ _ _).under
      refine Aw.keep (n := 8) (cst := [(2, .pt f.c), (3, .pt [.int n0, .int n1, .int n2, .int n3]), (5, .int q), (6, .int e), (7, .int r), (8, .int s), (9, .ref 4 0), (10, .int m), (11, .ref 5 0), (12, .ms 7 0 (S.l.map NL.c).length)]) (v := []) (Hl := [(4, boxM (f.races.map Rce.c).length (.sl f.mn .any (ints f.most)) (.sl f.sn .any (f.seasons.map NR.c))), (5, .cells (f.race r).c), (6, .cells (f.races.map Rce.c).flatten), (7, .cells ((S.l.map NL.c).flatten.set r (.sl false .any (ints U))))]) h8e ?zu ?zw ?zx ⟨?zc, ?zv, ?zh, Nat.le_of_ble_eq_true rfl⟩ ?zr
      case zu =>
        (repeat' (first | exact trivial | exact Under.s _ | exact Under.ref _ _ (by decide) | exact Under.ms _ _ _ (by decide) | exact (Free.pt _ (by assumption)).under | exact uf | (refine And.intro ?_ ?_)))
      case zw =>
        (repeat' (first | exact trivial))
      case zx =>
        (repeat' (first | exact trivial | exact Nat.le_of_ble_eq_true rfl | exact uM (by decide) | exact urc | exact ura | exact u7 | (refine And.intro ?_ ?_)))
      case zc =>
        (repeat' (first | (refine And.intro ?_ ?_) | exact trivial | exact A.Le.refl _))
      case zv =>
        (repeat' (first | exact trivial))
      case zh =>
        (repeat' (first | (refine And.intro ?_ ?_) | exact trivial | exact rfl | exact hb7))
      case zr =>
      have hra := rows_all (c := NL.c) (sz := 1) (fun m => rfl) (fun m => rfl) (S.l.set r ⟨false, U⟩)
      rw [← NL.set_flat hSn] at hra
      refine Aw.freezeS (id := 7) (t := 12) (n := (S.l.map NL.c).length) (sz := 1) (cs := (S.l.map NL.c).flatten.set r (.sl false .any (ints U))) ((S.l.set r ⟨false, U⟩).map NL.c) rfl rfl hra (by simp) ?_
      have urow : ∀ {n : Nat}, Under n (A.sl false .any ((S.l.set r ⟨false, U⟩).map NL.c)) := (free_map NL.free _ _ _).under
      refine Aw.keep (n := 8) (cst := [(2, .pt f.c), (3, .pt [.int n0, .int n1, .int n2, .int n3]), (5, .int q), (6, .int e), (7, .int r), (8, .int s), (9, .ref 4 0), (10, .int m), (11, .ref 5 0), (12, .sl false .any ((S.l.set r ⟨false, U⟩).map NL.c))]) (v := []) (Hl := [(4, boxM (f.races.map Rce.c).length (.sl f.mn .any (ints f.most)) (.sl f.sn .any (f.seasons.map NR.c))), (5, .cells (f.race r).c), (6, .cells (f.races.map Rce.c).flatten)]) h8e ?zu ?zw ?zx ⟨?zc, ?zv, ?zh, Nat.le_of_ble_eq_true rfl⟩ ?zr
      case zu =>
        (repeat' (first | exact trivial | exact Under.s _ | exact Under.ref _ _ (by decide) | exact (Free.pt _ (by assumption)).under | exact uf | exact urow | (refine And.intro ?_ ?_)))
      case zw =>
        (repeat' (first | exact trivial))
      case zx =>
        (repeat' (first | exact trivial | exact Nat.le_of_ble_eq_true rfl | exact uM (by decide) | exact urc | exact ura | (refine And.intro ?_ ?_)))
      case zc =>
        (repeat' (first | (refine And.intro ?_ ?_) | exact trivial | exact A.Le.refl _))
      case zv =>
        (repeat' (first | exact trivial))
      case zh =>
        (repeat' (first | (refine And.intro ?_ ?_) | exact trivial | exact rfl))
      case zr =>
      refine Aw.sm tab_ok mb0 [(3, [.ms 0 0 0])] rfl rfl ?zo ?zk
      case zo =>
        repeat' apply AllP.cons
        all_goals first | exact trivial | exact rfl | exact Nat.le_of_ble_eq_true rfl | exact hn1 | exact hne2 | exact (show (f.seasons.map NR.c).length * 24 ≤ 140737488355328 by omega) | exact (show (f.seasons.map NR.c).length ≤ maxLen by unfold maxLen; omega)
      case zk =>
      have uM2 : ∀ {n : Nat}, 9 ≤ n → UnderB n (.cells [.ms 6 0 (f.races.map Rce.c).length, .sl f.mn .any (ints f.most), .ms 8 0 (f.seasons.map NR.c).length]) := fun h => .cells _ (allC (.ms _ _ _ (by omega)) (allC umo (all1 (.ms _ _ _ (by omega)))))
      have uSC : ∀ {n : Nat}, UnderB n (.cells (f.seasons.map NR.c).flatten) := cells_free (flat_free NR.free _)
      refine Aw.keep (n := 9) (cst := [(2, .pt f.c), (3, .pt [.int n0, .int n1, .int n2, .int n3]), (5, .int q), (6, .int e), (7, .int r), (8, .int s), (9, .ref 4 0), (10, .int m), (11, .ref 5 0), (12, .sl false .any ((S.l.set r ⟨false, U⟩).map NL.c))]) (v := []) (Hl := [(4, .cells [.ms 6 0 (f.races.map Rce.c).length, .sl f.mn .any (ints f.most), .ms 8 0 (f.seasons.map NR.c).length]), (5, .cells (f.race r).c), (6, .cells (f.races.map Rce.c).flatten), (8, .cells (f.seasons.map NR.c).flatten)]) h9e ?zu ?zw ?zx ⟨?zc, ?zv, ?zh, Nat.le_of_ble_eq_true rfl⟩ ?zr
      case zu =>
        (repeat' (first | exact trivial | exact Under.s _ | exact Under.ref _ _ (by decide) | exact (Free.pt _ (by assumption)).under | exact uf | exact urow | (refine And.intro ?_ ?_)))
      case zw =>
        (repeat' (first | exact trivial))
      case zx =>
        (repeat' (first | exact trivial | exact Nat.le_of_ble_eq_true rfl | exact uM2 (by decide) | exact urc | exact ura | exact uSC | (refine And.intro ?_ ?_)))
      case zc =>
        (repeat' (first | (refine And.intro ?_ ?_) | exact trivial | exact A.Le.refl _))
      case zv =>
        (repeat' (first | exact trivial))
      case zh =>
        (repeat' (first | (refine And.intro ?_ ?_) | exact trivial | exact rfl | exact congrArg (fun x => some (B.cells x)) hfS))
      case zr =>
      have q9 : (s : Int) < ((f.seasons.map NR.c).length : Int) := by rw [List.length_map]; omega
      have q10 : 0 + Int.toNat (s : Int) * 1 + 1 ≤ (f.seasons.map NR.c).flatten.length := by rw [hfSl, List.length_map, Int.toNat_natCast]; omega
      refine Aw.em tab_ok mb0 [] rfl rfl ?zo ?zk
      case zo =>
        repeat' apply AllP.cons
        all_goals first | exact trivial | exact rfl | exact Nat.le_of_ble_eq_true rfl | exact Int.natCast_nonneg _ | exact q9 | exact q10
      case zk =>
      exact ⟨⟨.refl _, .refl _, .refl _, .refl _, .refl _, .refl _, .refl _, .refl _, .refl _, trivial⟩, trivial, ⟨rfl, rfl, rfl, hset, trivial⟩, Nat.le_of_ble_eq_true rfl⟩
    | 1, _ =>
      refine Aw.sm tab_ok mb0 [(2, [.int (1 : Nat)])] rfl rfl ?zo ?zk
      case zo =>
        repeat' apply AllP.cons
        all_goals first | exact trivial | exact Nat.le_of_ble_eq_true rfl | exact Int.natCast_nonneg _ | exact cm3
      case zk =>
      refine Aw.block ?_
      refine Aw.sm tab_ok mb0 [] rfl rfl ?zo ?zk
      case zo =>
        repeat' apply AllP.cons
        all_goals first | exact trivial
      case zk =>
      refine Aw.cond rfl (fun h => absurd h (by decide)) (fun _ => ?_)
      refine Aw.sm tab_ok mb0 [] rfl rfl ?zo ?zk
      case zo =>
        repeat' apply AllP.cons
        all_goals first | exact trivial
      case zk =>
      refine Aw.cond rfl (fun _ => ?_) (fun h => absurd h (by decide))
      have hl := hR.l
      refine Aw.em tab_ok mb0 [] rfl rfl ?zo ?zk
      case zo =>
        repeat' apply AllP.cons
        all_goals first | exact trivial | exact rfl | exact Nat.le_of_ble_eq_true rfl | exact (by simp only [Ob.of, inR]; omega)
      case zk =>
      exact ⟨⟨.refl _, .refl _, .refl _, .refl _, .refl _, .refl _, .refl _, .refl _, .refl _, trivial⟩, trivial, ⟨rfl, rfl, rfl, trivial⟩, Nat.le_of_ble_eq_true rfl⟩
    | 2, _ =>
      have hkl := hR.k
      have hkm : (f.race r).many ≤ 6 := hR.m6
      have hk1 := hR.m1
      have hkb := hR.kb
      have hKx : (easeR 2 m (f.race r)).c = [.sl (f.race r).nn .any (ints (f.race r).numbers), .sl false .any (ints (upT (easeUp 1000 m) (f.race r).keep (f.race r).keep.length)), .sl (f.race r).sn .any (ints (f.race r).spawn), .int (f.race r).line, .int (f.race r).mesh] := by
        rw [upT_all]; rfl
      rw [hKx]
      refine Aw.postK (K' := Keep 7 [(2, .pt f.c), (3, .pt [.int n0, .int n1, .int n2, .int n3]), (5, .int q), (6, .int e), (7, .int r), (8, .int s), (9, .ref 4 0), (10, .int m), (11, .ref 5 0)] [] [(4, boxM (f.races.map Rce.c).length (.sl f.mn .any (ints f.most)) (.sl f.sn .any (f.seasons.map NR.c))), (5, boxK (f.race r) (easeUp 1000 m) (f.race r).keep.length), (6, .cells (f.races.map Rce.c).flatten)]) ?_ fun s1 hk1 φ Z a w hr => ?_
      rotate_left
      · have h := hr.keepW hk1
        have hne : upT (easeUp 1000 m) (f.race r).keep (f.race r).keep.length ≠ [] := fun h => by have := congrArg List.length h; rw [upT_len (Nat.le_refl _)] at this; simp at this; rw [this] at hkl; simp at hkl; omega
        unfold boxK at h
        rw [grL_cons hne] at h
        refine ⟨_, φ, Z, ?_, h.weaken (S' := _) (H' := ofH [(4, boxM (f.races.map Rce.c).length (.sl f.mn .any (ints f.most)) (.sl f.sn .any (f.seasons.map NR.c))), (5, .cells [.sl (f.race r).nn .any (ints (f.race r).numbers), .sl false .any (ints (upT (easeUp 1000 m) (f.race r).keep (f.race r).keep.length)), .sl (f.race r).sn .any (ints (f.race r).spawn), .int (f.race r).line, .int (f.race r).mesh]), (6, .cells (f.races.map Rce.c).flatten)]) (fun _ => .refl _) (fun id bx hb => ?_) (Nat.le_refl _)⟩
        · exact ⟨⟨.refl _, .refl _, .refl _, .refl _, .refl _, .refl _, .refl _, .refl _, .refl _, trivial⟩, trivial, ⟨rfl, rfl, rfl, trivial⟩, hk1.c⟩
        simp only [ofH, updH_apply] at hb
        split at hb
        · rename_i e; subst e; cases hb; exact ⟨_, rfl, .refl _⟩
        · split at hb
          · rename_i e; subst e; cases hb
            exact ⟨_, rfl, .cells (.cons (.refl _) (.cons (.any _ _ _) (LeL.refl _)))⟩
          · split at hb
            · rename_i e; subst e; cases hb; exact ⟨_, rfl, .refl _⟩
            · cases hb
      refine Aw.sm tab_ok mb0 [(2, [.int (2 : Nat)])] rfl rfl ?zo ?zk
      case zo =>
        repeat' apply AllP.cons
        all_goals first | exact trivial | exact Nat.le_of_ble_eq_true rfl | exact Int.natCast_nonneg _ | exact cm3
      case zk =>
      refine Aw.block ?_
      refine Aw.sm tab_ok mb0 [] rfl rfl ?zo ?zk
      case zo =>
        repeat' apply AllP.cons
        all_goals first | exact trivial
      case zk =>
      refine Aw.cond rfl (fun h => absurd h (by decide)) (fun _ => ?_)
      refine Aw.sm tab_ok mb0 [] rfl rfl ?zo ?zk
      case zo =>
        repeat' apply AllP.cons
        all_goals first | exact trivial
      case zk =>
      refine Aw.cond rfl (fun h => absurd h (by decide)) (fun _ => ?_)
      refine Aw.sm tab_ok mb0 [] rfl rfl ?zo ?zk
      case zo =>
        repeat' apply AllP.cons
        all_goals first | exact trivial
      case zk =>
      refine Aw.cond rfl (fun _ => ?_) (fun h => absurd h (by decide))
      refine Aw.sm tab_ok mb0 [] rfl rfl ?zo ?zk
      case zo =>
        repeat' apply AllP.cons
        all_goals first | exact trivial | exact rfl | exact Nat.le_of_ble_eq_true rfl
      case zk =>
      refine Aw.sm tab_ok mb0 [] rfl rfl ?zo ?zk
      case zo =>
        repeat' apply AllP.cons
        all_goals first | exact trivial
      case zk =>
      have uK : ∀ {n y : Nat}, UnderB n (boxK (f.race r) (easeUp 1000 m) y) := boxK_under _ _ _
      have uM : ∀ {n : Nat}, 7 ≤ n → UnderB n (boxM (f.races.map Rce.c).length (.sl f.mn .any (ints f.most)) (.sl f.sn .any (f.seasons.map NR.c))) := fun h => boxM_under h umo use
      refine Aw.block (Aw.rounds 7 h7e [(2, .pt f.c), (3, .pt [.int n0, .int n1, .int n2, .int n3]), (5, .int q), (6, .int e), (7, .int r), (8, .int s), (9, .ref 4 0), (10, .int m), (11, .ref 5 0)] (fun y : Nat => [(15, .int y)]) (fun y => [(4, boxM (f.races.map Rce.c).length (.sl f.mn .any (ints f.most)) (.sl f.sn .any (f.seasons.map NR.c))), (5, boxK (f.race r) (easeUp 1000 m) y), (6, .cells (f.races.map Rce.c).flatten)]) (fun y => y ≤ (f.race r).keep.length) (fun y => (f.race r).keep.length - y) 0 ?zg ⟨?zc, ?zv, ?zh, Nat.le_of_ble_eq_true rfl⟩ ?zu (fun y zhk => ?zw) (fun y zhk => ?zx) fun y hk => ?zr)
      case zg =>
        (repeat' (first | exact Nat.zero_le _))
      case zc =>
        (repeat' (first | (refine And.intro ?_ ?_) | exact trivial | exact A.Le.refl _))
      case zv =>
        (repeat' (first | (refine And.intro ?_ ?_) | exact trivial | exact A.Le.refl _))
      case zh =>
        (repeat' (first | (refine And.intro ?_ ?_) | exact trivial | exact rfl))
      case zu =>
        (repeat' (first | exact trivial | exact Under.s _ | exact Under.ref _ _ (by decide) | exact (Free.pt _ (by assumption)).under | exact uf | (refine And.intro ?_ ?_)))
      case zw =>
        (repeat' (first | exact trivial | exact Under.s _ | (refine And.intro ?_ ?_)))
      case zx =>
        (repeat' (first | exact trivial | exact Nat.le_of_ble_eq_true rfl | exact uK | exact uM (by decide) | exact ura | (refine And.intro ?_ ?_)))
      case zr =>
      refine Aw.seq ?_
      refine Aw.sm tab_ok mb0 [(4, (f.race r).c)] rfl rfl ?zo ?zk
      case zo =>
        repeat' apply AllP.cons
        all_goals first | exact trivial | exact rfl | exact Nat.le_of_ble_eq_true rfl | exact Int.natCast_nonneg _ | exact gr
      case zk =>
      have zK := ints_lenI (f.race r).keep
      refine Aw.cond rfl (fun h1 => Aw.skip1 ?_) (fun h1 => ?_)
      rotate_left
      · have hke : y = (f.race r).keep.length := by
          have := of_decide_eq_false (show decide ((y : Int) < ((ints (f.race r).keep).length : Int)) = false from h1); omega
        subst hke
        refine Aw.exit2 ?_
        exact ⟨⟨.refl _, .refl _, .refl _, .refl _, .refl _, .refl _, .refl _, .refl _, .refl _, trivial⟩, trivial, ⟨rfl, rfl, rfl, trivial⟩, Nat.le_of_ble_eq_true rfl⟩
      have hlt : y < (f.race r).keep.length := by
        have := of_decide_eq_true (show decide ((y : Int) < ((ints (f.race r).keep).length : Int)) = true from h1); omega
      have gk := ints_getD hlt
      have hbd := hkb y (by omega)
      have hst := upT_step (g := easeUp 1000 m) hlt
      have hlen := upT_len (g := easeUp 1000 m) (l := (f.race r).keep) (y := y) (by omega)
      have hix : (f.races.map Rce.c)[r]? = some (f.race r).c := gr
      refine Aw.seq (Aw.block ?_)
      by_cases hz : y = 0
      · subst hz
        refine Aw.ed tab_ok mixed mb0 [(5, (f.race r).c), (9, [.int ((f.race r).keep.getD 0 0)])] rfl (by kernel_rfl) rfl rfl ?zo ?zk
        case zo =>
          repeat' apply AllP.cons
          all_goals first | exact trivial | exact rfl | exact Nat.le_of_ble_eq_true rfl | exact Int.natCast_nonneg _ | exact gr | exact gk | exact (show ∀ z ∈ [] ++ [[A.int _]], z.length = 1 from fun z hz => by simp at hz; subst hz; rfl) | exact (by simp only [Ob.of, inR]; omega)
        case zk =>
        refine Aw.em tab_ok mb0 [] rfl rfl ?zo ?zk
        case zo =>
          repeat' apply AllP.cons
          all_goals first | exact trivial | exact inrk 0 (by omega)
        case zk =>
        have hb1 : some (boxK (f.race r) (easeUp 1000 m) (0 + 1)) = some (.cells [.sl (f.race r).nn .any (ints (f.race r).numbers), .sl false (.own 3) ([] ++ [[A.int (easeUp 1000 m ((f.race r).keep.getD 0 0))]]), .sl (f.race r).sn .any (ints (f.race r).spawn), .int (f.race r).line, .int (f.race r).mesh]) := by
          unfold boxK; rw [hst]; rfl
        refine ⟨0 + 1, ?zg, ?zm, ⟨?zc, ?zv, ?zh, Nat.le_of_ble_eq_true rfl⟩⟩
        case zg =>
          (repeat' (first | assumption))
        case zm =>
          (repeat' (first | omega))
        case zc =>
          (repeat' (first | (refine And.intro ?_ ?_) | exact trivial | exact A.Le.refl _))
        case zv =>
          (repeat' (first | (refine And.intro ?_ ?_) | exact trivial | exact A.Le.refl _))
        case zh =>
          (repeat' (first | (refine And.intro ?_ ?_) | exact trivial | exact rfl | exact hb1.symm))
      · have hne : upT (easeUp 1000 m) (f.race r).keep y ≠ [] := fun h => by rw [h] at hlen; simp at hlen; omega
        have hb0 : boxK (f.race r) (easeUp 1000 m) y = .cells [.sl (f.race r).nn .any (ints (f.race r).numbers), .sl false (.own 3) (ints (upT (easeUp 1000 m) (f.race r).keep y)), .sl (f.race r).sn .any (ints (f.race r).spawn), .int (f.race r).line, .int (f.race r).mesh] := by
          unfold boxK; rw [grL_cons hne]
        have hb1 : some (boxK (f.race r) (easeUp 1000 m) (y + 1)) = some (.cells [.sl (f.race r).nn .any (ints (f.race r).numbers), .sl false (.own 3) (ints (upT (easeUp 1000 m) (f.race r).keep y) ++ [[A.int (easeUp 1000 m ((f.race r).keep.getD y 0))]]), .sl (f.race r).sn .any (ints (f.race r).spawn), .int (f.race r).line, .int (f.race r).mesh]) := by
          unfold boxK; rw [hst, grL_app _ hne]
        rw [hb0]
        have hzz := ints_one (upT (easeUp 1000 m) (f.race r).keep y)
        have hlen2 := ints_len (upT (easeUp 1000 m) (f.race r).keep y)
        generalize upT (easeUp 1000 m) (f.race r).keep y = U at *
        refine Aw.ed tab_ok mixed mb0 [(1, []), (5, (f.race r).c), (9, [.int ((f.race r).keep.getD y 0)])] rfl (by kernel_rfl) rfl rfl ?zo ?zk
        case zo =>
          repeat' apply AllP.cons
          all_goals first | exact trivial | exact rfl | exact Nat.le_of_ble_eq_true rfl | exact Int.natCast_nonneg _ | exact gr | exact gk | exact (show ∀ z ∈ [[A.int _]], z.length = 1 from fun z hz => by simp at hz; subst hz; rfl) | exact hzz | exact (show ((ints U).length + 1) * 8 ≤ 140737488355328 by omega) | exact (show (ints U).length + 1 ≤ maxLen by unfold maxLen; omega) | exact (by simp only [Ob.of, inR]; omega)
        case zk =>
        refine Aw.em tab_ok mb0 [] rfl rfl ?zo ?zk
        case zo =>
          repeat' apply AllP.cons
          all_goals first | exact trivial | exact inrk y (by omega)
        case zk =>
        refine ⟨y + 1, ?zg, ?zm, ⟨?zc, ?zv, ?zh, Nat.le_of_ble_eq_true rfl⟩⟩
        case zg =>
          (repeat' (first | assumption))
        case zm =>
          (repeat' (first | omega))
        case zc =>
          (repeat' (first | (refine And.intro ?_ ?_) | exact trivial | exact A.Le.refl _))
        case zv =>
          (repeat' (first | (refine And.intro ?_ ?_) | exact trivial | exact A.Le.refl _))
        case zh =>
          (repeat' (first | (refine And.intro ?_ ?_) | exact trivial | exact rfl | exact hb1.symm))
    | 3, _ =>
      have hmost : ints f.most ≠ [] := fun h => by have := ints_len f.most; rw [h] at this; simp at this; omega
      have hm6 : (ints f.most).length ≤ 3 := by rw [ints_len]; omega
      have hmf : (ints f.most).flatten.map A.down = f.most.map A.int := by unfold ints; rw [flat_down (fun _ => rfl), ← List.flatMap_def, List.map_eq_flatMap]
      have hone3 := ints_one f.most
      refine Aw.postK (K' := Keep 8 [(2, .pt f.c), (3, .pt [.int n0, .int n1, .int n2, .int n3]), (5, .int q), (6, .int e), (7, .int r), (8, .int s), (9, .ref 4 0), (10, .int m), (11, .ref 5 0)] [] [(4, .cells [.ms 6 0 (f.races.map Rce.c).length, .ms 7 0 (ints f.most).length, .sl f.sn .any (f.seasons.map NR.c)]), (5, .cells (f.race r).c), (6, .cells (f.races.map Rce.c).flatten), (7, .cells ((f.most.set r (easeDn m (f.most.getD r 0))).map A.int))]) ?_ fun s1 hk1 φ Z a w hr => ?_
      rotate_left
      · obtain ⟨Z', h⟩ := (hr.keepW hk1).freezeC (id := 7) (id2 := 4) (j := 1) (n := (ints f.most).length) (sz := 1) (ints (f.most.set r (easeDn m (f.most.getD r 0)))) rfl rfl (by decide) (Nat.le_of_ble_eq_true rfl) rfl (rows1 _) (by rw [ints_len, ints_len, List.length_set])
        have := hk1.c
        exact ⟨_, φ, Z', ⟨⟨.refl _, .refl _, .refl _, .refl _, .refl _, .refl _, .refl _, .refl _, .refl _, trivial⟩, trivial, ⟨rfl, rfl, rfl, trivial⟩, by show 7 ≤ s1.c; omega⟩, h⟩
      refine Aw.sm tab_ok mb0 [(2, [.int (3 : Nat)])] rfl rfl ?zo ?zk
      case zo =>
        repeat' apply AllP.cons
        all_goals first | exact trivial | exact Nat.le_of_ble_eq_true rfl | exact Int.natCast_nonneg _ | exact cm3
      case zk =>
      refine Aw.block ?_
      refine Aw.sm tab_ok mb0 [] rfl rfl ?zo ?zk
      case zo =>
        repeat' apply AllP.cons
        all_goals first | exact trivial
      case zk =>
      refine Aw.cond rfl (fun h => absurd h (by decide)) (fun _ => ?_)
      refine Aw.sm tab_ok mb0 [] rfl rfl ?zo ?zk
      case zo =>
        repeat' apply AllP.cons
        all_goals first | exact trivial
      case zk =>
      refine Aw.cond rfl (fun h => absurd h (by decide)) (fun _ => ?_)
      refine Aw.sm tab_ok mb0 [] rfl rfl ?zo ?zk
      case zo =>
        repeat' apply AllP.cons
        all_goals first | exact trivial
      case zk =>
      refine Aw.cond rfl (fun h => absurd h (by decide)) (fun _ => ?_)
      have h8e : ∀ id, 8 ≤ id → E.φ0 id = none := fun id _ => hE id (by omega)
      have u34 : ∀ {n : Nat}, 8 ≤ n → UnderB n (.cells [.ms 6 0 (f.races.map Rce.c).length, .ms 7 0 (ints f.most).length, .sl f.sn .any (f.seasons.map NR.c)]) := fun h => .cells _ (allC (.ms _ _ _ (by omega)) (allC (.ms _ _ _ (by omega)) (all1 use)))
      refine Aw.sm tab_ok mb0 [(3, [.ms 0 0 0])] rfl rfl ?zo ?zk
      case zo =>
        repeat' apply AllP.cons
        all_goals first | exact trivial | exact rfl | exact Nat.le_of_ble_eq_true rfl | exact hone3 | exact hmost | exact (show (ints f.most).length * 8 ≤ 140737488355328 by omega) | exact (show (ints f.most).length ≤ maxLen by unfold maxLen; omega)
      case zk =>
      refine Aw.keep (n := 8) (cst := [(2, .pt f.c), (3, .pt [.int n0, .int n1, .int n2, .int n3]), (5, .int q), (6, .int e), (7, .int r), (8, .int s), (9, .ref 4 0), (10, .int m), (11, .ref 5 0)]) (v := []) (Hl := [(4, .cells [.ms 6 0 (f.races.map Rce.c).length, .ms 7 0 (ints f.most).length, .sl f.sn .any (f.seasons.map NR.c)]), (5, .cells (f.race r).c), (6, .cells (f.races.map Rce.c).flatten), (7, .cells (f.most.map A.int))]) h8e ?zu ?zw ?zx ⟨?zc, ?zv, ?zh, Nat.le_of_ble_eq_true rfl⟩ ?zr
      case zu =>
        (repeat' (first | exact trivial | exact Under.s _ | exact Under.ref _ _ (by decide) | exact (Free.pt _ (by assumption)).under | exact uf | (refine And.intro ?_ ?_)))
      case zw =>
        (repeat' (first | exact trivial))
      case zx =>
        (repeat' (first | exact trivial | exact Nat.le_of_ble_eq_true rfl | exact u34 (by decide) | exact urc | exact ura | exact cells_under _ | (refine And.intro ?_ ?_)))
      case zc =>
        (repeat' (first | (refine And.intro ?_ ?_) | exact trivial | exact A.Le.refl _))
      case zv =>
        (repeat' (first | exact trivial))
      case zh =>
        (repeat' (first | (refine And.intro ?_ ?_) | exact trivial | exact rfl | exact congrArg (fun x => some (B.cells x)) hmf))
      case zr =>
      have gm := ints_getD (l := f.most) (k := r) (by omega)
      have q3 : (r : Int) < ((ints f.most).length : Int) := by rw [ints_len]; omega
      have q4 : 0 + Int.toNat (r : Int) * 1 + 1 ≤ (f.most.map A.int).length := by rw [List.length_map, Int.toNat_natCast]; omega
      have hst : some (B.cells (setSeg (f.most.map A.int) (0 + Int.toNat (r : Int) * 1) [A.int (easeDn m (f.most.getD r 0))])) = some (B.cells ((f.most.set r (easeDn m (f.most.getD r 0))).map A.int)) := by
        rw [Int.toNat_natCast, seg1 (by rw [List.length_map]; omega), List.map_set]
      refine Aw.ed tab_ok mixed mb0 [(6, [.int (f.most.getD r 0)])] rfl (by kernel_rfl) rfl rfl ?zo ?zk
      case zo =>
        repeat' apply AllP.cons
        all_goals first | exact trivial | exact rfl | exact Nat.le_of_ble_eq_true rfl | exact Int.natCast_nonneg _ | exact gm | exact q3 | exact q4 | exact (by simp only [Ob.of, inR]; omega)
      case zk =>
      exact ⟨⟨.refl _, .refl _, .refl _, .refl _, .refl _, .refl _, .refl _, .refl _, .refl _, trivial⟩, trivial, ⟨rfl, rfl, rfl, hst, trivial⟩, Nat.le_of_ble_eq_true rfl⟩
  have hX : (easeF f r s m k).c = [.sl false .any ((f.races.set r (easeR k m (f.race r))).map Rce.c), mostA f r s m k, seasA f r s m k] := by
    match k, hk4 with
    | 0, _ => rfl
    | 1, _ => rfl
    | 2, _ => rfl
    | 3, _ => rfl
  rw [hX] at c2
  have hrn : r < f.races.length := hrl
  have hsr := rows_set (c := Rce.c) (sz := 5) (fun _ => rfl) (fun _ => rfl) hrn (easeR k m (f.race r))
  rw [hfl] at hsr
  have uma := (mostA_free f r s m k)
  have usa := (seasA_free f r s m k)
  unfold mostA seasA at *
  generalize (easeF f r s m k).mn = bm at *
  generalize (easeF f r s m k).most = ml at *
  generalize (easeF f r s m k).sn = bs at *
  generalize (easeF f r s m k).seasons = sl at *
  generalize easeR k m (f.race r) = x at *
  have q3 : (r : Int) < ((f.races.map Rce.c).length : Int) := by rw [List.length_map]; omega
  have hfll : (f.races.map Rce.c).flatten.length = f.races.length * 5 := by rw [flat_len hone, List.length_map]
  have q4 : 0 + Int.toNat (r : Int) * 5 + 5 ≤ (f.races.map Rce.c).flatten.length := by rw [hfll, Int.toNat_natCast]; omega
  have hsr : some (B.cells (setSeg (f.races.map Rce.c).flatten (0 + Int.toNat (r : Int) * 5) x.c)) = some (B.cells ((f.races.set r x).map Rce.c).flatten) := by rw [Int.toNat_natCast, hsr]
  refine Aw.sm tab_ok mb0 [] rfl rfl ?zo ?zk
  case zo =>
    repeat' apply AllP.cons
    all_goals first | exact trivial | exact rfl | exact Nat.le_of_ble_eq_true rfl | exact Int.natCast_nonneg _ | exact q3 | exact q4
  case zk =>
  have uX : ∀ {n : Nat}, UnderB n (.cells ((f.races.set r x).map Rce.c).flatten) := cells_free (flat_free Rce.free _)
  refine Aw.keep (n := 7) (cst := [(2, .pt f.c), (5, .int q), (6, .int e), (7, .int r), (8, .int s), (9, .ref 4 0)]) (v := []) (Hl := [(4, boxM (f.races.map Rce.c).length (.sl bm .any (ints ml)) (.sl bs .any (sl.map NR.c))), (6, .cells ((f.races.set r x).map Rce.c).flatten)]) h7e ?zu ?zw ?zx ⟨?zc, ?zv, ?zh, Nat.le_of_ble_eq_true rfl⟩ ?zr
  case zu =>
    (repeat' (first | exact trivial | exact Under.s _ | exact Under.ref _ _ (by decide) | exact uf | (refine And.intro ?_ ?_)))
  case zw =>
    (repeat' (first | exact trivial))
  case zx =>
    (repeat' (first | exact trivial | exact Nat.le_of_ble_eq_true rfl | exact uX | exact boxM_under (by decide) uma.under usa.under | (refine And.intro ?_ ?_)))
  case zc =>
    (repeat' (first | (refine And.intro ?_ ?_) | exact trivial | exact A.Le.refl _))
  case zv =>
    (repeat' (first | exact trivial))
  case zh =>
    (repeat' (first | (refine And.intro ?_ ?_) | exact trivial | exact rfl | exact hsr))
  case zr =>
  refine Aw.freezeC (id := 6) (id2 := 4) (j := 0) (n := (f.races.map Rce.c).length) (sz := 5) (cs := ((f.races.set r x).map Rce.c).flatten) (cs2 := [.ms 6 0 (f.races.map Rce.c).length, .sl bm .any (ints ml), .sl bs .any (sl.map NR.c)]) ((f.races.set r x).map Rce.c) rfl rfl (by decide) (Nat.le_of_ble_eq_true rfl) rfl (rows_all (c := Rce.c) (sz := 5) (fun m => rfl) (fun m => rfl) _) (by simp) ?_
  refine Aw.keep (n := 7) (cst := [(2, .pt f.c), (5, .int q), (6, .int e), (7, .int r), (8, .int s), (9, .ref 4 0)]) (v := []) (Hl := [(4, .cells [.sl false .any ((f.races.set r x).map Rce.c), .sl bm .any (ints ml), .sl bs .any (sl.map NR.c)])]) h7e ?zu ?zw ?zx ⟨?zc, ?zv, ?zh, Nat.le_of_ble_eq_true rfl⟩ ?zr
  case zu =>
    (repeat' (first | exact trivial | exact Under.s _ | exact Under.ref _ _ (by decide) | exact uf | (refine And.intro ?_ ?_)))
  case zw =>
    (repeat' (first | exact trivial))
  case zx =>
    (repeat' (first | exact trivial | exact Nat.le_of_ble_eq_true rfl | exact (cells_free (allC (free_map Rce.free _ _ _) (allC uma (all1 usa)))) | (refine And.intro ?_ ?_)))
  case zc =>
    (repeat' (first | (refine And.intro ?_ ?_) | exact trivial | exact A.Le.refl _))
  case zv =>
    (repeat' (first | exact trivial))
  case zh =>
    (repeat' (first | (refine And.intro ?_ ?_) | exact trivial | exact rfl))
  case zr =>
  generalize f.races.set r x = rs at *
  refine Aw.sm tab_ok mb0 [(1, [.tup [.int q2, .int e2]])] rfl rfl ?zo ?zk
  case zo =>
    repeat' apply AllP.cons
    all_goals first | exact trivial | exact Nat.le_of_ble_eq_true rfl | exact c2
  case zk =>
  refine Aw.seq ?_
  refine Aw.sm tab_ok mb0 [] rfl rfl ?zo ?zk
  case zo =>
    repeat' apply AllP.cons
    all_goals first | exact trivial | exact id | exact fun _ => rfl | exact gq_f | exact fun _ _ => rfl | exact fun h k => gq_c h k
  case zk =>
  refine Aw.cond rfl (fun h => absurd h (by
    show ¬ (cond (cond (e2 != 0) (cond (e2 != 4) true (e == 0)) false) true (cond (e == 0) (decide (q2 < q)) false)) = true
    rcases x1 with ⟨rfl, rfl, hle⟩ | ⟨rfl, rfl | rfl⟩
    · rw [decide_eq_false (by omega)]; decide
    · simp
    · simp)) (fun h => Aw.skip ?_)
  refine Aw.keep (n := 0) (cst := [(2, .pt f.c), (5, .int q), (6, .int e), (7, .int r), (8, .int s)]) (v := []) (Hl := []) hE ?zu ?zw ?zx ⟨?zc, ?zv, ?zh, Nat.le_of_ble_eq_true rfl⟩ ?zr
  case zu =>
    (repeat' (first | exact trivial | exact Under.s _ | exact uf | (refine And.intro ?_ ?_)))
  case zw =>
    (repeat' (first | exact trivial))
  case zx =>
    (repeat' (first | exact trivial))
  case zc =>
    (repeat' (first | (refine And.intro ?_ ?_) | exact trivial | exact A.Le.refl _))
  case zv =>
    (repeat' (first | exact trivial))
  case zh =>
    (repeat' (first | exact trivial))
  case zr =>
  refine Aw.seq ?_
  refine Aw.sm tab_ok mb0 [] rfl rfl ?zo ?zk
  case zo =>
    repeat' apply AllP.cons
    all_goals first | exact trivial | exact Nat.le_of_ble_eq_true rfl
  case zk =>
  refine Aw.cond rfl (fun h => ?_) (fun h6 => Aw.skip ?_)
  · refine Aw.sm tab_ok mb0 [(0, [.bool true])] rfl rfl ?zo ?zk
    case zo =>
      repeat' apply AllP.cons
      all_goals first | exact trivial | exact works_t
    case zk =>
    exact Aw.ret ⟨_, .cons (.tmp _) .nil, rfl⟩
  have h6 : f.seasons.length < 6 := by
    have h6 : (((f.seasons.map NR.c).length : Int) == 6) = false := h6
    rw [ls] at h6
    have : ¬ f.seasons.length = 6 := fun h => by rw [h] at h6; exact absurd h6 (by decide)
    omega
  have c3 := c3 h6
  have x2 := x2 h6
  refine Aw.sm tab_ok mb0 [] rfl rfl ?zo ?zk
  case zo =>
    repeat' apply AllP.cons
    all_goals first | exact trivial | exact rfl | exact Nat.le_of_ble_eq_true rfl
  case zk =>
  have gS := gs
  have hn1 : ∀ w ∈ f.seasons.map NR.c, w.length = 1 := fun w hw => by obtain ⟨m, _, rfl⟩ := List.mem_map.1 hw; rfl
  have hne2 : f.seasons.map NR.c ≠ [] := fun h => by have := congrArg List.length h; rw [List.length_map] at this; simp at this; rw [this] at s1; simp at s1
  have hll2 : (f.seasons.map NR.c).length ≤ 6 := by rw [List.length_map]; exact s6
  have q5' : (0 + (f.seasons.map NR.c).length) * 24 ≤ 140737488355328 := by omega
  have q6' : 0 + (f.seasons.map NR.c).length ≤ maxLen := by unfold maxLen; omega
  have q5 : (f.seasons.map NR.c).length * 24 ≤ 140737488355328 := by omega
  have q6 : (f.seasons.map NR.c).length ≤ maxLen := by unfold maxLen; omega
  refine Aw.seq (SegW.start mixed ?_)
  refine SegW.runO 3 223 tab_ok mb0 (b := 0) 10 [(7, (f.seasons.getD s ⟨false, []⟩).c)] (by decide) rfl (by kernel_rfl) rfl ?zo rfl (by kernel_rfl)
    (fun cap => .gs 4 (f.seasons.map NR.c).length cap) (fun cap => .cells ((f.seasons.map NR.c).flatten.map A.down ++ List.replicate ((cap - (f.seasons.map NR.c).length) * 1) .un)) (fun cap => (f.seasons.map NR.c).length ≤ cap) rfl ?zf ?zk
  case zo =>
    repeat' apply AllP.cons
    all_goals first | exact trivial | exact id | exact rfl | exact hn1 | exact gS | exact Int.natCast_nonneg _ | exact fun _ => gS | exact q5' | exact q6' | exact Nat.le_of_ble_eq_true rfl | exact (by simp only [Ob.of]; decide)
  case zf =>
    intro S1 hS1
    have z1 : S1 220 = .sl false .exact [] := hS1 220 (by decide)
    have z2 : S1 222 = .sl f.sn .any (f.seasons.map NR.c) := hS1 222 (by decide)
    exact FireA.appNil (T := tab) (t := 45) (e := 55) (d := 223) (nil1 := false) tab_ok rfl (show 223 < 286 by decide) rfl rfl rfl (fun h => by cases h) (show 0 < 1 by decide) z1 z2 hne2 hn1 q5 q6
  case zk =>
  intro cap hcap
  have hS1 : ∀ w ∈ [(f.seasons.getD s ⟨false, []⟩).c], w.length = 1 := fun w hw => by simp at hw; subst hw; rfl
  have hfS : (f.seasons.map NR.c).flatten.map A.down = (f.seasons.map NR.c).flatten := flat_down (fun m => rfl) _
  have hfSl : (f.seasons.map NR.c).flatten.length = (f.seasons.map NR.c).length := by rw [flat_len hn1, Nat.mul_one]
  have hSc : ([(f.seasons.getD s ⟨false, []⟩).c].flatten).map A.down = (f.seasons.getD s ⟨false, []⟩).c := rfl
  have e4 : E.φ0 4 = none := hE 4 (by decide)
  rw [hfS, Nat.mul_one]
  have hcl : ((f.seasons.map NR.c).flatten ++ List.replicate (cap - (f.seasons.map NR.c).length) A.un).length = cap * 1 := by rw [List.length_append, hfSl, List.length_replicate]; omega
  refine SegW.step rfl (by kernel_rfl) (k := 10) rfl (fun i h1 h2 => barB_ok (b := 10) (m := 1) (by kernel_rfl) i 10 (by omega) h2 (by omega) (by omega)) (Does.mono (K := fun st => st =
      ⟨ofL2 [(2, .pt f.c), (5, .int q), (6, .int e), (7, .int r), (8, .int s), (18, .ref 0 0)] [(230, .ms 4 0 ((f.seasons.map NR.c).length + 1))], ofH [(0, .cells f.c), (4, .cells ((f.seasons.map NR.c).flatten ++ (f.seasons.getD s ⟨false, []⟩).c))], 12⟩)
    (Does.raw rfl (DoesR.seen (K' := fun st => (AllLe st.S [(2, .pt f.c), (5, .int q), (6, .int e), (7, .int r), (8, .int s), (18, .ref 0 0)] ∧ st.H 0 = some (.cells f.c)) ∧
        ((∃ j, st.S 230 = .gs 4 ((f.seasons.map NR.c).length + 1) cap ∧ st.H 4 = some (.cells ((f.seasons.map NR.c).flatten ++ (f.seasons.getD s ⟨false, []⟩).c ++ List.replicate j .un)) ∧ st.c ≤ 12) ∨
          ∃ cap' j, st.S 230 = .gs 11 ((f.seasons.map NR.c).length + 1) cap' ∧ st.H 11 = some (.cells ((f.seasons.map NR.c).flatten ++ (f.seasons.getD s ⟨false, []⟩).c ++ List.replicate j .un)) ∧ st.c = 12))
      (DoesR.appGs (id := 4) (n := (f.seasons.map NR.c).length) (cap := cap) (ys := [(f.seasons.getD s ⟨false, []⟩).c]) tab_ok rfl rfl rfl (fun h => by cases h) (show 0 < 1 by decide) rfl rfl hcl rfl (by simp) hS1 (show ((f.seasons.map NR.c).length + 1) * 24 ≤ _ by omega) (show (f.seasons.map NR.c).length + 1 ≤ maxLen by unfold maxLen; omega)
        (fun hroom => ⟨⟨⟨.refl _, .refl _, .refl _, .refl _, .refl _, .refl _, trivial⟩, rfl⟩, .inl ⟨cap - (f.seasons.map NR.c).length - 1, rfl, congrArg (fun x => some (B.cells x)) ?z1, Nat.le_of_ble_eq_true rfl⟩⟩)
        (fun cap' hc' => ⟨⟨⟨.refl _, .refl _, .refl _, .refl _, .refl _, .refl _, trivial⟩, rfl⟩, .inr ⟨cap', cap' - ((f.seasons.map NR.c).length + 1), rfl, congrArg (fun x => some (B.cells x)) ?z2, rfl⟩⟩)) ?z3)) ?z4)
  case z1 =>
    have hroom : (f.seasons.map NR.c).length + 1 ≤ cap := hroom
    show setSeg _ (_ * 1) _ = _
    rw [hSc, Nat.mul_one, ← hfSl, setSeg_end (by show 1 ≤ _; rw [hfSl]; exact (by omega : 1 ≤ cap - (f.seasons.map NR.c).length))]; rfl
  case z2 =>
    show (List.take (_ * 1) _).map A.down ++ _ ++ List.replicate (_ * 1) _ = _
    rw [hSc, Nat.mul_one, Nat.mul_one, ← hfSl, List.take_left, hfS]; rfl
  case z3 =>
    rintro st ⟨⟨hA, h0⟩, ⟨j, h1, h2, h3⟩ | ⟨cap', j, h1, h2, h3⟩⟩ φ Z a w hr
    · exact ⟨_, _, _, rfl, grown4 hr hA h1 h0 h2 h3⟩
    · obtain ⟨φ2, h⟩ := grown11 hr e4 (fun p hp => by
        simp only [List.mem_cons, List.not_mem_nil, or_false] at hp
        rcases hp with rfl | rfl | rfl | rfl | rfl | rfl
        · exact (Free.pt _ f.free).nms
        · exact .s _
        · exact .s _
        · exact .s _
        · exact .s _
        · exact .ref _ _ (by decide)) f.free (fun x hx => by
        rcases List.mem_append.1 hx with h | h
        · exact flat_free NR.free _ x h
        · exact NR.free _ x h) (fun x hx u => by
        rcases List.mem_append.1 hx with h | h
        · obtain ⟨y, hy, h⟩ := List.mem_flatten.1 h
          obtain ⟨z, _, rfl⟩ := List.mem_map.1 hy
          simp [NR.c] at h; subst h; rfl
        · simp [NR.c] at h; subst h; rfl) hA h1 h0 h2 h3 ⟨.refl _, .refl _, .refl _, .refl _, .refl _, .refl _, trivial⟩
      exact ⟨_, φ2, _, rfl, h⟩
  case z4 =>
  rintro st rfl
  refine SegW.run (b := 11) tab_ok mb0 2 [] rfl (by kernel_rfl) rfl rfl ?zo2 ?zk2
  case zo2 =>
    repeat' apply AllP.cons
    all_goals first | exact trivial | exact id | exact rfl | exact Nat.le_of_ble_eq_true rfl
  case zk2 =>
  refine SegW.done (by kernel_rfl) (Nat.le_of_ble_eq_true rfl) ?_
  have usC : ∀ {n : Nat}, UnderB n (.cells ((f.seasons.map NR.c).flatten ++ (f.seasons.getD s ⟨false, []⟩).c)) := cells_free fun x hx => by
    rcases List.mem_append.1 hx with h | h
    · exact flat_free NR.free _ x h
    · exact NR.free _ x h
  have ub0 : ∀ {n k : Nat}, 5 ≤ n → UnderB n (.cells [.sl f.rn .any (f.races.map Rce.c), .sl f.mn .any (ints f.most), .ms 4 0 k]) := fun h => .cells _ (allC (free_map Rce.free _ _ _).under (allC umo (all1 (.ms _ _ _ (by omega)))))
  refine Aw.keep (n := 5) (cst := [(2, .pt f.c), (5, .int q), (6, .int e), (7, .int r), (8, .int s), (18, .ref 0 0)]) (v := []) (Hl := [(0, .cells [.sl f.rn .any (f.races.map Rce.c), .sl f.mn .any (ints f.most), .ms 4 0 ((f.seasons.map NR.c).length + 1)]), (4, .cells ((f.seasons.map NR.c).flatten ++ (f.seasons.getD s ⟨false, []⟩).c))]) h5e ?zu ?zw ?zx ⟨?zc, ?zv, ?zh, Nat.le_of_ble_eq_true rfl⟩ ?zr
  case zu =>
    (repeat' (first | exact trivial | exact Under.s _ | exact Under.ref _ _ (by decide) | exact uf | (refine And.intro ?_ ?_)))
  case zw =>
    (repeat' (first | exact trivial))
  case zx =>
    (repeat' (first | exact trivial | exact Nat.le_of_ble_eq_true rfl | exact usC | exact ub0 (by decide) | (refine And.intro ?_ ?_)))
  case zc =>
    (repeat' (first | (refine And.intro ?_ ?_) | exact trivial | exact A.Le.refl _))
  case zv =>
    (repeat' (first | exact trivial))
  case zh =>
    (repeat' (first | (refine And.intro ?_ ?_) | exact trivial | exact rfl))
  case zr =>
  have gl : ((f.seasons.getD s ⟨false, []⟩).l.map NL.c)[r]? = some ((f.seasons.getD s ⟨false, []⟩).l.getD r ⟨false, []⟩).c := nl_at _ (by omega)
  have hrc : f.recs s r = ((f.seasons.getD s ⟨false, []⟩).l.getD r ⟨false, []⟩).l := rfl
  have hadd : (addF f r s).c = [.sl f.rn .any (f.races.map Rce.c), .sl f.mn .any (ints f.most), .sl false .any ((f.seasons ++ [addS f r s]).map NR.c)] := rfl
  have hasd : (addS f r s).c = [.sl false .any (((f.seasons.getD s ⟨false, []⟩).l.set r ⟨false, List.replicate (f.recs s r).length 0⟩).map NL.c)] := rfl
  rw [hadd, List.map_append, List.map_cons, List.map_nil, hasd] at c3
  rw [hrc] at hyl c3
  generalize (f.seasons.getD s ⟨false, []⟩).l.getD r ⟨false, []⟩ = L at *
  generalize f.seasons.getD s ⟨false, []⟩ = S at *
  have hL1 : ∀ w ∈ S.l.map NL.c, w.length = 1 := fun w hw => by obtain ⟨m, _, rfl⟩ := List.mem_map.1 hw; rfl
  have hLn : S.l.map NL.c ≠ [] := fun h => by have := congrArg List.length h; rw [List.length_map] at this; simp at this; rw [this] at hsl2; simp at hsl2; omega
  have hLl : (S.l.map NL.c).length ≤ 3 := by rw [List.length_map]; omega
  have hfL : (S.l.map NL.c).flatten.map A.down = (S.l.map NL.c).flatten := flat_down (fun m => rfl) _
  have hfLl : (S.l.map NL.c).flatten.length = (S.l.map NL.c).length := by rw [flat_len hL1, Nat.mul_one]
  refine Aw.sm tab_ok mb0 [(4, S.c), (6, [.ms 0 0 0])] rfl rfl ?zo ?zk
  case zo =>
    repeat' apply AllP.cons
    all_goals first | exact trivial | exact rfl | exact Nat.le_of_ble_eq_true rfl | exact Int.natCast_nonneg _ | exact gs | exact hL1 | exact hLn | exact (show (S.l.map NL.c).length * 24 ≤ 140737488355328 by omega) | exact (show (S.l.map NL.c).length ≤ maxLen by unfold maxLen; omega)
  case zk =>
  have h6e : ∀ id, 6 ≤ id → E.φ0 id = none := fun id _ => hE id (by omega)
  have uLC : ∀ {n : Nat}, UnderB n (.cells (S.l.map NL.c).flatten) := cells_free (flat_free NL.free _)
  have zL := ints_lenI L.l
  have hLy : L.l.length ≤ 10 := by omega
  refine Aw.keep (n := 6) (cst := [(2, .pt f.c), (5, .int q), (6, .int e), (7, .int r), (8, .int s), (18, .ref 0 0), (19, .ms 5 0 (S.l.map NL.c).length)]) (v := []) (Hl := [(0, .cells [.sl f.rn .any (f.races.map Rce.c), .sl f.mn .any (ints f.most), .ms 4 0 ((f.seasons.map NR.c).length + 1)]), (4, .cells ((f.seasons.map NR.c).flatten ++ S.c)), (5, .cells (S.l.map NL.c).flatten)]) h6e ?zu ?zw ?zx ⟨?zc, ?zv, ?zh, Nat.le_of_ble_eq_true rfl⟩ ?zr
  case zu =>
    (repeat' (first | exact trivial | exact Under.s _ | exact Under.ref _ _ (by decide) | exact Under.ms _ _ _ (by decide) | exact uf | (refine And.intro ?_ ?_)))
  case zw =>
    (repeat' (first | exact trivial))
  case zx =>
    (repeat' (first | exact trivial | exact Nat.le_of_ble_eq_true rfl | exact usC | exact uLC | exact ub0 (by decide) | (refine And.intro ?_ ?_)))
  case zc =>
    (repeat' (first | (refine And.intro ?_ ?_) | exact trivial | exact A.Le.refl _))
  case zv =>
    (repeat' (first | exact trivial))
  case zh =>
    (repeat' (first | (refine And.intro ?_ ?_) | exact trivial | exact rfl | exact congrArg (fun x => some (B.cells x)) hfL))
  case zr =>
  have q7 : (r : Int) < ((S.l.map NL.c).length : Int) := by rw [List.length_map]; omega
  have q8 : 0 + Int.toNat (r : Int) * 1 + 1 ≤ (S.l.map NL.c).flatten.length := by rw [hfLl, Int.toNat_natCast]; omega
  refine Aw.sm tab_ok mb0 [(5, S.c), (8, L.c)] rfl rfl ?zo ?zk
  case zo =>
    repeat' apply AllP.cons
    all_goals first | exact trivial | exact rfl | exact Nat.le_of_ble_eq_true rfl | exact Int.natCast_nonneg _ | exact gs | exact gl | exact q7 | exact q8 | exact (show ((ints L.l).length : Int) ≤ maxLen by rw [zL]; simp only [maxLen]; omega) | exact (show ((8 : Nat) : Int) * ((ints L.l).length : Int) ≤ 140737488355328 by rw [zL]; omega)
  case zk =>
  have h7e : ∀ id, 7 ≤ id → E.φ0 id = none := fun id _ => hE id (by omega)
  have hb5 : some (B.cells (setSeg (S.l.map NL.c).flatten (0 + Int.toNat (r : Int) * 1) [.ms 6 0 (ints L.l).length])) = some (B.cells ((S.l.map NL.c).flatten.set r (.ms 6 0 (ints L.l).length))) := by
    rw [Int.toNat_natCast, seg1 (by omega)]
  have u5 : ∀ {n : Nat}, 7 ≤ n → UnderB n (.cells ((S.l.map NL.c).flatten.set r (.ms 6 0 (ints L.l).length))) := fun h => .cells _ fun x hx => by
    rcases List.mem_or_eq_of_mem_set hx with h' | rfl
    · exact (flat_free NL.free _ x h').under
    · exact .ms _ _ _ (by omega)
  refine Aw.keep (n := 7) (cst := [(2, .pt f.c), (5, .int q), (6, .int e), (7, .int r), (8, .int s), (18, .ref 0 0), (19, .ms 5 0 (S.l.map NL.c).length)]) (v := []) (Hl := [(0, .cells [.sl f.rn .any (f.races.map Rce.c), .sl f.mn .any (ints f.most), .ms 4 0 ((f.seasons.map NR.c).length + 1)]), (4, .cells ((f.seasons.map NR.c).flatten ++ S.c)), (5, .cells ((S.l.map NL.c).flatten.set r (.ms 6 0 (ints L.l).length))), (6, .cells ((List.replicate (ints L.l).length (0 : Int)).map A.int))]) h7e ?zu ?zw ?zx ⟨?zc, ?zv, ?zh, Nat.le_of_ble_eq_true rfl⟩ ?zr
  case zu =>
    (repeat' (first | exact trivial | exact Under.s _ | exact Under.ref _ _ (by decide) | exact Under.ms _ _ _ (by decide) | exact uf | (refine And.intro ?_ ?_)))
  case zw =>
    (repeat' (first | exact trivial))
  case zx =>
    (repeat' (first | exact trivial | exact Nat.le_of_ble_eq_true rfl | exact usC | exact u5 (by decide) | exact ub0 (by decide) | exact cells_under _ | (refine And.intro ?_ ?_)))
  case zc =>
    (repeat' (first | (refine And.intro ?_ ?_) | exact trivial | exact A.Le.refl _))
  case zv =>
    (repeat' (first | exact trivial))
  case zh =>
    (repeat' (first | (refine And.intro ?_ ?_) | exact trivial | exact rfl | exact hb5 | exact congrArg (fun x => some (B.cells x)) (zeros _)))
  case zr =>
  refine Aw.freezeC (id := 6) (id2 := 5) (j := r) (n := (ints L.l).length) (sz := 1) (cs := (List.replicate (ints L.l).length (0 : Int)).map A.int) (cs2 := (S.l.map NL.c).flatten.set r (.ms 6 0 (ints L.l).length)) (ints (List.replicate (ints L.l).length 0)) rfl rfl (by decide) (by rw [List.length_set]; omega) (by rw [List.getD_eq_getElem?_getD, List.getElem?_set_self (by omega)]; rfl) (rows1 _) (by rw [ints_len, List.length_replicate]) ?_
  rw [List.set_set, NL.set_flat (by omega), ints_len]
  refine Aw.freezeS (id := 5) (t := 19) (n := (S.l.map NL.c).length) (sz := 1) (cs := ((S.l.set r ⟨false, List.replicate L.l.length 0⟩).map NL.c).flatten) ((S.l.set r ⟨false, List.replicate L.l.length 0⟩).map NL.c) rfl rfl (rows_all (c := NL.c) (sz := 1) (fun m => rfl) (fun m => rfl) _) (by simp) ?_
  have urow : ∀ {n : Nat}, Under n (A.sl false .any ((S.l.set r ⟨false, List.replicate L.l.length 0⟩).map NL.c)) := (free_map NL.free _ _ _).under
  refine Aw.keep (n := 5) (cst := [(2, .pt f.c), (5, .int q), (6, .int e), (8, .int s), (18, .ref 0 0), (19, .sl false .any ((S.l.set r ⟨false, List.replicate L.l.length 0⟩).map NL.c))]) (v := []) (Hl := [(0, .cells [.sl f.rn .any (f.races.map Rce.c), .sl f.mn .any (ints f.most), .ms 4 0 ((f.seasons.map NR.c).length + 1)]), (4, .cells ((f.seasons.map NR.c).flatten ++ S.c))]) h5e ?zu ?zw ?zx ⟨?zc, ?zv, ?zh, Nat.le_of_ble_eq_true rfl⟩ ?zr
  case zu =>
    (repeat' (first | exact trivial | exact Under.s _ | exact Under.ref _ _ (by decide) | exact uf | exact urow | (refine And.intro ?_ ?_)))
  case zw =>
    (repeat' (first | exact trivial))
  case zx =>
    (repeat' (first | exact trivial | exact Nat.le_of_ble_eq_true rfl | exact usC | exact ub0 (by decide) | (refine And.intro ?_ ?_)))
  case zc =>
    (repeat' (first | (refine And.intro ?_ ?_) | exact trivial | exact A.Le.refl _))
  case zv =>
    (repeat' (first | exact trivial))
  case zh =>
    (repeat' (first | (refine And.intro ?_ ?_) | exact trivial | exact rfl))
  case zr =>
  have hSl : S.c.length = 1 := rfl
  have q9 : ((f.seasons.map NR.c).length : Int) < (((f.seasons.map NR.c).length + 1 : Nat) : Int) := by omega
  have q10 : 0 + Int.toNat (((f.seasons.map NR.c).length : Nat) : Int) * 1 + 1 ≤ ((f.seasons.map NR.c).flatten ++ S.c).length := by rw [List.length_append, hfSl, hSl, Int.toNat_natCast]; omega
  refine Aw.sm tab_ok mb0 [] rfl rfl ?zo ?zk
  case zo =>
    repeat' apply AllP.cons
    all_goals first | exact trivial | exact rfl | exact Nat.le_of_ble_eq_true rfl | exact Int.natCast_nonneg _ | exact q9 | exact q10
  case zk =>
  have hb4 : some (B.cells (setSeg ((f.seasons.map NR.c).flatten ++ S.c) (0 + Int.toNat (((f.seasons.map NR.c).length : Nat) : Int) * 1) [.sl false .any ((S.l.set r ⟨false, List.replicate L.l.length 0⟩).map NL.c)])) = some (B.cells ((f.seasons.map NR.c ++ [[A.sl false .any ((S.l.set r ⟨false, List.replicate L.l.length 0⟩).map NL.c)]]).flatten)) := by
    rw [Int.toNat_natCast, Nat.zero_add, Nat.mul_one, ← hfSl, List.flatten_append]
    unfold setSeg
    rw [List.take_left, ← List.drop_drop, List.drop_left]; rfl
  have urF : Free (A.sl false .any ((S.l.set r ⟨false, List.replicate L.l.length 0⟩).map NL.c)) := free_map NL.free _ _ _
  have u4 : ∀ {n : Nat}, UnderB n (.cells ((f.seasons.map NR.c ++ [[A.sl false .any ((S.l.set r ⟨false, List.replicate L.l.length 0⟩).map NL.c)]]).flatten)) := cells_free fun x hx => by
    rw [List.flatten_append] at hx
    rcases List.mem_append.1 hx with h | h
    · exact flat_free NR.free _ x h
    · simp only [List.flatten_cons, List.flatten_nil, List.append_nil, List.mem_singleton] at h; subst h; exact urF
  refine Aw.keep (n := 5) (cst := [(2, .pt f.c), (5, .int q), (6, .int e), (18, .ref 0 0)]) (v := []) (Hl := [(0, .cells [.sl f.rn .any (f.races.map Rce.c), .sl f.mn .any (ints f.most), .ms 4 0 ((f.seasons.map NR.c).length + 1)]), (4, .cells ((f.seasons.map NR.c ++ [[A.sl false .any ((S.l.set r ⟨false, List.replicate L.l.length 0⟩).map NL.c)]]).flatten))]) h5e ?zu ?zw ?zx ⟨?zc, ?zv, ?zh, Nat.le_of_ble_eq_true rfl⟩ ?zr
  case zu =>
    (repeat' (first | exact trivial | exact Under.s _ | exact Under.ref _ _ (by decide) | exact uf | (refine And.intro ?_ ?_)))
  case zw =>
    (repeat' (first | exact trivial))
  case zx =>
    (repeat' (first | exact trivial | exact Nat.le_of_ble_eq_true rfl | exact u4 | exact ub0 (by decide) | (refine And.intro ?_ ?_)))
  case zc =>
    (repeat' (first | (refine And.intro ?_ ?_) | exact trivial | exact A.Le.refl _))
  case zv =>
    (repeat' (first | exact trivial))
  case zh =>
    (repeat' (first | (refine And.intro ?_ ?_) | exact trivial | exact rfl | exact hb4))
  case zr =>
  refine Aw.freezeC (id := 4) (id2 := 0) (j := 2) (n := (f.seasons.map NR.c).length + 1) (sz := 1) (cs := (f.seasons.map NR.c ++ [[A.sl false .any ((S.l.set r ⟨false, List.replicate L.l.length 0⟩).map NL.c)]]).flatten) (cs2 := [.sl f.rn .any (f.races.map Rce.c), .sl f.mn .any (ints f.most), .ms 4 0 ((f.seasons.map NR.c).length + 1)]) (f.seasons.map NR.c ++ [[A.sl false .any ((S.l.set r ⟨false, List.replicate L.l.length 0⟩).map NL.c)]]) rfl rfl (by decide) (Nat.le_of_ble_eq_true rfl) rfl (rows_of (fun y hy => by
    rcases List.mem_append.1 hy with h | h
    · exact hn1 y h
    · simp at h; subst h; rfl) (by rw [List.flatten_append, List.map_append, hfS]; rfl)) (by simp) ?_
  generalize quotaQ (addF f r s) = q' at *
  generalize quotaE (addF f r s) = e' at *
  have uY : ∀ {n : Nat}, UnderB n (.cells [.sl f.rn .any (f.races.map Rce.c), .sl f.mn .any (ints f.most), .sl false .any (f.seasons.map NR.c ++ [[A.sl false .any ((S.l.set r ⟨false, List.replicate L.l.length 0⟩).map NL.c)]])]) :=
    cells_free (allC (free_map Rce.free _ _ _) (allC (free_ints _ _ _) (all1 (.sl _ _ _ fun w hw x hx => by
      rcases List.mem_append.1 hw with h | h
      · obtain ⟨z, _, rfl⟩ := List.mem_map.1 h; exact NR.free _ x hx
      · rw [List.mem_singleton] at h; subst h; rw [List.mem_singleton] at hx; subst hx; exact urF))))
  refine Aw.keep (n := 1) (cst := [(2, .pt f.c), (5, .int q), (6, .int e), (18, .ref 0 0)]) (v := []) (Hl := [(0, .cells [.sl f.rn .any (f.races.map Rce.c), .sl f.mn .any (ints f.most), .sl false .any (f.seasons.map NR.c ++ [[A.sl false .any ((S.l.set r ⟨false, List.replicate L.l.length 0⟩).map NL.c)]])])]) h1e ?zu ?zw ?zx ⟨?zc, ?zv, ?zh, Nat.le_of_ble_eq_true rfl⟩ ?zr
  case zu =>
    (repeat' (first | exact trivial | exact Under.s _ | exact Under.ref _ _ (by decide) | exact uf | (refine And.intro ?_ ?_)))
  case zw =>
    (repeat' (first | exact trivial))
  case zx =>
    (repeat' (first | exact trivial | exact Nat.le_of_ble_eq_true rfl | exact uY | (refine And.intro ?_ ?_)))
  case zc =>
    (repeat' (first | (refine And.intro ?_ ?_) | exact trivial | exact A.Le.refl _))
  case zv =>
    (repeat' (first | exact trivial))
  case zh =>
    (repeat' (first | (refine And.intro ?_ ?_) | exact trivial | exact rfl))
  case zr =>
  refine Aw.sm tab_ok mb0 [(1, [.tup [.int q', .int e']])] rfl rfl ?zo ?zk
  case zo =>
    repeat' apply AllP.cons
    all_goals first | exact trivial | exact Nat.le_of_ble_eq_true rfl | exact c3
  case zk =>
  refine Aw.sm tab_ok mb0 [(20, [.bool true])] rfl rfl ?zo ?zk
  case zo =>
    repeat' apply AllP.cons
    all_goals first | exact trivial | exact id | exact fun _ => rfl | exact gq_f | exact fun _ => works_t | exact fun _ _ => rfl | exact fun h k => gq_c h k
  case zk =>
  exact Aw.ret ⟨_, .cons (.tmp _) .nil, by
    show A.bool (cond (cond (cond (cond (e' == 0) (e == 0) false) (decide (q' ≤ q)) false) true (cond (e' == 4) (q' == 0) false)) true false) = A.bool true
    rcases x2 with ⟨rfl, rfl, hle2⟩ | ⟨rfl, rfl⟩
    · rw [decide_eq_true hle2]; rfl
    · rfl⟩
end Go.Proofs.Ytdiclbgklegelaa

namespace Go.Proofs.Ytdiclbgklegelaa
open Go Go.AL Go.ChangeShapes Go.WideShapes Go.ChangeAt Go.RowKit
set_option maxRecDepth 100000 in
theorem stockMore_lifted (os : Os) (started : os.Started) (H : Type) (enc : TypeId × Value → H) :
    ReturnsInHanded {} Try.checked os 15 .any (Rows.stockMoreSpec.pre6 enc Try.prog Try.f15 [] false) (Rows.stockMoreSpec.post enc Try.prog Try.f15 false true false false) := by
  refine lifted2 (tb := 4) (C := Try.checked) own started (by kernel_rfl) Try.func15
    (ChangeSpec.witness6 (enc := enc) (C := Try.checked) false ⟨#[], #[.agg #[.slice none 0 0, .slice none 0 0, .slice none 0 0], .agg #[.int .i64 0, .int .i64 0, .int .i64 0, .int .i64 0]], []⟩ 8 (by kernel_rfl) (by kernel_rfl) (by kernel_rfl) (by kernel_rfl))
    laidOut ?_ rfl rfl (by kernel_rfl) uBool ?_ ?_
  · rw [Try.params15]; exact all2t (p := fun t => Try.prog.readableRec t = true ∧ t < Try.prog.types.size) t47 t80
  · intro ds hd
    rw [Try.params15] at hd
    match ds, hd with
    | [d0, d1], _ => rfl
  · intro W base args ds p hval hA hwt
    rw [Try.params15] at hA hval
    obtain ⟨v0, v1, d0, d1, p0, p1, rfl, rfl, rfl, h0, h1⟩ := trodAll_two hA
    obtain ⟨y0, q0, s0⟩ := arg_fish (φ := fun _ => none) (hval 0 47 v0 rfl rfl) h0 fun k hk => hwt k (List.mem_append.2 (.inl hk))
    obtain ⟨y1, q1⟩ := arg_4 (φ := fun _ => none) (hval 1 80 v1 rfl rfl) h1 fun k hk => hwt k (List.mem_append.2 (.inr (List.mem_append.2 (.inl hk))))
    exact ⟨_, _, vrs2 q0 q1, more_l y0 y1.1 y1.2.1 y1.2.2.1 y1.2.2.2 s0⟩
theorem stockMore_holds : Rows.StockMoreSaid :=
  OpenClaim.holds_of_wide 15 Try.f15 rfl rfl rfl rfl rfl rfl rfl ⟨rfl, rfl, rfl, rfl, rfl⟩ rfl rfl rfl rfl rfl (by kernel_rfl) Try.func15 (by kernel_rfl)
    (of_decide_eq_true (by kernel_rfl)) (by unfold Func.isWrapper; first | (rw [if_pos (by decide +kernel)]; kernel_rfl) | (rw [if_neg (by decide +kernel)]; exact ⟨rfl, rfl⟩))
    (fun os started H enc _ => stockMore_lifted os started H enc)
end Go.Proofs.Ytdiclbgklegelaa

