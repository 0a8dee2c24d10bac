/- StockKept holds: With the quota that is told no race's spawners are below its line. No condition. -/
import Derived.Test.YtdiclbgklegelaaK6
set_option linter.all false
namespace Go.AL
open Go Go.RowKit Go.ChangeShapes Go.WideShapes Go.ChangeAt
section
variable {H : Type} {enc : TypeId × Value → H} {P : Program} {w : World} {base : Nat} {held : Bool} {φ : Names}
def CellsAre (φ : Names) (w : World) (az : List A) (cs : List Value) : Prop :=
  cs.length = az.length ∧ ∀ i, i < az.length → VR φ (allZ w) w (az.getD i .un) (cs.getD i undef) ∧ (cs.getD i undef).oneCell' = true
theorem CellsAre.nil : CellsAre φ w [] [] := ⟨rfl, fun i h => by simp at h⟩
theorem CellsAre.one {a : A} {v : Value} (h : VR φ (allZ w) w a v) (h1 : v.oneCell' = true) : CellsAre φ w [a] [v] := ⟨rfl, fun i hi => by
  have : i = 0 := by simp at hi; exact hi
  subst this; exact ⟨h, h1⟩⟩
theorem CellsAre.app {az bz : List A} {cs ds : List Value} (h : CellsAre φ w az cs) (k : CellsAre φ w bz ds) : CellsAre φ w (az ++ bz) (cs ++ ds) := by
  refine ⟨by simp [h.1, k.1], fun i hi => ?_⟩
  by_cases h1 : i < az.length
  · have := h.2 i h1
    rw [show (az ++ bz).getD i .un = az.getD i .un by simp [List.getD_eq_getElem?_getD, List.getElem?_append, h1],
      show (cs ++ ds).getD i undef = cs.getD i undef by simp [List.getD_eq_getElem?_getD, List.getElem?_append, h.1, h1]]
    exact this
  · have hi2 : i - az.length < bz.length := by simp only [List.length_append] at hi; omega
    have := k.2 (i - az.length) hi2
    rw [show (az ++ bz).getD i .un = bz.getD (i - az.length) .un by simp [List.getD_eq_getElem?_getD, List.getElem?_append, h1],
      show (cs ++ ds).getD i undef = ds.getD (i - az.length) undef by simp [List.getD_eq_getElem?_getD, List.getElem?_append, h.1, h1]]
    exact this
theorem CellsAre.agg {az : List A} {cs : List Value} (h : CellsAre φ w az cs) : VR φ (allZ w) w (.agg az) (.agg cs.toArray) := by
  have e : ∀ i, cs.toArray.getD i undef = cs.getD i undef := fun i => by simp [Array.getD_eq_getD_getElem?, List.getD_eq_getElem?_getD]
  refine .agg _ _ (by simp [h.1]) (fun i hi => ?_) fun i hi => ?_
  · rw [e]; exact (h.2 i hi).2
  · rw [e]; exact (h.2 i hi).1
def Reads (enc : TypeId × Value → H) (P : Program) (w : World) (base : Nat) (held : Bool) (φ : Names) (e sz : Nat) {α : Type} (c : α → List A) (Q : α → Prop) : Prop :=
  ∀ n cs y, DataW.trod enc P w base (fun _ => true) held n e cs = some y → (∀ k ∈ y.1.weights P e, k ≤ reachBytes) → ∃ a : α, Q a ∧ (c a).length = sz ∧ CellsAre φ w (c a) cs
theorem Reads.imp {e sz : Nat} {α β : Type} {c : α → List A} {d : β → List A} {Q : α → Prop} {R : β → Prop} (h : Reads enc P w base held φ e sz c Q) (k : ∀ a, Q a → ∃ b, R b ∧ d b = c a) : Reads enc P w base held φ e sz d R := fun n cs y hy hw => by
  obtain ⟨a, q, l, r⟩ := h n cs y hy hw
  obtain ⟨b, q2, e2⟩ := k a q
  exact ⟨b, q2, by rw [e2]; exact l, by rw [e2]; exact r⟩
theorem Reads.int {e : Nat} (he : P.underlying e = some (.int .i64)) : Reads enc P w base held φ e 1 (fun n : Int => [A.int n]) fun _ => True := fun n cs y h _ => by
  obtain ⟨z, rfl, _, _⟩ := DataW.trod_int he h
  exact ⟨z, trivial, rfl, .one (.s _) rfl⟩
theorem weightsAll_at {e : Nat} : ∀ {l : List (DataW H)} {d : DataW H}, d ∈ l → ∀ k ∈ d.weights P e, k ∈ DataW.weightsAll P e l
  | x :: l, d, hm, k, hk => by
    rw [DataW.weightsAll, List.mem_append]
    rcases List.mem_cons.1 hm with rfl | hm
    · exact .inl hk
    · exact .inr (weightsAll_at hm k hk)
theorem cells_spot {a : Addr} {n : Nat} {cs : List Value} (h : w.cells? base a n = some cs) (hn : 0 < n) : a.spot = none := by
  obtain ⟨hl, hc⟩ := cells_at h
  have h0 := hc 0 hn
  rw [List.getElem?_eq_getElem (by omega)] at h0
  have := World.cell?_spot h0
  rwa [show a.add 0 = a from by unfold Addr.add; simp] at this
theorem told_list {α : Type} {c : α → List A} {Q : α → Prop} {R : α → Nat → Prop} (n : Nat) (h : ∀ i, i < n → ∃ a, Q a ∧ R a i) : ∃ l : List α, l.length = n ∧ (∀ a ∈ l, Q a) ∧ ∀ i (hi : i < l.length), R l[i] i := by
  induction n with
  | zero => exact ⟨[], rfl, fun _ h => by simp at h, fun i hi => by simp at hi⟩
  | succ n ih =>
    obtain ⟨l, hl, hq, hr⟩ := ih fun i hi => h i (by omega)
    obtain ⟨a, qa, ra⟩ := h n (by omega)
    refine ⟨l ++ [a], by simp [hl], fun x hx => ?_, fun i hi => ?_⟩
    · rcases List.mem_append.1 hx with hx | hx
      · exact hq x hx
      · rw [List.mem_singleton.1 hx]; exact qa
    · by_cases h1 : i < l.length
      · rw [List.getElem_append_left h1]; exact hr i h1
      · have : i = l.length := by simp at hi; omega
        subst this
        rw [List.getElem_append_right (by omega)]
        simp only [Nat.sub_self, List.getElem_cons_zero]
        rw [hl]; exact ra
theorem Reads.slice {t e sz : Nat} {α : Type} {c : α → List A} {Q : α → Prop} (ht : P.underlying t = some (.slice e)) (hc : P.cellsOf e = sz) (h0 : 0 < sz) (h : Reads enc P w base held φ e sz c Q) :
    Reads enc P w base held φ t 1 (fun x : Bool × List α => [A.sl x.1 .any (x.2.map c)]) fun x => (∀ a ∈ x.2, Q a) ∧ x.2.length * P.bytesOf e ≤ reachBytes := by
  intro fuel cs y hy hw
  rcases DataW.trod_slice ht hy with ⟨rfl, _⟩ | ⟨ad, len, cap, elems, rest, n, _, rfl, hx, hbl, hl, hm, hlen, hel, hre, _⟩
  · exact ⟨(true, []), ⟨fun a ha => (nomatch ha), by simp⟩, rfl, .one (.nil _) rfl⟩
  · obtain ⟨hrl, hre⟩ := hre rfl
    have hwt : (elems.map (·.1)).length * P.bytesOf e ≤ reachBytes ∧ ∀ d ∈ elems.map (·.1), ∀ k ∈ d.weights P e, k ≤ reachBytes := by
      rw [hx] at hw
      simp only [DataW.weights, ht] at hw
      refine ⟨Nat.le_trans (Nat.mul_le_mul_right _ (Nat.le_add_right _ (rest.map (·.1)).length)) (hw _ (List.mem_cons_self ..)), fun d hd k hk => hw k (List.mem_cons_of_mem _ (List.mem_append.2 (.inl (weightsAll_at hd k hk))))⟩
    have hsp : cap = 0 ∨ ad.spot = none := by
      rcases Nat.eq_zero_or_pos cap with h | hpos
      · exact .inl h
      right
      rcases Nat.eq_zero_or_pos len with hz | hlp
      · subst hz
        have h1 := hre 0 (by omega)
        rw [hc] at h1
        obtain ⟨r, hr⟩ : ∃ r, rest[0]? = some r := ⟨rest[0]'(by omega), List.getElem?_eq_getElem _⟩
        rw [hr, Option.bind_eq_some_iff] at h1
        obtain ⟨cs, h2, _⟩ := h1
        rw [show ad.add ((0 + 0) * sz) = ad from by unfold Addr.add; simp] at h2
        exact cells_spot h2 h0
      · have h1 := hel 0 hlp
        rw [hc] at h1
        obtain ⟨r, hr⟩ : ∃ r, elems[0]? = some r := ⟨elems[0]'(by omega), List.getElem?_eq_getElem _⟩
        rw [hr, Option.bind_eq_some_iff] at h1
        obtain ⟨cs, h2, _⟩ := h1
        rw [show ad.add (0 * sz) = ad from by unfold Addr.add; simp] at h2
        exact cells_spot h2 h0
    rcases hsp with hz | hsp
    · subst hz
      have : len = 0 := by omega
      subst this
      exact ⟨(false, []), ⟨fun a ha => (nomatch ha), by simp⟩, rfl, .one (.slz _ ad) rfl⟩
    obtain ⟨b, off, sp⟩ := ad
    simp only at hsp
    subst hsp
    have each : ∀ i, i < len → ∃ a : α, Q a ∧ ((c a).length = sz ∧ ∃ cs, w.cells? base ((⟨b, off, none⟩ : Addr).add (i * sz)) sz = some cs ∧ CellsAre φ w (c a) cs) := fun i hi => by
      have h1 := hel i hi
      rw [hc] at h1
      rw [List.getElem?_eq_getElem (by omega), Option.bind_eq_some_iff] at h1
      obtain ⟨cs, h2, h3⟩ := h1
      obtain ⟨a, qa, la, ra⟩ := h n cs _ h3 (hwt.2 _ (List.mem_map.2 ⟨_, List.getElem_mem (by omega), rfl⟩))
      exact ⟨a, qa, la, cs, h2, ra⟩
    obtain ⟨l, hll, hq, hr⟩ := told_list (c := c) len each
    have hcell : ∀ i j, i < l.length → j < sz → ∃ v, w.cell? ⟨b, off + i * sz + j, none⟩ = some v ∧ VR φ (allZ w) w ((((l.map c).getD i []).getD j .un)) v ∧ v.oneCell' = true := fun i j hi hj => by
      obtain ⟨q1, cs, q2, q3⟩ := hr i hi
      have h1 := (cells_at q2).2 j hj
      rw [add_plain, add_plain] at h1
      have hcl : cs.length = sz := by rw [q3.1, q1]
      rw [List.getElem?_eq_getElem (by omega)] at h1
      have h2 := q3.2 j (by omega)
      have e1 : cs.getD j undef = cs[j]'(by omega) := by rw [List.getD_eq_getElem?_getD, List.getElem?_eq_getElem (by omega)]; rfl
      have e2 : (l.map c).getD i [] = c l[i] := by rw [List.getD_eq_getElem?_getD, List.getElem?_map, List.getElem?_eq_getElem hi]; rfl
      rw [e1] at h2
      exact ⟨_, h1, by rw [e2]; exact h2.1, h2.2⟩
    let val : Nat → Nat → Value := fun i j => (w.cell? ⟨b, off + i * sz + j, none⟩).getD undef
    have hval : ∀ i j, i < l.length → j < sz → w.cell? ⟨b, off + i * sz + j, none⟩ = some (val i j) ∧ VR φ (allZ w) w ((((l.map c).getD i []).getD j .un)) (val i j) ∧ (val i j).oneCell' = true := fun i j hi hj => by
      obtain ⟨v, h1, h2, h3⟩ := hcell i j hi hj
      have : val i j = v := by simp only [val, h1]; rfl
      rw [this]; exact ⟨h1, h2, h3⟩
    have hl2 : (l.map c).length = l.length := by simp
    refine ⟨(false, l), ⟨hq, ?_⟩, rfl, .one ?_ rfl⟩
    · have := hwt.1
      rw [List.length_map, hlen] at this
      rw [hll]; exact this
    · have key : VR φ (allZ w) w (.sl false .any (l.map c)) (.slice (some ⟨b, off, none⟩) (l.map c).length cap) := by
        refine .sl .any _ b off sz cap val (by rw [hl2, hll]; exact hl) (fun h => by cases h) hm (fun z hz => ?_) (fun i j hi hj => ?_) (fun i j hi hj => ?_) (fun i j hi hj => ?_) fun i j hi hj => ?_
        · obtain ⟨a, ha, rfl⟩ := List.mem_map.1 hz
          obtain ⟨i, hi, rfl⟩ := List.mem_iff_getElem.1 ha
          exact (hr i hi).1
        all_goals rw [hl2] at hi
        · exact ⟨_, (hval i j hi hj).1⟩
        · exact (hval i j hi hj).1
        · exact (hval i j hi hj).2.2
        · exact (hval i j hi hj).2.1
      rw [hl2, hll] at key; exact key
inductive Flds (enc : TypeId × Value → H) (P : Program) (w : World) (base : Nat) (held : Bool) (φ : Names) : Nat → List Field → {α : Type} → (α → List A) → (α → Prop) → Nat → Prop
  | nil (off : Nat) : Flds enc P w base held φ off [] (fun _ : Unit => []) (fun _ => True) 0
  | cons {off : Nat} {f : Field} {fs : List Field} {sz m : Nat} {α β : Type} {c : α → List A} {Q : α → Prop} {d : β → List A} {R : β → Prop} (ho : f.offset = off) (hc : P.cellsOf f.type = sz) (h : Reads enc P w base held φ f.type sz c Q)
      (k : Flds enc P w base held φ (off + sz) fs d R m) : Flds enc P w base held φ off (f :: fs) (fun x : α × β => c x.1 ++ d x.2) (fun x => Q x.1 ∧ R x.2) (sz + m)
theorem Flds.read {n : Nat} {cs : List Value} : ∀ {fs : List Field} {off m : Nat} {α : Type} {c : α → List A} {Q : α → Prop} {xs : List (DataW H × List MemPlace)}, Flds enc P w base held φ off fs c Q m → xs.length = fs.length →
    (∀ (i : Nat) (f : Field), fs[i]? = some f → DataW.trod enc P w base (fun _ => true) held n f.type ((cs.drop f.offset).take (P.cellsOf f.type)) = xs[i]?) → (∀ k ∈ DataW.weightsEach P (fs.map (·.type)) (xs.map (·.1)), k ≤ reachBytes) →
    cs.length = off + m → ∃ a, Q a ∧ (c a).length = m ∧ CellsAre φ w (c a) (cs.drop off)
  | _, _, _, _, _, _, [], .nil off, _, _, _, hl => ⟨(), trivial, rfl, by rw [List.drop_of_length_le (by omega)]; exact .nil⟩
  | f :: fs, off, _, _, _, _, x :: xs, .cons (sz := sz) (m := m) ho hc h k, hxl, hx, hw, hl => by
    have h0 := hx 0 f rfl
    rw [ho, hc] at h0
    obtain ⟨a, qa, la, ra⟩ := h n _ x h0 fun k hk => hw k (by
      simp only [List.map_cons, DataW.weightsEach, List.mem_append]; exact .inl hk)
    obtain ⟨b, qb, lb, rb⟩ := Flds.read k (by simpa using hxl) (fun i f' hf => hx (i + 1) f' hf) (fun k hk => hw k (by
      simp only [List.map_cons, DataW.weightsEach, List.mem_append]; exact .inr hk)) (by omega)
    refine ⟨(a, b), ⟨qa, qb⟩, by simp only [List.length_append, la, lb], ?_⟩
    have e : cs.drop off = (cs.drop off).take sz ++ cs.drop (off + sz) := by
      rw [← List.drop_drop, List.take_append_drop]
    rw [e]
    exact ra.app rb
theorem Reads.struct {e m m' : Nat} {fs : Array Field} {l : List Field} {α : Type} {c : α → List A} {Q : α → Prop} (he : P.underlying e = some (.struct fs)) (hc : P.cellsOf e = m) (h : Flds enc P w base held φ 0 l c Q m') (hl : fs.toList = l) (hm : m' = m) : Reads enc P w base held φ e m c Q := by
  subst hl; subst hm
  intro fuel cs y hy hw
  obtain ⟨xs, n, _, hx, hl, hlen, hf⟩ := DataW.trod_struct he hy
  rw [hx] at hw
  simp only [DataW.weights, he] at hw
  obtain ⟨a, q, l, r⟩ := h.read (n := n) (cs := cs) (xs := xs) (by simpa using hlen) (fun i f hf' => hf i f (by simpa using hf')) hw (by omega)
  exact ⟨a, q, l, by simpa using r⟩
theorem Reads.arg_agg {t m : Nat} {α : Type} {c : α → List A} {Q : α → Prop} {v : Value} {d : DataW H} {p : List MemPlace} (h : Reads enc P w base held φ t m c Q) (hv : ∃ cs, v = .agg cs)
    (ht : DataW.Trod enc P w base (fun _ => true) held t v d p) (hw : ∀ k ∈ d.weights P t, k ≤ reachBytes) : ∃ a, Q a ∧ VR φ (allZ w) w (.agg (c a)) v := by
  obtain ⟨⟨cs⟩, rfl⟩ := hv
  obtain ⟨fuel, ht⟩ := ht
  obtain ⟨a, q, _, r⟩ := h fuel cs _ ht hw
  exact ⟨a, q, r.agg⟩
theorem agg_struct {t : Nat} {fs : Array Field} {v : Value} {r : Reach} {b0 : Nat} (hu : P.underlying t = some (.struct fs)) (hok : Value.okWide P w r b0 t v) : ∃ cs, v = .agg cs := by
  unfold Value.okWide at hok
  rw [hu] at hok
  obtain ⟨cs, rfl, _⟩ := hok
  exact ⟨cs, rfl⟩
theorem Reads.ints {t n e : Nat} (hu : P.underlying t = some (.array n e)) (hc : P.cellsOf t = n) (ue : P.underlying e = some (.int .i64)) (ce : P.cellsOf e = 1) :
    Reads enc P w base held φ t n (fun l : List Int => l.map A.int) fun l => l.length = n := by
  intro fuel cs y hy _
  obtain ⟨xs, m, _, _, hl0, hl, hx⟩ := DataW.trod_array hu hy
  rw [ce] at hx
  have hcl : cs.length = n := by omega
  have each : ∀ i, i < n → ∃ z : Int, True ∧ cs[i]? = some (.int .i64 z) := fun i hi => by
    have h1 := hx i hi
    rw [List.getElem?_eq_getElem (by omega)] at h1
    obtain ⟨z, hz, _⟩ := DataW.trod_int ue h1
    refine ⟨z, trivial, ?_⟩
    have h5 := congrArg (fun l => l[0]?) hz
    simpa using h5
  obtain ⟨l, hll, _, hr⟩ := told_list (c := fun _ : Int => []) n each
  refine ⟨l, hll, by simp [hll], by simp [hll, hcl], fun i hi => ?_⟩
  have hi : i < l.length := by simpa using hi
  have h1 := hr i hi
  have e1 : cs.getD i undef = .int .i64 l[i] := by rw [List.getD_eq_getElem?_getD, h1]; rfl
  have e2 : (l.map A.int).getD i .un = A.int l[i] := by simp [List.getD_eq_getElem?_getD, hi]
  rw [e1, e2]
  exact ⟨.s _, rfl⟩
end
end Go.AL

namespace Go.AL.Q
open Go
end Go.AL.Q

namespace Go.AL.Q
open Go
def LeP (a b : List Int) : Prop := a.length = b.length ∧ ∀ i, a.getD i 0 ≤ b.getD i 0
theorem LeP.refl (a : List Int) : LeP a a := ⟨rfl, fun _ => Int.le_refl _⟩
theorem LeP.set {a b : List Int} (h : LeP a b) {i : Nat} {x y : Int} (hi : i < b.length) (hx : x ≤ y) : LeP (a.set i x) (b.set i y) :=
  ⟨by simp [h.1], fun j => by
    have hl := h.1
    rw [getD_set' _ _ _ _ (by omega), getD_set' _ _ _ _ hi]
    split
    · exact hx
    · exact h.2 j⟩
theorem catchF_mono {mesh : Nat} : ∀ (k : Nat) (t t' : Int) (l l' : List Int), LeP l l' → k ≤ l'.length → t' ≤ t → LeP (catchF l mesh k t) (catchF l' mesh k t')
  | 0, t, t', l, l', h, _, _ => h
  | k + 1, t, t', l, l', h, hk, ht => by
    unfold catchF
    have h1 := h.2 k
    have hl := h.1
    split
    · exact catchF_mono k _ _ _ _ (h.set (by omega) (by omega)) (by simp; omega) (by omega)
    · exact h
theorem sum_mono {α : Type} {f g : α → Int} : ∀ {l : List α}, (∀ x ∈ l, f x ≤ g x) → (l.map f).sum ≤ (l.map g).sum
  | [], _ => by simp
  | x :: l, h => by
    have h1 := h x (List.mem_cons_self ..)
    have h2 := sum_mono (f := f) (g := g) (l := l) fun y hy => h y (List.mem_cons_of_mem _ hy)
    simp only [List.map_cons, List.sum_cons]; omega
theorem spawnF_mono {r : Rce} (hr : RceOk r) {l l' : List Int} (h : LeP l l') : spawnF r l ≤ spawnF r l' := by
  unfold spawnF spawnN
  exact sum_mono fun i hi => Int.mul_le_mul_of_nonneg_right (h.2 i) (hr.sb i (List.mem_range.1 hi)).1
theorem tdiv_mono {a b : Int} (h : a ≤ b) : a.tdiv 1000 ≤ b.tdiv 1000 := by
  rw [Int.tdiv_eq_ediv, Int.tdiv_eq_ediv, show Int.sign 1000 = 1 from rfl]
  split <;> split <;> omega
theorem winN_len {r : Rce} {l : List Int} : ∀ k, (winN r l k).length = r.many
  | 0 => by simp [winN]
  | k + 1 => by simp [winN, winN_len k]
theorem winN_mono {r : Rce} (hr : RceOk r) {l l' : List Int} (h : LeP l l') : ∀ k, k ≤ r.many → LeP (winN r l k) (winN r l' k)
  | 0, _ => LeP.refl _
  | k + 1, hk => by
    have ih := winN_mono hr h k (by omega)
    have h1 := hr.m1
    have h2 := Int.mul_le_mul_of_nonneg_right (h.2 k) (hr.kb k (by omega)).1
    have h3 := tdiv_mono h2
    have h4 := ih.2 (min (k + 1) (r.many - 1))
    exact ih.set (by rw [winN_len]; omega) (by omega)
theorem winF_mono {r : Rce} (hr : RceOk r) {l l' : List Int} {x x' : Int} (h : LeP l l') (hx : x ≤ x') : LeP (winF r l x) (winF r l' x') := by
  have ih := winN_mono hr h r.many (Nat.le_refl _)
  have h1 := hr.m1
  have h2 := ih.2 0
  exact ih.set (by rw [winN_len]; omega) (by omega)
theorem playF_mono {r : Rce} (hr : RceOk r) : ∀ (ts ts' xs xs' l l' : List Int), LeP l l' → r.many ≤ l'.length → LeP ts' ts → LeP xs xs' → ts.length = xs.length → LeP (playF r l ts xs) (playF r l' ts' xs')
  | [], [], xs, xs', l, l', _, _, _, _, _ => by cases xs <;> cases xs' <;> exact LeP.refl _
  | t :: ts, [], xs, xs', l, l', _, _, h, _, _ => by cases h.1
  | [], t' :: ts', xs, xs', l, l', _, _, h, _, _ => by cases h.1
  | t :: ts, t' :: ts', [], xs', l, l', _, _, h, hx, e => by cases e
  | t :: ts, t' :: ts', x :: xs, [], l, l', _, _, h, hx, e => by cases hx.1
  | t :: ts, t' :: ts', x :: xs, x' :: xs', l, l', hl, hm, ht, hx, e => by
    have t0 : t' ≤ t := ht.2 0
    have x0 : x ≤ x' := hx.2 0
    have hts : LeP ts' ts := ⟨by simpa using ht.1, fun i => by simpa using ht.2 (i + 1)⟩
    have hxs : LeP xs xs' := ⟨by simpa using hx.1, fun i => by simpa using hx.2 (i + 1)⟩
    have hc : LeP (caughtF r l t) (caughtF r l' t') := catchF_mono _ _ _ _ _ hl hm t0
    have hs := spawnF_mono hr hc
    have hw := winF_mono hr hc x0
    have ih := playF_mono hr ts ts' xs xs' _ _ hw (by simp [winF, winN_len]) hts hxs (by simpa using e)
    unfold playF yearF
    exact ⟨by simp [ih.1], fun i => by
      cases i with
      | zero => exact hs
      | succ i => exact ih.2 i⟩
def Rce.aliveHead (r : Rce) : Bool := cond (cond (cond (wi r.many 1 6) ((r.keep.length : Int) == r.many) false) ((r.spawn.length : Int) == r.many) false) (wi r.mesh 0 ((r.many : Int) - 1)) false
def Rce.alive (r : Rce) : Bool := cond r.aliveHead ((List.range r.many).all r.ageOk) false
theorem Rce.alive_of {r : Rce} (h : r.ok = true) : r.alive = true := by
  unfold Rce.ok at h
  have h0 := ac1 h
  have h2 := ac2 h
  unfold Rce.head at h0
  have b1 := ac1 (ac1 (ac1 (ac1 h0)))
  have b2 := ac2 (ac1 (ac1 (ac1 h0)))
  have b3 := ac2 (ac1 (ac1 h0))
  have b5 := ac2 h0
  unfold Rce.alive Rce.aliveHead
  rw [b1, b2, b3, b5, h2]; rfl
structure PlayIn (r : Rce) (takes recs : List Int) : Prop where
  ok : r.ok = true
  l1 : 1 ≤ takes.length
  l10 : takes.length ≤ 10
  len : recs.length = takes.length
  t : ∀ i, i < takes.length → 0 ≤ takes.getD i 0 ∧ takes.getD i 0 ≤ 100000000
  x : ∀ i, i < takes.length → 0 ≤ recs.getD i 0 ∧ recs.getD i 0 ≤ 100000
theorem PlayIn.of {r : Rce} {takes recs : List Int} (h : playOk r takes recs = true) : PlayIn r takes recs := by
  unfold playOk at h
  have h1 := ac1 h
  have h2 := fun i hi => List.all_eq_true.1 (ac2 h) i (List.mem_range.2 hi)
  unfold playHead at h1
  have a1 := wi_iff.1 (ac2 (ac1 h1))
  have a2 := eq_of_beq (ac2 h1)
  exact ⟨ac1 (ac1 h1), by omega, by omega, by omega, fun i hi => wi_iff.1 (ac1 (h2 i hi)), fun i hi => wi_iff.1 (ac2 (h2 i hi))⟩
theorem PlayIn.to {r : Rce} {takes recs : List Int} (h : PlayIn r takes recs) : playOk r takes recs = true := by
  have h1 := h.l1
  have h2 := h.l10
  have h3 := h.len
  have e1 : wi takes.length 1 10 = true := wi_iff.2 ⟨by omega, by omega⟩
  have e2 : ((recs.length : Int) == takes.length) = true := by rw [h3]; simp
  unfold playOk playHead
  rw [h.ok, e1, e2]
  show (List.range takes.length).all (playYear takes recs) = true
  refine List.all_eq_true.2 fun i hi => ?_
  have hi := List.mem_range.1 hi
  unfold playYear
  rw [wi_iff.2 (h.t i hi), wi_iff.2 (h.x i hi)]; rfl
theorem getD_mem {l : List Int} {x : Int} (h : x ∈ l) : ∃ i, i < l.length ∧ l.getD i 0 = x := by
  obtain ⟨i, hi, rfl⟩ := List.mem_iff_getElem.1 h
  exact ⟨i, hi, by simp [List.getD_eq_getElem?_getD, hi]⟩
theorem LeP.up {l : List Int} {i : Nat} {v : Int} (hi : i < l.length) (h : l.getD i 0 ≤ v) : LeP l (l.set i v) := ⟨by simp, fun j => by
  rw [getD_set' _ _ _ _ hi]
  split
  · rename_i e; subst e; exact h
  · exact Int.le_refl _⟩
theorem LeP.dn {l : List Int} {i : Nat} {v : Int} (hi : i < l.length) (h : v ≤ l.getD i 0) : LeP (l.set i v) l := ⟨by simp, fun j => by
  rw [getD_set' _ _ _ _ hi]
  split
  · rename_i e; subst e; exact h
  · exact Int.le_refl _⟩
end Go.AL.Q

namespace Go.AL.Q
open Go
def downF (n b : Int) : Int := (n - n % b).tdiv b
theorem up_take {q m : Int} (h : 0 ≤ q * m) : -(downF (-(q * m)) 100) = takeF q m := by
  unfold downF takeF
  generalize q * m = n at *
  rw [Int.tdiv_eq_ediv, Int.tdiv_eq_ediv, show Int.sign 100 = 1 from rfl]
  split <;> split <;> omega
def Fish.brk (f : Fish) (q : Int) (y r s : Nat) : Bool := decide ((f.spawns r s q).getD y 0 < (f.race r).line)
def Fish.findS (f : Fish) (q : Int) (y r : Nat) (k : Nat) : Option Nat := (List.range' k (f.seasons.length - k)).find? (f.brk q y r)
def Fish.findR (f : Fish) (q : Int) (y : Nat) (k : Nat) : Option (Nat × Nat) := (List.range' k (f.many - k)).findSome? fun r => (f.findS q y r 0).map fun s => (r, s)
def Fish.findY (f : Fish) (q : Int) (k : Nat) : Option (Nat × Nat × Nat) := (List.range' k (f.years - k)).findSome? fun y => (f.findR q y 0).map fun p => (y, p)
end Go.AL.Q

namespace Go.AL.Q
open Go
theorem spawns_len {f : Fish} (hok : FishOk f) {r s : Nat} (hr : r < f.many) (hs : s < f.seasons.length) (q : Int) : (f.spawns r s q).length = f.years := by
  unfold Fish.spawns
  rw [playF_len _ _ _ _ (by simp), List.length_replicate, hok.rl s r hs hr]
theorem any_brk {f : Fish} (hok : FishOk f) {r s : Nat} (hr : r < f.many) (hs : s < f.seasons.length) (q : Int) : decide (f.breakY r s q ≥ 0) = true ↔ ∃ y, y < f.years ∧ f.brk q y r s = true := by
  unfold Fish.breakY
  rw [idxF_any, List.any_eq_true]
  have hl := spawns_len hok hr hs q
  constructor
  · rintro ⟨x, hx, h⟩
    obtain ⟨i, hi, rfl⟩ := getD_mem hx
    exact ⟨i, by omega, h⟩
  · rintro ⟨y, hy, h⟩
    refine ⟨(f.spawns r s q).getD y 0, ?_, h⟩
    rw [List.getD_eq_getElem?_getD, List.getElem?_eq_getElem (by omega)]
    exact List.getElem_mem (by omega)
theorem findY_none {f : Fish} {q : Int} : f.findY q 0 = none ↔ ∀ y, y < f.years → ∀ r, r < f.many → ∀ s, s < f.seasons.length → f.brk q y r s = false := by
  unfold Fish.findY Fish.findR Fish.findS
  simp only [List.findSome?_eq_none_iff, Option.map_eq_none_iff, List.find?_eq_none, List.mem_range'_1, Nat.sub_zero, Nat.zero_add, Nat.zero_le, true_and, Bool.not_eq_true]
theorem holds_find {f : Fish} (hok : FishOk f) (q : Int) : f.holds q = (f.findY q 0).isNone := by
  rw [Bool.eq_iff_iff, Option.isNone_iff_eq_none, findY_none]
  unfold Fish.holds
  simp only [List.all_eq_true, List.mem_range, Bool.not_eq_true']
  constructor
  · intro h y hy r hr s hs
    have h1 := h r hr s hs
    cases e : f.brk q y r s with
    | false => rfl
    | true =>
      rw [(any_brk hok hr hs q).2 ⟨y, hy, e⟩] at h1
      cases h1
  · intro h r hr s hs
    cases e : decide (f.breakY r s q ≥ 0) with
    | false => rfl
    | true =>
      obtain ⟨y, hy, h2⟩ := (any_brk hok hr hs q).1 e
      rw [h y hy r hr s hs] at h2
      cases h2
end Go.AL.Q

namespace Go.AL.Q
open Go
theorem idxF_first {p : Int → Bool} : ∀ (l : List Int) (k y : Nat), y < l.length → p (l.getD y 0) = true → (∀ i, i < y → p (l.getD i 0) = false) → idxF p k l = (k + y : Nat)
  | [], k, y, h, _, _ => by simp at h
  | n :: l, k, 0, h, h1, _ => by
    have h1 : p n = true := h1
    rw [idxF, h1]; simp
  | n :: l, k, y + 1, h, h1, h2 => by
    have h0 : p n = false := h2 0 (by omega)
    rw [idxF, h0]
    have := idxF_first (p := p) l (k + 1) y (by simpa using h) h1 fun i hi => h2 (i + 1) (by omega)
    simp only [Bool.false_eq_true, if_false]
    rw [this]; congr 1; omega
theorem break_is {f : Fish} (hok : FishOk f) {r s y : Nat} (hr : r < f.many) (hs : s < f.seasons.length) {q : Int} (hy : y < f.years) (h : f.brk q y r s = true) (h0 : ∀ i, i < y → f.brk q i r s = false) : f.breakY r s q = y := by
  unfold Fish.breakY
  rw [idxF_first _ 0 y (by rw [spawns_len hok hr hs]; exact hy) h h0]; simp
theorem break_ge {f : Fish} (hok : FishOk f) {r s y : Nat} (hr : r < f.many) (hs : s < f.seasons.length) {q : Int} (h0 : ∀ i, i < y → f.brk q i r s = false) (hb : f.breakY r s q ≥ 0) : f.breakY r s q ≥ y := by
  obtain ⟨m, hm⟩ : ∃ m : Nat, f.breakY r s q = m := ⟨(f.breakY r s q).toNat, by omega⟩
  obtain ⟨z, hz, hbz⟩ := (any_brk hok hr hs q).1 (decide_eq_true hb)
  have hex : ∃ z, z < f.years ∧ f.brk q z r s = true ∧ ∀ i, i < z → f.brk q i r s = false := by
    induction z using Nat.strongRecOn with
    | _ z ih =>
      by_cases h : ∃ i, i < z ∧ f.brk q i r s = true
      · obtain ⟨i, hi, hb⟩ := h
        exact ih i hi (by omega) hb
      · refine ⟨z, hz, hbz, fun i hi => ?_⟩
        cases e : f.brk q i r s with
        | false => rfl
        | true => exact absurd ⟨i, hi, e⟩ h
  obtain ⟨z, hz, hbz, hmin⟩ := hex
  rw [break_is hok hr hs hz hbz hmin]
  by_cases h : y ≤ z
  · omega
  · have := h0 z (by omega)
    rw [hbz] at this; cases this
def Late (y : Nat) (b : Int × Int × Int) : Prop := b.2.2 < 0 ∨ b.2.2 > y
theorem firstS_late {f : Fish} {q : Int} {r y : Nat} : ∀ (ss : List Nat) (b : Int × Int × Int), Late y b → (∀ s ∈ ss, f.breakY r s q < 0 ∨ f.breakY r s q > y) → Late y (firstS f q r ss b)
  | [], b, h, _ => h
  | s :: ss, b, h, hs => by
    rw [firstS]
    refine firstS_late ss _ ?_ fun t ht => hs t (List.mem_cons_of_mem _ ht)
    split
    · have := hs s (List.mem_cons_self ..)
      unfold Late
      show f.breakY r s q < 0 ∨ f.breakY r s q > y
      exact this
    · exact h
theorem firstS_keep {f : Fish} {q : Int} {r y : Nat} : ∀ (ss : List Nat) (b : Int × Int × Int), b.2.2 = y → (∀ s ∈ ss, f.breakY r s q < 0 ∨ f.breakY r s q ≥ y) → firstS f q r ss b = b
  | [], b, h, _ => rfl
  | s :: ss, b, h, hs => by
    rw [firstS]
    have := hs s (List.mem_cons_self ..)
    rw [if_neg (by omega)]
    exact firstS_keep ss b h fun t ht => hs t (List.mem_cons_of_mem _ ht)
theorem firstS_app {f : Fish} {q : Int} {r : Nat} : ∀ (a c : List Nat) (b : Int × Int × Int), firstS f q r (a ++ c) b = firstS f q r c (firstS f q r a b)
  | [], c, b => rfl
  | s :: a, c, b => by rw [List.cons_append, firstS, firstS, firstS_app a c]
theorem firstR_app {f : Fish} {q : Int} : ∀ (a c : List Nat) (b : Int × Int × Int), firstR f q (a ++ c) b = firstR f q c (firstR f q a b)
  | [], c, b => rfl
  | s :: a, c, b => by rw [List.cons_append, firstR, firstR, firstR_app a c]
theorem firstR_late {f : Fish} {q : Int} {y : Nat} : ∀ (rs : List Nat) (b : Int × Int × Int), Late y b → (∀ r ∈ rs, ∀ s, s < f.seasons.length → f.breakY r s q < 0 ∨ f.breakY r s q > y) → Late y (firstR f q rs b)
  | [], b, h, _ => h
  | r :: rs, b, h, hs => by
    rw [firstR]
    exact firstR_late rs _ (firstS_late _ _ h fun s m => hs r (List.mem_cons_self ..) s (List.mem_range.1 m)) fun t ht => hs t (List.mem_cons_of_mem _ ht)
theorem firstR_keep {f : Fish} {q : Int} {y : Nat} : ∀ (rs : List Nat) (b : Int × Int × Int), b.2.2 = y → (∀ r ∈ rs, ∀ s, s < f.seasons.length → f.breakY r s q < 0 ∨ f.breakY r s q ≥ y) → firstR f q rs b = b
  | [], b, h, _ => rfl
  | r :: rs, b, h, hs => by
    rw [firstR, firstS_keep _ b h fun s m => hs r (List.mem_cons_self ..) s (List.mem_range.1 m)]
    exact firstR_keep rs b h fun t ht => hs t (List.mem_cons_of_mem _ ht)
theorem range_split {r n : Nat} (h : r < n) : List.range n = List.range r ++ r :: List.range' (r + 1) (n - (r + 1)) := by
  have e : n = r + ((n - (r + 1)) + 1) := by omega
  rw [List.range_eq_range', List.range_eq_range']
  conv => lhs; rw [e, ← List.range'_append_1]
  rw [Nat.zero_add, List.range'_succ]
theorem first_is {f : Fish} {q : Int} {y r s : Nat} (hr : r < f.many) (hs : s < f.seasons.length) (hb : f.breakY r s q = y)
    (h1 : ∀ r', r' < r → ∀ s', s' < f.seasons.length → f.breakY r' s' q < 0 ∨ f.breakY r' s' q > y)
    (h2 : ∀ s', s' < s → f.breakY r s' q < 0 ∨ f.breakY r s' q > y)
    (h3 : ∀ r', r' < f.many → ∀ s', s' < f.seasons.length → f.breakY r' s' q < 0 ∨ f.breakY r' s' q ≥ y) : f.first q = ((r : Int), (s : Int), (y : Int)) := by
  unfold Fish.first
  rw [range_split hr, firstR_app, firstR, range_split hs, firstS_app, firstS]
  have l1 := firstR_late (f := f) (q := q) (y := y) (List.range r) (0, 0, -1) (.inl (by decide)) fun r' m s' hs' => h1 r' (List.mem_range.1 m) s' hs'
  have l2 := firstS_late (f := f) (q := q) (r := r) (y := y) (List.range s) _ l1 fun s' m => h2 s' (List.mem_range.1 m)
  unfold Late at l2
  rw [if_pos ⟨by omega, by rw [hb]; exact l2⟩, hb, firstS_keep (y := y) _ _ rfl fun s' m => h3 r hr s' (by have := List.mem_range'_1.1 m; omega)]
  exact firstR_keep (y := y) _ _ rfl fun r' m s' hs' => h3 r' (by have := List.mem_range'_1.1 m; omega) s' hs'
end Go.AL.Q

namespace Go.AL.Q
open Go
theorem lt_or_ge0 (a : Int) : a < 0 ∨ a ≥ 0 := by omega
theorem fs_some {β : Type} {g : Nat → Option β} : ∀ (d k : Nat) (b : β), (List.range' k d).findSome? g = some b → ∃ i, k ≤ i ∧ i < k + d ∧ g i = some b ∧ ∀ j, k ≤ j → j < i → g j = none
  | 0, k, b, h => by simp at h
  | d + 1, k, b, h => by
    rw [List.range'_succ, List.findSome?_cons] at h
    cases e : g k with
    | some x =>
      rw [e] at h
      exact ⟨k, Nat.le_refl _, by omega, by rw [e]; exact h, fun j h1 h2 => by omega⟩
    | none =>
      rw [e] at h
      obtain ⟨i, h1, h2, h3, h4⟩ := fs_some d (k + 1) b h
      refine ⟨i, by omega, by omega, h3, fun j j1 j2 => ?_⟩
      by_cases hj : j = k
      · rw [hj]; exact e
      · exact h4 j (by omega) j2
theorem f_some {p : Nat → Bool} : ∀ (d k i : Nat), (List.range' k d).find? p = some i → k ≤ i ∧ i < k + d ∧ p i = true ∧ ∀ j, k ≤ j → j < i → p j = false
  | 0, k, b, h => by simp at h
  | d + 1, k, b, h => by
    rw [List.range'_succ, List.find?_cons] at h
    cases e : p k with
    | true =>
      rw [e] at h
      cases h
      exact ⟨Nat.le_refl _, by omega, e, fun j h1 h2 => by omega⟩
    | false =>
      rw [e] at h
      obtain ⟨h1, h2, h3, h4⟩ := f_some d (k + 1) b h
      refine ⟨by omega, by omega, h3, fun j j1 j2 => ?_⟩
      by_cases hj : j = k
      · rw [hj]; exact e
      · exact h4 j (by omega) j2
theorem findS_none {f : Fish} {q : Int} {y r : Nat} (h : f.findS q y r 0 = none) : ∀ s, s < f.seasons.length → f.brk q y r s = false := by
  unfold Fish.findS at h
  simp only [List.find?_eq_none, List.mem_range'_1, Nat.sub_zero, Nat.zero_add, Nat.zero_le, true_and, Bool.not_eq_true] at h
  exact h
theorem findR_none {f : Fish} {q : Int} {y : Nat} (h : f.findR q y 0 = none) : ∀ r, r < f.many → ∀ s, s < f.seasons.length → f.brk q y r s = false := by
  unfold Fish.findR Fish.findS at h
  simp only [List.findSome?_eq_none_iff, Option.map_eq_none_iff, List.find?_eq_none, List.mem_range'_1, Nat.sub_zero, Nat.zero_add, Nat.zero_le, true_and, Bool.not_eq_true] at h
  exact h
structure Found (f : Fish) (q : Int) (y r s : Nat) : Prop where
  hy : y < f.years
  hr : r < f.many
  hs : s < f.seasons.length
  hb : f.brk q y r s = true
  before : ∀ y', y' < y → ∀ r', r' < f.many → ∀ s', s' < f.seasons.length → f.brk q y' r' s' = false
  races : ∀ r', r' < r → ∀ s', s' < f.seasons.length → f.brk q y r' s' = false
  seas : ∀ s', s' < s → f.brk q y r s' = false
theorem findY_some {f : Fish} {q : Int} {y r s : Nat} (h : f.findY q 0 = some (y, r, s)) : Found f q y r s := by
  unfold Fish.findY at h
  obtain ⟨i, _, hi, e, hy⟩ := fs_some _ _ _ h
  cases eR : f.findR q i 0 with
  | none => rw [eR] at e; cases e
  | some p =>
    rw [eR] at e
    cases e
    unfold Fish.findR at eR
    obtain ⟨j, _, hj, e2, hr⟩ := fs_some _ _ _ eR
    cases eS : f.findS q y j 0 with
    | none => rw [eS] at e2; cases e2
    | some p =>
      rw [eS] at e2
      cases e2
      unfold Fish.findS at eS
      obtain ⟨_, hs, hb, hss⟩ := f_some _ _ _ eS
      refine ⟨by omega, by omega, by omega, hb, fun y' h1 => findR_none ?_, fun r' h1 => findS_none ?_, fun s' h1 => hss s' (Nat.zero_le _) h1⟩
      · have := hy y' (Nat.zero_le _) h1
        cases e : f.findR q y' 0 with
        | none => rfl
        | some x => rw [e] at this; cases this
      · have := hr r' (Nat.zero_le _) h1
        cases e : f.findS q y r' 0 with
        | none => rfl
        | some x => rw [e] at this; cases this
theorem break_neg {f : Fish} (hok : FishOk f) {r s : Nat} (hr : r < f.many) (hs : s < f.seasons.length) {q : Int} {y : Nat} (h : ∀ i, i ≤ y → f.brk q i r s = false) : f.breakY r s q < 0 ∨ f.breakY r s q > y := by
  rcases lt_or_ge0 (f.breakY r s q) with h1 | h1
  · exact .inl h1
  · right
    have := break_ge hok hr hs (y := y + 1) (fun i hi => h i (by omega)) h1
    omega
theorem first_found {f : Fish} (hok : FishOk f) {q : Int} {y r s : Nat} (h : Found f q y r s) : f.first q = ((r : Int), (s : Int), (y : Int)) := by
  refine first_is h.hr h.hs (break_is hok h.hr h.hs h.hy h.hb fun i hi => h.before i hi r h.hr s h.hs) (fun r' h1 s' h2 => break_neg hok (by have := h.hr; omega) h2 fun i hi => ?_) (fun s' h1 => break_neg hok h.hr (by have := h.hs; omega) fun i hi => ?_) fun r' h1 s' h2 => ?_
  · by_cases e : i = y
    · subst e; exact h.races r' h1 s' h2
    · exact h.before i (by omega) r' (by have := h.hr; omega) s' h2
  · by_cases e : i = y
    · subst e; exact h.seas s' h1
    · exact h.before i (by omega) r h.hr s' (by have := h.hs; omega)
  · rcases lt_or_ge0 (f.breakY r' s' q) with h3 | h3
    · exact .inl h3
    · exact .inr (break_ge hok h1 h2 (fun i hi => h.before i hi r' h1 s' h2) h3)
theorem firstS_same {f : Fish} {q : Int} {r : Nat} : ∀ (ss : List Nat) (b : Int × Int × Int), (∀ s ∈ ss, f.breakY r s q < 0) → firstS f q r ss b = b
  | [], b, _ => rfl
  | s :: ss, b, h => by
    have := h s (List.mem_cons_self ..)
    rw [firstS, if_neg (by omega)]
    exact firstS_same ss b fun t ht => h t (List.mem_cons_of_mem _ ht)
theorem firstR_same {f : Fish} {q : Int} : ∀ (rs : List Nat) (b : Int × Int × Int), (∀ r ∈ rs, ∀ s, s < f.seasons.length → f.breakY r s q < 0) → firstR f q rs b = b
  | [], b, _ => rfl
  | r :: rs, b, h => by
    rw [firstR, firstS_same _ b fun s m => h r (List.mem_cons_self ..) s (List.mem_range.1 m)]
    exact firstR_same rs b fun t ht => h t (List.mem_cons_of_mem _ ht)
theorem first_none {f : Fish} (hok : FishOk f) {q : Int} (h : f.findY q 0 = none) : f.first q = (0, 0, -1) := by
  have h1 := findY_none.1 h
  refine firstR_same _ _ fun r hr s hs => ?_
  have hr := List.mem_range.1 hr
  rcases lt_or_ge0 (f.breakY r s q) with h3 | h3
  · exact h3
  · obtain ⟨y, hy, hb⟩ := (any_brk hok hr hs q).1 (decide_eq_true h3)
    rw [h1 y hy r hr s hs] at hb; cases hb
theorem firstR_find {f : Fish} {q : Int} (hok : f.ok = true) (hq : wi q 0 10000 = true) : f.firstR q = match f.findY q 0 with
    | some (y, r, s) => [.int r, .int s, .int y, .int 0]
    | none => [.int 0, .int 0, .int 0, .int 4] := by
  unfold Fish.firstR
  rw [if_pos hok, if_pos hq]
  cases e : f.findY q 0 with
  | none => rw [first_none (FishOk.of hok) e]; rfl
  | some p =>
    obtain ⟨y, r, s⟩ := p
    rw [first_found (FishOk.of hok) (findY_some e)]
    show (if (y : Int) < 0 then _ else _) = _
    rw [if_neg (by omega)]
end Go.AL.Q

namespace Go.AL.Q
open Go
theorem halve_spec {h : Int → Bool} : ∀ (n : Nat) (lo hi : Int), 0 ≤ lo → lo < hi → hi - lo ≤ n → h lo = true → lo ≤ halve h n lo hi ∧ halve h n lo hi < hi ∧ h (halve h n lo hi) = true ∧ (halve h n lo hi + 1 = hi ∨ h (halve h n lo hi + 1) = false)
  | 0, lo, hi, h0, h1, h2, h3 => by omega
  | n + 1, lo, hi, h0, h1, h2, h3 => by
    rw [halve]
    split
    · rename_i hgt
      have hmid : lo < (lo + hi).tdiv 2 ∧ (lo + hi).tdiv 2 < hi := by rw [Int.tdiv_eq_ediv_of_nonneg (by omega)]; omega
      generalize (lo + hi).tdiv 2 = m at *
      split
      · rename_i hm
        obtain ⟨a, b, c, d⟩ := halve_spec n m hi (by omega) hmid.2 (by omega) hm
        exact ⟨by omega, b, c, d⟩
      · rename_i hm
        obtain ⟨a, b, c, d⟩ := halve_spec n lo m h0 hmid.1 (by omega) h3
        refine ⟨a, by omega, c, .inr ?_⟩
        rcases d with d | d
        · rw [d]; simpa using hm
        · exact d
    · exact ⟨Int.le_refl _, h1, h3, .inl (by omega)⟩
theorem quota_spec {f : Fish} (h0 : f.holds 0 = true) : 0 ≤ f.quota ∧ f.quota ≤ 10000 ∧ f.holds f.quota = true ∧ (f.quota = 10000 ∨ f.holds (f.quota + 1) = false) := by
  unfold Fish.quota
  obtain ⟨a, b, c, d⟩ := halve_spec (h := f.holds) 10001 0 10001 (by decide) (by decide) (by decide) h0
  exact ⟨a, by omega, c, d.imp (fun h => by omega) id⟩
theorem first_holds {f : Fish} (hok : f.ok = true) {q : Int} (hq : 0 ≤ q ∧ q ≤ 10000) : (f.holds q = true → f.firstR q = [.int 0, .int 0, .int 0, .int 4]) ∧ (f.holds q = false → ∃ a b c : Int, f.firstR q = [.int a, .int b, .int c, .int 0]) := by
  rw [firstR_find hok (wi_iff.2 hq), holds_find (FishOk.of hok)]
  cases f.findY q 0 with
  | none => exact ⟨fun _ => rfl, fun h => by cases h⟩
  | some p => obtain ⟨y, r, s⟩ := p; exact ⟨fun h => (by cases h), fun _ => ⟨_, _, _, rfl⟩⟩
theorem holds_line {f : Fish} (hok : FishOk f) {q : Int} (h : f.holds q = true) {r s y : Nat} (hr : r < f.many) (hs : s < f.seasons.length) (hy : y < f.years) : (f.race r).line ≤ (f.spawns r s q).getD y 0 := by
  rw [holds_find hok, Option.isNone_iff_eq_none, findY_none] at h
  have := of_decide_eq_false (show decide (_ < _) = false from h y hy r hr s hs)
  omega
end Go.AL.Q

set_option maxRecDepth 100000
namespace Go.Proofs.Ytdiclbgklegelaa
open Go Go.AL Go.AL.Q Go.ChangeShapes Go.WideShapes Go.ChangeAt Go.RowKit
theorem u39 : Try.prog.underlying 39 = some (.struct #[fld "Numbers" 37 0 0, fld "Keep" 37 1 24, fld "Spawn" 37 2 48, fld "Line" 3 3 72, fld "Mesh" 3 4 80]) := by kernel_rfl
theorem c39 : Try.prog.cellsOf 39 = 5 := by kernel_rfl
section
variable {H : Type} {enc : TypeId × Value → H} {w : World} {base : Nat} {spare : Nat → Bool} {held : Bool} {φ : Names}
end
end Go.Proofs.Ytdiclbgklegelaa

set_option maxRecDepth 100000
namespace Go.Proofs.Ytdiclbgklegelaa
open Go Go.AL Go.AL.Q Go.ChangeShapes Go.WideShapes Go.ChangeAt Go.RowKit
theorem t47 : Try.prog.readableRec 47 = true ∧ 47 < Try.prog.types.size := ty_ok (by kernel_rfl) (by kernel_rfl)
theorem u44 : Try.prog.underlying 44 = some (.slice 39) := by kernel_rfl
theorem u45 : Try.prog.underlying 45 = some (.slice 55) := by kernel_rfl
theorem u47 : Try.prog.underlying 47 = some (.struct #[fld "Races" 44 0 0, fld "Most" 37 1 24, fld "Seasons" 45 2 48]) := by kernel_rfl
theorem u55 : Try.prog.underlying 55 = some (.slice 37) := by kernel_rfl
theorem c44 : Try.prog.cellsOf 44 = 1 := by kernel_rfl
theorem c45 : Try.prog.cellsOf 45 = 1 := by kernel_rfl
theorem c47 : Try.prog.cellsOf 47 = 3 := by kernel_rfl
theorem c55 : Try.prog.cellsOf 55 = 1 := by kernel_rfl
theorem by37 : Try.prog.bytesOf 37 = 24 := by kernel_rfl
theorem by39 : Try.prog.bytesOf 39 = 88 := by kernel_rfl
theorem by55 : Try.prog.bytesOf 55 = 24 := by kernel_rfl
theorem fit_len {n k : Nat} (h : n * k ≤ reachBytes) (hk : 1 ≤ k) : (n : Int) ≤ 9223372036854775806 := by
  have h3 : n ≤ n * k := Nat.le_mul_of_pos_right _ hk
  have h5 : reachBytes = 140737488351232 := by decide
  omega
section
variable {H : Type} {enc : TypeId × Value → H} {w : World} {base : Nat} {held : Bool} {φ : Names}
theorem r3 : Reads enc Try.prog w base held φ 3 1 (fun n : Int => [A.int n]) fun _ => True := .int u3
theorem rdInts : Reads enc Try.prog w base held φ 37 1 NL.c nlFit := by
  have key := Reads.slice (enc := enc) (w := w) (base := base) (held := held) (φ := φ) u37 c3 (by decide) r3
  exact key.imp fun x h => ⟨⟨x.1, x.2⟩, fit_len h.2 (by rw [by3]; decide), rfl⟩
theorem rdRce : Reads enc Try.prog w base held φ 39 5 Rce.c Rce.Fit := by
  have key := Reads.struct (enc := enc) (w := w) (base := base) (held := held) (φ := φ) u39 c39 (Flds.cons (f := fld "Numbers" 37 0 0) rfl c37 rdInts (Flds.cons (f := fld "Keep" 37 1 24) rfl c37 rdInts (Flds.cons (f := fld "Spawn" 37 2 48) rfl c37 rdInts (Flds.cons (f := fld "Line" 3 3 72) rfl c3 r3 (Flds.cons (f := fld "Mesh" 3 4 80) rfl c3 r3 (Flds.nil _)))))) rfl rfl
  exact key.imp fun x h =>
    ⟨⟨x.1.n, x.1.l, x.2.1.n, x.2.1.l, x.2.2.1.n, x.2.2.1.l, x.2.2.2.1, x.2.2.2.2.1⟩, ⟨h.1, h.2.1, h.2.2.1⟩, rfl⟩
theorem rdRces : Reads enc Try.prog w base held φ 44 1 (fun x : Bool × List Rce => [A.sl x.1 .any (x.2.map Rce.c)]) (fun x => (∀ a ∈ x.2, a.Fit) ∧ (x.2.length : Int) ≤ 9223372036854775806) := by
  have key := Reads.slice (enc := enc) (w := w) (base := base) (held := held) (φ := φ) u44 c39 (by decide) rdRce
  exact key.imp fun x h => ⟨x, ⟨h.1, fit_len h.2 (by rw [by39]; decide)⟩, rfl⟩
theorem rdRow : Reads enc Try.prog w base held φ 55 1 NR.c (fun s => (s.l.length : Int) ≤ 5900000000000 ∧ ∀ l ∈ s.l, nlFit l) := by
  have key := Reads.slice (enc := enc) (w := w) (base := base) (held := held) (φ := φ) u55 c37 (by decide) rdInts
  exact key.imp fun x h => ⟨⟨x.1, x.2⟩, ⟨by
    have := h.2; rw [by37] at this
    have h5 : reachBytes = 140737488351232 := by decide
    show (x.2.length : Int) ≤ _
    omega, h.1⟩, rfl⟩
theorem rdRows : Reads enc Try.prog w base held φ 45 1 (fun x : Bool × List NR => [A.sl x.1 .any (x.2.map NR.c)]) (fun x => (∀ s ∈ x.2, (s.l.length : Int) ≤ 9223372036854775806 ∧ ∀ l ∈ s.l, nlFit l) ∧ (x.2.length : Int) ≤ 9223372036854775806) := by
  have key := Reads.slice (enc := enc) (w := w) (base := base) (held := held) (φ := φ) u45 c55 (by decide) rdRow
  exact key.imp fun x h => ⟨x, ⟨fun s hs => ⟨by have := (h.1 s hs).1; omega, (h.1 s hs).2⟩, fit_len h.2 (by rw [by55]; decide)⟩, rfl⟩
theorem rdFish : Reads enc Try.prog w base held φ 47 3 Fish.c Fish.Fit := by
  have key := Reads.struct (enc := enc) (w := w) (base := base) (held := held) (φ := φ) u47 c47 (Flds.cons (f := fld "Races" 44 0 0) rfl c44 rdRces (Flds.cons (f := fld "Most" 37 1 24) rfl c37 rdInts (Flds.cons (f := fld "Seasons" 45 2 48) rfl c45 rdRows (Flds.nil _)))) rfl rfl
  exact key.imp fun x h =>
    ⟨⟨x.1.1, x.1.2, x.2.1.n, x.2.1.l, x.2.2.1.1, x.2.2.1.2⟩, ⟨h.1.2, h.2.1, h.2.2.1.2, h.1.1, h.2.2.1.1⟩, rfl⟩
variable {v : Value} {d : DataW H} {p : List MemPlace} {r : Reach} {b0 : Nat}
theorem arg_fish (hok : Value.okWide Try.prog w r b0 47 v) (h : DataW.Trod enc Try.prog w base (fun _ => true) held 47 v d p) (hw : ∀ k ∈ d.weights Try.prog 47, k ≤ reachBytes) :
    ∃ y : Fish, VR φ (allZ w) w (.agg y.c) v ∧ y.Fit := by
  obtain ⟨x, q, e⟩ := (rdFish (φ := φ)).arg_agg (agg_struct u47 hok) h hw
  exact ⟨x, e, q⟩
end
end Go.Proofs.Ytdiclbgklegelaa

namespace Go.Proofs.Ytdiclbgklegelaa
open Go Go.AL Go.AL.Q
end Go.Proofs.Ytdiclbgklegelaa

namespace Go.Proofs.Ytdiclbgklegelaa
open Go Go.AL Go.AL.Q
theorem alive_t (r : Rce) (hf : r.Fit) : Ans Try.prog 46 [.agg r.c] (.bool r.alive) := by
  have h1 := hf.n
  have h2 := hf.k
  have h3 := hf.s
  have ln := ints_lenI r.numbers
  have lk := ints_lenI r.keep
  have ls := ints_lenI r.spawn
  have lm : (r.many : Int) = r.numbers.length := rfl
  have hm : r.many = r.numbers.length := rfl
  have urc : Under 0 (A.pt r.c) := (Free.pt _ r.free).under
  refine told Try.func46 rfl rfl (Pure.of tab_ok Try.func46 rfl Try.ntmps46 rfl (all1 (.agg _ r.free)) (all1 (fun _ => rfl)) (by first | exact .s _ | assumption | exact .tup _ (by intro x hx; simp only [List.mem_cons, List.not_mem_nil, or_false] at hx; rcases hx with rfl | rfl | rfl | rfl <;> first | exact .s _ | (simp_all; done))) fun E hE => ?_)
  refine Aw.sm tab_ok mb0 [] rfl rfl ?zo ?zk
  case zo =>
    repeat' apply AllP.cons
    all_goals first | exact trivial | exact id | exact rfl | exact fun _ => rfl | exact Nat.le_of_ble_eq_true rfl | exact fun _ => Nat.le_of_ble_eq_true rfl | exact Int.natCast_nonneg _ | exact fun _ => Int.natCast_nonneg _ | exact in_t _ _ _ | exact (in_t _ _ _).un | exact gq_f
  case zk =>
  refine Aw.sm tab_ok mb0 [] rfl rfl ?zo ?zk
  case zo =>
    repeat' apply AllP.cons
    all_goals first | exact trivial | exact id | exact rfl | exact fun _ => rfl | exact Nat.le_of_ble_eq_true rfl | exact fun _ => Nat.le_of_ble_eq_true rfl | exact Int.natCast_nonneg _ | exact fun _ => Int.natCast_nonneg _ | exact in_t _ _ _ | exact (in_t _ _ _).un | exact gq_f
  case zk =>
  refine Aw.keep (n := 0) (cst := [(1, .pt r.c), (3, .int r.many)]) (v := []) (Hl := []) hE ⟨urc, .s _, trivial⟩ trivial trivial ⟨⟨.refl _, .of_eq (congrArg A.int ln.symm), trivial⟩, trivial, trivial, Nat.zero_le _⟩ ?_
  refine Aw.sm tab_ok mb0 [(1, [.bool (wi r.many 1 6)]), (21, [.bool (wi r.mesh 0 ((r.many:Int) - 1))])] rfl rfl ?zo ?zk
  case zo =>
    repeat' apply AllP.cons
    all_goals first | exact trivial | exact id | exact rfl | exact fun _ => rfl | exact Nat.le_of_ble_eq_true rfl | exact fun _ => Nat.le_of_ble_eq_true rfl | exact Int.natCast_nonneg _ | exact fun _ => Int.natCast_nonneg _ | exact in_t _ _ _ | exact (in_t _ _ _).un | exact gq_f | exact fun _ => (by simp only [Ob.of, inR]; omega)
  case zk =>
  have hd : A.bool r.aliveHead = A.bool (cond (cond (cond (wi r.many 1 6) (((ints r.keep).length : Int) == r.many) false) (((ints r.spawn).length : Int) == r.many) false) (wi r.mesh 0 ((r.many:Int) - 1)) false) := by rw [lk, ls]; rfl
  refine Aw.seq ?_
  refine Aw.sm tab_ok mb0 [] rfl rfl ?zo ?zk
  case zo =>
    repeat' apply AllP.cons
    all_goals first | exact trivial | exact id | exact rfl | exact fun _ => rfl | exact Nat.le_of_ble_eq_true rfl | exact fun _ => Nat.le_of_ble_eq_true rfl | exact Int.natCast_nonneg _ | exact fun _ => Int.natCast_nonneg _ | exact in_t _ _ _ | exact (in_t _ _ _).un | exact gq_f
  case zk =>
  have lr : (List.range r.many).length = r.many := List.length_range
  refine Aw.block (Aw.rounds 0 hE [(1, .pt r.c), (3, .int r.many)] (fun k : Nat => [(4, .bool (andAll r.aliveHead r.ageOk (List.range r.many) k)), (5, .int k)]) (fun _ => []) (fun k => k ≤ r.many) (fun k => r.many - k) 0
    (Nat.zero_le _) ⟨⟨.refl _, .refl _, trivial⟩, ⟨.of_eq (by rw [andAll_zero]; exact hd), .refl _, trivial⟩, trivial, Nat.le_refl _⟩ ⟨urc, .s _, trivial⟩ (fun _ _ => ⟨.s _, .s _, trivial⟩) (fun _ _ => trivial) fun k hk => ?_)
  refine Aw.seq ?_
  refine Aw.sm tab_ok mb0 [] rfl rfl ?zo ?zk
  case zo =>
    repeat' apply AllP.cons
    all_goals first | exact trivial | exact id | exact rfl | exact fun _ => rfl | exact Nat.le_of_ble_eq_true rfl | exact fun _ => Nat.le_of_ble_eq_true rfl | exact Int.natCast_nonneg _ | exact fun _ => Int.natCast_nonneg _ | exact in_t _ _ _ | exact (in_t _ _ _).un | exact gq_f
  case zk =>
  refine Aw.cond rfl (fun h1 => Aw.skip ?_) (fun h1 => ?_)
  · have h1 : cond (andAll r.aliveHead r.ageOk (List.range r.many) k) (decide ((k : Int) < r.many)) false = true := h1
    have hb := ac1 h1
    have hlt : k < r.many := by have := of_decide_eq_true (ac2 h1); omega
    have hh : r.aliveHead = true := by unfold andAll at hb; exact ac1 hb
    have hk1 : r.keep.length = r.many := by unfold Rce.aliveHead at hh; have := eq_of_beq (ac2 (ac1 (ac1 hh))); omega
    have hs1 : r.spawn.length = r.many := by unfold Rce.aliveHead at hh; have := eq_of_beq (ac2 (ac1 hh)); omega
    refine Aw.seq (Aw.block ?_)
    refine Aw.em tab_ok mb0 [(3, [.int (r.numbers.getD k 0)]), (5, [.bool (wi (r.numbers.getD k 0) 0 100000)]), (10, [.int (r.keep.getD k 0)]), (12, [.bool (wi (r.keep.getD k 0) 0 1000)]), (18, [.int (r.spawn.getD k 0)]), (20, [.bool (wi (r.spawn.getD k 0) 0 100)])] rfl rfl ?zo ?zk
    case zo =>
      repeat' apply AllP.cons
      all_goals first | exact trivial | exact id | exact rfl | exact fun _ => rfl | exact Nat.le_of_ble_eq_true rfl | exact fun _ => Nat.le_of_ble_eq_true rfl | exact Int.natCast_nonneg _ | exact fun _ => Int.natCast_nonneg _ | exact in_t _ _ _ | exact (in_t _ _ _).un | exact gq_f | exact ints_getD hlt | exact fun _ => ints_getD (by omega)
    case zk =>
    refine Aw.em tab_ok mb0 [] rfl rfl ?zo ?zk
    case zo =>
      repeat' apply AllP.cons
      all_goals first | exact trivial | exact id | exact rfl | exact fun _ => rfl | exact Nat.le_of_ble_eq_true rfl | exact fun _ => Nat.le_of_ble_eq_true rfl | exact Int.natCast_nonneg _ | exact fun _ => Int.natCast_nonneg _ | exact in_t _ _ _ | exact (in_t _ _ _).un | exact gq_f | exact inrk k (by omega)
    case zk =>
    have e : andAll r.aliveHead r.ageOk (List.range r.many) (k + 1) = r.ageOk k := by
      rw [andAll_succ (by rw [lr]; exact hlt) hb, List.getElem_range]
    exact ⟨k + 1, hlt, by omega, ⟨.refl _, .refl _, trivial⟩, ⟨.of_eq (congrArg A.bool e), .refl _, trivial⟩, trivial, Nat.zero_le _⟩
  have h1 : cond (andAll r.aliveHead r.ageOk (List.range r.many) k) (decide ((k : Int) < r.many)) false = false := h1
  have hend : andAll r.aliveHead r.ageOk (List.range r.many) k = r.alive := (andAll_end (by
    cases e : andAll r.aliveHead r.ageOk (List.range r.many) k with
    | false => exact .inl rfl
    | true => rw [e] at h1; have := of_decide_eq_false h1; exact .inr (by rw [lr]; omega)) (by rw [lr]; exact hk)).trans rfl
  rw [hend]
  refine Aw.exit2 ?_
  refine Aw.sm tab_ok mb0 [] rfl rfl ?zo ?zk
  case zo =>
    repeat' apply AllP.cons
    all_goals first | exact trivial | exact id | exact rfl | exact fun _ => rfl | exact Nat.le_of_ble_eq_true rfl | exact fun _ => Nat.le_of_ble_eq_true rfl | exact Int.natCast_nonneg _ | exact fun _ => Int.natCast_nonneg _ | exact in_t _ _ _ | exact (in_t _ _ _).un | exact gq_f
  case zk =>
  exact Aw.ret ⟨_, .cons (.tmp _) .nil, rfl⟩
theorem outX_ne {l : List Int} (h : l ≠ []) : outX l = .sl false .exact (ints l) := by
  cases l with
  | nil => exact absurd rfl h
  | cons x l => rfl
end Go.Proofs.Ytdiclbgklegelaa

namespace Go.Proofs.Ytdiclbgklegelaa
open Go Go.AL Go.AL.Q
end Go.Proofs.Ytdiclbgklegelaa

namespace Go.Proofs.Ytdiclbgklegelaa
open Go Go.AL Go.AL.Q
end Go.Proofs.Ytdiclbgklegelaa

namespace Go.Proofs.Ytdiclbgklegelaa
open Go Go.AL Go.AL.Q
end Go.Proofs.Ytdiclbgklegelaa

namespace Go.Proofs.Ytdiclbgklegelaa
open Go Go.AL Go.AL.Q
end Go.Proofs.Ytdiclbgklegelaa

namespace Go.Proofs.Ytdiclbgklegelaa
open Go Go.AL Go.AL.Q
theorem down_t (n b : Int) (hb : 0 < b) (hb2 : b ≤ 1000000) (hn : -1000000000000 ≤ n ∧ n ≤ 1000000000000) : Ans Try.prog 43 [.int n, .int b] (.int (downF n b)) := by
  have h1 := Int.emod_nonneg n (show b ≠ 0 by omega)
  have h2 := Int.emod_lt_of_pos n hb
  have o1 : inR (n - n % b) := by simp only [inR]; omega
  have o2 : b ≠ 0 ∧ inR ((n - n % b).tdiv b) := by
    refine ⟨by omega, ?_⟩
    have h3 := Int.natAbs_tdiv_le_natAbs (n - n % b) b
    simp only [inR]; omega
  refine told Try.func43 rfl rfl (Pure.of tab_ok Try.func43 rfl Try.ntmps43 rfl (allC (.s _) (all1 (.s _))) (allC (fun _ => rfl) (all1 (fun _ => rfl))) (by first | exact .s _ | assumption | exact .tup _ (by intro x hx; simp only [List.mem_cons, List.not_mem_nil, or_false] at hx; rcases hx with rfl | rfl | rfl | rfl <;> first | exact .s _ | (simp_all; done))) fun E hE => ?_)
  refine Aw.sm tab_ok mb0 [] rfl rfl ?zo ?zk
  case zo =>
    repeat' apply AllP.cons
    all_goals first | exact trivial | exact id | exact rfl | exact fun _ => rfl | exact Nat.le_of_ble_eq_true rfl | exact fun _ => Nat.le_of_ble_eq_true rfl | exact Int.natCast_nonneg _ | exact fun _ => Int.natCast_nonneg _ | exact in_t _ _ _ | exact (in_t _ _ _).un | exact gq_f
  case zk =>
  refine Aw.sm tab_ok mb0 [(3, [.int (n % b)])] rfl rfl ?zo ?zk
  case zo =>
    repeat' apply AllP.cons
    all_goals first | exact trivial | exact id | exact rfl | exact fun _ => rfl | exact Nat.le_of_ble_eq_true rfl | exact fun _ => Nat.le_of_ble_eq_true rfl | exact Int.natCast_nonneg _ | exact fun _ => Int.natCast_nonneg _ | exact in_t _ _ _ | exact (in_t _ _ _).un | exact gq_f | exact mod_t n b hb (by omega) | exact o1 | exact o2
  case zk =>
  exact Aw.ret ⟨_, .cons (.tmp _) .nil, rfl⟩
theorem up_t (q m : Int) (hq : 0 ≤ q * m ∧ q * m ≤ 1000000000000) : Ans Try.prog 44 [.int (q * m), .int 100] (.int (takeF q m)) := by
  have e := up_take hq.1
  have c := down_t (-(q * m)) 100 (by omega) (by omega) (by omega)
  have bd : inR (-(downF (-(q * m)) 100)) := by
    rw [e]; unfold takeF; rw [Int.tdiv_eq_ediv_of_nonneg (by omega)]; simp only [inR]; omega
  generalize q * m = n at *
  refine told Try.func44 rfl rfl (Pure.of tab_ok Try.func44 rfl Try.ntmps44 rfl (allC (.s _) (all1 (.s _))) (allC (fun _ => rfl) (all1 (fun _ => rfl))) (by first | exact .s _ | assumption | exact .tup _ (by intro x hx; simp only [List.mem_cons, List.not_mem_nil, or_false] at hx; rcases hx with rfl | rfl | rfl | rfl <;> first | exact .s _ | (simp_all; done))) fun E hE => ?_)
  refine Aw.sm tab_ok mb0 [] rfl rfl ?zo ?zk
  case zo =>
    repeat' apply AllP.cons
    all_goals first | exact trivial | exact id | exact rfl | exact fun _ => rfl | exact Nat.le_of_ble_eq_true rfl | exact fun _ => Nat.le_of_ble_eq_true rfl | exact Int.natCast_nonneg _ | exact fun _ => Int.natCast_nonneg _ | exact in_t _ _ _ | exact (in_t _ _ _).un | exact gq_f
  case zk =>
  refine Aw.sm tab_ok mb0 [(3, [.int (downF (-n) 100)])] rfl rfl ?zo ?zk
  case zo =>
    repeat' apply AllP.cons
    all_goals first | exact trivial | exact id | exact rfl | exact fun _ => rfl | exact Nat.le_of_ble_eq_true rfl | exact fun _ => Nat.le_of_ble_eq_true rfl | exact Int.natCast_nonneg _ | exact fun _ => Int.natCast_nonneg _ | exact in_t _ _ _ | exact (in_t _ _ _).un | exact gq_f | exact c | exact (show inR (-n) by simp only [inR]; omega) | exact bd
  case zk =>
  exact Aw.ret ⟨_, .cons (.tmp _) .nil, congrArg A.int e⟩
theorem grL_cons {l : List Int} (h : l ≠ []) : grL 3 l = .sl false (.own 3) (ints l) := by
  cases l with
  | nil => exact absurd rfl h
  | cons x l => rfl
theorem nl_at (l : List NL) {r : Nat} (h : r < l.length) : (l.map NL.c)[r]? = some (l.getD r ⟨false, []⟩).c := by
  rw [get_map h, List.getD_eq_getElem?_getD, List.getElem?_eq_getElem h]; rfl
end Go.Proofs.Ytdiclbgklegelaa

namespace Go.Proofs.Ytdiclbgklegelaa
open Go Go.AL Go.AL.Q
end Go.Proofs.Ytdiclbgklegelaa

namespace Go.Proofs.Ytdiclbgklegelaa
open Go Go.AL Go.AL.Q
end Go.Proofs.Ytdiclbgklegelaa

namespace Go.Proofs.Ytdiclbgklegelaa
open Go Go.AL Go.AL.Q
theorem in_is {n a b : Int} (h : a ≤ n ∧ n ≤ b) : Ans Try.prog 38 [.int n, .int a, .int b] (.bool true) := (wi_iff.2 h) ▸ in_t n a b
theorem race_at (f : Fish) {r : Nat} (h : r < f.many) : (f.races.map Rce.c)[r]? = some (f.race r).c := by
  have h : r < f.races.length := h
  rw [get_map h]; unfold Fish.race; rw [List.getD_eq_getElem?_getD, List.getElem?_eq_getElem h]; rfl
theorem seas_at (f : Fish) {s : Nat} (h : s < f.seasons.length) : (f.seasons.map NR.c)[s]? = some (f.seasons.getD s ⟨false, []⟩).c := by
  rw [get_map h, List.getD_eq_getElem?_getD, List.getElem?_eq_getElem h]; rfl
theorem race_fit {f : Fish} (hf : f.Fit) {r : Nat} (h : r < f.many) : (f.race r).Fit := by
  have h : r < f.races.length := h
  unfold Fish.race; rw [List.getD_eq_getElem?_getD, List.getElem?_eq_getElem h]; exact hf.race _ (List.getElem_mem h)
theorem race_ok {f : Fish} (hok : f.ok = true) {r : Nat} (h : r < f.many) : (f.race r).ok = true := by
  unfold Fish.ok at hok
  have := List.all_eq_true.1 (ac2 (ac1 (ac1 hok))) r (List.mem_range.2 h)
  exact ac1 this
theorem fished_t (f : Fish) (hfit : f.Fit) (hok : f.ok = true) : Ans Try.prog 47 [.agg f.c] (.bool true) := by
  have hf := FishOk.of hok
  have m1 := hf.m1
  have m3 := hf.m3
  have s1 := hf.s1
  have s6 := hf.s6
  have y1 := hf.y1
  have y10 := hf.y10
  have lr : ((f.races.map Rce.c).length : Int) = f.many := by simp [Fish.many]
  have ls : ((f.seasons.map NR.c).length : Int) = f.seasons.length := by simp
  have lm := ints_lenI f.most
  have hmost := hf.most
  have c0 := check_t f hfit
  rw [err_ok hok] at c0
  have i1 : Ans Try.prog 38 [.int ((f.races.map Rce.c).length : Int), .int 1, .int 3] (.bool true) := in_is (by omega)
  have i2 : Ans Try.prog 38 [.int ((f.seasons.map NR.c).length : Int), .int 1, .int 6] (.bool true) := in_is (by omega)
  have ufc : ∀ {n}, Under n (A.pt f.c) := (Free.pt _ f.free).under
  refine told Try.func47 rfl rfl (Pure.of tab_ok Try.func47 rfl Try.ntmps47 rfl (all1 (.agg _ f.free)) (all1 (fun _ => rfl)) (by first | exact .s _ | assumption | exact .tup _ (by intro x hx; simp only [List.mem_cons, List.not_mem_nil, or_false] at hx; rcases hx with rfl | rfl | rfl | rfl <;> first | exact .s _ | (simp_all; done))) fun E hE => ?_)
  refine Aw.sm tab_ok mb0 [] rfl rfl ?zo ?zk
  case zo =>
    repeat' apply AllP.cons
    all_goals first | exact trivial | exact id | exact rfl | exact fun _ => rfl | exact Nat.le_of_ble_eq_true rfl | exact fun _ => Nat.le_of_ble_eq_true rfl | exact Int.natCast_nonneg _ | exact fun _ => Int.natCast_nonneg _ | exact in_t _ _ _ | exact (in_t _ _ _).un | exact gq_f
  case zk =>
  refine Aw.sm tab_ok mb0 [(1, [.int 0]), (7, [.bool true]), (22, [.bool true])] rfl rfl ?zo ?zk
  case zo =>
    repeat' apply AllP.cons
    all_goals first | exact trivial | exact id | exact rfl | exact fun _ => rfl | exact Nat.le_of_ble_eq_true rfl | exact fun _ => Nat.le_of_ble_eq_true rfl | exact Int.natCast_nonneg _ | exact fun _ => Int.natCast_nonneg _ | exact in_t _ _ _ | exact (in_t _ _ _).un | exact gq_f | exact c0 | exact fun _ => i1 | exact fun _ => i2
  case zk =>
  have hb : (((ints f.most).length : Int) == ((f.races.map Rce.c).length : Int)) = true := by rw [lm, lr, hmost]; simp
  refine Aw.keep (n := 0) (cst := [(1, .pt f.c)]) (v := [(3, .bool true)]) (Hl := []) hE ⟨ufc, trivial⟩ ⟨.s _, trivial⟩ trivial ⟨⟨.refl _, trivial⟩, ⟨.of_eq (show A.bool true = A.bool (cond (cond true (((ints f.most).length : Int) == ((f.races.map Rce.c).length : Int)) false) true false) by rw [hb]; rfl), trivial⟩, trivial, Nat.le_refl _⟩ ?_
  refine Aw.seq ?_
  refine Aw.sm tab_ok mb0 [] rfl rfl ?zo ?zk
  case zo =>
    repeat' apply AllP.cons
    all_goals first | exact trivial | exact id | exact rfl | exact fun _ => rfl | exact Nat.le_of_ble_eq_true rfl | exact fun _ => Nat.le_of_ble_eq_true rfl | exact Int.natCast_nonneg _ | exact fun _ => Int.natCast_nonneg _ | exact in_t _ _ _ | exact (in_t _ _ _).un | exact gq_f
  case zk =>
  refine Aw.block (Aw.rounds 0 hE [(1, .pt f.c)] (fun k : Nat => [(3, .bool true), (4, .int k)]) (fun _ => []) (fun k => k ≤ f.many) (fun k => f.many - k) 0
    (Nat.zero_le _) ⟨⟨.refl _, trivial⟩, ⟨.refl _, .refl _, trivial⟩, trivial, Nat.zero_le _⟩ ⟨ufc, trivial⟩ (fun _ _ => ⟨.s _, .s _, trivial⟩) (fun _ _ => trivial) fun k hk => ?_)
  refine Aw.seq ?_
  refine Aw.sm tab_ok mb0 [] rfl rfl ?zo ?zk
  case zo =>
    repeat' apply AllP.cons
    all_goals first | exact trivial | exact id | exact rfl | exact fun _ => rfl | exact Nat.le_of_ble_eq_true rfl | exact fun _ => Nat.le_of_ble_eq_true rfl | exact Int.natCast_nonneg _ | exact fun _ => Int.natCast_nonneg _ | exact in_t _ _ _ | exact (in_t _ _ _).un | exact gq_f
  case zk =>
  refine Aw.cond rfl (fun h1 => Aw.skip ?_) (fun h1 => ?_)
  · have hlt : k < f.many := by
      have := of_decide_eq_true (show decide ((k : Int) < ((f.races.map Rce.c).length : Int)) = true from h1); omega
    have gr := race_at f hlt
    have gm : (ints f.most)[k]? = some [.int (f.most.getD k 0)] := ints_getD (by omega)
    have al := alive_t (f.race k) (race_fit hfit hlt)
    rw [Rce.alive_of (race_ok hok hlt)] at al
    have im : Ans Try.prog 38 [.int (f.most.getD k 0), .int 0, .int 100] (.bool true) := in_is (hf.mb k hlt)
    refine Aw.seq (Aw.block ?_)
    refine Aw.em tab_ok mb0 [(3, (f.race k).c), (5, [.bool true]), (10, [.int (f.most.getD k 0)]), (12, [.bool true])] rfl rfl ?zo ?zk
    case zo =>
      repeat' apply AllP.cons
      all_goals first | exact trivial | exact id | exact rfl | exact fun _ => rfl | exact Nat.le_of_ble_eq_true rfl | exact fun _ => Nat.le_of_ble_eq_true rfl | exact Int.natCast_nonneg _ | exact fun _ => Int.natCast_nonneg _ | exact in_t _ _ _ | exact (in_t _ _ _).un | exact gq_f | exact gr | exact al | exact fun _ => gm | exact fun _ => im
    case zk =>
    refine Aw.em tab_ok mb0 [] rfl rfl ?zo ?zk
    case zo =>
      repeat' apply AllP.cons
      all_goals first | exact trivial | exact id | exact rfl | exact fun _ => rfl | exact Nat.le_of_ble_eq_true rfl | exact fun _ => Nat.le_of_ble_eq_true rfl | exact Int.natCast_nonneg _ | exact fun _ => Int.natCast_nonneg _ | exact in_t _ _ _ | exact (in_t _ _ _).un | exact gq_f | exact inrk k (by omega)
    case zk =>
    exact ⟨k + 1, hlt, by omega, ⟨.refl _, trivial⟩, ⟨.refl _, .refl _, trivial⟩, trivial, Nat.zero_le _⟩
  refine Aw.exit2 ?_
  refine Aw.keep (n := 0) (cst := [(1, .pt f.c)]) (v := [(3, .bool true)]) (Hl := []) hE ⟨ufc, trivial⟩ ⟨.s _, trivial⟩ trivial ⟨⟨.refl _, trivial⟩, ⟨.refl _, trivial⟩, trivial, Nat.zero_le _⟩ ?_
  clear hk h1
  refine Aw.seq ?_
  refine Aw.sm tab_ok mb0 [] rfl rfl ?zo ?zk
  case zo =>
    repeat' apply AllP.cons
    all_goals first | exact trivial | exact id | exact rfl | exact fun _ => rfl | exact Nat.le_of_ble_eq_true rfl | exact fun _ => Nat.le_of_ble_eq_true rfl | exact Int.natCast_nonneg _ | exact fun _ => Int.natCast_nonneg _ | exact in_t _ _ _ | exact (in_t _ _ _).un | exact gq_f
  case zk =>
  refine Aw.block (Aw.rounds 0 hE [(1, .pt f.c)] (fun k : Nat => [(3, .bool true), (5, .int k)]) (fun _ => []) (fun k => k ≤ f.seasons.length) (fun k => f.seasons.length - k) 0
    (Nat.zero_le _) ⟨⟨.refl _, trivial⟩, ⟨.refl _, .refl _, trivial⟩, trivial, Nat.zero_le _⟩ ⟨ufc, trivial⟩ (fun _ _ => ⟨.s _, .s _, trivial⟩) (fun _ _ => trivial) fun k hk => ?_)
  refine Aw.seq ?_
  refine Aw.sm tab_ok mb0 [] rfl rfl ?zo ?zk
  case zo =>
    repeat' apply AllP.cons
    all_goals first | exact trivial | exact id | exact rfl | exact fun _ => rfl | exact Nat.le_of_ble_eq_true rfl | exact fun _ => Nat.le_of_ble_eq_true rfl | exact Int.natCast_nonneg _ | exact fun _ => Int.natCast_nonneg _ | exact in_t _ _ _ | exact (in_t _ _ _).un | exact gq_f
  case zk =>
  refine Aw.cond rfl (fun h1 => Aw.skip ?_) (fun h1 => ?_)
  · have hlt : k < f.seasons.length := by
      have := of_decide_eq_true (show decide ((k : Int) < ((f.seasons.map NR.c).length : Int)) = true from h1); omega
    have gs := seas_at f hlt
    have gs0 : (f.seasons.map NR.c)[(0 : Int).toNat]? = some (f.seasons.getD 0 ⟨false, []⟩).c := seas_at f (by omega)
    have hsl := hf.sl k hlt
    have hrl := hf.rl k
    have hgl : ∀ j, j < f.many → ((f.seasons.getD k ⟨false, []⟩).l.map NL.c)[j]? = some ((f.seasons.getD k ⟨false, []⟩).l.getD j ⟨false, []⟩).c := fun j hj => nl_at _ (by omega)
    have hg0 : ((f.seasons.getD 0 ⟨false, []⟩).l.map NL.c)[(0 : Int).toNat]? = some ((f.seasons.getD 0 ⟨false, []⟩).l.getD 0 ⟨false, []⟩).c := nl_at _ (by have := hf.sl 0 (by omega); show 0 < _; omega)
    have hy0 : ((f.seasons.getD 0 ⟨false, []⟩).l.getD 0 ⟨false, []⟩).l.length = f.years := rfl
    have hrl : ∀ j, j < f.many → ((f.seasons.getD k ⟨false, []⟩).l.getD j ⟨false, []⟩).l.length = f.years := fun j hj => hf.rl k j hlt hj
    generalize f.seasons.getD k ⟨false, []⟩ = S at *
    have lS : ((S.l.map NL.c).length : Int) = S.l.length := by simp
    refine Aw.seq (Aw.block ?_)
    refine Aw.sd tab_ok mixed mb0 [(3, S.c)] rfl (by kernel_rfl) rfl rfl ?zo ?zk
    case zo =>
      repeat' apply AllP.cons
      all_goals first | exact trivial | exact id | exact rfl | exact fun _ => rfl | exact Nat.le_of_ble_eq_true rfl | exact fun _ => Nat.le_of_ble_eq_true rfl | exact Int.natCast_nonneg _ | exact fun _ => Int.natCast_nonneg _ | exact in_t _ _ _ | exact (in_t _ _ _).un | exact gq_f | exact gs
    case zk =>
    refine Aw.sm tab_ok mb0 [] rfl rfl ?zo ?zk
    case zo =>
      repeat' apply AllP.cons
      all_goals first | exact trivial | exact id | exact rfl | exact fun _ => rfl | exact Nat.le_of_ble_eq_true rfl | exact fun _ => Nat.le_of_ble_eq_true rfl | exact Int.natCast_nonneg _ | exact fun _ => Int.natCast_nonneg _ | exact in_t _ _ _ | exact (in_t _ _ _).un | exact gq_f
    case zk =>
    have hd : A.bool true = A.bool (((S.l.map NL.c).length : Int) == ((f.races.map Rce.c).length : Int)) := by rw [lS, lr, hsl]; simp
    refine Aw.block (Aw.rounds 0 hE [(1, .pt f.c), (5, .int k)] (fun j : Nat => [(3, .bool true), (6, .int j)]) (fun _ => []) (fun j => j ≤ f.many) (fun j => f.many - j) 0
      (Nat.zero_le _) ⟨⟨.refl _, .refl _, trivial⟩, ⟨.of_eq hd, .refl _, trivial⟩, trivial, Nat.zero_le _⟩ ⟨ufc, .s _, trivial⟩ (fun _ _ => ⟨.s _, .s _, trivial⟩) (fun _ _ => trivial) fun j hj => ?_)
    refine Aw.seq ?_
    refine Aw.sm tab_ok mb0 [] rfl rfl ?zo ?zk
    case zo =>
      repeat' apply AllP.cons
      all_goals first | exact trivial | exact id | exact rfl | exact fun _ => rfl | exact Nat.le_of_ble_eq_true rfl | exact fun _ => Nat.le_of_ble_eq_true rfl | exact Int.natCast_nonneg _ | exact fun _ => Int.natCast_nonneg _ | exact in_t _ _ _ | exact (in_t _ _ _).un | exact gq_f
    case zk =>
    refine Aw.cond rfl (fun h2 => Aw.skip ?_) (fun h2 => ?_)
    · have hjl : j < f.many := by
        have := of_decide_eq_true (show decide ((j : Int) < ((f.races.map Rce.c).length : Int)) = true from h2); omega
      have hgj := hgl j hjl
      have hlj := hrl j hjl
      generalize S.l.getD j ⟨false, []⟩ = L at *
      generalize (f.seasons.getD 0 ⟨false, []⟩).l.getD 0 ⟨false, []⟩ = L0 at *
      have zL := ints_lenI L.l
      have z0 := ints_lenI L0.l
      have iL : Ans Try.prog 38 [.int ((ints L.l).length : Int), .int 1, .int 10] (.bool true) := in_is (by omega)
      refine Aw.seq (Aw.block ?_)
      refine Aw.ed tab_ok mixed mb0 [(3, S.c), (6, L.c), (9, [.bool true]), (14, S.c), (17, L.c), (22, (f.seasons.getD 0 ⟨false, []⟩).c), (24, L0.c)] rfl (by kernel_rfl) rfl rfl ?zo ?zk
      case zo =>
        repeat' apply AllP.cons
        all_goals first | exact trivial | exact id | exact rfl | exact fun _ => rfl | exact Nat.le_of_ble_eq_true rfl | exact fun _ => Nat.le_of_ble_eq_true rfl | exact Int.natCast_nonneg _ | exact fun _ => Int.natCast_nonneg _ | exact in_t _ _ _ | exact (in_t _ _ _).un | exact gq_f | exact gs | exact hgj | exact iL | exact fun _ => gs | exact fun _ => hgj | exact fun _ => gs0 | exact fun _ => hg0
      case zk =>
      refine Aw.em tab_ok mb0 [] rfl rfl ?zo ?zk
      case zo =>
        repeat' apply AllP.cons
        all_goals first | exact trivial | exact id | exact rfl | exact fun _ => rfl | exact Nat.le_of_ble_eq_true rfl | exact fun _ => Nat.le_of_ble_eq_true rfl | exact Int.natCast_nonneg _ | exact fun _ => Int.natCast_nonneg _ | exact in_t _ _ _ | exact (in_t _ _ _).un | exact gq_f | exact inrk j (by omega)
      case zk =>
      exact ⟨j + 1, hjl, by omega, ⟨.refl _, .refl _, trivial⟩, ⟨.of_eq (show A.bool true = A.bool (((ints L.l).length : Int) == ((ints L0.l).length : Int)) by rw [zL, z0, hlj, hy0]; simp), .refl _, trivial⟩, trivial, Nat.zero_le _⟩
    refine Aw.exit2 ?_
    refine Aw.em tab_ok mb0 [] rfl rfl ?zo ?zk
    case zo =>
      repeat' apply AllP.cons
      all_goals first | exact trivial | exact id | exact rfl | exact fun _ => rfl | exact Nat.le_of_ble_eq_true rfl | exact fun _ => Nat.le_of_ble_eq_true rfl | exact Int.natCast_nonneg _ | exact fun _ => Int.natCast_nonneg _ | exact in_t _ _ _ | exact (in_t _ _ _).un | exact gq_f | exact inrk k (by omega)
    case zk =>
    exact ⟨k + 1, hlt, by omega, ⟨.refl _, trivial⟩, ⟨.refl _, .refl _, trivial⟩, trivial, Nat.zero_le _⟩
  refine Aw.exit2 ?_
  refine Aw.sm tab_ok mb0 [] rfl rfl ?zo ?zk
  case zo =>
    repeat' apply AllP.cons
    all_goals first | exact trivial | exact id | exact rfl | exact fun _ => rfl | exact Nat.le_of_ble_eq_true rfl | exact fun _ => Nat.le_of_ble_eq_true rfl | exact Int.natCast_nonneg _ | exact fun _ => Int.natCast_nonneg _ | exact in_t _ _ _ | exact (in_t _ _ _).un | exact gq_f
  case zk =>
  exact Aw.ret ⟨_, .cons (.tmp _) .nil, rfl⟩
def lessF (T : Int) (less : List Int) (k : Nat) : Int := if T - pickF less k % 20 > 0 then T - pickF less k % 20 else 0
def takesF (T : Int) (less : List Int) (n : Nat) : List Int := (List.range n).map (lessF T less)
theorem takesF_len (T : Int) (less : List Int) (n : Nat) : (takesF T less n).length = n := by simp [takesF]
theorem takesF_get {T : Int} {less : List Int} {n i : Nat} (h : i < n) : (takesF T less n).getD i 0 = lessF T less i := by simp [takesF, List.getD_eq_getElem?_getD, h]
theorem takesF_succ (T : Int) (less : List Int) (n : Nat) : takesF T less (n + 1) = takesF T less n ++ [lessF T less n] := by simp [takesF, List.range_succ]
theorem lessF_bd {T : Int} (h : 0 ≤ T) (less : List Int) (k : Nat) : 0 ≤ lessF T less k ∧ lessF T less k ≤ T := by
  unfold lessF
  have := Int.emod_nonneg (pickF less k) (show (20 : Int) ≠ 0 by decide)
  split <;> omega
def playL (f : Fish) (r s : Nat) (q : Int) (less : List Int) : List Int := playF (f.race r) (f.race r).numbers (takesF (takeF q (f.most.getD r 0)) less (f.recs s r).length) (f.recs s r)
theorem takeF_bd {q m : Int} (hq : 0 ≤ q ∧ q ≤ 10001) (hm : 0 ≤ m ∧ m ≤ 100) : 0 ≤ takeF q m ∧ takeF q m ≤ 100000000 := by
  have := mul_bd (a := q) (b := m) (x := 10001) (y := 100) hq hm
  unfold takeF; rw [Int.tdiv_eq_ediv_of_nonneg (by omega)]; omega
theorem playL_in {f : Fish} (hok : f.ok = true) {r s : Nat} (hr : r < f.many) (hs : s < f.seasons.length) {q : Int} (hq : 0 ≤ q ∧ q ≤ 10001) (less : List Int) : PlayIn (f.race r) (takesF (takeF q (f.most.getD r 0)) less (f.recs s r).length) (f.recs s r) := by
  have hf := FishOk.of hok
  have y1 := hf.y1
  have y10 := hf.y10
  have hl := hf.rl s r hs hr
  have hT := takeF_bd hq (hf.mb r hr)
  refine ⟨race_ok hok hr, by rw [takesF_len]; omega, by rw [takesF_len]; omega, by rw [takesF_len], fun i hi => ?_, fun i hi => ?_⟩
  · rw [takesF_len] at hi
    rw [takesF_get hi]
    have := lessF_bd hT.1 less i; omega
  · rw [takesF_len] at hi
    refine hf.rb s r hs hr _ ?_
    rw [List.getD_eq_getElem?_getD, List.getElem?_eq_getElem hi]; exact List.getElem_mem hi
theorem playL_len {f : Fish} (hok : f.ok = true) {r s : Nat} (hr : r < f.many) (hs : s < f.seasons.length) (q : Int) (less : List Int) : (playL f r s q less).length = f.years := by
  unfold playL
  rw [playF_len _ _ _ _ (by rw [takesF_len]), takesF_len]
  exact (FishOk.of hok).rl s r hs hr
theorem played_t (f : Fish) (hfit : f.Fit) (hok : f.ok = true) (r s : Nat) (hr : r < f.many) (hs : s < f.seasons.length) (q : Int) (hq : 0 ≤ q ∧ q ≤ 10001) (b : Bool) (less : List Int) (hl : (less.length : Int) ≤ 9223372036854775806) :
    Ans Try.prog 48 [.agg f.c, .int r, .int s, .int q, .sl b .any (ints less)] (.tup [.sl false .exact (ints (playL f r s q less)), .int 0]) := by
  have hf := FishOk.of hok
  have y1 := hf.y1
  have y10 := hf.y10
  have hin := playL_in hok hr hs hq less
  have hlen := playL_len hok hr hs q less
  have hmb := hf.mb r hr
  have hml : r < f.most.length := by rw [hf.most]; exact hr
  have hsl := hf.sl s hs
  have hyl := hf.rl s r hs hr
  have hlb : ((((f.seasons.getD s ⟨false, []⟩).l.getD r ⟨false, []⟩).l).length : Int) ≤ 9223372036854775806 := by
    have : (((f.seasons.getD s ⟨false, []⟩).l.getD r ⟨false, []⟩).l).length = f.years := hyl
    omega
  have hT := takeF_bd hq hmb
  have hqm := mul_bd (a := q) (b := f.most.getD r 0) (x := 10001) (y := 100) hq hmb
  have gm : (ints f.most)[r]? = some [.int (f.most.getD r 0)] := ints_getD hml
  have gr := race_at f hr
  have gs := seas_at f hs
  have gl : ((f.seasons.getD s ⟨false, []⟩).l.map NL.c)[r]? = some ((f.seasons.getD s ⟨false, []⟩).l.getD r ⟨false, []⟩).c := nl_at _ (by omega)
  have cu := up_t q (f.most.getD r 0) ⟨hqm.1, by omega⟩
  have om : inR (q * f.most.getD r 0) := by simp only [inR]; omega
  have cP := play_t (f.race r) (race_fit hfit hr) false ((f.seasons.getD s ⟨false, []⟩).l.getD r ⟨false, []⟩).n (takesF (takeF q (f.most.getD r 0)) less (f.recs s r).length) (f.recs s r) (by rw [takesF_len, hyl]; omega) hlb
  have hPe : playF (f.race r) (f.race r).numbers (takesF (takeF q (f.most.getD r 0)) less (f.recs s r).length) (f.recs s r) = playL f r s q less := rfl
  have hne : playL f r s q less ≠ [] := fun h => by rw [h] at hlen; simp at hlen; omega
  unfold playR at cP
  rw [if_pos hin.to, hPe, outX_ne hne] at cP
  generalize playL f r s q less = P at *
  have hrc : f.recs s r = ((f.seasons.getD s ⟨false, []⟩).l.getD r ⟨false, []⟩).l := rfl
  rw [hyl] at cP
  rw [hrc] at cP hyl
  generalize takeF q (f.most.getD r 0) = T at *
  generalize f.most.getD r 0 = M at *
  generalize f.race r = rc at *
  generalize (f.seasons.getD s ⟨false, []⟩).l.getD r ⟨false, []⟩ = L at *
  generalize f.seasons.getD s ⟨false, []⟩ = S at *
  have zL := ints_lenI L.l
  have ufc : ∀ {n}, Under n (A.pt f.c) := (Free.pt _ f.free).under
  have hfr : Free (.tup [.sl false .exact (ints P), .int 0]) := .tup _ (allC (free_ints _ _ _) (all1 (.s _)))
  have hfl : Free (.sl b .any (ints less)) := free_ints _ _ _
  refine told Try.func48 rfl rfl (Pure.of tab_ok Try.func48 rfl Try.ntmps48 rfl (allC (.agg _ f.free) (allC (.s _) (allC (.s _) (allC (.s _) (all1 (hfl)))))) (allC (fun _ => rfl) (allC (fun _ => rfl) (allC (fun _ => rfl) (allC (fun _ => rfl) (all1 (fun _ => rfl)))))) (by first | exact .s _ | assumption | exact .tup _ (by intro x hx; simp only [List.mem_cons, List.not_mem_nil, or_false] at hx; rcases hx with rfl | rfl | rfl | rfl <;> first | exact .s _ | (simp_all; done))) fun E hE => ?_)
  refine Aw.sm tab_ok mb0 [] rfl rfl ?zo ?zk
  case zo =>
    repeat' apply AllP.cons
    all_goals first | exact trivial | exact id | exact rfl | exact fun _ => rfl | exact Nat.le_of_ble_eq_true rfl | exact fun _ => Nat.le_of_ble_eq_true rfl | exact Int.natCast_nonneg _ | exact fun _ => Int.natCast_nonneg _ | exact in_t _ _ _ | exact (in_t _ _ _).un | exact gq_f
  case zk =>
  refine Aw.sm tab_ok mb0 [] rfl rfl ?zo ?zk
  case zo =>
    repeat' apply AllP.cons
    all_goals first | exact trivial | exact id | exact rfl | exact fun _ => rfl | exact Nat.le_of_ble_eq_true rfl | exact fun _ => Nat.le_of_ble_eq_true rfl | exact Int.natCast_nonneg _ | exact fun _ => Int.natCast_nonneg _ | exact in_t _ _ _ | exact (in_t _ _ _).un | exact gq_f
  case zk =>
  refine Aw.seq ?_
  refine Aw.sm tab_ok mb0 [] rfl rfl ?zo ?zk
  case zo =>
    repeat' apply AllP.cons
    all_goals first | exact trivial | exact id | exact rfl | exact fun _ => rfl | exact Nat.le_of_ble_eq_true rfl | exact fun _ => Nat.le_of_ble_eq_true rfl | exact Int.natCast_nonneg _ | exact fun _ => Int.natCast_nonneg _ | exact in_t _ _ _ | exact (in_t _ _ _).un | exact gq_f
  case zk =>
  refine Aw.block (Aw.rounds 0 hE [(1, .int r), (2, .int s), (3, .int q), (4, .sl b .any (ints less)), (5, .pt f.c), (11, .int 0)] (fun k : Nat => [(12, grL 3 (takesF T less k)), (13, .int k)]) (fun _ => []) (fun k => k ≤ f.years) (fun k => f.years - k) 0
    (Nat.zero_le _) ⟨⟨.refl _, .refl _, .refl _, .refl _, .refl _, .refl _, trivial⟩, ⟨.refl _, .refl _, trivial⟩, trivial, Nat.zero_le _⟩ ⟨.s _, .s _, .s _, hfl.under, ufc, .s _, trivial⟩ (fun _ _ => ⟨grL_under _, .s _, trivial⟩) (fun _ _ => trivial) fun k hk => ?_)
  refine Aw.seq ?_
  refine Aw.sm tab_ok mb0 [(4, S.c), (7, L.c)] rfl rfl ?zo ?zk
  case zo =>
    repeat' apply AllP.cons
    all_goals first | exact trivial | exact id | exact rfl | exact fun _ => rfl | exact Nat.le_of_ble_eq_true rfl | exact fun _ => Nat.le_of_ble_eq_true rfl | exact Int.natCast_nonneg _ | exact fun _ => Int.natCast_nonneg _ | exact in_t _ _ _ | exact (in_t _ _ _).un | exact gq_f | exact gs | exact gl
  case zk =>
  refine Aw.cond rfl (fun h1 => Aw.skip ?_) (fun h1 => ?_)
  · have hlt : k < f.years := by
      have := of_decide_eq_true (show decide ((k : Int) < ((ints L.l).length : Int)) = true from h1); omega
    have cp := pick_t b less (k : Int) (by omega)
    have cm := mod_t (pickF less k) 20 (by decide) (by decide)
    have hp0 := Int.emod_nonneg (pickF less k) (show (20 : Int) ≠ 0 by decide)
    have hp1 := Int.emod_lt_of_pos (pickF less k) (show (0 : Int) < 20 by decide)
    have hsc := takesF_succ T less k
    have hlf : lessF T less k = if T - pickF less k % 20 > 0 then T - pickF less k % 20 else 0 := rfl
    have hpl : (takesF T less k).length = k := takesF_len _ _ _
    generalize pickF less k = pk at *
    refine Aw.seq (Aw.block ?_)
    by_cases hz : k = 0
    · subst hz
      refine Aw.em tab_ok mb0 [(5, [.int M]), (8, [.int T]), (11, [.int pk]), (12, [.int (pk % 20)])] rfl rfl ?zo ?zk
      case zo =>
        repeat' apply AllP.cons
        all_goals first | exact trivial | exact id | exact rfl | exact fun _ => rfl | exact Nat.le_of_ble_eq_true rfl | exact fun _ => Nat.le_of_ble_eq_true rfl | exact Int.natCast_nonneg _ | exact fun _ => Int.natCast_nonneg _ | exact in_t _ _ _ | exact (in_t _ _ _).un | exact gq_f | exact gm | exact cu | exact cp | exact cm | exact om | exact (show ∀ z ∈ [] ++ [[A.int _]], z.length = 1 from fun z hz => by simp at hz; subst hz; rfl) | exact (by simp only [Ob.of]; decide) | exact (by simp only [Ob.of, inR]; omega)
      case zk =>
      refine Aw.em tab_ok mb0 [] rfl rfl ?zo ?zk
      case zo =>
        repeat' apply AllP.cons
        all_goals first | exact trivial | exact id | exact rfl | exact fun _ => rfl | exact Nat.le_of_ble_eq_true rfl | exact fun _ => Nat.le_of_ble_eq_true rfl | exact Int.natCast_nonneg _ | exact fun _ => Int.natCast_nonneg _ | exact in_t _ _ _ | exact (in_t _ _ _).un | exact gq_f | exact (show inR (0 + 1) by simp only [inR]; omega)
      case zk =>
      exact ⟨1, hlt, by omega, ⟨.refl _, .refl _, .refl _, .refl _, .refl _, .refl _, trivial⟩, ⟨.of_eq (by rw [hsc, hlf]; rfl), .refl _, trivial⟩, trivial, Nat.zero_le _⟩
    · have hne : takesF T less k ≠ [] := fun h => by rw [h] at hpl; simp at hpl; omega
      have hzz := ints_one (takesF T less k)
      have hlen2 := ints_len (takesF T less k)
      rw [grL_cons hne]
      refine Aw.em tab_ok mb0 [(5, [.int M]), (8, [.int T]), (11, [.int pk]), (12, [.int (pk % 20)])] rfl rfl ?zo ?zk
      case zo =>
        repeat' apply AllP.cons
        all_goals first | exact trivial | exact id | exact rfl | exact fun _ => rfl | exact Nat.le_of_ble_eq_true rfl | exact fun _ => Nat.le_of_ble_eq_true rfl | exact Int.natCast_nonneg _ | exact fun _ => Int.natCast_nonneg _ | exact in_t _ _ _ | exact (in_t _ _ _).un | exact gq_f | exact gm | exact cu | exact cp | exact cm | exact om | exact (show ∀ z ∈ [[A.int _]], z.length = 1 from fun z hz => by simp at hz; subst hz; rfl) | exact hzz | exact (show ((ints (takesF T less k)).length + 1) * 8 ≤ 140737488355328 by omega) | exact (show (ints (takesF T less k)).length + 1 ≤ maxLen by unfold maxLen; omega) | exact (by simp only [Ob.of, inR]; omega)
      case zk =>
      refine Aw.em tab_ok mb0 [] rfl rfl ?zo ?zk
      case zo =>
        repeat' apply AllP.cons
        all_goals first | exact trivial | exact id | exact rfl | exact fun _ => rfl | exact Nat.le_of_ble_eq_true rfl | exact fun _ => Nat.le_of_ble_eq_true rfl | exact Int.natCast_nonneg _ | exact fun _ => Int.natCast_nonneg _ | exact in_t _ _ _ | exact (in_t _ _ _).un | exact gq_f | exact inrk k (by omega)
      case zk =>
      exact ⟨k + 1, hlt, by omega, ⟨.refl _, .refl _, .refl _, .refl _, .refl _, .refl _, trivial⟩, ⟨.of_eq (show grL 3 (takesF T less (k + 1)) = A.sl false (.own 3) (ints (takesF T less k) ++ [[A.int (if T - pk % 20 > 0 then T - pk % 20 else 0)]]) by rw [hsc, hlf, grL_cons (by simp)]; simp [ints]), .refl _, trivial⟩, trivial, Nat.zero_le _⟩
  have hke : k = f.years := by
    have := of_decide_eq_false (show decide ((k : Int) < ((ints L.l).length : Int)) = false from h1); omega
  subst hke
  have hne2 : takesF T less f.years ≠ [] := fun h => by have := takesF_len T less f.years; rw [h] at this; simp at this; omega
  rw [grL_cons hne2]
  refine Aw.exit2 ?_
  refine Aw.sd tab_ok mixed mb0 [(3, rc.c), (9, S.c), (12, L.c), (14, [.tup [.sl false .exact (ints P), .int 0]])] rfl (by kernel_rfl) rfl rfl ?zo ?zk
  case zo =>
    repeat' apply AllP.cons
    all_goals first | exact trivial | exact id | exact rfl | exact fun _ => rfl | exact Nat.le_of_ble_eq_true rfl | exact fun _ => Nat.le_of_ble_eq_true rfl | exact Int.natCast_nonneg _ | exact fun _ => Int.natCast_nonneg _ | exact in_t _ _ _ | exact (in_t _ _ _).un | exact gq_f | exact gr | exact gs | exact gl | exact cP
  case zk =>
  exact Aw.ret ⟨_, .cons (.tmp _) (.cons (.tmp _) .nil), rfl⟩
end Go.Proofs.Ytdiclbgklegelaa

namespace Go.Proofs.Ytdiclbgklegelaa
open Go Go.AL Go.AL.Q
theorem playL_ge {f : Fish} (hok : f.ok = true) {r s : Nat} (hr : r < f.many) (_hs : s < f.seasons.length) {q : Int} (hq : 0 ≤ q ∧ q ≤ 10001) (less : List Int) (y : Nat) : (f.spawns r s q).getD y 0 ≤ (playL f r s q less).getD y 0 := by
  have hf := FishOk.of hok
  have hT := takeF_bd hq (hf.mb r hr)
  refine (playF_mono (.of (race_ok hok hr)) _ _ _ _ _ _ (LeP.refl _) (Nat.le_refl _) ⟨by rw [takesF_len]; simp, fun i => ?_⟩ (LeP.refl _) (by simp)).2 y
  by_cases hi : i < (f.recs s r).length
  · rw [takesF_get hi]
    have e : (List.replicate (f.recs s r).length (takeF q (f.most.getD r 0))).getD i 0 = takeF q (f.most.getD r 0) := by simp [List.getD_eq_getElem?_getD, hi]
    rw [e]
    exact (lessF_bd hT.1 less i).2
  · have e1 : (takesF (takeF q (f.most.getD r 0)) less (f.recs s r).length).getD i 0 = 0 := by
      rw [List.getD_eq_getElem?_getD, List.getElem?_eq_none (by rw [takesF_len]; omega)]; rfl
    have e2 : (List.replicate (f.recs s r).length (takeF q (f.most.getD r 0))).getD i 0 = 0 := by
      rw [List.getD_eq_getElem?_getD, List.getElem?_eq_none (by simp; omega)]; rfl
    rw [e1, e2]; exact Int.le_refl _
theorem kept_t (f : Fish) (n0 n1 : Int) (b : Bool) (bits : List Int) (hfit : f.Fit) (hl : (bits.length : Int) ≤ 9223372036854775806) :
    Ans Try.prog 13 [.agg f.c, .agg [.int n0, .int n1], .sl b .any (ints bits)] (.bool true) := by
  have c1 := quota_t f hfit
  have c2 := First_t f hfit 0
  have hfl : Free (.sl b .any (ints bits)) := free_ints _ _ _
  refine told Try.func13 rfl rfl (Pure.of tab_ok Try.func13 rfl Try.ntmps13 rfl (allC (.agg _ f.free) (allC (.agg _ (allC (.s _) (all1 (.s _)))) (all1 (hfl)))) (allC (fun _ => rfl) (allC (fun _ => rfl) (all1 (fun _ => rfl)))) (by first | exact .s _ | assumption | exact .tup _ (by intro x hx; simp only [List.mem_cons, List.not_mem_nil, or_false] at hx; rcases hx with rfl | rfl | rfl | rfl <;> first | exact .s _ | (simp_all; done))) fun E hE => ?_)
  refine Aw.sm tab_ok mb0 [] rfl rfl ?zo ?zk
  case zo =>
    repeat' apply AllP.cons
    all_goals first | exact trivial | exact id | exact rfl | exact fun _ => rfl | exact Nat.le_of_ble_eq_true rfl | exact fun _ => Nat.le_of_ble_eq_true rfl | exact Int.natCast_nonneg _ | exact fun _ => Int.natCast_nonneg _ | exact in_t _ _ _ | exact (in_t _ _ _).un | exact gq_f
  case zk =>
  cases hok : f.ok with
  | false =>
    have e1 : f.quotaR = [.int 0, .int 93] := by unfold Q.Fish.quotaR; rw [hok]; rfl
    have e2 : f.firstR 0 = [.int 0, .int 0, .int 0, .int 93] := by unfold Q.Fish.firstR; rw [hok]; rfl
    rw [e1] at c1
    rw [e2] at c2
    refine Aw.sm tab_ok mb0 [(1, [.tup [.int 0, .int 93]])] rfl rfl ?zo ?zk
    case zo =>
      repeat' apply AllP.cons
      all_goals first | exact trivial | exact id | exact rfl | exact fun _ => rfl | exact Nat.le_of_ble_eq_true rfl | exact fun _ => Nat.le_of_ble_eq_true rfl | exact Int.natCast_nonneg _ | exact fun _ => Int.natCast_nonneg _ | exact in_t _ _ _ | exact (in_t _ _ _).un | exact gq_f | exact c1
    case zk =>
    refine Aw.sm tab_ok mb0 [(1, [.tup [.int 0, .int 0, .int 0, .int 93]])] rfl rfl ?zo ?zk
    case zo =>
      repeat' apply AllP.cons
      all_goals first | exact trivial | exact id | exact rfl | exact fun _ => rfl | exact Nat.le_of_ble_eq_true rfl | exact fun _ => Nat.le_of_ble_eq_true rfl | exact Int.natCast_nonneg _ | exact fun _ => Int.natCast_nonneg _ | exact in_t _ _ _ | exact (in_t _ _ _).un | exact gq_f | exact c2
    case zk =>
    refine Aw.seq ?_
    refine Aw.sm tab_ok mb0 [(4, [.bool true])] rfl rfl ?zo ?zk
    case zo =>
      repeat' apply AllP.cons
      all_goals first | exact trivial | exact id | exact rfl | exact fun _ => rfl | exact Nat.le_of_ble_eq_true rfl | exact fun _ => Nat.le_of_ble_eq_true rfl | exact Int.natCast_nonneg _ | exact fun _ => Int.natCast_nonneg _ | exact in_t _ _ _ | exact (in_t _ _ _).un | exact gq_f | exact fun h => by cases h
    case zk =>
    refine Aw.cond rfl (fun h => ?_) (fun h => absurd h (by decide))
    refine Aw.sm tab_ok mb0 [(20, [.bool true])] rfl rfl ?zo ?zk
    case zo =>
      repeat' apply AllP.cons
      all_goals first | exact trivial | exact id | exact rfl | exact fun _ => rfl | exact Nat.le_of_ble_eq_true rfl | exact fun _ => Nat.le_of_ble_eq_true rfl | exact Int.natCast_nonneg _ | exact fun _ => Int.natCast_nonneg _ | exact in_t _ _ _ | exact (in_t _ _ _).un | exact gq_f | exact fun _ => works_t | exact fun _ _ => rfl | exact fun _ h => absurd h (by decide) | exact fun h => absurd h (by decide)
    case zk =>
    exact Aw.ret ⟨_, .cons (.tmp _) .nil, rfl⟩
  | true =>
  have hf := FishOk.of hok
  cases h0 : f.holds 0 with
  | false =>
    have e1 : f.quotaR = [.int 0, .int 4] := by unfold Q.Fish.quotaR; rw [hok, h0]; rfl
    obtain ⟨x, y, z, e2⟩ := (first_holds hok (q := 0) (by decide)).2 h0
    rw [e1] at c1
    rw [e2] at c2
    refine Aw.sm tab_ok mb0 [(1, [.tup [.int 0, .int 4]])] rfl rfl ?zo ?zk
    case zo =>
      repeat' apply AllP.cons
      all_goals first | exact trivial | exact id | exact rfl | exact fun _ => rfl | exact Nat.le_of_ble_eq_true rfl | exact fun _ => Nat.le_of_ble_eq_true rfl | exact Int.natCast_nonneg _ | exact fun _ => Int.natCast_nonneg _ | exact in_t _ _ _ | exact (in_t _ _ _).un | exact gq_f | exact c1
    case zk =>
    refine Aw.sm tab_ok mb0 [(1, [.tup [.int x, .int y, .int z, .int 0]])] rfl rfl ?zo ?zk
    case zo =>
      repeat' apply AllP.cons
      all_goals first | exact trivial | exact id | exact rfl | exact fun _ => rfl | exact Nat.le_of_ble_eq_true rfl | exact fun _ => Nat.le_of_ble_eq_true rfl | exact Int.natCast_nonneg _ | exact fun _ => Int.natCast_nonneg _ | exact in_t _ _ _ | exact (in_t _ _ _).un | exact gq_f | exact c2
    case zk =>
    refine Aw.seq ?_
    refine Aw.sm tab_ok mb0 [(4, [.bool true])] rfl rfl ?zo ?zk
    case zo =>
      repeat' apply AllP.cons
      all_goals first | exact trivial | exact id | exact rfl | exact fun _ => rfl | exact Nat.le_of_ble_eq_true rfl | exact fun _ => Nat.le_of_ble_eq_true rfl | exact Int.natCast_nonneg _ | exact fun _ => Int.natCast_nonneg _ | exact in_t _ _ _ | exact (in_t _ _ _).un | exact gq_f | exact fun h => by cases h
    case zk =>
    refine Aw.cond rfl (fun h => ?_) (fun h => absurd h (by decide))
    refine Aw.sm tab_ok mb0 [(20, [.bool true])] rfl rfl ?zo ?zk
    case zo =>
      repeat' apply AllP.cons
      all_goals first | exact trivial | exact id | exact rfl | exact fun _ => rfl | exact Nat.le_of_ble_eq_true rfl | exact fun _ => Nat.le_of_ble_eq_true rfl | exact Int.natCast_nonneg _ | exact fun _ => Int.natCast_nonneg _ | exact in_t _ _ _ | exact (in_t _ _ _).un | exact gq_f | exact fun _ => works_t | exact fun _ _ => rfl | exact fun _ h => absurd h (by decide) | exact fun h => absurd h (by decide)
    case zk =>
    exact Aw.ret ⟨_, .cons (.tmp _) .nil, rfl⟩
  | true =>
  obtain ⟨q0, q1, q2, q3⟩ := quota_spec h0
  have e1 : f.quotaR = [.int f.quota, .int 0] := by unfold Q.Fish.quotaR; rw [hok, h0]; rfl
  have e2 := (first_holds hok (q := 0) (by decide)).1 h0
  have e3 := (first_holds hok (q := f.quota) ⟨q0, q1⟩).1 q2
  have c3 := First_t f hfit f.quota
  have c4 := First_t f hfit (f.quota + 1)
  have e4 := fun h => (first_holds hok (q := f.quota + 1) h).2
  rw [e1] at c1
  rw [e2] at c2
  rw [e3] at c3
  generalize f.quota = q at *
  have cf := fished_t f hfit hok
  have m1 := hf.m1
  have m3 := hf.m3
  have s1 := hf.s1
  have s6 := hf.s6
  have y1 := hf.y1
  have y10 := hf.y10
  have lr : ((f.races.map Rce.c).length : Int) = f.many := by simp [Fish.many]
  have ls : ((f.seasons.map NR.c).length : Int) = f.seasons.length := by simp
  refine Aw.sm tab_ok mb0 [(1, [.tup [.int q, .int 0]])] rfl rfl ?zo ?zk
  case zo =>
    repeat' apply AllP.cons
    all_goals first | exact trivial | exact id | exact rfl | exact fun _ => rfl | exact Nat.le_of_ble_eq_true rfl | exact fun _ => Nat.le_of_ble_eq_true rfl | exact Int.natCast_nonneg _ | exact fun _ => Int.natCast_nonneg _ | exact in_t _ _ _ | exact (in_t _ _ _).un | exact gq_f | exact c1
  case zk =>
  refine Aw.sm tab_ok mb0 [(1, [.tup [.int 0, .int 0, .int 0, .int 4]])] rfl rfl ?zo ?zk
  case zo =>
    repeat' apply AllP.cons
    all_goals first | exact trivial | exact id | exact rfl | exact fun _ => rfl | exact Nat.le_of_ble_eq_true rfl | exact fun _ => Nat.le_of_ble_eq_true rfl | exact Int.natCast_nonneg _ | exact fun _ => Int.natCast_nonneg _ | exact in_t _ _ _ | exact (in_t _ _ _).un | exact gq_f | exact c2
  case zk =>
  refine Aw.seq ?_
  refine Aw.sm tab_ok mb0 [(4, [.bool true])] rfl rfl ?zo ?zk
  case zo =>
    repeat' apply AllP.cons
    all_goals first | exact trivial | exact id | exact rfl | exact fun _ => rfl | exact Nat.le_of_ble_eq_true rfl | exact fun _ => Nat.le_of_ble_eq_true rfl | exact Int.natCast_nonneg _ | exact fun _ => Int.natCast_nonneg _ | exact in_t _ _ _ | exact (in_t _ _ _).un | exact gq_f | exact fun _ => cf
  case zk =>
  refine Aw.cond rfl (fun h => absurd h (by decide)) (fun h => Aw.skip ?_)
  have iq : Ans Try.prog 38 [.int q, .int 0, .int 10000] (.bool true) := in_is ⟨q0, q1⟩
  refine Aw.seq ?_
  refine Aw.sm tab_ok mb0 [(1, [.bool true])] rfl rfl ?zo ?zk
  case zo =>
    repeat' apply AllP.cons
    all_goals first | exact trivial | exact id | exact rfl | exact fun _ => rfl | exact Nat.le_of_ble_eq_true rfl | exact fun _ => Nat.le_of_ble_eq_true rfl | exact Int.natCast_nonneg _ | exact fun _ => Int.natCast_nonneg _ | exact in_t _ _ _ | exact (in_t _ _ _).un | exact gq_f | exact iq
  case zk =>
  refine Aw.cond rfl (fun h => absurd h (by decide)) (fun h => Aw.skip ?_)
  refine Aw.sm tab_ok mb0 [(2, [.tup [.int 0, .int 0, .int 0, .int 4]])] rfl rfl ?zo ?zk
  case zo =>
    repeat' apply AllP.cons
    all_goals first | exact trivial | exact id | exact rfl | exact fun _ => rfl | exact Nat.le_of_ble_eq_true rfl | exact fun _ => Nat.le_of_ble_eq_true rfl | exact Int.natCast_nonneg _ | exact fun _ => Int.natCast_nonneg _ | exact in_t _ _ _ | exact (in_t _ _ _).un | exact gq_f | exact c3
  case zk =>
  obtain ⟨r, hr⟩ : ∃ r : Nat, (r : Int) = n0 % f.many := ⟨(n0 % f.many).toNat, by have := Int.emod_nonneg n0 (show (f.many : Int) ≠ 0 by omega); omega⟩
  obtain ⟨s, hs⟩ : ∃ s : Nat, (s : Int) = n1 % f.seasons.length := ⟨(n1 % f.seasons.length).toNat, by have := Int.emod_nonneg n1 (show (f.seasons.length : Int) ≠ 0 by omega); omega⟩
  have hrl : r < f.many := by have := Int.emod_lt_of_pos n0 (show (0 : Int) < f.many by omega); omega
  have hsl : s < f.seasons.length := by have := Int.emod_lt_of_pos n1 (show (0 : Int) < f.seasons.length by omega); omega
  have cm0 : Ans Try.prog 35 [.int n0, .int ((f.races.map Rce.c).length : Int)] (.int r) := by rw [lr, hr]; exact mod_t n0 f.many (by omega) (by omega)
  have cm1 : Ans Try.prog 35 [.int n1, .int ((f.seasons.map NR.c).length : Int)] (.int s) := by rw [ls, hs]; exact mod_t n1 f.seasons.length (by omega) (by omega)
  refine Aw.sd tab_ok mixed mb0 [(5, [.int r]), (11, [.int s])] rfl (by kernel_rfl) rfl rfl ?zo ?zk
  case zo =>
    repeat' apply AllP.cons
    all_goals first | exact trivial | exact id | exact rfl | exact fun _ => rfl | exact Nat.le_of_ble_eq_true rfl | exact fun _ => Nat.le_of_ble_eq_true rfl | exact Int.natCast_nonneg _ | exact fun _ => Int.natCast_nonneg _ | exact in_t _ _ _ | exact (in_t _ _ _).un | exact gq_f | exact cm0 | exact cm1
  case zk =>
  have cp := played_t f hfit hok r s hrl hsl q ⟨q0, by omega⟩ b bits hl
  have hpl := playL_len hok hrl hsl q bits
  have hge : ∀ y, y < f.years → (f.race r).line ≤ (playL f r s q bits).getD y 0 := fun y hy => Int.le_trans (holds_line hf q2 hrl hsl hy) (playL_ge hok hrl hsl ⟨q0, by omega⟩ bits y)
  generalize playL f r s q bits = P at *
  refine Aw.sm tab_ok mb0 [(5, [.tup [.sl false .exact (ints P), .int 0]])] rfl rfl ?zo ?zk
  case zo =>
    repeat' apply AllP.cons
    all_goals first | exact trivial | exact id | exact rfl | exact fun _ => rfl | exact Nat.le_of_ble_eq_true rfl | exact fun _ => Nat.le_of_ble_eq_true rfl | exact Int.natCast_nonneg _ | exact fun _ => Int.natCast_nonneg _ | exact in_t _ _ _ | exact (in_t _ _ _).un | exact gq_f | exact cp
  case zk =>
  have gr := race_at f hrl
  have gs := seas_at f hsl
  have hsl2 := hf.sl s hsl
  have hyl := hf.rl s r hsl hrl
  have gl : ((f.seasons.getD s ⟨false, []⟩).l.map NL.c)[r]? = some ((f.seasons.getD s ⟨false, []⟩).l.getD r ⟨false, []⟩).c := nl_at _ (by omega)
  have hrc : f.recs s r = ((f.seasons.getD s ⟨false, []⟩).l.getD r ⟨false, []⟩).l := rfl
  rw [hrc] at hyl
  generalize (f.seasons.getD s ⟨false, []⟩).l.getD r ⟨false, []⟩ = L at *
  generalize f.seasons.getD s ⟨false, []⟩ = S at *
  generalize f.race r = rc at *
  have zL := ints_lenI L.l
  have zP := ints_lenI P
  refine Aw.seq ?_
  refine Aw.sm tab_ok mb0 [(12, S.c), (15, L.c)] rfl rfl ?zo ?zk
  case zo =>
    repeat' apply AllP.cons
    all_goals first | exact trivial | exact id | exact rfl | exact fun _ => rfl | exact Nat.le_of_ble_eq_true rfl | exact fun _ => Nat.le_of_ble_eq_true rfl | exact Int.natCast_nonneg _ | exact fun _ => Int.natCast_nonneg _ | exact in_t _ _ _ | exact (in_t _ _ _).un | exact gq_f | exact fun _ => gs | exact fun _ => gl
  case zk =>
  refine Aw.cond rfl (fun h => ?_) (fun h => Aw.skip ?_)
  · have h : (((ints P).length : Int) != ((ints L.l).length : Int)) = true := h
    rw [zP, zL, hpl, hyl] at h; simp at h
  have ufc : ∀ {n}, Under n (A.pt f.c) := (Free.pt _ f.free).under
  refine Aw.seq ?_
  refine Aw.sm tab_ok mb0 [] rfl rfl ?zo ?zk
  case zo =>
    repeat' apply AllP.cons
    all_goals first | exact trivial | exact id | exact rfl | exact fun _ => rfl | exact Nat.le_of_ble_eq_true rfl | exact fun _ => Nat.le_of_ble_eq_true rfl | exact Int.natCast_nonneg _ | exact fun _ => Int.natCast_nonneg _ | exact in_t _ _ _ | exact (in_t _ _ _).un | exact gq_f
  case zk =>
  refine Aw.block (Aw.rounds 0 hE [(3, .pt f.c), (7, .int q), (13, .int r), (15, .sl false .exact (ints P))] (fun k : Nat => [(17, .int k)]) (fun _ => []) (fun k => k ≤ P.length) (fun k => P.length - k) 0
    (Nat.zero_le _) ⟨⟨.refl _, .refl _, .refl _, .refl _, trivial⟩, ⟨.refl _, trivial⟩, trivial, Nat.zero_le _⟩ ⟨ufc, .s _, .s _, (free_ints _ _ _).under, trivial⟩ (fun _ _ => ⟨.s _, trivial⟩) (fun _ _ => trivial) fun k hk => ?_)
  refine Aw.seq ?_
  refine Aw.sm tab_ok mb0 [] rfl rfl ?zo ?zk
  case zo =>
    repeat' apply AllP.cons
    all_goals first | exact trivial | exact id | exact rfl | exact fun _ => rfl | exact Nat.le_of_ble_eq_true rfl | exact fun _ => Nat.le_of_ble_eq_true rfl | exact Int.natCast_nonneg _ | exact fun _ => Int.natCast_nonneg _ | exact in_t _ _ _ | exact (in_t _ _ _).un | exact gq_f
  case zk =>
  refine Aw.cond rfl (fun h1 => Aw.skip ?_) (fun h1 => ?_)
  · have hlt : k < P.length := by
      have := of_decide_eq_true (show decide ((k : Int) < ((ints P).length : Int)) = true from h1); omega
    have gP := ints_getD hlt
    have hg := hge k (by omega)
    refine Aw.seq (Aw.block ?_)
    refine Aw.sd tab_ok mixed mb0 [(2, [.int (P.getD k 0)]), (7, rc.c)] rfl (by kernel_rfl) rfl rfl ?zo ?zk
    case zo =>
      repeat' apply AllP.cons
      all_goals first | exact trivial | exact id | exact rfl | exact fun _ => rfl | exact Nat.le_of_ble_eq_true rfl | exact fun _ => Nat.le_of_ble_eq_true rfl | exact Int.natCast_nonneg _ | exact fun _ => Int.natCast_nonneg _ | exact in_t _ _ _ | exact (in_t _ _ _).un | exact gq_f | exact gP | exact gr
    case zk =>
    refine Aw.cond rfl (fun h2 => ?_) (fun h2 => Aw.skip ?_)
    · have := of_decide_eq_true (show decide (P.getD k 0 < rc.line) = true from h2); omega
    refine Aw.em tab_ok mb0 [] rfl rfl ?zo ?zk
    case zo =>
      repeat' apply AllP.cons
      all_goals first | exact trivial | exact id | exact rfl | exact fun _ => rfl | exact Nat.le_of_ble_eq_true rfl | exact fun _ => Nat.le_of_ble_eq_true rfl | exact Int.natCast_nonneg _ | exact fun _ => Int.natCast_nonneg _ | exact in_t _ _ _ | exact (in_t _ _ _).un | exact gq_f | exact inrk k (by omega)
    case zk =>
    exact ⟨k + 1, hlt, by omega, ⟨.refl _, .refl _, .refl _, .refl _, trivial⟩, ⟨.refl _, trivial⟩, trivial, Nat.zero_le _⟩
  refine Aw.exit2 ?_
  refine Aw.seq ?_
  refine Aw.sm tab_ok mb0 [] rfl rfl ?zo ?zk
  case zo =>
    repeat' apply AllP.cons
    all_goals first | exact trivial | exact id | exact rfl | exact fun _ => rfl | exact Nat.le_of_ble_eq_true rfl | exact fun _ => Nat.le_of_ble_eq_true rfl | exact Int.natCast_nonneg _ | exact fun _ => Int.natCast_nonneg _ | exact in_t _ _ _ | exact (in_t _ _ _).un | exact gq_f
  case zk =>
  refine Aw.cond rfl (fun h3 => ?_) (fun h3 => Aw.skip ?_)
  · refine Aw.sm tab_ok mb0 [(0, [.bool true])] rfl rfl ?zo ?zk
    case zo =>
      repeat' apply AllP.cons
      all_goals first | exact trivial | exact id | exact rfl | exact fun _ => rfl | exact Nat.le_of_ble_eq_true rfl | exact fun _ => Nat.le_of_ble_eq_true rfl | exact Int.natCast_nonneg _ | exact fun _ => Int.natCast_nonneg _ | exact in_t _ _ _ | exact (in_t _ _ _).un | exact gq_f | exact works_t
    case zk =>
    exact Aw.ret ⟨_, .cons (.tmp _) .nil, rfl⟩
  have h3 : ¬ q = 10000 := fun e => by subst e; exact absurd h3 (by decide)
  have hbr : f.holds (q + 1) = false := by
    rcases q3 with h | h
    · exact absurd h h3
    · exact h
  obtain ⟨x, y, z, e5⟩ := e4 (by omega) hbr
  rw [e5] at c4
  refine Aw.sm tab_ok mb0 [(3, [.tup [.int x, .int y, .int z, .int 0]])] rfl rfl ?zo ?zk
  case zo =>
    repeat' apply AllP.cons
    all_goals first | exact trivial | exact id | exact rfl | exact fun _ => rfl | exact Nat.le_of_ble_eq_true rfl | exact fun _ => Nat.le_of_ble_eq_true rfl | exact Int.natCast_nonneg _ | exact fun _ => Int.natCast_nonneg _ | exact in_t _ _ _ | exact (in_t _ _ _).un | exact gq_f | exact c4 | exact (by simp only [Ob.of, inR]; omega)
  case zk =>
  refine Aw.sm tab_ok mb0 [(3, [.bool true])] rfl rfl ?zo ?zk
  case zo =>
    repeat' apply AllP.cons
    all_goals first | exact trivial | exact id | exact rfl | exact fun _ => rfl | exact Nat.le_of_ble_eq_true rfl | exact fun _ => Nat.le_of_ble_eq_true rfl | exact Int.natCast_nonneg _ | exact fun _ => Int.natCast_nonneg _ | exact in_t _ _ _ | exact (in_t _ _ _).un | exact gq_f | exact fun _ => works_t
  case zk =>
  exact Aw.ret ⟨_, .cons (.tmp _) .nil, rfl⟩
end Go.Proofs.Ytdiclbgklegelaa

namespace Go.Proofs.Ytdiclbgklegelaa
open Go Go.AL Go.ChangeShapes Go.WideShapes Go.ChangeAt Go.RowKit
set_option maxRecDepth 100000 in
theorem stockKept_lifted (os : Os) (started : os.Started) (H : Type) (enc : TypeId × Value → H) :
    ReturnsInHanded {} Try.checked os 13 .any (Rows.stockKeptSpec.pre6 enc Try.prog Try.f13 [] false) (Rows.stockKeptSpec.post enc Try.prog Try.f13 false true false false) := by
  refine lifted2 (tb := 4) (C := Try.checked) own started (by kernel_rfl) Try.func13
    (ChangeSpec.witness6 (enc := enc) (C := Try.checked) false ⟨#[], #[.agg #[.slice none 0 0, .slice none 0 0, .slice none 0 0], .agg #[.int .i64 0, .int .i64 0], .slice none 0 0], []⟩ 8 (by kernel_rfl) (by kernel_rfl) (by kernel_rfl) (by kernel_rfl))
    laidOut ?_ rfl rfl (by kernel_rfl) uBool ?_ ?_
  · rw [Try.params13]; exact all3t (p := fun t => Try.prog.readableRec t = true ∧ t < Try.prog.types.size) t47 t23 t37
  · intro ds hd
    rw [Try.params13] at hd
    match ds, hd with
    | [d0, d1, d2], _ => rfl
  · intro W base args ds p hval hA hwt
    rw [Try.params13] at hA hval
    obtain ⟨v0, v1, v2, d0, d1, d2, p0, p1, p2, rfl, rfl, rfl, h0, h1, h2⟩ := trodAll_three hA
    obtain ⟨y0, q0, s0⟩ := arg_fish (φ := fun _ => none) (hval 0 47 v0 rfl rfl) h0 fun k hk => hwt k (List.mem_append.2 (.inl hk))
    obtain ⟨y1, q1⟩ := arg_pair (φ := fun _ => none) (hval 1 23 v1 rfl rfl) h1
    obtain ⟨b2, y2, q2, s2⟩ := arg_ints (φ := fun _ => none) (hval 2 37 v2 rfl rfl) h2 fun k hk => hwt k (List.mem_append.2 (.inr (List.mem_append.2 (.inr (List.mem_append.2 (.inl hk))))))
    exact ⟨_, _, vrs3 q0 q1 q2, kept_t y0 y1.1 y1.2 b2 y2 s0 s2⟩
theorem stockKept_holds : Rows.StockKeptSaid :=
  OpenClaim.holds_of_wide 13 Try.f13 rfl rfl rfl rfl rfl rfl rfl ⟨rfl, rfl, rfl, rfl, rfl⟩ rfl rfl rfl rfl rfl (by kernel_rfl) Try.func13 (by kernel_rfl)
    (of_decide_eq_true (by kernel_rfl)) (by unfold Func.isWrapper; first | (rw [if_pos (by decide +kernel)]; kernel_rfl) | (rw [if_neg (by decide +kernel)]; exact ⟨rfl, rfl⟩))
    (fun os started H enc _ => stockKept_lifted os started H enc)
end Go.Proofs.Ytdiclbgklegelaa

