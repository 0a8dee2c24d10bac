/- StockKnown holds: What is said of single scales, races, fisheries and boxes holds. No condition. -/
import Derived.Test.YtdiclbgklegelaaK6
set_option linter.all false
namespace Go.AL
open Go Go.RowKit Go.ChangeShapes Go.WideShapes Go.ChangeAt
section
variable {H : Type} {enc : TypeId × Value → H} {P : Program} {w : World} {base : Nat} {held : Bool} {φ : Names}
def CellsAre (φ : Names) (w : World) (az : List A) (cs : List Value) : Prop :=
  cs.length = az.length ∧ ∀ i, i < az.length → VR φ (allZ w) w (az.getD i .un) (cs.getD i undef) ∧ (cs.getD i undef).oneCell' = true
theorem CellsAre.nil : CellsAre φ w [] [] := ⟨rfl, fun i h => by simp at h⟩
theorem CellsAre.one {a : A} {v : Value} (h : VR φ (allZ w) w a v) (h1 : v.oneCell' = true) : CellsAre φ w [a] [v] := ⟨rfl, fun i hi => by
  have : i = 0 := by simp at hi; exact hi
  subst this; exact ⟨h, h1⟩⟩
theorem CellsAre.app {az bz : List A} {cs ds : List Value} (h : CellsAre φ w az cs) (k : CellsAre φ w bz ds) : CellsAre φ w (az ++ bz) (cs ++ ds) := by
  refine ⟨by simp [h.1, k.1], fun i hi => ?_⟩
  by_cases h1 : i < az.length
  · have := h.2 i h1
    rw [show (az ++ bz).getD i .un = az.getD i .un by simp [List.getD_eq_getElem?_getD, List.getElem?_append, h1],
      show (cs ++ ds).getD i undef = cs.getD i undef by simp [List.getD_eq_getElem?_getD, List.getElem?_append, h.1, h1]]
    exact this
  · have hi2 : i - az.length < bz.length := by simp only [List.length_append] at hi; omega
    have := k.2 (i - az.length) hi2
    rw [show (az ++ bz).getD i .un = bz.getD (i - az.length) .un by simp [List.getD_eq_getElem?_getD, List.getElem?_append, h1],
      show (cs ++ ds).getD i undef = ds.getD (i - az.length) undef by simp [List.getD_eq_getElem?_getD, List.getElem?_append, h.1, h1]]
    exact this
theorem CellsAre.agg {az : List A} {cs : List Value} (h : CellsAre φ w az cs) : VR φ (allZ w) w (.agg az) (.agg cs.toArray) := by
  have e : ∀ i, cs.toArray.getD i undef = cs.getD i undef := fun i => by simp [Array.getD_eq_getD_getElem?, List.getD_eq_getElem?_getD]
  refine .agg _ _ (by simp [h.1]) (fun i hi => ?_) fun i hi => ?_
  · rw [e]; exact (h.2 i hi).2
  · rw [e]; exact (h.2 i hi).1
def Reads (enc : TypeId × Value → H) (P : Program) (w : World) (base : Nat) (held : Bool) (φ : Names) (e sz : Nat) {α : Type} (c : α → List A) (Q : α → Prop) : Prop :=
  ∀ n cs y, DataW.trod enc P w base (fun _ => true) held n e cs = some y → (∀ k ∈ y.1.weights P e, k ≤ reachBytes) → ∃ a : α, Q a ∧ (c a).length = sz ∧ CellsAre φ w (c a) cs
theorem Reads.imp {e sz : Nat} {α β : Type} {c : α → List A} {d : β → List A} {Q : α → Prop} {R : β → Prop} (h : Reads enc P w base held φ e sz c Q) (k : ∀ a, Q a → ∃ b, R b ∧ d b = c a) : Reads enc P w base held φ e sz d R := fun n cs y hy hw => by
  obtain ⟨a, q, l, r⟩ := h n cs y hy hw
  obtain ⟨b, q2, e2⟩ := k a q
  exact ⟨b, q2, by rw [e2]; exact l, by rw [e2]; exact r⟩
theorem Reads.int {e : Nat} (he : P.underlying e = some (.int .i64)) : Reads enc P w base held φ e 1 (fun n : Int => [A.int n]) fun _ => True := fun n cs y h _ => by
  obtain ⟨z, rfl, _, _⟩ := DataW.trod_int he h
  exact ⟨z, trivial, rfl, .one (.s _) rfl⟩
theorem weightsAll_at {e : Nat} : ∀ {l : List (DataW H)} {d : DataW H}, d ∈ l → ∀ k ∈ d.weights P e, k ∈ DataW.weightsAll P e l
  | x :: l, d, hm, k, hk => by
    rw [DataW.weightsAll, List.mem_append]
    rcases List.mem_cons.1 hm with rfl | hm
    · exact .inl hk
    · exact .inr (weightsAll_at hm k hk)
theorem cells_spot {a : Addr} {n : Nat} {cs : List Value} (h : w.cells? base a n = some cs) (hn : 0 < n) : a.spot = none := by
  obtain ⟨hl, hc⟩ := cells_at h
  have h0 := hc 0 hn
  rw [List.getElem?_eq_getElem (by omega)] at h0
  have := World.cell?_spot h0
  rwa [show a.add 0 = a from by unfold Addr.add; simp] at this
theorem told_list {α : Type} {c : α → List A} {Q : α → Prop} {R : α → Nat → Prop} (n : Nat) (h : ∀ i, i < n → ∃ a, Q a ∧ R a i) : ∃ l : List α, l.length = n ∧ (∀ a ∈ l, Q a) ∧ ∀ i (hi : i < l.length), R l[i] i := by
  induction n with
  | zero => exact ⟨[], rfl, fun _ h => by simp at h, fun i hi => by simp at hi⟩
  | succ n ih =>
    obtain ⟨l, hl, hq, hr⟩ := ih fun i hi => h i (by omega)
    obtain ⟨a, qa, ra⟩ := h n (by omega)
    refine ⟨l ++ [a], by simp [hl], fun x hx => ?_, fun i hi => ?_⟩
    · rcases List.mem_append.1 hx with hx | hx
      · exact hq x hx
      · rw [List.mem_singleton.1 hx]; exact qa
    · by_cases h1 : i < l.length
      · rw [List.getElem_append_left h1]; exact hr i h1
      · have : i = l.length := by simp at hi; omega
        subst this
        rw [List.getElem_append_right (by omega)]
        simp only [Nat.sub_self, List.getElem_cons_zero]
        rw [hl]; exact ra
theorem Reads.slice {t e sz : Nat} {α : Type} {c : α → List A} {Q : α → Prop} (ht : P.underlying t = some (.slice e)) (hc : P.cellsOf e = sz) (h0 : 0 < sz) (h : Reads enc P w base held φ e sz c Q) :
    Reads enc P w base held φ t 1 (fun x : Bool × List α => [A.sl x.1 .any (x.2.map c)]) fun x => (∀ a ∈ x.2, Q a) ∧ x.2.length * P.bytesOf e ≤ reachBytes := by
  intro fuel cs y hy hw
  rcases DataW.trod_slice ht hy with ⟨rfl, _⟩ | ⟨ad, len, cap, elems, rest, n, _, rfl, hx, hbl, hl, hm, hlen, hel, hre, _⟩
  · exact ⟨(true, []), ⟨fun a ha => (nomatch ha), by simp⟩, rfl, .one (.nil _) rfl⟩
  · obtain ⟨hrl, hre⟩ := hre rfl
    have hwt : (elems.map (·.1)).length * P.bytesOf e ≤ reachBytes ∧ ∀ d ∈ elems.map (·.1), ∀ k ∈ d.weights P e, k ≤ reachBytes := by
      rw [hx] at hw
      simp only [DataW.weights, ht] at hw
      refine ⟨Nat.le_trans (Nat.mul_le_mul_right _ (Nat.le_add_right _ (rest.map (·.1)).length)) (hw _ (List.mem_cons_self ..)), fun d hd k hk => hw k (List.mem_cons_of_mem _ (List.mem_append.2 (.inl (weightsAll_at hd k hk))))⟩
    have hsp : cap = 0 ∨ ad.spot = none := by
      rcases Nat.eq_zero_or_pos cap with h | hpos
      · exact .inl h
      right
      rcases Nat.eq_zero_or_pos len with hz | hlp
      · subst hz
        have h1 := hre 0 (by omega)
        rw [hc] at h1
        obtain ⟨r, hr⟩ : ∃ r, rest[0]? = some r := ⟨rest[0]'(by omega), List.getElem?_eq_getElem _⟩
        rw [hr, Option.bind_eq_some_iff] at h1
        obtain ⟨cs, h2, _⟩ := h1
        rw [show ad.add ((0 + 0) * sz) = ad from by unfold Addr.add; simp] at h2
        exact cells_spot h2 h0
      · have h1 := hel 0 hlp
        rw [hc] at h1
        obtain ⟨r, hr⟩ : ∃ r, elems[0]? = some r := ⟨elems[0]'(by omega), List.getElem?_eq_getElem _⟩
        rw [hr, Option.bind_eq_some_iff] at h1
        obtain ⟨cs, h2, _⟩ := h1
        rw [show ad.add (0 * sz) = ad from by unfold Addr.add; simp] at h2
        exact cells_spot h2 h0
    rcases hsp with hz | hsp
    · subst hz
      have : len = 0 := by omega
      subst this
      exact ⟨(false, []), ⟨fun a ha => (nomatch ha), by simp⟩, rfl, .one (.slz _ ad) rfl⟩
    obtain ⟨b, off, sp⟩ := ad
    simp only at hsp
    subst hsp
    have each : ∀ i, i < len → ∃ a : α, Q a ∧ ((c a).length = sz ∧ ∃ cs, w.cells? base ((⟨b, off, none⟩ : Addr).add (i * sz)) sz = some cs ∧ CellsAre φ w (c a) cs) := fun i hi => by
      have h1 := hel i hi
      rw [hc] at h1
      rw [List.getElem?_eq_getElem (by omega), Option.bind_eq_some_iff] at h1
      obtain ⟨cs, h2, h3⟩ := h1
      obtain ⟨a, qa, la, ra⟩ := h n cs _ h3 (hwt.2 _ (List.mem_map.2 ⟨_, List.getElem_mem (by omega), rfl⟩))
      exact ⟨a, qa, la, cs, h2, ra⟩
    obtain ⟨l, hll, hq, hr⟩ := told_list (c := c) len each
    have hcell : ∀ i j, i < l.length → j < sz → ∃ v, w.cell? ⟨b, off + i * sz + j, none⟩ = some v ∧ VR φ (allZ w) w ((((l.map c).getD i []).getD j .un)) v ∧ v.oneCell' = true := fun i j hi hj => by
      obtain ⟨q1, cs, q2, q3⟩ := hr i hi
      have h1 := (cells_at q2).2 j hj
      rw [add_plain, add_plain] at h1
      have hcl : cs.length = sz := by rw [q3.1, q1]
      rw [List.getElem?_eq_getElem (by omega)] at h1
      have h2 := q3.2 j (by omega)
      have e1 : cs.getD j undef = cs[j]'(by omega) := by rw [List.getD_eq_getElem?_getD, List.getElem?_eq_getElem (by omega)]; rfl
      have e2 : (l.map c).getD i [] = c l[i] := by rw [List.getD_eq_getElem?_getD, List.getElem?_map, List.getElem?_eq_getElem hi]; rfl
      rw [e1] at h2
      exact ⟨_, h1, by rw [e2]; exact h2.1, h2.2⟩
    let val : Nat → Nat → Value := fun i j => (w.cell? ⟨b, off + i * sz + j, none⟩).getD undef
    have hval : ∀ i j, i < l.length → j < sz → w.cell? ⟨b, off + i * sz + j, none⟩ = some (val i j) ∧ VR φ (allZ w) w ((((l.map c).getD i []).getD j .un)) (val i j) ∧ (val i j).oneCell' = true := fun i j hi hj => by
      obtain ⟨v, h1, h2, h3⟩ := hcell i j hi hj
      have : val i j = v := by simp only [val, h1]; rfl
      rw [this]; exact ⟨h1, h2, h3⟩
    have hl2 : (l.map c).length = l.length := by simp
    refine ⟨(false, l), ⟨hq, ?_⟩, rfl, .one ?_ rfl⟩
    · have := hwt.1
      rw [List.length_map, hlen] at this
      rw [hll]; exact this
    · have key : VR φ (allZ w) w (.sl false .any (l.map c)) (.slice (some ⟨b, off, none⟩) (l.map c).length cap) := by
        refine .sl .any _ b off sz cap val (by rw [hl2, hll]; exact hl) (fun h => by cases h) hm (fun z hz => ?_) (fun i j hi hj => ?_) (fun i j hi hj => ?_) (fun i j hi hj => ?_) fun i j hi hj => ?_
        · obtain ⟨a, ha, rfl⟩ := List.mem_map.1 hz
          obtain ⟨i, hi, rfl⟩ := List.mem_iff_getElem.1 ha
          exact (hr i hi).1
        all_goals rw [hl2] at hi
        · exact ⟨_, (hval i j hi hj).1⟩
        · exact (hval i j hi hj).1
        · exact (hval i j hi hj).2.2
        · exact (hval i j hi hj).2.1
      rw [hl2, hll] at key; exact key
inductive Flds (enc : TypeId × Value → H) (P : Program) (w : World) (base : Nat) (held : Bool) (φ : Names) : Nat → List Field → {α : Type} → (α → List A) → (α → Prop) → Nat → Prop
  | nil (off : Nat) : Flds enc P w base held φ off [] (fun _ : Unit => []) (fun _ => True) 0
  | cons {off : Nat} {f : Field} {fs : List Field} {sz m : Nat} {α β : Type} {c : α → List A} {Q : α → Prop} {d : β → List A} {R : β → Prop} (ho : f.offset = off) (hc : P.cellsOf f.type = sz) (h : Reads enc P w base held φ f.type sz c Q)
      (k : Flds enc P w base held φ (off + sz) fs d R m) : Flds enc P w base held φ off (f :: fs) (fun x : α × β => c x.1 ++ d x.2) (fun x => Q x.1 ∧ R x.2) (sz + m)
theorem Flds.read {n : Nat} {cs : List Value} : ∀ {fs : List Field} {off m : Nat} {α : Type} {c : α → List A} {Q : α → Prop} {xs : List (DataW H × List MemPlace)}, Flds enc P w base held φ off fs c Q m → xs.length = fs.length →
    (∀ (i : Nat) (f : Field), fs[i]? = some f → DataW.trod enc P w base (fun _ => true) held n f.type ((cs.drop f.offset).take (P.cellsOf f.type)) = xs[i]?) → (∀ k ∈ DataW.weightsEach P (fs.map (·.type)) (xs.map (·.1)), k ≤ reachBytes) →
    cs.length = off + m → ∃ a, Q a ∧ (c a).length = m ∧ CellsAre φ w (c a) (cs.drop off)
  | _, _, _, _, _, _, [], .nil off, _, _, _, hl => ⟨(), trivial, rfl, by rw [List.drop_of_length_le (by omega)]; exact .nil⟩
  | f :: fs, off, _, _, _, _, x :: xs, .cons (sz := sz) (m := m) ho hc h k, hxl, hx, hw, hl => by
    have h0 := hx 0 f rfl
    rw [ho, hc] at h0
    obtain ⟨a, qa, la, ra⟩ := h n _ x h0 fun k hk => hw k (by
      simp only [List.map_cons, DataW.weightsEach, List.mem_append]; exact .inl hk)
    obtain ⟨b, qb, lb, rb⟩ := Flds.read k (by simpa using hxl) (fun i f' hf => hx (i + 1) f' hf) (fun k hk => hw k (by
      simp only [List.map_cons, DataW.weightsEach, List.mem_append]; exact .inr hk)) (by omega)
    refine ⟨(a, b), ⟨qa, qb⟩, by simp only [List.length_append, la, lb], ?_⟩
    have e : cs.drop off = (cs.drop off).take sz ++ cs.drop (off + sz) := by
      rw [← List.drop_drop, List.take_append_drop]
    rw [e]
    exact ra.app rb
theorem Reads.struct {e m m' : Nat} {fs : Array Field} {l : List Field} {α : Type} {c : α → List A} {Q : α → Prop} (he : P.underlying e = some (.struct fs)) (hc : P.cellsOf e = m) (h : Flds enc P w base held φ 0 l c Q m') (hl : fs.toList = l) (hm : m' = m) : Reads enc P w base held φ e m c Q := by
  subst hl; subst hm
  intro fuel cs y hy hw
  obtain ⟨xs, n, _, hx, hl, hlen, hf⟩ := DataW.trod_struct he hy
  rw [hx] at hw
  simp only [DataW.weights, he] at hw
  obtain ⟨a, q, l, r⟩ := h.read (n := n) (cs := cs) (xs := xs) (by simpa using hlen) (fun i f hf' => hf i f (by simpa using hf')) hw (by omega)
  exact ⟨a, q, l, by simpa using r⟩
theorem Reads.ints {t n e : Nat} (hu : P.underlying t = some (.array n e)) (hc : P.cellsOf t = n) (ue : P.underlying e = some (.int .i64)) (ce : P.cellsOf e = 1) :
    Reads enc P w base held φ t n (fun l : List Int => l.map A.int) fun l => l.length = n := by
  intro fuel cs y hy _
  obtain ⟨xs, m, _, _, hl0, hl, hx⟩ := DataW.trod_array hu hy
  rw [ce] at hx
  have hcl : cs.length = n := by omega
  have each : ∀ i, i < n → ∃ z : Int, True ∧ cs[i]? = some (.int .i64 z) := fun i hi => by
    have h1 := hx i hi
    rw [List.getElem?_eq_getElem (by omega)] at h1
    obtain ⟨z, hz, _⟩ := DataW.trod_int ue h1
    refine ⟨z, trivial, ?_⟩
    have h5 := congrArg (fun l => l[0]?) hz
    simpa using h5
  obtain ⟨l, hll, _, hr⟩ := told_list (c := fun _ : Int => []) n each
  refine ⟨l, hll, by simp [hll], by simp [hll, hcl], fun i hi => ?_⟩
  have hi : i < l.length := by simpa using hi
  have h1 := hr i hi
  have e1 : cs.getD i undef = .int .i64 l[i] := by rw [List.getD_eq_getElem?_getD, h1]; rfl
  have e2 : (l.map A.int).getD i .un = A.int l[i] := by simp [List.getD_eq_getElem?_getD, hi]
  rw [e1, e2]
  exact ⟨.s _, rfl⟩
end
end Go.AL

namespace Go.AL.Q
open Go
end Go.AL.Q

namespace Go.AL.Q
open Go
def LeP (a b : List Int) : Prop := a.length = b.length ∧ ∀ i, a.getD i 0 ≤ b.getD i 0
theorem LeP.refl (a : List Int) : LeP a a := ⟨rfl, fun _ => Int.le_refl _⟩
theorem LeP.set {a b : List Int} (h : LeP a b) {i : Nat} {x y : Int} (hi : i < b.length) (hx : x ≤ y) : LeP (a.set i x) (b.set i y) :=
  ⟨by simp [h.1], fun j => by
    have hl := h.1
    rw [getD_set' _ _ _ _ (by omega), getD_set' _ _ _ _ hi]
    split
    · exact hx
    · exact h.2 j⟩
structure PlayIn (r : Rce) (takes recs : List Int) : Prop where
  ok : r.ok = true
  l1 : 1 ≤ takes.length
  l10 : takes.length ≤ 10
  len : recs.length = takes.length
  t : ∀ i, i < takes.length → 0 ≤ takes.getD i 0 ∧ takes.getD i 0 ≤ 100000000
  x : ∀ i, i < takes.length → 0 ≤ recs.getD i 0 ∧ recs.getD i 0 ≤ 100000
theorem PlayIn.of {r : Rce} {takes recs : List Int} (h : playOk r takes recs = true) : PlayIn r takes recs := by
  unfold playOk at h
  have h1 := ac1 h
  have h2 := fun i hi => List.all_eq_true.1 (ac2 h) i (List.mem_range.2 hi)
  unfold playHead at h1
  have a1 := wi_iff.1 (ac2 (ac1 h1))
  have a2 := eq_of_beq (ac2 h1)
  exact ⟨ac1 (ac1 h1), by omega, by omega, by omega, fun i hi => wi_iff.1 (ac1 (h2 i hi)), fun i hi => wi_iff.1 (ac2 (h2 i hi))⟩
theorem LeP.up {l : List Int} {i : Nat} {v : Int} (hi : i < l.length) (h : l.getD i 0 ≤ v) : LeP l (l.set i v) := ⟨by simp, fun j => by
  rw [getD_set' _ _ _ _ hi]
  split
  · rename_i e; subst e; exact h
  · exact Int.le_refl _⟩
theorem LeP.dn {l : List Int} {i : Nat} {v : Int} (hi : i < l.length) (h : v ≤ l.getD i 0) : LeP (l.set i v) l := ⟨by simp, fun j => by
  rw [getD_set' _ _ _ _ hi]
  split
  · rename_i e; subst e; exact h
  · exact Int.le_refl _⟩
end Go.AL.Q

set_option maxRecDepth 100000
namespace Go.Proofs.Ytdiclbgklegelaa
open Go Go.AL Go.AL.Q Go.ChangeShapes Go.WideShapes Go.ChangeAt Go.RowKit
section
variable {H : Type} {enc : TypeId × Value → H} {w : World} {base : Nat} {spare : Nat → Bool} {held : Bool} {φ : Names}
end
end Go.Proofs.Ytdiclbgklegelaa

set_option maxRecDepth 100000
namespace Go.Proofs.Ytdiclbgklegelaa
open Go Go.AL Go.AL.Q Go.ChangeShapes Go.WideShapes Go.ChangeAt Go.RowKit
section
variable {H : Type} {enc : TypeId × Value → H} {w : World} {base : Nat} {held : Bool} {φ : Names}
theorem r3 : Reads enc Try.prog w base held φ 3 1 (fun n : Int => [A.int n]) fun _ => True := .int u3
variable {v : Value} {d : DataW H} {p : List MemPlace} {r : Reach} {b0 : Nat}
end
end Go.Proofs.Ytdiclbgklegelaa

namespace Go.Proofs.Ytdiclbgklegelaa
open Go Go.AL Go.AL.Q
end Go.Proofs.Ytdiclbgklegelaa

namespace Go.Proofs.Ytdiclbgklegelaa
open Go Go.AL Go.AL.Q
noncomputable def autH (H : Hp) (c : Nat) (ns : List Int) (row : List A) : Hp := updH (updH (updH H c (some (.cells ((tab.zr 39).map A.down)))) (c + 1) (some (.cells (ns.map A.int)))) c (some (.cells row))
def autN (c : Nat) : List A := [.ms (c + 1) 0 3, .sl false .exact (ints [800, 700, 500]), .sl false .exact (ints [0, 1, 2]), .int 60, .int 1]
def autS (c : Nat) : List A := [.sl false .exact (ints [100, 50, 20]), .sl false .exact (ints [800, 700, 500]), .ms (c + 1) 0 3, .int 60, .int 1]
def autK (c : Nat) : List A := [.sl false .exact (ints [100, 50, 20]), .ms (c + 1) 0 3, .sl false .exact (ints [0, 1, 2]), .int 60, .int 1]
theorem autN_0 (H : Hp) : SCall Try.prog 53 [] H 0 fun v H1 c1 => v = .agg (autN 0) ∧ c1 = 2 ∧ H1 = autH H 0 [100, 50, 20] (autN 0) := by
  refine SCall.of_bodyN tab_ok Try.func53 rfl Try.ntmps53 (Nat.le_of_ble_eq_true rfl) allN fun E hE => ?_
  refine Aw.sm tab_ok mb0 [] rfl rfl ?zo ?zk
  case zo =>
    repeat' apply AllP.cons
    all_goals first | exact trivial | exact id | exact rfl | exact fun _ => rfl | exact Nat.le_of_ble_eq_true rfl | exact fun _ => Nat.le_of_ble_eq_true rfl | exact Int.natCast_nonneg _ | exact fun _ => Int.natCast_nonneg _
  case zk =>
  refine Aw.sm tab_ok mb0 [(0, [.ms 0 0 0])] rfl rfl ?zo ?zk
  case zo =>
    repeat' apply AllP.cons
    all_goals first | exact trivial | exact id | exact rfl | exact fun _ => rfl | exact Nat.le_of_ble_eq_true rfl | exact fun _ => Nat.le_of_ble_eq_true rfl | exact Int.natCast_nonneg _ | exact fun _ => Int.natCast_nonneg _
  case zk =>
  exact Aw.ret ⟨_, .cons (resC rfl rfl rfl rfl rfl) .nil, rfl, rfl, rfl⟩
theorem autS_2 (H : Hp) : SCall Try.prog 53 [] H 2 fun v H1 c1 => v = .agg (autS 2) ∧ c1 = 4 ∧ H1 = autH H 2 [0, 1, 2] (autS 2) := by
  refine SCall.of_bodyN tab_ok Try.func53 rfl Try.ntmps53 (Nat.le_of_ble_eq_true rfl) allN fun E hE => ?_
  refine Aw.sm tab_ok mb0 [] rfl rfl ?zo ?zk
  case zo =>
    repeat' apply AllP.cons
    all_goals first | exact trivial | exact id | exact rfl | exact fun _ => rfl | exact Nat.le_of_ble_eq_true rfl | exact fun _ => Nat.le_of_ble_eq_true rfl | exact Int.natCast_nonneg _ | exact fun _ => Int.natCast_nonneg _
  case zk =>
  refine Aw.sm tab_ok mb0 [(2, [.ms 0 0 0])] rfl rfl ?zo ?zk
  case zo =>
    repeat' apply AllP.cons
    all_goals first | exact trivial | exact id | exact rfl | exact fun _ => rfl | exact Nat.le_of_ble_eq_true rfl | exact fun _ => Nat.le_of_ble_eq_true rfl | exact Int.natCast_nonneg _ | exact fun _ => Int.natCast_nonneg _
  case zk =>
  exact Aw.ret ⟨_, .cons (resC rfl rfl rfl rfl rfl) .nil, rfl, rfl, rfl⟩
theorem autK_4 (H : Hp) : SCall Try.prog 53 [] H 4 fun v H1 c1 => v = .agg (autK 4) ∧ c1 = 6 ∧ H1 = autH H 4 [800, 700, 500] (autK 4) := by
  refine SCall.of_bodyN tab_ok Try.func53 rfl Try.ntmps53 (Nat.le_of_ble_eq_true rfl) allN fun E hE => ?_
  refine Aw.sm tab_ok mb0 [] rfl rfl ?zo ?zk
  case zo =>
    repeat' apply AllP.cons
    all_goals first | exact trivial | exact id | exact rfl | exact fun _ => rfl | exact Nat.le_of_ble_eq_true rfl | exact fun _ => Nat.le_of_ble_eq_true rfl | exact Int.natCast_nonneg _ | exact fun _ => Int.natCast_nonneg _
  case zk =>
  refine Aw.sm tab_ok mb0 [(1, [.ms 0 0 0])] rfl rfl ?zo ?zk
  case zo =>
    repeat' apply AllP.cons
    all_goals first | exact trivial | exact id | exact rfl | exact fun _ => rfl | exact Nat.le_of_ble_eq_true rfl | exact fun _ => Nat.le_of_ble_eq_true rfl | exact Int.natCast_nonneg _ | exact fun _ => Int.natCast_nonneg _
  case zk =>
  exact Aw.ret ⟨_, .cons (resC rfl rfl rfl rfl rfl) .nil, rfl, rfl, rfl⟩
def rowsA : A := .sl false .exact ([autumnR, springR].map rceC)
def mostA : A := .sl false .exact (ints [40, 80])
def seasA : A := .sl false .exact ([seas1, seas2].map nrC)
def s1A : A := .sl false .exact (seas1.l.map nlC)
def s2A : A := .sl false .exact (seas2.l.map nlC)
noncomputable def fishH (H : Hp) (c : Nat) (cs row : List A) : Hp := updH (updH (updH H c (some (.cells ((tab.zr 47).map A.down)))) (c + 1) (some (.cells cs))) c (some (.cells row))
theorem fishR_0 (H : Hp) : SCall Try.prog 54 [] H 0 fun v H1 c1 => v = .agg [.ms 1 0 2, mostA, seasA] ∧ c1 = 2 ∧ H1 = fishH H 0 (rceC autumnR ++ rceC springR) [.ms 1 0 2, mostA, seasA] := by
  refine SCall.of_bodyN tab_ok Try.func54 rfl Try.ntmps54 (Nat.le_of_ble_eq_true rfl) allN fun E hE => ?_
  refine Aw.sm tab_ok mb0 [] rfl rfl ?zo ?zk
  case zo =>
    repeat' apply AllP.cons
    all_goals first | exact trivial | exact id | exact rfl | exact fun _ => rfl | exact Nat.le_of_ble_eq_true rfl | exact fun _ => Nat.le_of_ble_eq_true rfl | exact Int.natCast_nonneg _ | exact fun _ => Int.natCast_nonneg _
  case zk =>
  refine Aw.sm tab_ok mb0 [(0, [.agg (rceC autumnR)]), (1, [.agg (rceC springR)]), (2, [.ms 0 0 0])] rfl rfl ?zo ?zk
  case zo =>
    repeat' apply AllP.cons
    all_goals first | exact trivial | exact id | exact rfl | exact fun _ => rfl | exact Nat.le_of_ble_eq_true rfl | exact fun _ => Nat.le_of_ble_eq_true rfl | exact Int.natCast_nonneg _ | exact fun _ => Int.natCast_nonneg _ | exact autumn_t | exact spring_t
  case zk =>
  exact Aw.ret ⟨_, .cons (resC rfl rfl rfl rfl rfl) .nil, rfl, rfl, rfl⟩
theorem fishM_0 (H : Hp) : SCall Try.prog 54 [] H 0 fun v H1 c1 => v = .agg [rowsA, .ms 1 0 2, seasA] ∧ c1 = 2 ∧ H1 = fishH H 0 [.int 40, .int 80] [rowsA, .ms 1 0 2, seasA] := by
  refine SCall.of_bodyN tab_ok Try.func54 rfl Try.ntmps54 (Nat.le_of_ble_eq_true rfl) allN fun E hE => ?_
  refine Aw.sm tab_ok mb0 [] rfl rfl ?zo ?zk
  case zo =>
    repeat' apply AllP.cons
    all_goals first | exact trivial | exact id | exact rfl | exact fun _ => rfl | exact Nat.le_of_ble_eq_true rfl | exact fun _ => Nat.le_of_ble_eq_true rfl | exact Int.natCast_nonneg _ | exact fun _ => Int.natCast_nonneg _
  case zk =>
  refine Aw.sm tab_ok mb0 [(0, [.agg (rceC autumnR)]), (1, [.agg (rceC springR)]), (3, [.ms 0 0 0])] rfl rfl ?zo ?zk
  case zo =>
    repeat' apply AllP.cons
    all_goals first | exact trivial | exact id | exact rfl | exact fun _ => rfl | exact Nat.le_of_ble_eq_true rfl | exact fun _ => Nat.le_of_ble_eq_true rfl | exact Int.natCast_nonneg _ | exact fun _ => Int.natCast_nonneg _ | exact autumn_t | exact spring_t
  case zk =>
  exact Aw.ret ⟨_, .cons (resC rfl rfl rfl rfl rfl) .nil, rfl, rfl, rfl⟩
theorem fishS_2 (H : Hp) : SCall Try.prog 54 [] H 2 fun v H1 c1 => v = .agg [rowsA, mostA, .ms 3 0 2] ∧ c1 = 4 ∧ H1 = fishH H 2 [s1A, s2A] [rowsA, mostA, .ms 3 0 2] := by
  refine SCall.of_bodyN tab_ok Try.func54 rfl Try.ntmps54 (Nat.le_of_ble_eq_true rfl) allN fun E hE => ?_
  refine Aw.sm tab_ok mb0 [] rfl rfl ?zo ?zk
  case zo =>
    repeat' apply AllP.cons
    all_goals first | exact trivial | exact id | exact rfl | exact fun _ => rfl | exact Nat.le_of_ble_eq_true rfl | exact fun _ => Nat.le_of_ble_eq_true rfl | exact Int.natCast_nonneg _ | exact fun _ => Int.natCast_nonneg _
  case zk =>
  refine Aw.sm tab_ok mb0 [(0, [.agg (rceC autumnR)]), (1, [.agg (rceC springR)]), (10, [.ms 0 0 0])] rfl rfl ?zo ?zk
  case zo =>
    repeat' apply AllP.cons
    all_goals first | exact trivial | exact id | exact rfl | exact fun _ => rfl | exact Nat.le_of_ble_eq_true rfl | exact fun _ => Nat.le_of_ble_eq_true rfl | exact Int.natCast_nonneg _ | exact fun _ => Int.natCast_nonneg _ | exact autumn_t | exact spring_t
  case zk =>
  exact Aw.ret ⟨_, .cons (resC rfl rfl rfl rfl rfl) .nil, rfl, rfl, rfl⟩
theorem fishI_4 (H : Hp) : SCall Try.prog 54 [] H 4 fun v H1 c1 => v = .agg [rowsA, mostA, .ms 6 0 2] ∧ c1 = 7 ∧ H1 = updH (updH (updH (updH H 4 (some (.cells ((tab.zr 47).map A.down)))) 5 (some (.cells [.sl false .exact (ints [0, 0]), .sl false .exact (ints [0, 0])]))) 6 (some (.cells [s1A, .ms 5 0 2]))) 4 (some (.cells [rowsA, mostA, .ms 6 0 2])) := by
  refine SCall.of_bodyN tab_ok Try.func54 rfl Try.ntmps54 (Nat.le_of_ble_eq_true rfl) allN fun E hE => ?_
  refine Aw.sm tab_ok mb0 [] rfl rfl ?zo ?zk
  case zo =>
    repeat' apply AllP.cons
    all_goals first | exact trivial | exact id | exact rfl | exact fun _ => rfl | exact Nat.le_of_ble_eq_true rfl | exact fun _ => Nat.le_of_ble_eq_true rfl | exact Int.natCast_nonneg _ | exact fun _ => Int.natCast_nonneg _
  case zk =>
  refine Aw.sm tab_ok mb0 [(0, [.agg (rceC autumnR)]), (1, [.agg (rceC springR)]), (9, [.ms 0 0 0]), (10, [.ms 0 0 0])] rfl rfl ?zo ?zk
  case zo =>
    repeat' apply AllP.cons
    all_goals first | exact trivial | exact id | exact rfl | exact fun _ => rfl | exact Nat.le_of_ble_eq_true rfl | exact fun _ => Nat.le_of_ble_eq_true rfl | exact Int.natCast_nonneg _ | exact fun _ => Int.natCast_nonneg _ | exact autumn_t | exact spring_t
  case zk =>
  exact Aw.ret ⟨_, .cons (resC rfl rfl rfl rfl rfl) .nil, rfl, rfl, rfl⟩
def sea1 : NR := ⟨false, [⟨false, [90, 80]⟩]⟩
def sea2 : NR := ⟨false, [⟨false, [0, 0]⟩]⟩
def aloneL (m : Int) : Q.Fish := ⟨false, [autumnR], false, [m], false, [sea1, sea2]⟩
theorem alone_t (m : Int) : Ans Try.prog 60 [.int m] (.agg (fishC (aloneL m))) := by
  have hfr : Free (.agg (fishC (aloneL m))) := .agg _ (fishC_free _)
  refine told Try.func60 rfl rfl (Pure.of tab_ok Try.func60 rfl Try.ntmps60 rfl (all1 (.s _)) (all1 (fun _ => rfl)) (by first | exact .s _ | assumption | exact .tup _ (by intro x hx; simp only [List.mem_cons, List.not_mem_nil, or_false] at hx; rcases hx with rfl | rfl | rfl | rfl <;> first | exact .s _ | (simp_all; done))) fun E hE => ?_)
  refine Aw.sm tab_ok mb0 [] rfl rfl ?zo ?zk
  case zo =>
    repeat' apply AllP.cons
    all_goals first | exact trivial | exact id | exact rfl | exact fun _ => rfl | exact Nat.le_of_ble_eq_true rfl | exact fun _ => Nat.le_of_ble_eq_true rfl | exact Int.natCast_nonneg _ | exact fun _ => Int.natCast_nonneg _
  case zk =>
  refine Aw.sm tab_ok mb0 [(0, [.agg (rceC autumnR)])] rfl rfl ?zo ?zk
  case zo =>
    repeat' apply AllP.cons
    all_goals first | exact trivial | exact id | exact rfl | exact fun _ => rfl | exact Nat.le_of_ble_eq_true rfl | exact fun _ => Nat.le_of_ble_eq_true rfl | exact Int.natCast_nonneg _ | exact fun _ => Int.natCast_nonneg _ | exact autumn_t
  case zk =>
  exact Aw.ret ⟨_, .cons (resC rfl rfl (by decide) rfl rfl) .nil, rfl⟩
def aseasA : A := .sl false .exact ([sea1, sea2].map nrC)
theorem aloneR_0 (H : Hp) : SCall Try.prog 60 [.int 100] H 0 fun v H1 c1 => v = .agg [.ms 1 0 1, .sl false .exact (ints [100]), aseasA] ∧ c1 = 2 ∧ H1 = fishH H 0 (rceC autumnR) [.ms 1 0 1, .sl false .exact (ints [100]), aseasA] := by
  refine SCall.of_bodyN tab_ok Try.func60 rfl Try.ntmps60 (Nat.le_of_ble_eq_true rfl) (all1 fun _ => rfl) fun E hE => ?_
  refine Aw.sm tab_ok mb0 [] rfl rfl ?zo ?zk
  case zo =>
    repeat' apply AllP.cons
    all_goals first | exact trivial | exact id | exact rfl | exact fun _ => rfl | exact Nat.le_of_ble_eq_true rfl | exact fun _ => Nat.le_of_ble_eq_true rfl | exact Int.natCast_nonneg _ | exact fun _ => Int.natCast_nonneg _
  case zk =>
  refine Aw.sm tab_ok mb0 [(0, [.agg (rceC autumnR)]), (1, [.ms 0 0 0])] rfl rfl ?zo ?zk
  case zo =>
    repeat' apply AllP.cons
    all_goals first | exact trivial | exact id | exact rfl | exact fun _ => rfl | exact Nat.le_of_ble_eq_true rfl | exact fun _ => Nat.le_of_ble_eq_true rfl | exact Int.natCast_nonneg _ | exact fun _ => Int.natCast_nonneg _ | exact autumn_t
  case zk =>
  exact Aw.ret ⟨_, .cons (resC rfl rfl rfl rfl rfl) .nil, rfl, rfl, rfl⟩
theorem alone_le (m : Int) : A.Le (.agg (aloneL m).c) (.agg (fishC (aloneL m))) :=
  .agg (.cons (.rows (.cons (rceC_le _ rfl rfl rfl) .nil)) (.cons (.any _ _ _) (.cons (.rows (.cons (.cons (.rows (.cons (.cons (.any _ _ _) .nil) .nil)) .nil) (.cons (.cons (.rows (.cons (.cons (.any _ _ _) .nil) .nil)) .nil) .nil))) .nil)))
def wrongL : List Rce := [⟨true, [], true, [], true, [], 0, 0⟩, ⟨false, [100, 50, 20], false, [800, 700], false, [0, 1, 2], 60, 1⟩, ⟨false, [100001, 50, 20], false, [800, 700, 500], false, [0, 1, 2], 60, 1⟩, ⟨false, [100, 50, 20], false, [800, 700, 500], false, [0, -1, 2], 60, 1⟩,
  ⟨false, [100, 50, 20], false, [800, 700, 500], false, [0, 1, 2], 60, 3⟩, ⟨false, [100, 50, 20], false, [800, 700, 500], false, [0, 1, 2], 100000001, 1⟩, ⟨false, [100, 50, 20], false, [800, 700, 1001], false, [0, 1, 2], 60, 1⟩]
theorem wrong_all : ∀ r ∈ wrongL, r.ok = false ∧ r.numbers.length ≤ 3 ∧ r.keep.length ≤ 3 ∧ r.spawn.length ≤ 3 := by decide +kernel
theorem wrong_fit {r : Rce} (h : r ∈ wrongL) : r.Fit := by
  obtain ⟨_, a, b, c⟩ := wrong_all r h
  exact ⟨by omega, by omega, by omega⟩
def wfish (r : Rce) : Q.Fish := ⟨false, [r, springR], false, [40, 80], false, [seas1, seas2]⟩
theorem fish_bad {f : Q.Fish} (h : f.race 0 = (f.race 0)) (h1 : 1 ≤ f.many) (h0 : (f.race 0).ok = false) : f.ok = false := by
  cases e : f.ok with
  | false => rfl
  | true =>
    unfold Fish.ok at e
    have := List.all_eq_true.1 (ac2 (ac1 (ac1 e))) 0 (List.mem_range.2 h1)
    have h2 := ac1 this
    have h3 : (f.race 0).ok = true := h2
    rw [h0] at h3; cases h3
theorem wfish_bad {r : Rce} (h : r ∈ wrongL) : (wfish r).ok = false := fish_bad rfl (by decide : 1 ≤ 2) (wrong_all r h).1
theorem seas_fit : ∀ s ∈ [seas1, seas2], (s.l.length : Int) ≤ 9223372036854775806 ∧ ∀ l ∈ s.l, nlFit l := fishFit.sea
theorem wfish_fit {r : Rce} (h : r ∈ wrongL) : (wfish r).Fit := by
  refine ⟨by show ((2 : Nat) : Int) ≤ _; decide, by show ((2 : Nat) : Int) ≤ _; decide, by show ((2 : Nat) : Int) ≤ _; decide, fun x hx => ?_, seas_fit⟩
  rcases List.mem_cons.1 hx with rfl | hx
  · exact wrong_fit h
  · rw [List.mem_singleton.1 hx]; exact fishFit.race _ (by simp [fishL])
def wfC (r : Rce) : List A := [.sl false .any [r.c, rceC springR], mostA, seasA]
theorem wf_le (r : Rce) : A.Le (.agg (wfish r).c) (.agg (wfC r)) :=
  .agg (.cons (.rows (.cons (LeL.refl _) (.cons (rceC_le _ rfl rfl rfl) .nil))) (.cons (.any _ _ _) (.cons (.rows (.cons (.cons (.rows (.cons (.cons (.any _ _ _) .nil) (.cons (.cons (.any _ _ _) .nil) .nil))) .nil) (.cons (.cons (.rows (.cons (.cons (.any _ _ _) .nil) (.cons (.cons (.any _ _ _) .nil) .nil))) .nil) .nil))) .nil)))
theorem wrong_calls (i : Nat) (h : i < 7) : ∃ r : Rce, (wrongL.map Rce.c)[i]? = some r.c ∧
    Ans Try.prog 24 [.agg r.c, .sl false .exact (ints [0]), .sl false .exact (ints [0])] (.tup [.sl true .exact [], .int 92]) ∧
    Ans Try.prog 27 [.agg (wfC r)] (.tup [.int 0, .int 93]) ∧ Ans Try.prog 31 [.agg (wfC r), .int (-1)] (.tup [.int 0, .int 0, .int 0, .int 93]) ∧ Ans Try.prog 29 [.agg (wfC r)] (.int 93) := by
  have hl : i < wrongL.length := h
  have hm : wrongL[i] ∈ wrongL := List.getElem_mem hl
  refine ⟨wrongL[i], get_map hl, ?_⟩
  generalize wrongL[i] = r at *
  have h1 := wfish_bad hm
  have h2 := wfish_fit hm
  have h3 := (wrong_all r hm).1
  refine ⟨?_, ?_, ?_, ?_⟩
  · have := play_t r (wrong_fit hm) false false [0] [0] (by decide) (by decide)
    unfold playR at this
    rw [if_neg (by unfold playOk playHead; rw [h3]; decide)] at this
    exact le3 this (.refl _) (.any _ _ _) (.any _ _ _)
  · have := quota_t (wfish r) h2
    unfold Fish.quotaR at this
    rw [if_neg (by rw [h1]; decide)] at this
    exact this.le1 (wf_le r)
  · have := First_t (wfish r) h2 (-1)
    unfold Fish.firstR at this
    rw [if_neg (by rw [h1]; decide)] at this
    exact le2 this (wf_le r) (.refl _)
  · have := check_t (wfish r) h2
    unfold Fish.err at this
    rw [if_neg (by rw [h1]; decide)] at this
    exact this.le1 (wf_le r)
def badL : List Q.Fish := [⟨true, [], true, [], true, []⟩, ⟨false, [autumnR, springR], false, [40], false, [seas1, seas2]⟩, ⟨false, [autumnR, springR], false, [40, 101], false, [seas1, seas2]⟩, ⟨false, [autumnR, springR], false, [40, 80], true, []⟩,
  ⟨false, [autumnR, springR], false, [40, 80], false, [seas1, ⟨false, [⟨false, [0, 0]⟩]⟩]⟩, ⟨false, [autumnR, springR], false, [40, 80], false, [seas1, ⟨false, [⟨false, [0, 0]⟩, ⟨false, [0]⟩]⟩]⟩]
theorem bad_all : ∀ f ∈ badL, f.ok = false := by decide +kernel
def fitB (f : Q.Fish) : Bool := decide (f.races.length ≤ 9) && decide (f.most.length ≤ 9) && decide (f.seasons.length ≤ 9) && f.races.all (fun r => decide (r.numbers.length ≤ 9) && decide (r.keep.length ≤ 9) && decide (r.spawn.length ≤ 9)) && f.seasons.all (fun s => decide (s.l.length ≤ 9) && s.l.all fun l => decide (l.l.length ≤ 9))
theorem fit_of {f : Q.Fish} (h : fitB f = true) : f.Fit := by
  unfold fitB at h
  simp only [Bool.and_eq_true, decide_eq_true_eq, List.all_eq_true] at h
  obtain ⟨⟨⟨⟨a, b⟩, c⟩, d⟩, e⟩ := h
  exact ⟨by omega, by omega, by omega, fun r hr => ⟨by have := d r hr; omega, by have := d r hr; omega, by have := d r hr; omega⟩, fun s hs => ⟨by have := (e s hs).1; omega, fun l hl => by have := (e s hs).2 l hl; show (l.l.length : Int) ≤ _; omega⟩⟩
theorem bad_fit : ∀ f ∈ badL, fitB f = true := by decide +kernel
theorem bad_calls (i : Nat) (h : i < 6) : ∃ f : Q.Fish, (badL.map Fish.c)[i]? = some f.c ∧ Ans Try.prog 27 [.agg f.c] (.tup [.int 0, .int 93]) ∧ Ans Try.prog 29 [.agg f.c] (.int 93) := by
  have hl : i < badL.length := h
  have hm : badL[i] ∈ badL := List.getElem_mem hl
  refine ⟨badL[i], get_map hl, ?_⟩
  generalize badL[i] = f at *
  have h1 := bad_all f hm
  have h2 := fit_of (bad_fit f hm)
  refine ⟨?_, ?_⟩
  · have := quota_t f h2
    unfold Fish.quotaR at this
    rw [if_neg (by rw [h1]; decide)] at this
    exact this
  · have := check_t f h2
    unfold Fish.err at this
    rw [if_neg (by rw [h1]; decide)] at this
    exact this
end Go.Proofs.Ytdiclbgklegelaa

namespace Go.Proofs.Ytdiclbgklegelaa
open Go Go.AL Go.AL.Q
theorem rows_ints (l : List Int) : RowsAre (l.map A.int) (ints l) 1 := by
  have e : (ints l).flatten = l.map A.int := by
    induction l with
    | nil => rfl
    | cons x l ih => rw [show ints (x :: l) = [.int x] :: ints l from rfl, List.flatten_cons, ih]; rfl
  have := rows_all (c := fun n : Int => [A.int n]) (sz := 1) (fun _ => rfl) (fun _ => rfl) l
  rwa [show (l.map fun n : Int => [A.int n]) = ints l from rfl, e] at this
end Go.Proofs.Ytdiclbgklegelaa

namespace Go.Proofs.Ytdiclbgklegelaa
open Go Go.AL Go.AL.Q
theorem aged_k (l : List Scale) (f t : Int) (s : Sp) (e : Int) (hs : agedS l f t = s) (he : agedE l f t = e) (hl : (l.length : Int) ≤ 9223372036854775806) : Ans Try.prog 18 [.sl false .exact (l.map Scale.c), .int f, .int t] (.tup [.agg s.c, .int e]) := by
  have h : agedR l f t = [.agg s.c, .int e] := by unfold agedR; rw [hs, he]
  exact le3 (h ▸ aged_t false l f t hl) (.any _ _ _) (.refl _) (.refl _)
theorem k1 : Ans Try.prog 18 [.sl false .exact (([⟨-1, 0, 0⟩] : List Scale).map Scale.c), .int (-1), .int 0] (.tup [.agg (Sp.c ⟨0, 0⟩), .int 90]) := aged_k _ _ _ ⟨0, 0⟩ 90 (by decide +kernel) (by decide +kernel) (by decide)
theorem k2 : Ans Try.prog 18 [.sl false .exact (([⟨0, 3, 2⟩] : List Scale).map Scale.c), .int (-1), .int 0] (.tup [.agg (Sp.c ⟨0, 0⟩), .int 90]) := aged_k _ _ _ ⟨0, 0⟩ 90 (by decide +kernel) (by decide +kernel) (by decide)
theorem k3 : Ans Try.prog 18 [.sl false .exact (scalesL.map Scale.c), .int 5, .int 4] (.tup [.agg (Sp.c ⟨0, 0⟩), .int 7]) := aged_k _ _ _ ⟨0, 0⟩ 7 (by decide +kernel) (by decide +kernel) (by decide)
theorem k4 : Ans Try.prog 18 [.sl false .exact (scalesL.map Scale.c), .int 0, .int 21] (.tup [.agg (Sp.c ⟨0, 0⟩), .int 7]) := aged_k _ _ _ ⟨0, 0⟩ 7 (by decide +kernel) (by decide +kernel) (by decide)
theorem k5 : Ans Try.prog 18 [.sl false .exact (scalesL.map Scale.c), .int 3, .int 4] (.tup [.agg (Sp.c ⟨20, 30⟩), .int 0]) := aged_k _ _ _ ⟨20, 30⟩ 0 (by decide +kernel) (by decide +kernel) (by decide)
theorem racesFit : ∀ x ∈ racesL, x.Fit := by
    intro x hx
    simp only [racesL, List.mem_cons, List.not_mem_nil, or_false] at hx
    rcases hx with rfl | rfl <;> (show ((_ : Nat) : Int) ≤ _; decide)
theorem sh_bad (p : Bool) {l : List NS} {s : List Sp} (h : sharesOk l s = false) (hl : (l.length : Int) ≤ 9223372036854775806) (hs : (s.length : Int) ≤ 9223372036854775806) (hf : ∀ x ∈ l, x.Fit) (q : Bool) : Ans Try.prog 21 [.sl p .any (l.map NS.c), .sl q .any (s.map Sp.c)] (.tup [.sl true .exact [], .int 91]) := by
  have := Shares_t p q l s hl hs hf
  unfold shareR at this
  rw [if_neg (by rw [h]; decide)] at this
  exact this
theorem k6 : Ans Try.prog 21 [.sl true .exact [], .sl false .exact (seenL.map Sp.c)] (.tup [.sl true .exact [], .int 91]) := le2 (sh_bad true (l := []) (s := seenL) (by decide +kernel) (by decide) (by decide) (fun _ h => nomatch h) false) (.any _ _ _) (.any _ _ _)
theorem k7 : Ans Try.prog 21 [.sl false .exact racesC, .sl false .any (([⟨45, 50⟩] : List Sp).map Sp.c)] (.tup [.sl true .exact [], .int 91]) := le2 (sh_bad false (l := racesL) (s := [⟨45, 50⟩]) (by decide +kernel) (by decide) (by decide) racesFit false) races_le (.refl _)
theorem k8 : Ans Try.prog 21 [.sl false .exact racesC, .sl true .exact []] (.tup [.sl true .exact [], .int 91]) := le2 (sh_bad false (l := racesL) (s := []) (by decide +kernel) (by decide) (by decide) racesFit true) races_le (.any _ _ _)
theorem k9 : Ans Try.prog 21 [.sl false .exact racesC, .sl false .exact (([⟨10, 15⟩, ⟨85, 90⟩] : List Sp).map Sp.c)] (.tup [.sl true .exact [], .int 4]) := by
  have h1 : sharesOk racesL [⟨10, 15⟩, ⟨85, 90⟩] = true := by decide +kernel
  have h2 : shareF racesL [⟨10, 15⟩, ⟨85, 90⟩] = [] := by decide +kernel
  have := Shares_t false false racesL [⟨10, 15⟩, ⟨85, 90⟩] (by decide) (by decide) racesFit
  unfold shareR at this
  rw [if_pos h1, if_pos h2] at this
  exact le2 this races_le (.any _ _ _)
theorem autFit : autumnR.Fit := ⟨by decide, by decide, by decide⟩
theorem pl_bad (p q : Bool) {t x : List Int} (h : playOk autumnR t x = false) (ht : (t.length : Int) ≤ 9223372036854775806) (hx : (x.length : Int) ≤ 9223372036854775806) : Ans Try.prog 24 [.agg autumnR.c, .sl p .any (ints t), .sl q .any (ints x)] (.tup [.sl true .exact [], .int 92]) := by
  have := play_t autumnR autFit p q t x ht hx
  unfold playR at this
  rw [if_neg (by rw [h]; decide)] at this
  exact this
theorem k10 : Ans Try.prog 24 [.agg (rceC autumnR), .sl true .exact [], .sl true .exact []] (.tup [.sl true .exact [], .int 92]) := le3 (pl_bad true true (t := []) (x := []) (by decide +kernel) (by decide) (by decide)) (.agg (rceC_le _ rfl rfl rfl)) (.any _ _ _) (.any _ _ _)
theorem k11 : Ans Try.prog 24 [.agg (rceC autumnR), .sl false .exact (ints [0]), .sl false .exact (ints [0, 0])] (.tup [.sl true .exact [], .int 92]) := le3 (pl_bad false false (t := [0]) (x := [0, 0]) (by decide +kernel) (by decide) (by decide)) (.agg (rceC_le _ rfl rfl rfl)) (.any _ _ _) (.any _ _ _)
theorem k12 : Ans Try.prog 24 [.agg (rceC autumnR), .sl false .exact (ints [-1]), .sl false .exact (ints [0])] (.tup [.sl true .exact [], .int 92]) := le3 (pl_bad false false (t := [-1]) (x := [0]) (by decide +kernel) (by decide) (by decide)) (.agg (rceC_le _ rfl rfl rfl)) (.any _ _ _) (.any _ _ _)
theorem k13 : Ans Try.prog 24 [.agg (rceC autumnR), .sl false .exact (ints [0, 0]), .sl false .exact (ints [0, 0])] (.tup [.sl false .exact (ints [90, 170]), .int 0]) := by
  have h1 : playOk autumnR [0, 0] [0, 0] = true := by decide +kernel
  have h2 : playF autumnR autumnR.numbers [0, 0] [0, 0] = [90, 170] := by decide +kernel
  have := play_t autumnR autFit false false [0, 0] [0, 0] (by decide) (by decide)
  unfold playR at this
  rw [if_pos h1, h2] at this
  exact le3 this (.agg (rceC_le _ rfl rfl rfl)) (.any _ _ _) (.any _ _ _)
theorem k14 : Ans Try.prog 31 [.agg (fishC fishL), .int 10001] (.tup [.int 0, .int 0, .int 0, .int 7]) := by
  have h1 : fishL.ok = true := by decide +kernel
  have := First_t fishL fishFit 10001
  unfold Fish.firstR at this
  rw [if_pos h1, if_neg (by decide)] at this
  exact le2 this fish_le (.refl _)
theorem k15 : Ans Try.prog 31 [.agg (fishC fishL), .int 7] (.tup [.int 0, .int 0, .int 0, .int 4]) := by
  have h1 : fishL.ok = true := by decide +kernel
  have h2 : fishL.first 7 = (0, 0, -1) := by decide +kernel
  have := First_t fishL fishFit 7
  unfold Fish.firstR at this
  rw [if_pos h1, if_pos (by decide), h2] at this
  exact le2 this fish_le (.refl _)
theorem boxesFit : ∀ x ∈ boxesL, nlFit x := by
    intro x hx
    simp only [boxesL, List.mem_cons, List.not_mem_nil, or_false] at hx
    rcases hx with rfl | rfl | rfl <;> (show ((_ : Nat) : Int) ≤ _; decide)
theorem bx_bad {l : List NL} (m : Int) (h : boxesOk seaL l = false) (hl : (l.length : Int) ≤ 5900000000000) (hf : ∀ x ∈ l, nlFit x) : Ans Try.prog 33 [.sl false .any (seaL.map Cel.c), .sl false .any (l.map NL.c), .int m] (.tup [.sl true .exact [], .int 0, .int 0, .int 94]) := by
  have := Boxes_t false false seaL l m (by decide) hl hf
  unfold boxR at this
  rw [if_neg (by rw [h]; decide)] at this
  exact this
theorem nl_le1 (x : NL) (h : x.n = false) : A.Le (.sl false .any ([x].map NL.c)) (.sl false .exact [[.sl false .exact (ints x.l)]]) := .rows (.cons (by unfold NL.c; rw [h]; exact .cons (.any _ _ _) .nil) .nil)
theorem k16 : Ans Try.prog 33 [.sl false .exact (seaL.map Cel.c), .sl false .exact [[.sl false .exact (ints [1, 0])]], .int (-1)] (.tup [.sl true .exact [], .int 0, .int 0, .int 94]) :=
  le3 (bx_bad (l := [⟨false, [1, 0]⟩]) (-1) (by decide +kernel) (by decide) (fun x hx => by rw [List.mem_singleton.1 hx]; show ((2 : Nat) : Int) ≤ _; decide)) (.any _ _ _) (nl_le1 ⟨false, [1, 0]⟩ rfl) (.refl _)
theorem k17 : Ans Try.prog 33 [.sl false .exact (seaL.map Cel.c), .sl false .exact [[.sl false .exact (ints [4])]], .int 1] (.tup [.sl true .exact [], .int 0, .int 0, .int 94]) :=
  le3 (bx_bad (l := [⟨false, [4]⟩]) 1 (by decide +kernel) (by decide) (fun x hx => by rw [List.mem_singleton.1 hx]; show ((1 : Nat) : Int) ≤ _; decide)) (.any _ _ _) (nl_le1 ⟨false, [4]⟩ rfl) (.refl _)
theorem k18 : Ans Try.prog 33 [.sl false .exact (seaL.map Cel.c), .sl false .exact boxesC, .int 9] (.tup [.sl true .exact [], .int 0, .int 0, .int 7]) := by
  have := Boxes_t false false seaL boxesL 9 (by decide) (by decide) boxesFit
  unfold boxR at this
  rw [if_pos w9, if_neg (by decide)] at this
  exact le3 this (.any _ _ _) boxes_le (.refl _)
theorem bx_ok (m : Int) (hm : wi m 0 8 = true) {c : List Int} {s l : Int} (h : boxF seaL boxesL m = ⟨c, s, l⟩) : Ans Try.prog 33 [.sl false .exact (seaL.map Cel.c), .sl false .exact boxesC, .int m] (.tup [outA c, .int s, .int l, .int 0]) := by
  have := Boxes_t false false seaL boxesL m (by decide) (by decide) boxesFit
  unfold boxR at this
  rw [if_pos w9, if_pos hm, h] at this
  exact le3 this (.any _ _ _) boxes_le (.refl _)
theorem k19 : Ans Try.prog 33 [.sl false .exact (seaL.map Cel.c), .sl false .exact boxesC, .int 1] (.tup [.sl false .any (ints [0]), .int 80, .int 13, .int 0]) := bx_ok 1 (by decide) (c := [0]) (s := 80) (l := 13) (by decide +kernel)
theorem k20 : Ans Try.prog 33 [.sl false .exact (seaL.map Cel.c), .sl false .exact boxesC, .int 3] (.tup [.sl false .any (ints [0, 2]), .int 110, .int 18, .int 0]) := bx_ok 3 (by decide) (c := [0, 2]) (s := 110) (l := 18) (by decide +kernel)
theorem k21 : Ans Try.prog 33 [.sl false .exact (seaL.map Cel.c), .sl false .exact boxesC, .int 0] (.tup [.sl true .exact [], .int 0, .int 0, .int 0]) := bx_ok 0 (by decide) (c := []) (by decide +kernel)
theorem aloneFit : ∀ m : Int, (aloneL m).Fit := fun m => fit_of rfl
theorem al_quota (m q : Int) (h1 : (aloneL m).ok = true) (h2 : (aloneL m).holds 0 = true) (h3 : (aloneL m).quota = q) : Ans Try.prog 27 [.agg (fishC (aloneL m))] (.tup [.int q, .int 0]) := by
  have := quota_t (aloneL m) (aloneFit m)
  unfold Fish.quotaR at this
  rw [if_pos h1, if_pos h2, h3] at this
  exact this.le1 (alone_le m)
theorem k22 : Ans Try.prog 27 [.agg (fishC (aloneL 100))] (.tup [.int 15, .int 0]) := al_quota _ _ (by decide +kernel) (by decide +kernel) (by decide +kernel)
theorem k23 : Ans Try.prog 27 [.agg (fishC (aloneL 40))] (.tup [.int 37, .int 0]) := al_quota _ _ (by decide +kernel) (by decide +kernel) (by decide +kernel)
theorem k24 : Ans Try.prog 27 [.agg (fishC (aloneL 0))] (.tup [.int 10000, .int 0]) := al_quota _ _ (by decide +kernel) (by decide +kernel) (by decide +kernel)
def autHigh : Rce := ⟨false, [100, 50, 20], false, [800, 700, 500], false, [0, 1, 2], 91, 1⟩
def highL : Q.Fish := ⟨false, [autHigh], false, [100], false, [sea1, sea2]⟩
def highC : List A := [.sl false .any [rceC autHigh], .sl false .exact (ints [100]), aseasA]
theorem high_le : A.Le (.agg highL.c) (.agg highC) :=
  .agg (.cons (.rows (.cons (rceC_le _ rfl rfl rfl) .nil)) (.cons (.any _ _ _) (.cons (.rows (.cons (.cons (.rows (.cons (.cons (.any _ _ _) .nil) .nil)) .nil) (.cons (.cons (.rows (.cons (.cons (.any _ _ _) .nil) .nil)) .nil) .nil))) .nil)))
theorem k25 : Ans Try.prog 27 [.agg highC] (.tup [.int 0, .int 4]) := by
  have h1 : highL.ok = true := by decide +kernel
  have h2 : highL.holds 0 = false := by decide +kernel
  have := quota_t highL (fit_of (by decide))
  unfold Fish.quotaR at this
  rw [if_pos h1, if_neg (by rw [h2]; decide)] at this
  exact this.le1 high_le
theorem k26 : Ans Try.prog 31 [.agg (fishC (aloneL 100)), .int 16] (.tup [.int 0, .int 0, .int 0, .int 0]) := by
  have h1 : (aloneL 100).ok = true := by decide +kernel
  have h2 : (aloneL 100).first 16 = (0, 0, 0) := by decide +kernel
  have := First_t (aloneL 100) (aloneFit 100) 16
  unfold Fish.firstR at this
  rw [if_pos h1, if_pos (by decide), h2] at this
  exact le2 this (alone_le 100) (.refl _)
theorem k27 : Ans Try.prog 26 [.sl false .exact (ints [90, 170]), .sl false .exact (ints [90, 170])] (.bool true) := le2 (same_t false false [90, 170] [90, 170] (by decide)) (.any _ _ _) (.any _ _ _)
theorem k28 : Ans Try.prog 26 [.sl false .any (ints [0]), .sl false .exact (ints [0])] (.bool true) := le2 (same_t false false [0] [0] (by decide)) (.refl _) (.any _ _ _)
def wrongR : List (List A) := [[.sl true .exact [], .sl true .exact [], .sl true .exact [], .int 0, .int 0],
  [.sl false .exact (ints [100, 50, 20]), .sl false .any (ints [800, 700]), .sl false .exact (ints [0, 1, 2]), .int 60, .int 1],
  [.sl false .any (ints [100001, 50, 20]), .sl false .exact (ints [800, 700, 500]), .sl false .exact (ints [0, 1, 2]), .int 60, .int 1],
  [.sl false .exact (ints [100, 50, 20]), .sl false .exact (ints [800, 700, 500]), .sl false .any (ints [0, -1, 2]), .int 60, .int 1],
  [.sl false .exact (ints [100, 50, 20]), .sl false .exact (ints [800, 700, 500]), .sl false .exact (ints [0, 1, 2]), .int 60, .int 3],
  [.sl false .exact (ints [100, 50, 20]), .sl false .exact (ints [800, 700, 500]), .sl false .exact (ints [0, 1, 2]), .int 100000001, .int 1],
  [.sl false .exact (ints [100, 50, 20]), .sl false .any (ints [800, 700, 1001]), .sl false .exact (ints [0, 1, 2]), .int 60, .int 1]]
theorem row5 {a b c : Bool} {x y z : Cap} {l m n : List Int} {p q : Int} : LeL (Rce.c ⟨a, l, b, m, c, n, p, q⟩) [.sl a x (ints l), .sl b y (ints m), .sl c z (ints n), .int p, .int q] := .cons (.any _ _ _) (.cons (.any _ _ _) (.cons (.any _ _ _) (.cons (.refl _) (.cons (.refl _) .nil))))
theorem wrong_le : A.Le (.sl false .any (wrongL.map Rce.c)) (.sl false .any wrongR) := .rows (.cons row5 (.cons row5 (.cons row5 (.cons row5 (.cons row5 (.cons row5 (.cons row5 .nil)))))))
theorem each_len {l : List (List A)} {n : Nat} (h : l.all (fun z => z.length == n) = true) : ∀ z ∈ l, z.length = n := fun z hz => eq_of_beq (List.all_eq_true.1 h z hz)
def badR : List (List A) := [[.sl true .exact [], .sl true .exact [], .sl true .exact []], [rowsA, .sl false .exact (ints [40]), seasA], [rowsA, .sl false .any (ints [40, 101]), seasA], [rowsA, mostA, .sl true .exact []],
  [rowsA, mostA, .sl false .any [[s1A], [.sl false .exact [[.sl false .exact (ints [0, 0])]]]]], [rowsA, mostA, .sl false .any [[s1A], [.sl false .any [[.sl false .exact (ints [0, 0])], [.sl false .exact (ints [0])]]]]]]
theorem rowsA_le : A.Le (.sl false .any ([autumnR, springR].map Rce.c)) rowsA := .rows (.cons (rceC_le _ rfl rfl rfl) (.cons (rceC_le _ rfl rfl rfl) .nil))
theorem seasA_le : A.Le (.sl false .any ([seas1, seas2].map NR.c)) seasA := .rows (.cons (.cons (.rows (.cons (.cons (.any _ _ _) .nil) (.cons (.cons (.any _ _ _) .nil) .nil))) .nil) (.cons (.cons (.rows (.cons (.cons (.any _ _ _) .nil) (.cons (.cons (.any _ _ _) .nil) .nil))) .nil) .nil))
theorem s1A_le : LeL seas1.c [s1A] := .cons (.rows (.cons (.cons (.any _ _ _) .nil) (.cons (.cons (.any _ _ _) .nil) .nil))) .nil
theorem bad_le : A.Le (.sl false .any (badL.map Fish.c)) (.sl false .any badR) := .rows
  (.cons (.cons (.any _ _ _) (.cons (.any _ _ _) (.cons (.any _ _ _) .nil)))
  (.cons (.cons rowsA_le (.cons (.any _ _ _) (.cons seasA_le .nil)))
  (.cons (.cons rowsA_le (.cons (.any _ _ _) (.cons seasA_le .nil)))
  (.cons (.cons rowsA_le (.cons (.any _ _ _) (.cons (.any _ _ _) .nil)))
  (.cons (.cons rowsA_le (.cons (.any _ _ _) (.cons (.rows (.cons s1A_le (.cons (.cons (.rows (.cons (.cons (.any _ _ _) .nil) .nil)) .nil) .nil))) .nil)))
  (.cons (.cons rowsA_le (.cons (.any _ _ _) (.cons (.rows (.cons s1A_le (.cons (.cons (.rows (.cons (.cons (.any _ _ _) .nil) (.cons (.cons (.any _ _ _) .nil) .nil))) .nil) .nil))) .nil))) .nil))))))
set_option maxRecDepth 8000 in
set_option maxHeartbeats 16000000 in
theorem known_t : Ans Try.prog 17 [] (.bool true) := by
  have hfr : Free (.bool true) := .s _
  refine told Try.func17 rfl rfl (Pure.of tab_ok Try.func17 rfl Try.ntmps17 rfl allN allN hfr fun E hE => ?_)
  have uW : Under 0 (.sl false .any (wrongL.map Rce.c)) := (free_map Rce.free _ _ _).under
  have uB : Under 0 (.sl false .any (badL.map Fish.c)) := (free_map Fish.free _ _ _).under
  have hE3 : ∀ id, 3 ≤ id → E.φ0 id = none := fun id h => hE id (by omega)
  refine Aw.sm tab_ok mb0 [] rfl rfl ?zo ?zk
  case zo =>
    repeat' apply AllP.cons
    all_goals first | exact trivial | exact id | exact rfl | exact fun _ => rfl | exact Nat.le_of_ble_eq_true rfl | exact fun _ => Nat.le_of_ble_eq_true rfl | exact Int.natCast_nonneg _ | exact fun _ => Int.natCast_nonneg _
  case zk =>
  refine Aw.ss rfl ?_
  refine RegL.partE tab_ok mb0 false 2 0 [(1, [.agg (rceC autumnR)])] ?_
  conv => arg 5; whnf
  refine PartK.mk ?zo ?zk
  case zo =>
    repeat' apply AllP.cons
    all_goals first | exact trivial | exact id | exact rfl | exact fun _ => rfl | exact Nat.le_of_ble_eq_true rfl | exact fun _ => Nat.le_of_ble_eq_true rfl | exact Int.natCast_nonneg _ | exact fun _ => Int.natCast_nonneg _ | exact autumn_t
  case zk =>
  refine Does.raw rfl (DoesR.call rfl rfl (enters_of Try.func53 rfl rfl) (autN_0 _) ?_)
  rintro v H' c' ⟨rfl, rfl, rfl⟩
  refine Does.raw rfl (DoesR.call rfl rfl (enters_of Try.func53 rfl rfl) (autS_2 _) ?_)
  rintro v H' c' ⟨rfl, rfl, rfl⟩
  refine RegL.partE tab_ok mb0 false 2 4 [(4, [.agg (rceC autumnR)]), (5, [.agg (rceC autumnR)])] ?_
  conv => arg 5; whnf
  refine PartK.mk ?zo ?zk
  case zo =>
    repeat' apply AllP.cons
    all_goals first | exact trivial | exact id | exact rfl | exact fun _ => rfl | exact Nat.le_of_ble_eq_true rfl | exact fun _ => Nat.le_of_ble_eq_true rfl | exact Int.natCast_nonneg _ | exact fun _ => Int.natCast_nonneg _ | exact autumn_t
  case zk =>
  refine Does.raw rfl (DoesR.call rfl rfl (enters_of Try.func53 rfl rfl) (autK_4 _) ?_)
  rintro v H' c' ⟨rfl, rfl, rfl⟩
  refine RegL.partE tab_ok mb0 false 2 7 [(7, [.ms 0 0 0])] ?_
  conv => arg 5; whnf
  refine PartK.mk ?zo ?zk
  case zo =>
    repeat' apply AllP.cons
    all_goals first | exact trivial | exact id | exact rfl | exact fun _ => rfl | exact Nat.le_of_ble_eq_true rfl | exact fun _ => Nat.le_of_ble_eq_true rfl | exact Int.natCast_nonneg _ | exact fun _ => Int.natCast_nonneg _
  case zk =>
  refine Aw.sm tab_ok mb0 [] rfl rfl ?zo ?zk
  case zo =>
    repeat' apply AllP.cons
    all_goals first | exact trivial | exact id | exact rfl | exact fun _ => rfl | exact Nat.le_of_ble_eq_true rfl | exact fun _ => Nat.le_of_ble_eq_true rfl | exact Int.natCast_nonneg _ | exact fun _ => Int.natCast_nonneg _
  case zk =>
  refine Aw.sm tab_ok mb0 [] rfl rfl ?zo ?zk
  case zo =>
    repeat' apply AllP.cons
    all_goals first | exact trivial | exact id | exact rfl | exact fun _ => rfl | exact Nat.le_of_ble_eq_true rfl | exact fun _ => Nat.le_of_ble_eq_true rfl | exact Int.natCast_nonneg _ | exact fun _ => Int.natCast_nonneg _
  case zk =>
  refine Aw.sm tab_ok mb0 [] rfl rfl ?zo ?zk
  case zo =>
    repeat' apply AllP.cons
    all_goals first | exact trivial | exact id | exact rfl | exact fun _ => rfl | exact Nat.le_of_ble_eq_true rfl | exact fun _ => Nat.le_of_ble_eq_true rfl | exact Int.natCast_nonneg _ | exact fun _ => Int.natCast_nonneg _
  case zk =>
  refine Aw.sm tab_ok mb0 [] rfl rfl ?zo ?zk
  case zo =>
    repeat' apply AllP.cons
    all_goals first | exact trivial | exact id | exact rfl | exact fun _ => rfl | exact Nat.le_of_ble_eq_true rfl | exact fun _ => Nat.le_of_ble_eq_true rfl | exact Int.natCast_nonneg _ | exact fun _ => Int.natCast_nonneg _
  case zk =>
  refine Aw.sm tab_ok mb0 [] rfl rfl ?zo ?zk
  case zo =>
    repeat' apply AllP.cons
    all_goals first | exact trivial | exact id | exact rfl | exact fun _ => rfl | exact Nat.le_of_ble_eq_true rfl | exact fun _ => Nat.le_of_ble_eq_true rfl | exact Int.natCast_nonneg _ | exact fun _ => Int.natCast_nonneg _
  case zk =>
  refine Aw.sm tab_ok mb0 [] rfl rfl ?zo ?zk
  case zo =>
    repeat' apply AllP.cons
    all_goals first | exact trivial | exact id | exact rfl | exact fun _ => rfl | exact Nat.le_of_ble_eq_true rfl | exact fun _ => Nat.le_of_ble_eq_true rfl | exact Int.natCast_nonneg _ | exact fun _ => Int.natCast_nonneg _
  case zk =>
  refine Aw.freezeC (id := 1) (id2 := 6) (j := 10) (n := 3) (sz := 1) (cs := ([100001, 50, 20] : List Int).map A.int) (ints [100001, 50, 20]) rfl rfl (by decide) (Nat.le_of_ble_eq_true rfl) rfl (rows_ints _) rfl ?_
  refine Aw.freezeC (id := 3) (id2 := 6) (j := 17) (n := 3) (sz := 1) (cs := ([0, -1, 2] : List Int).map A.int) (ints [0, -1, 2]) rfl rfl (by decide) (Nat.le_of_ble_eq_true rfl) rfl (rows_ints _) rfl ?_
  refine Aw.freezeC (id := 5) (id2 := 6) (j := 31) (n := 3) (sz := 1) (cs := ([800, 700, 1001] : List Int).map A.int) (ints [800, 700, 1001]) rfl rfl (by decide) (Nat.le_of_ble_eq_true rfl) rfl (rows_ints _) rfl ?_
  refine Aw.freezeS (id := 6) (t := 1) (n := 7) (sz := 5) (cs := wrongR.flatten) wrongR rfl rfl (rows_of (each_len rfl) rfl) rfl ?_
  refine Aw.keep (n := 0) (cst := []) (v := [(1, .sl false .any (wrongL.map Rce.c))]) (Hl := []) hE trivial ⟨uW, trivial⟩ trivial ⟨trivial, ⟨wrong_le, trivial⟩, trivial, Nat.zero_le _⟩ ?_
  refine Aw.seq ?_
  refine Aw.sm tab_ok mb0 [] rfl rfl ?zo ?zk
  case zo =>
    repeat' apply AllP.cons
    all_goals first | exact trivial | exact id | exact rfl | exact fun _ => rfl | exact Nat.le_of_ble_eq_true rfl | exact fun _ => Nat.le_of_ble_eq_true rfl | exact Int.natCast_nonneg _ | exact fun _ => Int.natCast_nonneg _
  case zk =>
  refine Aw.block (Aw.rounds 0 hE [(1, .sl false .any (wrongL.map Rce.c))] (fun i : Nat => [(2, .int i)]) (fun _ => []) (fun i => i ≤ 7) (fun i => 7 - i) 0
    (Nat.zero_le _) ⟨⟨.refl _, trivial⟩, ⟨.refl _, trivial⟩, trivial, Nat.zero_le _⟩ ⟨uW, trivial⟩ (fun _ _ => ⟨.s _, trivial⟩) (fun _ _ => trivial) fun i hi => ?_)
  refine Aw.seq ?_
  refine Aw.sm tab_ok mb0 [] rfl rfl ?zo ?zk
  case zo =>
    repeat' apply AllP.cons
    all_goals first | exact trivial | exact id | exact rfl | exact fun _ => rfl | exact Nat.le_of_ble_eq_true rfl | exact fun _ => Nat.le_of_ble_eq_true rfl | exact Int.natCast_nonneg _ | exact fun _ => Int.natCast_nonneg _
  case zk =>
  refine Aw.cond rfl (fun h => Aw.skip ?_) (fun h => ?_)
  · have hlt : i < 7 := by
      have := of_decide_eq_true (show decide ((i : Int) < 7) = true from h); omega
    obtain ⟨r, hr, a1, a2, a3, a4⟩ := wrong_calls i hlt
    refine Aw.seq (Aw.block ?_)
    refine Aw.ss rfl ?_
    refine Does.raw rfl (DoesR.call rfl rfl (enters_of Try.func54 rfl rfl) (fishR_0 _) ?_)
    rintro v H' c' ⟨rfl, rfl, rfl⟩
    refine RegL.partE tab_ok mb0 false 2 1 [] ?_
    conv => arg 5; whnf
    refine PartK.mk ?zo ?zk
    case zo =>
      repeat' apply AllP.cons
      all_goals first | exact trivial | exact id | exact rfl | exact fun _ => rfl | exact Nat.le_of_ble_eq_true rfl | exact fun _ => Nat.le_of_ble_eq_true rfl | exact Int.natCast_nonneg _ | exact fun _ => Int.natCast_nonneg _
    case zk =>
    refine Aw.sd tab_ok mixed mb0 [(1, [.ms 1 0 2]), (4, r.c)] rfl (by kernel_rfl) rfl rfl ?zo ?zk
    case zo =>
      repeat' apply AllP.cons
      all_goals first | exact trivial | exact id | exact rfl | exact fun _ => rfl | exact Nat.le_of_ble_eq_true rfl | exact fun _ => Nat.le_of_ble_eq_true rfl | exact Int.natCast_nonneg _ | exact fun _ => Int.natCast_nonneg _ | exact hr
    case zk =>
    refine Aw.freezeC (id := 1) (id2 := 2) (j := 0) (n := 2) (sz := 5) (cs := r.c ++ rceC springR) [r.c, rceC springR] rfl rfl (by decide) (Nat.le_of_ble_eq_true rfl) rfl (rows_of (ys := [r.c, rceC springR]) (each_len rfl) rfl) rfl ?_
    refine Aw.keep (n := 3) (cst := [(1, .sl false .any (wrongL.map Rce.c)), (2, .int i), (3, .ref 2 0)]) (v := []) (Hl := [(2, .cells (wfC r))]) hE3 ⟨uW.mono (by decide), .s _, .ref _ _ (by decide), trivial⟩ trivial ⟨⟨by decide, .cells _ (allC (Free.under (.sl _ _ _ (by
        intro e he x hx
        rcases List.mem_cons.1 he with rfl | he
        · exact r.free x hx
        · rw [List.mem_singleton.1 he] at hx; exact rceC_free _ x hx))) (allC (Free.under (free_ints _ _ _)) (all1 (Free.under (free_map nrC_free _ _ _)))))⟩, trivial⟩
      ⟨⟨.refl _, .refl _, .refl _, trivial⟩, trivial, ⟨rfl, trivial⟩, Nat.le_of_ble_eq_true rfl⟩ ?_
    refine Aw.sm tab_ok mb0 [(2, r.c), (6, [.tup [.sl true .exact [], .int 92]])] rfl rfl ?zo ?zk
    case zo =>
      repeat' apply AllP.cons
      all_goals first | exact trivial | exact id | exact rfl | exact fun _ => rfl | exact Nat.le_of_ble_eq_true rfl | exact fun _ => Nat.le_of_ble_eq_true rfl | exact Int.natCast_nonneg _ | exact fun _ => Int.natCast_nonneg _ | exact hr | exact a1
    case zk =>
    refine Aw.sm tab_ok mb0 [(1, [.tup [.int 0, .int 93]])] rfl rfl ?zo ?zk
    case zo =>
      repeat' apply AllP.cons
      all_goals first | exact trivial | exact id | exact rfl | exact fun _ => rfl | exact Nat.le_of_ble_eq_true rfl | exact fun _ => Nat.le_of_ble_eq_true rfl | exact Int.natCast_nonneg _ | exact fun _ => Int.natCast_nonneg _ | exact a2
    case zk =>
    refine Aw.sm tab_ok mb0 [(1, [.tup [.int 0, .int 0, .int 0, .int 93]])] rfl rfl ?zo ?zk
    case zo =>
      repeat' apply AllP.cons
      all_goals first | exact trivial | exact id | exact rfl | exact fun _ => rfl | exact Nat.le_of_ble_eq_true rfl | exact fun _ => Nat.le_of_ble_eq_true rfl | exact Int.natCast_nonneg _ | exact fun _ => Int.natCast_nonneg _ | exact a3
    case zk =>
    refine Aw.st tab_ok mb0 [(12, [.int 93])] rfl rfl ?zo ?zk
    case zo =>
      repeat' apply AllP.cons
      all_goals first | exact trivial | exact id | exact rfl | exact fun _ => rfl | exact Nat.le_of_ble_eq_true rfl | exact fun _ => Nat.le_of_ble_eq_true rfl | exact Int.natCast_nonneg _ | exact fun _ => Int.natCast_nonneg _ | exact a4
    case zk =>
    refine Aw.cond rfl (fun h => by cases h) (fun _ => Aw.skip ?_)
    refine Aw.em tab_ok mb0 [] rfl rfl ?zo ?zk
    case zo =>
      repeat' apply AllP.cons
      all_goals first | exact trivial | exact id | exact rfl | exact fun _ => rfl | exact Nat.le_of_ble_eq_true rfl | exact fun _ => Nat.le_of_ble_eq_true rfl | exact Int.natCast_nonneg _ | exact fun _ => Int.natCast_nonneg _ | exact (show inR ((i : Int) + 1) by simp only [inR]; omega)
    case zk =>
    exact ⟨i + 1, hlt, by omega, ⟨.refl _, trivial⟩, ⟨.refl _, trivial⟩, trivial, Nat.zero_le _⟩
  refine Aw.exit2 ?_
  refine Aw.keep (n := 0) (cst := []) (v := []) (Hl := []) hE trivial trivial trivial ⟨trivial, trivial, trivial, Nat.zero_le _⟩ ?_
  refine Aw.ss rfl ?_
  refine RegL.partE tab_ok mb0 false 2 0 [(1, [.agg (fishC fishL)])] ?_
  conv => arg 5; whnf
  refine PartK.mk ?zo ?zk
  case zo =>
    repeat' apply AllP.cons
    all_goals first | exact trivial | exact id | exact rfl | exact fun _ => rfl | exact Nat.le_of_ble_eq_true rfl | exact fun _ => Nat.le_of_ble_eq_true rfl | exact Int.natCast_nonneg _ | exact fun _ => Int.natCast_nonneg _ | exact fishery_t
  case zk =>
  refine Does.raw rfl (DoesR.call rfl rfl (enters_of Try.func54 rfl rfl) (fishM_0 _) ?_)
  rintro v H' c' ⟨rfl, rfl, rfl⟩
  refine RegL.partE tab_ok mb0 false 1 3 [(3, [.agg (fishC fishL)])] ?_
  conv => arg 5; whnf
  refine PartK.mk ?zo ?zk
  case zo =>
    repeat' apply AllP.cons
    all_goals first | exact trivial | exact id | exact rfl | exact fun _ => rfl | exact Nat.le_of_ble_eq_true rfl | exact fun _ => Nat.le_of_ble_eq_true rfl | exact Int.natCast_nonneg _ | exact fun _ => Int.natCast_nonneg _ | exact fishery_t
  case zk =>
  refine Does.raw rfl (DoesR.call rfl rfl (enters_of Try.func54 rfl rfl) (fishS_2 _) ?_)
  rintro v H' c' ⟨rfl, rfl, rfl⟩
  refine Does.raw rfl (DoesR.call rfl rfl (enters_of Try.func54 rfl rfl) (fishI_4 _) ?_)
  rintro v H' c' ⟨rfl, rfl, rfl⟩
  refine RegL.partE tab_ok mb0 false 2 6 [(6, [.ms 0 0 0])] ?_
  conv => arg 5; whnf
  refine PartK.mk ?zo ?zk
  case zo =>
    repeat' apply AllP.cons
    all_goals first | exact trivial | exact id | exact rfl | exact fun _ => rfl | exact Nat.le_of_ble_eq_true rfl | exact fun _ => Nat.le_of_ble_eq_true rfl | exact Int.natCast_nonneg _ | exact fun _ => Int.natCast_nonneg _
  case zk =>
  refine Aw.sm tab_ok mb0 [] rfl rfl ?zo ?zk
  case zo =>
    repeat' apply AllP.cons
    all_goals first | exact trivial | exact id | exact rfl | exact fun _ => rfl | exact Nat.le_of_ble_eq_true rfl | exact fun _ => Nat.le_of_ble_eq_true rfl | exact Int.natCast_nonneg _ | exact fun _ => Int.natCast_nonneg _
  case zk =>
  refine Aw.sm tab_ok mb0 [] rfl rfl ?zo ?zk
  case zo =>
    repeat' apply AllP.cons
    all_goals first | exact trivial | exact id | exact rfl | exact fun _ => rfl | exact Nat.le_of_ble_eq_true rfl | exact fun _ => Nat.le_of_ble_eq_true rfl | exact Int.natCast_nonneg _ | exact fun _ => Int.natCast_nonneg _
  case zk =>
  refine Aw.sm tab_ok mb0 [] rfl rfl ?zo ?zk
  case zo =>
    repeat' apply AllP.cons
    all_goals first | exact trivial | exact id | exact rfl | exact fun _ => rfl | exact Nat.le_of_ble_eq_true rfl | exact fun _ => Nat.le_of_ble_eq_true rfl | exact Int.natCast_nonneg _ | exact fun _ => Int.natCast_nonneg _
  case zk =>
  refine Aw.sm tab_ok mb0 [] rfl rfl ?zo ?zk
  case zo =>
    repeat' apply AllP.cons
    all_goals first | exact trivial | exact id | exact rfl | exact fun _ => rfl | exact Nat.le_of_ble_eq_true rfl | exact fun _ => Nat.le_of_ble_eq_true rfl | exact Int.natCast_nonneg _ | exact fun _ => Int.natCast_nonneg _
  case zk =>
  refine Aw.sm tab_ok mb0 [] rfl rfl ?zo ?zk
  case zo =>
    repeat' apply AllP.cons
    all_goals first | exact trivial | exact id | exact rfl | exact fun _ => rfl | exact Nat.le_of_ble_eq_true rfl | exact fun _ => Nat.le_of_ble_eq_true rfl | exact Int.natCast_nonneg _ | exact fun _ => Int.natCast_nonneg _
  case zk =>
  refine Aw.freezeC (id := 1) (id2 := 7) (j := 7) (n := 2) (sz := 1) (cs := ([40, 101] : List Int).map A.int) (ints [40, 101]) rfl rfl (by decide) (Nat.le_of_ble_eq_true rfl) rfl (rows_ints _) rfl ?_
  refine Aw.freezeC (id := 3) (id2 := 7) (j := 14) (n := 2) (sz := 1) (cs := [s1A, .sl false .exact [[.sl false .exact (ints [0, 0])]]]) [[s1A], [.sl false .exact [[.sl false .exact (ints [0, 0])]]]] rfl rfl (by decide) (Nat.le_of_ble_eq_true rfl) rfl (rows_of (ys := [[s1A], [.sl false .exact [[.sl false .exact (ints [0, 0])]]]]) (each_len rfl) rfl) rfl ?_
  refine Aw.freezeC (id := 5) (id2 := 6) (j := 1) (n := 2) (sz := 1) (cs := [.sl false .exact (ints [0, 0]), .sl false .exact (ints [0])]) [[.sl false .exact (ints [0, 0])], [.sl false .exact (ints [0])]] rfl rfl (by decide) (Nat.le_of_ble_eq_true rfl) rfl (rows_of (ys := [[.sl false .exact (ints [0, 0])], [.sl false .exact (ints [0])]]) (each_len rfl) rfl) rfl ?_
  refine Aw.freezeC (id := 6) (id2 := 7) (j := 17) (n := 2) (sz := 1) (cs := [s1A, .sl false .any [[.sl false .exact (ints [0, 0])], [.sl false .exact (ints [0])]]]) [[s1A], [.sl false .any [[.sl false .exact (ints [0, 0])], [.sl false .exact (ints [0])]]]] rfl rfl (by decide) (Nat.le_of_ble_eq_true rfl) rfl (rows_of (ys := [[s1A], [.sl false .any [[.sl false .exact (ints [0, 0])], [.sl false .exact (ints [0])]]]]) (each_len rfl) rfl) rfl ?_
  refine Aw.freezeS (id := 7) (t := 12) (n := 6) (sz := 3) (cs := badR.flatten) badR rfl rfl (rows_of (each_len rfl) rfl) rfl ?_
  refine Aw.keep (n := 0) (cst := []) (v := [(12, .sl false .any (badL.map Fish.c))]) (Hl := []) hE trivial ⟨uB, trivial⟩ trivial ⟨trivial, ⟨bad_le, trivial⟩, trivial, Nat.zero_le _⟩ ?_
  refine Aw.seq ?_
  refine Aw.sm tab_ok mb0 [] rfl rfl ?zo ?zk
  case zo =>
    repeat' apply AllP.cons
    all_goals first | exact trivial | exact id | exact rfl | exact fun _ => rfl | exact Nat.le_of_ble_eq_true rfl | exact fun _ => Nat.le_of_ble_eq_true rfl | exact Int.natCast_nonneg _ | exact fun _ => Int.natCast_nonneg _
  case zk =>
  refine Aw.block (Aw.rounds 0 hE [(12, .sl false .any (badL.map Fish.c))] (fun i : Nat => [(13, .int i)]) (fun _ => []) (fun i => i ≤ 6) (fun i => 6 - i) 0
    (Nat.zero_le _) ⟨⟨.refl _, trivial⟩, ⟨.refl _, trivial⟩, trivial, Nat.zero_le _⟩ ⟨uB, trivial⟩ (fun _ _ => ⟨.s _, trivial⟩) (fun _ _ => trivial) fun i hi => ?_)
  refine Aw.seq ?_
  refine Aw.sm tab_ok mb0 [] rfl rfl ?zo ?zk
  case zo =>
    repeat' apply AllP.cons
    all_goals first | exact trivial | exact id | exact rfl | exact fun _ => rfl | exact Nat.le_of_ble_eq_true rfl | exact fun _ => Nat.le_of_ble_eq_true rfl | exact Int.natCast_nonneg _ | exact fun _ => Int.natCast_nonneg _
  case zk =>
  refine Aw.cond rfl (fun h => Aw.skip ?_) (fun h => ?_)
  · have hlt : i < 6 := by
      have := of_decide_eq_true (show decide ((i : Int) < 6) = true from h); omega
    obtain ⟨f, hr, a1, a2⟩ := bad_calls i hlt
    refine Aw.seq (Aw.block ?_)
    refine Aw.sm tab_ok mb0 [(2, f.c), (4, [.tup [.int 0, .int 93]])] rfl rfl ?zo ?zk
    case zo =>
      repeat' apply AllP.cons
      all_goals first | exact trivial | exact id | exact rfl | exact fun _ => rfl | exact Nat.le_of_ble_eq_true rfl | exact fun _ => Nat.le_of_ble_eq_true rfl | exact Int.natCast_nonneg _ | exact fun _ => Int.natCast_nonneg _ | exact hr | exact a1
    case zk =>
    refine Aw.st tab_ok mb0 [(5, f.c), (7, [.int 93])] rfl rfl ?zo ?zk
    case zo =>
      repeat' apply AllP.cons
      all_goals first | exact trivial | exact id | exact rfl | exact fun _ => rfl | exact Nat.le_of_ble_eq_true rfl | exact fun _ => Nat.le_of_ble_eq_true rfl | exact Int.natCast_nonneg _ | exact fun _ => Int.natCast_nonneg _ | exact hr | exact a2
    case zk =>
    refine Aw.cond rfl (fun h => by cases h) (fun _ => Aw.skip ?_)
    refine Aw.em tab_ok mb0 [] rfl rfl ?zo ?zk
    case zo =>
      repeat' apply AllP.cons
      all_goals first | exact trivial | exact id | exact rfl | exact fun _ => rfl | exact Nat.le_of_ble_eq_true rfl | exact fun _ => Nat.le_of_ble_eq_true rfl | exact Int.natCast_nonneg _ | exact fun _ => Int.natCast_nonneg _ | exact (show inR ((i : Int) + 1) by simp only [inR]; omega)
    case zk =>
    exact ⟨i + 1, hlt, by omega, ⟨.refl _, trivial⟩, ⟨.refl _, trivial⟩, trivial, Nat.zero_le _⟩
  refine Aw.exit2 ?_
  refine Aw.sm tab_ok mb0 [(2, [.tup [.agg (Sp.c ⟨0, 0⟩), .int 90]])] rfl rfl ?zo ?zk
  case zo =>
    repeat' apply AllP.cons
    all_goals first | exact trivial | exact id | exact rfl | exact fun _ => rfl | exact Nat.le_of_ble_eq_true rfl | exact fun _ => Nat.le_of_ble_eq_true rfl | exact Int.natCast_nonneg _ | exact fun _ => Int.natCast_nonneg _ | exact k1
  case zk =>
  refine Aw.sm tab_ok mb0 [(0, [.agg (Sp.c ⟨3, 2⟩)]), (3, [.tup [.agg (Sp.c ⟨0, 0⟩), .int 90]])] rfl rfl ?zo ?zk
  case zo =>
    repeat' apply AllP.cons
    all_goals first | exact trivial | exact id | exact rfl | exact fun _ => rfl | exact Nat.le_of_ble_eq_true rfl | exact fun _ => Nat.le_of_ble_eq_true rfl | exact Int.natCast_nonneg _ | exact fun _ => Int.natCast_nonneg _ | exact to_t _ _ | exact k2
  case zk =>
  refine Aw.sm tab_ok mb0 [(0, [.sl false .exact (scalesL.map Scale.c)]), (1, [.tup [.agg (Sp.c ⟨0, 0⟩), .int 7]])] rfl rfl ?zo ?zk
  case zo =>
    repeat' apply AllP.cons
    all_goals first | exact trivial | exact id | exact rfl | exact fun _ => rfl | exact Nat.le_of_ble_eq_true rfl | exact fun _ => Nat.le_of_ble_eq_true rfl | exact Int.natCast_nonneg _ | exact fun _ => Int.natCast_nonneg _ | exact scales_t | exact k3
  case zk =>
  refine Aw.sm tab_ok mb0 [(0, [.sl false .exact (scalesL.map Scale.c)]), (1, [.tup [.agg (Sp.c ⟨0, 0⟩), .int 7]])] rfl rfl ?zo ?zk
  case zo =>
    repeat' apply AllP.cons
    all_goals first | exact trivial | exact id | exact rfl | exact fun _ => rfl | exact Nat.le_of_ble_eq_true rfl | exact fun _ => Nat.le_of_ble_eq_true rfl | exact Int.natCast_nonneg _ | exact fun _ => Int.natCast_nonneg _ | exact scales_t | exact k4
  case zk =>
  refine Aw.sm tab_ok mb0 [(0, [.sl false .exact (seenL.map Sp.c)]), (1, [.tup [.sl true .exact [], .int 91]])] rfl rfl ?zo ?zk
  case zo =>
    repeat' apply AllP.cons
    all_goals first | exact trivial | exact id | exact rfl | exact fun _ => rfl | exact Nat.le_of_ble_eq_true rfl | exact fun _ => Nat.le_of_ble_eq_true rfl | exact Int.natCast_nonneg _ | exact fun _ => Int.natCast_nonneg _ | exact seen_t | exact k6
  case zk =>
  refine Aw.sm tab_ok mb0 [(0, [.sl false .exact racesC]), (1, [.sl false .exact (seenL.map Sp.c)]), (3, [.tup [.sl true .exact [], .int 91]])] rfl rfl ?zo ?zk
  case zo =>
    repeat' apply AllP.cons
    all_goals first | exact trivial | exact id | exact rfl | exact fun _ => rfl | exact Nat.le_of_ble_eq_true rfl | exact fun _ => Nat.le_of_ble_eq_true rfl | exact Int.natCast_nonneg _ | exact fun _ => Int.natCast_nonneg _ | exact races_t | exact seen_t | exact k7
  case zk =>
  refine Aw.sm tab_ok mb0 [(0, [.sl false .exact racesC]), (1, [.tup [.sl true .exact [], .int 91]])] rfl rfl ?zo ?zk
  case zo =>
    repeat' apply AllP.cons
    all_goals first | exact trivial | exact id | exact rfl | exact fun _ => rfl | exact Nat.le_of_ble_eq_true rfl | exact fun _ => Nat.le_of_ble_eq_true rfl | exact Int.natCast_nonneg _ | exact fun _ => Int.natCast_nonneg _ | exact races_t | exact k8
  case zk =>
  refine Aw.sm tab_ok mb0 [(0, [.sl false .exact racesC]), (1, [.agg (Sp.c ⟨10, 15⟩)]), (2, [.agg (Sp.c ⟨85, 90⟩)]), (4, [.tup [.sl true .exact [], .int 4]])] rfl rfl ?zo ?zk
  case zo =>
    repeat' apply AllP.cons
    all_goals first | exact trivial | exact id | exact rfl | exact fun _ => rfl | exact Nat.le_of_ble_eq_true rfl | exact fun _ => Nat.le_of_ble_eq_true rfl | exact Int.natCast_nonneg _ | exact fun _ => Int.natCast_nonneg _ | exact races_t | exact to_t _ _ | exact k9
  case zk =>
  refine Aw.sm tab_ok mb0 [(0, [.agg (rceC autumnR)]), (1, [.tup [.sl true .exact [], .int 92]])] rfl rfl ?zo ?zk
  case zo =>
    repeat' apply AllP.cons
    all_goals first | exact trivial | exact id | exact rfl | exact fun _ => rfl | exact Nat.le_of_ble_eq_true rfl | exact fun _ => Nat.le_of_ble_eq_true rfl | exact Int.natCast_nonneg _ | exact fun _ => Int.natCast_nonneg _ | exact autumn_t | exact k10
  case zk =>
  refine Aw.sm tab_ok mb0 [(0, [.agg (rceC autumnR)]), (3, [.tup [.sl true .exact [], .int 92]])] rfl rfl ?zo ?zk
  case zo =>
    repeat' apply AllP.cons
    all_goals first | exact trivial | exact id | exact rfl | exact fun _ => rfl | exact Nat.le_of_ble_eq_true rfl | exact fun _ => Nat.le_of_ble_eq_true rfl | exact Int.natCast_nonneg _ | exact fun _ => Int.natCast_nonneg _ | exact autumn_t | exact k11
  case zk =>
  refine Aw.sm tab_ok mb0 [(0, [.agg (rceC autumnR)]), (3, [.tup [.sl true .exact [], .int 92]])] rfl rfl ?zo ?zk
  case zo =>
    repeat' apply AllP.cons
    all_goals first | exact trivial | exact id | exact rfl | exact fun _ => rfl | exact Nat.le_of_ble_eq_true rfl | exact fun _ => Nat.le_of_ble_eq_true rfl | exact Int.natCast_nonneg _ | exact fun _ => Int.natCast_nonneg _ | exact autumn_t | exact k12
  case zk =>
  refine Aw.sm tab_ok mb0 [(0, [.agg (fishC fishL)]), (1, [.tup [.int 0, .int 0, .int 0, .int 7]])] rfl rfl ?zo ?zk
  case zo =>
    repeat' apply AllP.cons
    all_goals first | exact trivial | exact id | exact rfl | exact fun _ => rfl | exact Nat.le_of_ble_eq_true rfl | exact fun _ => Nat.le_of_ble_eq_true rfl | exact Int.natCast_nonneg _ | exact fun _ => Int.natCast_nonneg _ | exact fishery_t | exact k14
  case zk =>
  refine Aw.sm tab_ok mb0 [(0, [.agg (fishC fishL)]), (1, [.tup [.int 0, .int 0, .int 0, .int 4]])] rfl rfl ?zo ?zk
  case zo =>
    repeat' apply AllP.cons
    all_goals first | exact trivial | exact id | exact rfl | exact fun _ => rfl | exact Nat.le_of_ble_eq_true rfl | exact fun _ => Nat.le_of_ble_eq_true rfl | exact Int.natCast_nonneg _ | exact fun _ => Int.natCast_nonneg _ | exact fishery_t | exact k15
  case zk =>
  refine Aw.sm tab_ok mb0 [(0, [.sl false .exact (seaL.map Cel.c)]), (3, [.tup [.sl true .exact [], .int 0, .int 0, .int 94]])] rfl rfl ?zo ?zk
  case zo =>
    repeat' apply AllP.cons
    all_goals first | exact trivial | exact id | exact rfl | exact fun _ => rfl | exact Nat.le_of_ble_eq_true rfl | exact fun _ => Nat.le_of_ble_eq_true rfl | exact Int.natCast_nonneg _ | exact fun _ => Int.natCast_nonneg _ | exact sea_t | exact k16
  case zk =>
  refine Aw.sm tab_ok mb0 [(0, [.sl false .exact (seaL.map Cel.c)]), (3, [.tup [.sl true .exact [], .int 0, .int 0, .int 94]])] rfl rfl ?zo ?zk
  case zo =>
    repeat' apply AllP.cons
    all_goals first | exact trivial | exact id | exact rfl | exact fun _ => rfl | exact Nat.le_of_ble_eq_true rfl | exact fun _ => Nat.le_of_ble_eq_true rfl | exact Int.natCast_nonneg _ | exact fun _ => Int.natCast_nonneg _ | exact sea_t | exact k17
  case zk =>
  refine Aw.sm tab_ok mb0 [(0, [.sl false .exact (seaL.map Cel.c)]), (1, [.sl false .exact boxesC]), (2, [.tup [.sl true .exact [], .int 0, .int 0, .int 7]])] rfl rfl ?zo ?zk
  case zo =>
    repeat' apply AllP.cons
    all_goals first | exact trivial | exact id | exact rfl | exact fun _ => rfl | exact Nat.le_of_ble_eq_true rfl | exact fun _ => Nat.le_of_ble_eq_true rfl | exact Int.natCast_nonneg _ | exact fun _ => Int.natCast_nonneg _ | exact sea_t | exact boxes_t | exact k18
  case zk =>
  refine Aw.seq ?_
  refine Aw.sm tab_ok mb0 [] rfl rfl ?zo ?zk
  case zo =>
    repeat' apply AllP.cons
    all_goals first | exact trivial | exact id | exact rfl | exact fun _ => rfl | exact Nat.le_of_ble_eq_true rfl | exact fun _ => Nat.le_of_ble_eq_true rfl | exact Int.natCast_nonneg _ | exact fun _ => Int.natCast_nonneg _ | exact fun _ _ => rfl | exact fun _ h => absurd h (by decide) | exact fun h => absurd h (by decide)
  case zk =>
  refine Aw.cond rfl (fun h => by cases h) (fun _ => Aw.skip ?_)
  refine Aw.keep (n := 0) (cst := []) (v := []) (Hl := []) hE trivial trivial trivial ⟨trivial, trivial, trivial, Nat.zero_le _⟩ ?_
  refine Aw.ss rfl ?_
  refine Does.raw rfl (DoesR.call rfl rfl (enters_of Try.func60 rfl rfl) (aloneR_0 _) ?_)
  rintro v H' c' ⟨rfl, rfl, rfl⟩
  refine RegL.partE tab_ok mb0 false 2 1 [] ?_
  conv => arg 5; whnf
  refine PartK.mk ?zo ?zk
  case zo =>
    repeat' apply AllP.cons
    all_goals first | exact trivial | exact id | exact rfl | exact fun _ => rfl | exact Nat.le_of_ble_eq_true rfl | exact fun _ => Nat.le_of_ble_eq_true rfl | exact Int.natCast_nonneg _ | exact fun _ => Int.natCast_nonneg _
  case zk =>
  refine Aw.sm tab_ok mb0 [] rfl rfl ?zo ?zk
  case zo =>
    repeat' apply AllP.cons
    all_goals first | exact trivial | exact id | exact rfl | exact fun _ => rfl | exact Nat.le_of_ble_eq_true rfl | exact fun _ => Nat.le_of_ble_eq_true rfl | exact Int.natCast_nonneg _ | exact fun _ => Int.natCast_nonneg _
  case zk =>
  refine Aw.freezeC (id := 1) (id2 := 2) (j := 0) (n := 1) (sz := 5) (cs := rceC autHigh) [rceC autHigh] rfl rfl (by decide) (Nat.le_of_ble_eq_true rfl) rfl (rows_of (ys := [rceC autHigh]) (each_len rfl) rfl) rfl ?_
  refine Aw.sm tab_ok mb0 [(0, [.sl false .exact (scalesL.map Scale.c)]), (1, [.tup [.agg (Sp.c ⟨20, 30⟩), .int 0]])] rfl rfl ?zo ?zk
  case zo =>
    repeat' apply AllP.cons
    all_goals first | exact trivial | exact id | exact rfl | exact fun _ => rfl | exact Nat.le_of_ble_eq_true rfl | exact fun _ => Nat.le_of_ble_eq_true rfl | exact Int.natCast_nonneg _ | exact fun _ => Int.natCast_nonneg _ | exact scales_t | exact k5
  case zk =>
  refine Aw.sm tab_ok mb0 [(0, [.agg (rceC autumnR)]), (3, [.tup [.sl false .exact (ints [90, 170]), .int 0]])] rfl rfl ?zo ?zk
  case zo =>
    repeat' apply AllP.cons
    all_goals first | exact trivial | exact id | exact rfl | exact fun _ => rfl | exact Nat.le_of_ble_eq_true rfl | exact fun _ => Nat.le_of_ble_eq_true rfl | exact Int.natCast_nonneg _ | exact fun _ => Int.natCast_nonneg _ | exact autumn_t | exact k13
  case zk =>
  refine Aw.sm tab_ok mb0 [(0, [.agg (fishC (aloneL 100))]), (1, [.tup [.int 15, .int 0]])] rfl rfl ?zo ?zk
  case zo =>
    repeat' apply AllP.cons
    all_goals first | exact trivial | exact id | exact rfl | exact fun _ => rfl | exact Nat.le_of_ble_eq_true rfl | exact fun _ => Nat.le_of_ble_eq_true rfl | exact Int.natCast_nonneg _ | exact fun _ => Int.natCast_nonneg _ | exact alone_t _ | exact k22
  case zk =>
  refine Aw.sm tab_ok mb0 [(0, [.agg (fishC (aloneL 40))]), (1, [.tup [.int 37, .int 0]])] rfl rfl ?zo ?zk
  case zo =>
    repeat' apply AllP.cons
    all_goals first | exact trivial | exact id | exact rfl | exact fun _ => rfl | exact Nat.le_of_ble_eq_true rfl | exact fun _ => Nat.le_of_ble_eq_true rfl | exact Int.natCast_nonneg _ | exact fun _ => Int.natCast_nonneg _ | exact alone_t _ | exact k23
  case zk =>
  refine Aw.sm tab_ok mb0 [(0, [.agg (fishC (aloneL 0))]), (1, [.tup [.int 10000, .int 0]])] rfl rfl ?zo ?zk
  case zo =>
    repeat' apply AllP.cons
    all_goals first | exact trivial | exact id | exact rfl | exact fun _ => rfl | exact Nat.le_of_ble_eq_true rfl | exact fun _ => Nat.le_of_ble_eq_true rfl | exact Int.natCast_nonneg _ | exact fun _ => Int.natCast_nonneg _ | exact alone_t _ | exact k24
  case zk =>
  refine Aw.sm tab_ok mb0 [(1, [.tup [.int 0, .int 4]])] rfl rfl ?zo ?zk
  case zo =>
    repeat' apply AllP.cons
    all_goals first | exact trivial | exact id | exact rfl | exact fun _ => rfl | exact Nat.le_of_ble_eq_true rfl | exact fun _ => Nat.le_of_ble_eq_true rfl | exact Int.natCast_nonneg _ | exact fun _ => Int.natCast_nonneg _ | exact k25
  case zk =>
  refine Aw.sm tab_ok mb0 [(0, [.agg (fishC (aloneL 100))]), (1, [.tup [.int 0, .int 0, .int 0, .int 0]])] rfl rfl ?zo ?zk
  case zo =>
    repeat' apply AllP.cons
    all_goals first | exact trivial | exact id | exact rfl | exact fun _ => rfl | exact Nat.le_of_ble_eq_true rfl | exact fun _ => Nat.le_of_ble_eq_true rfl | exact Int.natCast_nonneg _ | exact fun _ => Int.natCast_nonneg _ | exact alone_t _ | exact k26
  case zk =>
  refine Aw.sm tab_ok mb0 [(0, [.sl false .exact (seaL.map Cel.c)]), (1, [.sl false .exact boxesC]), (2, [.tup [.sl false .any (ints [0]), .int 80, .int 13, .int 0]])] rfl rfl ?zo ?zk
  case zo =>
    repeat' apply AllP.cons
    all_goals first | exact trivial | exact id | exact rfl | exact fun _ => rfl | exact Nat.le_of_ble_eq_true rfl | exact fun _ => Nat.le_of_ble_eq_true rfl | exact Int.natCast_nonneg _ | exact fun _ => Int.natCast_nonneg _ | exact sea_t | exact boxes_t | exact k19
  case zk =>
  refine Aw.sm tab_ok mb0 [(0, [.sl false .exact (seaL.map Cel.c)]), (1, [.sl false .exact boxesC]), (2, [.tup [.sl false .any (ints [0, 2]), .int 110, .int 18, .int 0]])] rfl rfl ?zo ?zk
  case zo =>
    repeat' apply AllP.cons
    all_goals first | exact trivial | exact id | exact rfl | exact fun _ => rfl | exact Nat.le_of_ble_eq_true rfl | exact fun _ => Nat.le_of_ble_eq_true rfl | exact Int.natCast_nonneg _ | exact fun _ => Int.natCast_nonneg _ | exact sea_t | exact boxes_t | exact k20
  case zk =>
  refine Aw.sm tab_ok mb0 [(0, [.sl false .exact (seaL.map Cel.c)]), (1, [.sl false .exact boxesC]), (2, [.tup [.sl true .exact [], .int 0, .int 0, .int 0]])] rfl rfl ?zo ?zk
  case zo =>
    repeat' apply AllP.cons
    all_goals first | exact trivial | exact id | exact rfl | exact fun _ => rfl | exact Nat.le_of_ble_eq_true rfl | exact fun _ => Nat.le_of_ble_eq_true rfl | exact Int.natCast_nonneg _ | exact fun _ => Int.natCast_nonneg _ | exact sea_t | exact boxes_t | exact k21
  case zk =>
  refine Aw.sd tab_ok mixed mb0 [(3, [.agg (Sp.c ⟨20, 30⟩)]), (4, [.agg (Sp.c ⟨20, 30⟩)]), (5, [.bool true]), (14, [.bool true]), (67, [.bool true]), (84, [.bool true]), (114, [.bool true])] rfl (by kernel_rfl) rfl rfl ?zo ?zk
  case zo =>
    repeat' apply AllP.cons
    all_goals first | exact trivial | exact id | exact rfl | exact fun _ => rfl | exact Nat.le_of_ble_eq_true rfl | exact fun _ => Nat.le_of_ble_eq_true rfl | exact Int.natCast_nonneg _ | exact fun _ => Int.natCast_nonneg _ | exact fun _ => to_t _ _ | exact fun _ => eqSp _ _ ⟨20, 30⟩ ⟨20, 30⟩ | exact fun _ => k27 | exact fun _ => k28 | exact fun _ => x9 | exact fun _ => works_t | exact fun _ _ => rfl | exact fun _ h => absurd h (by decide) | exact fun h => absurd h (by decide)
  case zk =>
  exact Aw.ret ⟨_, .cons (.tmp _) .nil, rfl⟩
end Go.Proofs.Ytdiclbgklegelaa

namespace Go.Proofs.Ytdiclbgklegelaa
open Go Go.AL Go.ChangeShapes Go.WideShapes Go.ChangeAt Go.RowKit
set_option maxRecDepth 100000 in
theorem stockKnown_lifted (os : Os) (started : os.Started) (H : Type) (enc : TypeId × Value → H) :
    ReturnsInHanded {} Try.checked os 17 .any (Rows.stockKnownSpec.pre6 enc Try.prog Try.f17 [] false) (Rows.stockKnownSpec.post enc Try.prog Try.f17 false true false false) := by
  refine lifted2 (tb := 4) (C := Try.checked) own started (by kernel_rfl) Try.func17
    (ChangeSpec.witness6 (enc := enc) (C := Try.checked) false ⟨#[], #[], []⟩ 8 (by kernel_rfl) (by kernel_rfl) (by kernel_rfl) (by kernel_rfl))
    laidOut ?_ rfl rfl (by kernel_rfl) uBool ?_ ?_
  · rw [Try.params17]; intro t ht; cases ht
  · intro ds hd
    rw [Try.params17] at hd
    match ds, hd with
    | [], _ => rfl
  · intro W base args ds p hval hA hwt
    rw [Try.params17] at hA hval
    obtain ⟨h1, _, _⟩ := trodAll_nil hA
    have e : args = #[] := by cases args; simp_all
    subst e
    exact ⟨fun _ => none, [], VRs.nil _ _ _, known_t⟩
theorem stockKnown_holds : Rows.StockKnownSaid :=
  OpenClaim.holds_of_wide 17 Try.f17 rfl rfl rfl rfl rfl rfl rfl ⟨rfl, rfl, rfl, rfl, rfl⟩ rfl rfl rfl rfl rfl (by kernel_rfl) Try.func17 (by kernel_rfl)
    (of_decide_eq_true (by kernel_rfl)) (by unfold Func.isWrapper; first | (rw [if_pos (by decide +kernel)]; kernel_rfl) | (rw [if_neg (by decide +kernel)]; exact ⟨rfl, rfl⟩))
    (fun os started H enc _ => stockKnown_lifted os started H enc)
end Go.Proofs.Ytdiclbgklegelaa

