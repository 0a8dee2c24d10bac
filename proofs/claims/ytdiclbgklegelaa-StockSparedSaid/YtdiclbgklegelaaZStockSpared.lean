/- StockSpared holds: The boxes that are told spare just what is told, and no choice spares more. No condition. -/
import Derived.Test.YtdiclbgklegelaaK6
set_option linter.all false
namespace Go.AL
open Go Go.RowKit Go.ChangeShapes Go.WideShapes Go.ChangeAt
section
variable {H : Type} {enc : TypeId × Value → H} {P : Program} {w : World} {base : Nat} {held : Bool} {φ : Names}
def CellsAre (φ : Names) (w : World) (az : List A) (cs : List Value) : Prop :=
  cs.length = az.length ∧ ∀ i, i < az.length → VR φ (allZ w) w (az.getD i .un) (cs.getD i undef) ∧ (cs.getD i undef).oneCell' = true
theorem CellsAre.nil : CellsAre φ w [] [] := ⟨rfl, fun i h => by simp at h⟩
theorem CellsAre.one {a : A} {v : Value} (h : VR φ (allZ w) w a v) (h1 : v.oneCell' = true) : CellsAre φ w [a] [v] := ⟨rfl, fun i hi => by
  have : i = 0 := by simp at hi; exact hi
  subst this; exact ⟨h, h1⟩⟩
theorem CellsAre.app {az bz : List A} {cs ds : List Value} (h : CellsAre φ w az cs) (k : CellsAre φ w bz ds) : CellsAre φ w (az ++ bz) (cs ++ ds) := by
  refine ⟨by simp [h.1, k.1], fun i hi => ?_⟩
  by_cases h1 : i < az.length
  · have := h.2 i h1
    rw [show (az ++ bz).getD i .un = az.getD i .un by simp [List.getD_eq_getElem?_getD, List.getElem?_append, h1],
      show (cs ++ ds).getD i undef = cs.getD i undef by simp [List.getD_eq_getElem?_getD, List.getElem?_append, h.1, h1]]
    exact this
  · have hi2 : i - az.length < bz.length := by simp only [List.length_append] at hi; omega
    have := k.2 (i - az.length) hi2
    rw [show (az ++ bz).getD i .un = bz.getD (i - az.length) .un by simp [List.getD_eq_getElem?_getD, List.getElem?_append, h1],
      show (cs ++ ds).getD i undef = ds.getD (i - az.length) undef by simp [List.getD_eq_getElem?_getD, List.getElem?_append, h.1, h1]]
    exact this
theorem CellsAre.agg {az : List A} {cs : List Value} (h : CellsAre φ w az cs) : VR φ (allZ w) w (.agg az) (.agg cs.toArray) := by
  have e : ∀ i, cs.toArray.getD i undef = cs.getD i undef := fun i => by simp [Array.getD_eq_getD_getElem?, List.getD_eq_getElem?_getD]
  refine .agg _ _ (by simp [h.1]) (fun i hi => ?_) fun i hi => ?_
  · rw [e]; exact (h.2 i hi).2
  · rw [e]; exact (h.2 i hi).1
def Reads (enc : TypeId × Value → H) (P : Program) (w : World) (base : Nat) (held : Bool) (φ : Names) (e sz : Nat) {α : Type} (c : α → List A) (Q : α → Prop) : Prop :=
  ∀ n cs y, DataW.trod enc P w base (fun _ => true) held n e cs = some y → (∀ k ∈ y.1.weights P e, k ≤ reachBytes) → ∃ a : α, Q a ∧ (c a).length = sz ∧ CellsAre φ w (c a) cs
theorem Reads.imp {e sz : Nat} {α β : Type} {c : α → List A} {d : β → List A} {Q : α → Prop} {R : β → Prop} (h : Reads enc P w base held φ e sz c Q) (k : ∀ a, Q a → ∃ b, R b ∧ d b = c a) : Reads enc P w base held φ e sz d R := fun n cs y hy hw => by
  obtain ⟨a, q, l, r⟩ := h n cs y hy hw
  obtain ⟨b, q2, e2⟩ := k a q
  exact ⟨b, q2, by rw [e2]; exact l, by rw [e2]; exact r⟩
theorem Reads.int {e : Nat} (he : P.underlying e = some (.int .i64)) : Reads enc P w base held φ e 1 (fun n : Int => [A.int n]) fun _ => True := fun n cs y h _ => by
  obtain ⟨z, rfl, _, _⟩ := DataW.trod_int he h
  exact ⟨z, trivial, rfl, .one (.s _) rfl⟩
theorem weightsAll_at {e : Nat} : ∀ {l : List (DataW H)} {d : DataW H}, d ∈ l → ∀ k ∈ d.weights P e, k ∈ DataW.weightsAll P e l
  | x :: l, d, hm, k, hk => by
    rw [DataW.weightsAll, List.mem_append]
    rcases List.mem_cons.1 hm with rfl | hm
    · exact .inl hk
    · exact .inr (weightsAll_at hm k hk)
theorem cells_spot {a : Addr} {n : Nat} {cs : List Value} (h : w.cells? base a n = some cs) (hn : 0 < n) : a.spot = none := by
  obtain ⟨hl, hc⟩ := cells_at h
  have h0 := hc 0 hn
  rw [List.getElem?_eq_getElem (by omega)] at h0
  have := World.cell?_spot h0
  rwa [show a.add 0 = a from by unfold Addr.add; simp] at this
theorem told_list {α : Type} {c : α → List A} {Q : α → Prop} {R : α → Nat → Prop} (n : Nat) (h : ∀ i, i < n → ∃ a, Q a ∧ R a i) : ∃ l : List α, l.length = n ∧ (∀ a ∈ l, Q a) ∧ ∀ i (hi : i < l.length), R l[i] i := by
  induction n with
  | zero => exact ⟨[], rfl, fun _ h => by simp at h, fun i hi => by simp at hi⟩
  | succ n ih =>
    obtain ⟨l, hl, hq, hr⟩ := ih fun i hi => h i (by omega)
    obtain ⟨a, qa, ra⟩ := h n (by omega)
    refine ⟨l ++ [a], by simp [hl], fun x hx => ?_, fun i hi => ?_⟩
    · rcases List.mem_append.1 hx with hx | hx
      · exact hq x hx
      · rw [List.mem_singleton.1 hx]; exact qa
    · by_cases h1 : i < l.length
      · rw [List.getElem_append_left h1]; exact hr i h1
      · have : i = l.length := by simp at hi; omega
        subst this
        rw [List.getElem_append_right (by omega)]
        simp only [Nat.sub_self, List.getElem_cons_zero]
        rw [hl]; exact ra
theorem Reads.slice {t e sz : Nat} {α : Type} {c : α → List A} {Q : α → Prop} (ht : P.underlying t = some (.slice e)) (hc : P.cellsOf e = sz) (h0 : 0 < sz) (h : Reads enc P w base held φ e sz c Q) :
    Reads enc P w base held φ t 1 (fun x : Bool × List α => [A.sl x.1 .any (x.2.map c)]) fun x => (∀ a ∈ x.2, Q a) ∧ x.2.length * P.bytesOf e ≤ reachBytes := by
  intro fuel cs y hy hw
  rcases DataW.trod_slice ht hy with ⟨rfl, _⟩ | ⟨ad, len, cap, elems, rest, n, _, rfl, hx, hbl, hl, hm, hlen, hel, hre, _⟩
  · exact ⟨(true, []), ⟨fun a ha => (nomatch ha), by simp⟩, rfl, .one (.nil _) rfl⟩
  · obtain ⟨hrl, hre⟩ := hre rfl
    have hwt : (elems.map (·.1)).length * P.bytesOf e ≤ reachBytes ∧ ∀ d ∈ elems.map (·.1), ∀ k ∈ d.weights P e, k ≤ reachBytes := by
      rw [hx] at hw
      simp only [DataW.weights, ht] at hw
      refine ⟨Nat.le_trans (Nat.mul_le_mul_right _ (Nat.le_add_right _ (rest.map (·.1)).length)) (hw _ (List.mem_cons_self ..)), fun d hd k hk => hw k (List.mem_cons_of_mem _ (List.mem_append.2 (.inl (weightsAll_at hd k hk))))⟩
    have hsp : cap = 0 ∨ ad.spot = none := by
      rcases Nat.eq_zero_or_pos cap with h | hpos
      · exact .inl h
      right
      rcases Nat.eq_zero_or_pos len with hz | hlp
      · subst hz
        have h1 := hre 0 (by omega)
        rw [hc] at h1
        obtain ⟨r, hr⟩ : ∃ r, rest[0]? = some r := ⟨rest[0]'(by omega), List.getElem?_eq_getElem _⟩
        rw [hr, Option.bind_eq_some_iff] at h1
        obtain ⟨cs, h2, _⟩ := h1
        rw [show ad.add ((0 + 0) * sz) = ad from by unfold Addr.add; simp] at h2
        exact cells_spot h2 h0
      · have h1 := hel 0 hlp
        rw [hc] at h1
        obtain ⟨r, hr⟩ : ∃ r, elems[0]? = some r := ⟨elems[0]'(by omega), List.getElem?_eq_getElem _⟩
        rw [hr, Option.bind_eq_some_iff] at h1
        obtain ⟨cs, h2, _⟩ := h1
        rw [show ad.add (0 * sz) = ad from by unfold Addr.add; simp] at h2
        exact cells_spot h2 h0
    rcases hsp with hz | hsp
    · subst hz
      have : len = 0 := by omega
      subst this
      exact ⟨(false, []), ⟨fun a ha => (nomatch ha), by simp⟩, rfl, .one (.slz _ ad) rfl⟩
    obtain ⟨b, off, sp⟩ := ad
    simp only at hsp
    subst hsp
    have each : ∀ i, i < len → ∃ a : α, Q a ∧ ((c a).length = sz ∧ ∃ cs, w.cells? base ((⟨b, off, none⟩ : Addr).add (i * sz)) sz = some cs ∧ CellsAre φ w (c a) cs) := fun i hi => by
      have h1 := hel i hi
      rw [hc] at h1
      rw [List.getElem?_eq_getElem (by omega), Option.bind_eq_some_iff] at h1
      obtain ⟨cs, h2, h3⟩ := h1
      obtain ⟨a, qa, la, ra⟩ := h n cs _ h3 (hwt.2 _ (List.mem_map.2 ⟨_, List.getElem_mem (by omega), rfl⟩))
      exact ⟨a, qa, la, cs, h2, ra⟩
    obtain ⟨l, hll, hq, hr⟩ := told_list (c := c) len each
    have hcell : ∀ i j, i < l.length → j < sz → ∃ v, w.cell? ⟨b, off + i * sz + j, none⟩ = some v ∧ VR φ (allZ w) w ((((l.map c).getD i []).getD j .un)) v ∧ v.oneCell' = true := fun i j hi hj => by
      obtain ⟨q1, cs, q2, q3⟩ := hr i hi
      have h1 := (cells_at q2).2 j hj
      rw [add_plain, add_plain] at h1
      have hcl : cs.length = sz := by rw [q3.1, q1]
      rw [List.getElem?_eq_getElem (by omega)] at h1
      have h2 := q3.2 j (by omega)
      have e1 : cs.getD j undef = cs[j]'(by omega) := by rw [List.getD_eq_getElem?_getD, List.getElem?_eq_getElem (by omega)]; rfl
      have e2 : (l.map c).getD i [] = c l[i] := by rw [List.getD_eq_getElem?_getD, List.getElem?_map, List.getElem?_eq_getElem hi]; rfl
      rw [e1] at h2
      exact ⟨_, h1, by rw [e2]; exact h2.1, h2.2⟩
    let val : Nat → Nat → Value := fun i j => (w.cell? ⟨b, off + i * sz + j, none⟩).getD undef
    have hval : ∀ i j, i < l.length → j < sz → w.cell? ⟨b, off + i * sz + j, none⟩ = some (val i j) ∧ VR φ (allZ w) w ((((l.map c).getD i []).getD j .un)) (val i j) ∧ (val i j).oneCell' = true := fun i j hi hj => by
      obtain ⟨v, h1, h2, h3⟩ := hcell i j hi hj
      have : val i j = v := by simp only [val, h1]; rfl
      rw [this]; exact ⟨h1, h2, h3⟩
    have hl2 : (l.map c).length = l.length := by simp
    refine ⟨(false, l), ⟨hq, ?_⟩, rfl, .one ?_ rfl⟩
    · have := hwt.1
      rw [List.length_map, hlen] at this
      rw [hll]; exact this
    · have key : VR φ (allZ w) w (.sl false .any (l.map c)) (.slice (some ⟨b, off, none⟩) (l.map c).length cap) := by
        refine .sl .any _ b off sz cap val (by rw [hl2, hll]; exact hl) (fun h => by cases h) hm (fun z hz => ?_) (fun i j hi hj => ?_) (fun i j hi hj => ?_) (fun i j hi hj => ?_) fun i j hi hj => ?_
        · obtain ⟨a, ha, rfl⟩ := List.mem_map.1 hz
          obtain ⟨i, hi, rfl⟩ := List.mem_iff_getElem.1 ha
          exact (hr i hi).1
        all_goals rw [hl2] at hi
        · exact ⟨_, (hval i j hi hj).1⟩
        · exact (hval i j hi hj).1
        · exact (hval i j hi hj).2.2
        · exact (hval i j hi hj).2.1
      rw [hl2, hll] at key; exact key
inductive Flds (enc : TypeId × Value → H) (P : Program) (w : World) (base : Nat) (held : Bool) (φ : Names) : Nat → List Field → {α : Type} → (α → List A) → (α → Prop) → Nat → Prop
  | nil (off : Nat) : Flds enc P w base held φ off [] (fun _ : Unit => []) (fun _ => True) 0
  | cons {off : Nat} {f : Field} {fs : List Field} {sz m : Nat} {α β : Type} {c : α → List A} {Q : α → Prop} {d : β → List A} {R : β → Prop} (ho : f.offset = off) (hc : P.cellsOf f.type = sz) (h : Reads enc P w base held φ f.type sz c Q)
      (k : Flds enc P w base held φ (off + sz) fs d R m) : Flds enc P w base held φ off (f :: fs) (fun x : α × β => c x.1 ++ d x.2) (fun x => Q x.1 ∧ R x.2) (sz + m)
theorem Flds.read {n : Nat} {cs : List Value} : ∀ {fs : List Field} {off m : Nat} {α : Type} {c : α → List A} {Q : α → Prop} {xs : List (DataW H × List MemPlace)}, Flds enc P w base held φ off fs c Q m → xs.length = fs.length →
    (∀ (i : Nat) (f : Field), fs[i]? = some f → DataW.trod enc P w base (fun _ => true) held n f.type ((cs.drop f.offset).take (P.cellsOf f.type)) = xs[i]?) → (∀ k ∈ DataW.weightsEach P (fs.map (·.type)) (xs.map (·.1)), k ≤ reachBytes) →
    cs.length = off + m → ∃ a, Q a ∧ (c a).length = m ∧ CellsAre φ w (c a) (cs.drop off)
  | _, _, _, _, _, _, [], .nil off, _, _, _, hl => ⟨(), trivial, rfl, by rw [List.drop_of_length_le (by omega)]; exact .nil⟩
  | f :: fs, off, _, _, _, _, x :: xs, .cons (sz := sz) (m := m) ho hc h k, hxl, hx, hw, hl => by
    have h0 := hx 0 f rfl
    rw [ho, hc] at h0
    obtain ⟨a, qa, la, ra⟩ := h n _ x h0 fun k hk => hw k (by
      simp only [List.map_cons, DataW.weightsEach, List.mem_append]; exact .inl hk)
    obtain ⟨b, qb, lb, rb⟩ := Flds.read k (by simpa using hxl) (fun i f' hf => hx (i + 1) f' hf) (fun k hk => hw k (by
      simp only [List.map_cons, DataW.weightsEach, List.mem_append]; exact .inr hk)) (by omega)
    refine ⟨(a, b), ⟨qa, qb⟩, by simp only [List.length_append, la, lb], ?_⟩
    have e : cs.drop off = (cs.drop off).take sz ++ cs.drop (off + sz) := by
      rw [← List.drop_drop, List.take_append_drop]
    rw [e]
    exact ra.app rb
theorem Reads.struct {e m m' : Nat} {fs : Array Field} {l : List Field} {α : Type} {c : α → List A} {Q : α → Prop} (he : P.underlying e = some (.struct fs)) (hc : P.cellsOf e = m) (h : Flds enc P w base held φ 0 l c Q m') (hl : fs.toList = l) (hm : m' = m) : Reads enc P w base held φ e m c Q := by
  subst hl; subst hm
  intro fuel cs y hy hw
  obtain ⟨xs, n, _, hx, hl, hlen, hf⟩ := DataW.trod_struct he hy
  rw [hx] at hw
  simp only [DataW.weights, he] at hw
  obtain ⟨a, q, l, r⟩ := h.read (n := n) (cs := cs) (xs := xs) (by simpa using hlen) (fun i f hf' => hf i f (by simpa using hf')) hw (by omega)
  exact ⟨a, q, l, by simpa using r⟩
theorem Reads.arg_one {t : Nat} {α : Type} {x : α → A} {Q : α → Prop} {v : Value} {d : DataW H} {p : List MemPlace} (h : Reads enc P w base held φ t 1 (fun a => [x a]) Q) (hc : v.cells.toList = [v])
    (ht : DataW.Trod enc P w base (fun _ => true) held t v d p) (hw : ∀ k ∈ d.weights P t, k ≤ reachBytes) : ∃ a, Q a ∧ VR φ (allZ w) w (x a) v := by
  obtain ⟨fuel, ht⟩ := ht
  rw [hc] at ht
  obtain ⟨a, q, _, r⟩ := h fuel _ _ ht hw
  exact ⟨a, q, (r.2 0 (by simp)).1⟩
theorem Reads.arg_slice {t e : Nat} {α : Type} {x : α → A} {Q : α → Prop} {v : Value} {d : DataW H} {p : List MemPlace} {r : Reach} {b0 : Nat} (hu : P.underlying t = some (.slice e)) (h : Reads enc P w base held φ t 1 (fun a => [x a]) Q) (hok : Value.okWide P w r b0 t v)
    (ht : DataW.Trod enc P w base (fun _ => true) held t v d p) (hw : ∀ k ∈ d.weights P t, k ≤ reachBytes) : ∃ a, Q a ∧ VR φ (allZ w) w (x a) v := h.arg_one (slice_cell hu hok).2 ht hw
theorem Reads.ints {t n e : Nat} (hu : P.underlying t = some (.array n e)) (hc : P.cellsOf t = n) (ue : P.underlying e = some (.int .i64)) (ce : P.cellsOf e = 1) :
    Reads enc P w base held φ t n (fun l : List Int => l.map A.int) fun l => l.length = n := by
  intro fuel cs y hy _
  obtain ⟨xs, m, _, _, hl0, hl, hx⟩ := DataW.trod_array hu hy
  rw [ce] at hx
  have hcl : cs.length = n := by omega
  have each : ∀ i, i < n → ∃ z : Int, True ∧ cs[i]? = some (.int .i64 z) := fun i hi => by
    have h1 := hx i hi
    rw [List.getElem?_eq_getElem (by omega)] at h1
    obtain ⟨z, hz, _⟩ := DataW.trod_int ue h1
    refine ⟨z, trivial, ?_⟩
    have h5 := congrArg (fun l => l[0]?) hz
    simpa using h5
  obtain ⟨l, hll, _, hr⟩ := told_list (c := fun _ : Int => []) n each
  refine ⟨l, hll, by simp [hll], by simp [hll, hcl], fun i hi => ?_⟩
  have hi : i < l.length := by simpa using hi
  have h1 := hr i hi
  have e1 : cs.getD i undef = .int .i64 l[i] := by rw [List.getD_eq_getElem?_getD, h1]; rfl
  have e2 : (l.map A.int).getD i .un = A.int l[i] := by simp [List.getD_eq_getElem?_getD, hi]
  rw [e1, e2]
  exact ⟨.s _, rfl⟩
end
end Go.AL

namespace Go.AL.Q
open Go
theorem ofInt_nat (m : Nat) : BitVec.ofInt 64 (m : Int) = BitVec.ofNat 64 m := BitVec.ofInt_natCast ..
theorem wrap_nat {m : Nat} (h : m < 2 ^ 63) : IntKind.i64.wrap (m : Int) = m := wrap_in (by simp only [inR]; omega)
theorem ior_nat {m n : Nat} (hm : m < 2 ^ 63) (hn : n < 2 ^ 63) : ior (m : Int) (n : Int) = ((m ||| n : Nat) : Int) := by
  unfold ior
  rw [ofInt_nat, ofInt_nat, BitVec.toNat_or, BitVec.toNat_ofNat, BitVec.toNat_ofNat, Nat.mod_eq_of_lt (by omega), Nat.mod_eq_of_lt (by omega)]
  exact wrap_nat (Nat.or_lt_two_pow hm hn)
theorem iand_one {m : Nat} (hm : m < 2 ^ 63) : iand (m : Int) 1 = ((m % 2 : Nat) : Int) := by
  unfold iand
  rw [ofInt_nat, show (1 : Int) = ((1 : Nat) : Int) from rfl, ofInt_nat, BitVec.toNat_and, BitVec.toNat_ofNat, BitVec.toNat_ofNat, Nat.mod_eq_of_lt (show m < 2 ^ 64 by omega), Nat.mod_eq_of_lt (by decide), Nat.and_one_is_mod]
  exact wrap_nat (by omega)
theorem bitI_test {m k : Nat} (hm : m < 2 ^ 63) (hk : k ≤ 64) : bitI (m : Int) k = m.testBit k := by
  unfold bitI
  rw [Nat.min_eq_left hk]
  have e : (m : Int).fdiv (2 ^ k) = ((m / 2 ^ k : Nat) : Int) := by
    rw [Int.fdiv_eq_ediv_of_nonneg _ (by exact Int.le_of_lt (Int.pow_pos (by decide)))]
    norm_cast
  rw [e, iand_one (Nat.lt_of_le_of_lt (Nat.div_le_self _ _) hm), Nat.testBit_eq_decide_div_mod_eq]
  have : m / 2 ^ k % 2 = 0 ∨ m / 2 ^ k % 2 = 1 := by omega
  rcases this with h | h <;> rw [h] <;> decide
def setN (l : List Int) : Nat := l.foldl (fun x c => x ||| 2 ^ c.toNat) 0
theorem setN_go : ∀ (l : List Int) (x : Nat), (∀ c ∈ l, 0 ≤ c ∧ c < 12) → x < 2 ^ 12 → l.foldl (fun x c => ior x (bitOf c)) (x : Int) = ((l.foldl (fun x c => x ||| 2 ^ c.toNat) x : Nat) : Int) ∧ l.foldl (fun x c => x ||| 2 ^ c.toNat) x < 2 ^ 12 ∧
    ∀ k, (l.foldl (fun x c => x ||| 2 ^ c.toNat) x).testBit k = (x.testBit k || l.contains (k : Int))
  | [], x, _, hx => ⟨rfl, hx, fun k => by simp⟩
  | c :: l, x, h, hx => by
    have hc := h c (List.mem_cons_self ..)
    have hp : 2 ^ c.toNat < 2 ^ 12 := Nat.pow_lt_pow_right (by decide) (by omega)
    have hb : bitOf c = ((2 ^ c.toNat : Nat) : Int) := by
      unfold bitOf
      rw [Nat.min_eq_left (by omega), Int.one_mul]
      have : ((2 : Int) ^ c.toNat) = ((2 ^ c.toNat : Nat) : Int) := by norm_cast
      rw [this]
      exact wrap_nat (by omega)
    have hs := setN_go l (x ||| 2 ^ c.toNat) (fun d hd => h d (List.mem_cons_of_mem _ hd)) (Nat.or_lt_two_pow hx hp)
    rw [List.foldl_cons, List.foldl_cons, hb, ior_nat (by omega) (by omega)]
    refine ⟨hs.1, hs.2.1, fun k => ?_⟩
    rw [hs.2.2 k, Nat.testBit_or, Nat.testBit_two_pow, List.contains_cons, Bool.or_assoc]
    congr 2
    rw [Bool.eq_iff_iff, decide_eq_true_eq, beq_iff_eq]; omega
theorem setOf_is {l : List Int} (h : ∀ c ∈ l, 0 ≤ c ∧ c < 12) : setOf l = (setN l : Int) ∧ setN l < 2 ^ 12 ∧ ∀ k, (setN l).testBit k = l.contains (k : Int) := by
  obtain ⟨h1, h2, h3⟩ := setN_go l 0 h (by decide)
  exact ⟨h1, h2, fun k => by have := h3 k; unfold setN; rw [this]; simp⟩
def uniS (sets : List Int) (l : List Int) : Int := l.foldl (fun x i => ior x (sets.getD i.toNat 0)) 0
def inBox (boxes : List NL) (l : List Int) (c : Nat) : Bool := l.any fun i => (boxes.getD i.toNat ⟨false, []⟩).l.contains (c : Int)
theorem uni_go {boxes : List NL} (hb : ∀ b ∈ boxes, ∀ c ∈ b.l, 0 ≤ c ∧ c < 12) : ∀ (l : List Int) (x : Nat), x < 2 ^ 12 → (∀ i ∈ l, 0 ≤ i ∧ i < boxes.length) →
    ∃ m : Nat, l.foldl (fun x i => ior x ((setsOf boxes).getD i.toNat 0)) (x : Int) = (m : Int) ∧ m < 2 ^ 12 ∧ ∀ k, m.testBit k = (x.testBit k || inBox boxes l k)
  | [], x, hx, _ => ⟨x, rfl, hx, fun k => by simp [inBox]⟩
  | i :: l, x, hx, hi => by
    have h1 := hi i (List.mem_cons_self ..)
    have hlt : i.toNat < boxes.length := by omega
    have e : (setsOf boxes).getD i.toNat 0 = setOf boxes[i.toNat].l := by unfold setsOf; rw [List.getD_eq_getElem?_getD, List.getElem?_map, List.getElem?_eq_getElem hlt]; rfl
    have e2 : boxes.getD i.toNat ⟨false, []⟩ = boxes[i.toNat] := by rw [List.getD_eq_getElem?_getD, List.getElem?_eq_getElem hlt]; rfl
    obtain ⟨s1, s2, s3⟩ := setOf_is (hb _ (List.getElem_mem hlt))
    rw [List.foldl_cons, e, s1, ior_nat (by omega) (by omega)]
    obtain ⟨m, m1, m2, m3⟩ := uni_go hb l (x ||| setN boxes[i.toNat].l) (Nat.or_lt_two_pow hx s2) fun j hj => hi j (List.mem_cons_of_mem _ hj)
    refine ⟨m, m1, m2, fun k => ?_⟩
    rw [m3, Nat.testBit_or, s3, Bool.or_assoc]
    show _ = (_ || inBox boxes (i :: l) k)
    unfold inBox
    rw [List.any_cons, e2]
theorem uni_bit {boxes : List NL} (hb : ∀ b ∈ boxes, ∀ c ∈ b.l, 0 ≤ c ∧ c < 12) {l : List Int} (hl : ∀ i ∈ l, 0 ≤ i ∧ i < boxes.length) {k : Nat} (hk : k ≤ 12) : bitI (uniS (setsOf boxes) l) k = inBox boxes l k := by
  obtain ⟨m, m1, m2, m3⟩ := uni_go hb l 0 (by decide) hl
  have e : uniS (setsOf boxes) l = (m : Int) := m1
  rw [e, bitI_test (by omega) (by omega), m3]; simp
def closedN (cells : List Cel) (boxes : List NL) (l : List Int) : Nat → Cel
  | 0 => ⟨0, 0⟩
  | k + 1 => if inBox boxes l k then ⟨(closedN cells boxes l k).sp + (cells.getD k ⟨0, 0⟩).sp, (closedN cells boxes l k).la + (cells.getD k ⟨0, 0⟩).la⟩ else closedN cells boxes l k
def closedF (cells : List Cel) (boxes : List NL) (l : List Int) : Cel := closedN cells boxes l cells.length
theorem spare_closed {cells : List Cel} {boxes : List NL} (hb : ∀ b ∈ boxes, ∀ c ∈ b.l, 0 ≤ c ∧ c < 12) {l : List Int} (hl : ∀ i ∈ l, 0 ≤ i ∧ i < boxes.length) : ∀ k, k ≤ 12 → spareN cells (uniS (setsOf boxes) l) k = closedN cells boxes l k
  | 0, _ => rfl
  | k + 1, hk => by rw [spareN, closedN, spare_closed hb hl k (by omega), uni_bit hb hl (by omega)]
theorem bef_irr : ∀ a : List Int, befF a a = false
  | [] => rfl
  | x :: a => by rw [befF, if_pos rfl]; exact bef_irr a
theorem bef_trans : ∀ a b c : List Int, befF a b = true → befF b c = true → befF a c = true
  | [], b, [], h, k => by cases b <;> simp [befF] at h k
  | [], _, _ :: _, _, _ => rfl
  | x :: a, [], c, h, _ => by simp [befF] at h
  | x :: a, y :: b, [], _, k => by simp [befF] at k
  | x :: a, y :: b, z :: c, h, k => by
    rw [befF] at h k ⊢
    by_cases h1 : x = y
    · subst h1
      rw [if_pos rfl] at h
      by_cases h2 : x = z
      · rw [if_pos h2] at k ⊢; exact bef_trans a b c h k
      · rw [if_neg h2] at k ⊢; exact k
    · rw [if_neg h1] at h
      have h := of_decide_eq_true h
      by_cases h2 : y = z
      · subst h2
        rw [if_neg h1]; exact decide_eq_true h
      · rw [if_neg h2] at k
        have k := of_decide_eq_true k
        rw [if_neg (by omega)]; exact decide_eq_true (by omega)
def Ahead (a b : List Int) : Prop := a.length < b.length ∨ (a.length = b.length ∧ befF a b = true)
theorem Ahead.irr {a : List Int} : ¬ Ahead a a := fun h => by
  rcases h with h | h
  · omega
  · rw [bef_irr] at h; cases h.2
theorem Ahead.trans {a b c : List Int} (h : Ahead a b) (k : Ahead b c) : Ahead a c := by
  rcases h with h | h <;> rcases k with k | k
  · exact .inl (by omega)
  · exact .inl (by omega)
  · exact .inl (by omega)
  · exact .inr ⟨by omega, bef_trans _ _ _ h.2 k.2⟩
def Win (v : List Int → Cel) (a b : List Int) : Prop := (v a).sp > (v b).sp ∨ ((v a).sp = (v b).sp ∧ ((v a).la < (v b).la ∨ ((v a).la = (v b).la ∧ Ahead a b)))
theorem Win.irr {v : List Int → Cel} {a : List Int} : ¬ Win v a a := fun h => by
  rcases h with h | ⟨_, h | ⟨_, h⟩⟩
  · omega
  · omega
  · exact h.irr
theorem Win.trans {v : List Int → Cel} {a b c : List Int} (h : Win v a b) (k : Win v b c) : Win v a c := by
  rcases h with h | ⟨h1, h | ⟨h2, h⟩⟩ <;> rcases k with k | ⟨k1, k | ⟨k2, k⟩⟩
  · exact .inl (by omega)
  · exact .inl (by omega)
  · exact .inl (by omega)
  · exact .inl (by omega)
  · exact .inr ⟨by omega, .inl (by omega)⟩
  · exact .inr ⟨by omega, .inl (by omega)⟩
  · exact .inl (by omega)
  · exact .inr ⟨by omega, .inl (by omega)⟩
  · exact .inr ⟨by omega, .inr ⟨by omega, h.trans k⟩⟩
structure Top (v : List Int → Cel) (C : List Int → Prop) (s : BSt) : Prop where
  mem : C s.chosen
  sp : s.sp = (v s.chosen).sp
  la : s.la = (v s.chosen).la
  top : ∀ c, C c → ¬ Win v c s.chosen
theorem Top.step {v : List Int → Cel} {C D : List Int → Prop} {s : BSt} {c : List Int} {b : Bool} (h : Top v C s) (hb : b = true ↔ Win v c s.chosen) (hD : ∀ d, D d ↔ C d ∨ d = c) : Top v D (if b then ⟨c, (v c).sp, (v c).la⟩ else s) := by
  cases b with
  | true =>
    have w := hb.1 rfl
    refine ⟨(hD _).2 (.inr rfl), rfl, rfl, fun d hd wd => ?_⟩
    rcases (hD d).1 hd with hd | rfl
    · exact h.top d hd (Win.trans wd w)
    · exact Win.irr wd
  | false =>
    refine ⟨(hD _).2 (.inl h.mem), h.sp, h.la, fun d hd wd => ?_⟩
    rcases (hD d).1 hd with hd | rfl
    · exact h.top d hd wd
    · have := hb.2 wd; cases this
def pStep (v : List Int → Cel) (s : BSt) (c : List Int) : BSt := if better (v c) s then ⟨c, (v c).sp, (v c).la⟩ else s
theorem Top.fold {v : List Int → Cel} : ∀ (L : List (List Int)) {C : List Int → Prop} {s : BSt}, Top v C s → L.Pairwise Ahead → (∀ d, C d → ∀ c ∈ L, Ahead d c) → Top v (fun d => C d ∨ d ∈ L) (L.foldl (pStep v) s)
  | [], C, s, h, _, _ => by
    have e : (fun d => C d ∨ d ∈ ([] : List (List Int))) = C := funext fun d => by simp
    rw [e]; exact h
  | c :: L, C, s, h, hp, ha => by
    obtain ⟨p1, p2⟩ := List.pairwise_cons.1 hp
    have h1 : Top v (fun d => C d ∨ d = c) (pStep v s c) := h.step (by
      have hah : Ahead s.chosen c := ha _ h.mem c (List.mem_cons_self ..)
      unfold better Win
      rw [h.sp, h.la]
      simp only [Bool.or_eq_true, Bool.and_eq_true, decide_eq_true_eq]
      constructor
      · rintro (h | ⟨h1, h2⟩)
        · exact .inl h
        · exact .inr ⟨h1, .inl h2⟩
      · rintro (h | ⟨h1, h2 | ⟨_, h3⟩⟩)
        · exact .inl h
        · exact .inr ⟨h1, h2⟩
        · exact absurd (hah.trans h3) Ahead.irr) fun d => Iff.rfl
    have h2 := Top.fold L h1 p2 fun d hd e he => by
      rcases hd with hd | rfl
      · exact ha d hd e (List.mem_cons_of_mem _ he)
      · exact p1 e he
    rw [List.foldl_cons]
    have e : (fun d => C d ∨ d ∈ c :: L) = fun d => (C d ∨ d = c) ∨ d ∈ L := funext fun d => by simp [or_assoc]
    rw [e]; exact h2
def cmb (n : Nat) : Nat → List Int → List (List Int)
  | 0, l => [l]
  | f + 1, l => ((List.range n).drop (fromB l)).flatMap fun (i : Nat) => cmb n f (l ++ [(i : Int)])
theorem fromB_app (l : List Int) (i : Nat) : fromB (l ++ [(i : Int)]) = i + 1 := by unfold fromB; simp
theorem range_drop_mem {n k i : Nat} : i ∈ (List.range n).drop k ↔ k ≤ i ∧ i < n := by
  rw [List.range_eq_range', List.drop_range', List.mem_range'_1]; omega
theorem cmb_mem (n : Nat) : ∀ (f : Nat) (l c : List Int), c ∈ cmb n f l ↔ ∃ t, c = l ++ t ∧ t.length = f ∧ risingF n ((fromB l : Int) - 1) t = true
  | 0, l, c => by
    rw [cmb, List.mem_singleton]
    constructor
    · rintro rfl; exact ⟨[], by simp, rfl, rfl⟩
    · rintro ⟨t, rfl, h, _⟩
      rw [List.length_eq_zero_iff.1 h]; simp
  | f + 1, l, c => by
    rw [cmb, List.mem_flatMap]
    constructor
    · rintro ⟨i, hi, hc⟩
      rw [cmb_mem n f] at hc
      obtain ⟨t, rfl, h1, h2⟩ := hc
      rw [fromB_app] at h2
      have h3 := range_drop_mem.1 hi
      refine ⟨(i : Int) :: t, by simp, by simp [h1], ?_⟩
      rw [risingF, wi_iff.2 (show (fromB l : Int) - 1 + 1 ≤ (i : Int) ∧ (i : Int) ≤ (n : Int) - 1 by omega)]
      have e : ((i + 1 : Nat) : Int) - 1 = (i : Int) := by omega
      rw [e] at h2; exact h2
    · rintro ⟨t, rfl, h1, h2⟩
      match t, h1 with
      | x :: t, h1 =>
        rw [risingF, c_and, Bool.and_eq_true, wi_iff] at h2
        obtain ⟨i, rfl⟩ : ∃ i : Nat, x = i := ⟨x.toNat, by omega⟩
        refine ⟨i, range_drop_mem.2 (by omega), (cmb_mem n f _ _).2 ⟨t, by simp, by simpa using h1, ?_⟩⟩
        rw [fromB_app]
        have e : ((i + 1 : Nat) : Int) - 1 = (i : Int) := by omega
        rw [e]; exact h2.2
theorem bef_pre : ∀ (l : List Int) {a b : List Int}, befF (l ++ a) (l ++ b) = befF a b
  | [], _, _ => rfl
  | x :: l, a, b => by rw [List.cons_append, List.cons_append, befF, if_pos rfl]; exact bef_pre l
theorem cmb_ahead (n : Nat) : ∀ (f : Nat) (l : List Int), (cmb n f l).Pairwise Ahead
  | 0, l => by rw [cmb]; exact List.pairwise_singleton ..
  | f + 1, l => by
    rw [cmb, List.pairwise_flatMap]
    refine ⟨fun i _ => cmb_ahead n f _, ?_⟩
    have hs : ((List.range n).drop (fromB l)).Pairwise (· < ·) := List.pairwise_lt_range.sublist (List.drop_sublist ..)
    refine hs.imp fun {i j} hij a ha b hb => ?_
    obtain ⟨t, rfl, h1, _⟩ := (cmb_mem n f _ _).1 ha
    obtain ⟨u, rfl, h2, _⟩ := (cmb_mem n f _ _).1 hb
    refine .inr ⟨by simp [h1, h2], ?_⟩
    rw [List.append_assoc, List.append_assoc, bef_pre, List.singleton_append, List.singleton_append, befF, if_neg (by omega)]
    exact decide_eq_true (by omega)
theorem bx_fold (cells : List Cel) (sets : List Int) : ∀ (f : Nat) (l : List Int) (s : BSt), bxF cells sets f l (uniS sets l) s = (cmb sets.length f l).foldl (pStep fun c => spareF cells (uniS sets c)) s
  | 0, l, s => rfl
  | f + 1, l, s => by
    rw [bxF, cmb, List.foldl_flatMap]
    generalize (List.range sets.length).drop (fromB l) = is
    induction is generalizing s with
    | nil => rfl
    | cons i is ih =>
      rw [bxGo, List.foldl_cons]
      have e : ior (uniS sets l) (sets.getD i 0) = uniS sets (l ++ [(i : Int)]) := by unfold uniS; rw [List.foldl_append]; simp
      rw [e, bx_fold cells sets f]
      exact ih _
theorem bxAll_fold (cells : List Cel) (sets : List Int) : ∀ (ms : List Nat) (s : BSt), bxAll cells sets ms s = (ms.flatMap fun m => cmb sets.length m []).foldl (pStep fun c => spareF cells (uniS sets c)) s
  | [], s => rfl
  | m :: ms, s => by
    rw [bxAll, List.flatMap_cons, List.foldl_append, ← bx_fold cells sets m [] s]
    exact bxAll_fold cells sets ms _
def looks (n m : Nat) : List (List Int) := (List.range' 1 m).flatMap fun k => cmb n k []
theorem looks_mem {n m : Nat} {c : List Int} : c ∈ looks n m ↔ risingF n (-1) c = true ∧ 1 ≤ c.length ∧ c.length ≤ m := by
  unfold looks
  rw [List.mem_flatMap]
  constructor
  · rintro ⟨k, hk, hc⟩
    obtain ⟨t, rfl, h1, h2⟩ := (cmb_mem n k [] c).1 hc
    have := List.mem_range'_1.1 hk
    exact ⟨h2, by omega, by omega⟩
  · rintro ⟨h1, h2, h3⟩
    exact ⟨c.length, List.mem_range'_1.2 (by omega), (cmb_mem n _ [] c).2 ⟨c, rfl, rfl, h1⟩⟩
theorem looks_ahead (n m : Nat) : (looks n m).Pairwise Ahead := by
  unfold looks
  rw [List.pairwise_flatMap]
  refine ⟨fun k _ => cmb_ahead n k [], List.Pairwise.imp (fun {i j} hij a ha b hb => ?_) (List.pairwise_lt_range' ..)⟩
  obtain ⟨t, rfl, h1, _⟩ := (cmb_mem n i [] a).1 ha
  obtain ⟨u, rfl, h2, _⟩ := (cmb_mem n j [] b).1 hb
  exact .inl (by simp [h1, h2]; exact hij)
theorem box_top {cells : List Cel} {boxes : List NL} {most : Int} (hm : 0 ≤ most) : Top (fun c => spareF cells (uniS (setsOf boxes) c)) (fun c => risingF boxes.length (-1) c = true ∧ c.length ≤ (min most boxes.length).toNat) (boxF cells boxes most) := by
  have hlen : (setsOf boxes).length = boxes.length := by simp [setsOf]
  unfold boxF
  rw [List.range_eq_range', List.range'_succ, bxAll_fold, hlen, List.flatMap_cons, List.foldl_append]
  have h0 : spareF cells (uniS (setsOf boxes) []) = ⟨0, 0⟩ := spare_zero cells _
  have e0 : (cmb boxes.length 0 []).foldl (pStep fun c => spareF cells (uniS (setsOf boxes) c)) ⟨[], 0, 0⟩ = ⟨[], 0, 0⟩ := by
    rw [cmb, List.foldl_cons, List.foldl_nil, pStep, h0]; rfl
  rw [e0]
  have t0 : Top (fun c => spareF cells (uniS (setsOf boxes) c)) (fun c => c = []) ⟨[], 0, 0⟩ := ⟨rfl, by show (0 : Int) = (spareF cells (uniS (setsOf boxes) [])).sp; rw [h0], by show (0 : Int) = (spareF cells (uniS (setsOf boxes) [])).la; rw [h0], fun c hc => by subst hc; exact Win.irr⟩
  have := Top.fold (looks boxes.length (min most boxes.length).toNat) t0 (looks_ahead _ _) fun d hd c hc => by
    subst hd
    have := looks_mem.1 hc
    exact .inl (by simp only [List.length_nil]; omega)
  have e : (fun c => risingF boxes.length (-1) c = true ∧ c.length ≤ (min most boxes.length).toNat) = fun d => d = [] ∨ d ∈ looks boxes.length (min most boxes.length).toNat := funext fun d => by
    rw [looks_mem, eq_iff_iff]
    constructor
    · rintro ⟨h1, h2⟩
      cases d with
      | nil => exact .inl rfl
      | cons x d => exact .inr ⟨h1, by simp, h2⟩
    · rintro (rfl | h)
      · exact ⟨rfl, Nat.zero_le _⟩
      · exact ⟨h.1, h.2.2⟩
  rw [e]; exact this
def listL (n : Nat) (L : Nat → Bool) : List Int := ((List.range n).filter L).map Int.ofNat
theorem rising_cons {n last i : Int} {l : List Int} : risingF n last (i :: l) = true ↔ (last + 1 ≤ i ∧ i ≤ n - 1) ∧ risingF n i l = true := by
  rw [risingF, c_and, Bool.and_eq_true, wi_iff]
theorem rising_mono {n a b : Int} (h : b ≤ a) : ∀ {l : List Int}, risingF n a l = true → risingF n b l = true
  | [], _ => rfl
  | i :: l, h1 => by
    rw [rising_cons] at *
    exact ⟨⟨by omega, h1.1.2⟩, h1.2⟩
theorem rising_filter (n : Nat) (L : Nat → Bool) : ∀ (c m : Nat), m + c = n → risingF n ((m : Int) - 1) (((List.range' m c).filter L).map Int.ofNat) = true
  | 0, m, _ => rfl
  | c + 1, m, h => by
    have ih := rising_filter n L c (m + 1) (by omega)
    rw [List.range'_succ, List.filter_cons]
    split
    · rw [List.map_cons, rising_cons]
      refine ⟨⟨by simp, by simp; omega⟩, ?_⟩
      have e : (((m + 1 : Nat) : Int) - 1) = Int.ofNat m := by simp
      rw [e] at ih; exact ih
    · exact rising_mono (by omega) ih
theorem rising_list (n : Nat) (L : Nat → Bool) : risingF n (-1) (listL n L) = true := by
  have := rising_filter n L n 0 (by omega)
  unfold listL
  rw [List.range_eq_range']
  exact this
theorem rising_gt {n : Int} : ∀ {l : List Int} {a : Int}, risingF n a l = true → ∀ i ∈ l, a < i ∧ i < n
  | [], _, _, _, h => by cases h
  | x :: l, a, h, i, hi => by
    rw [rising_cons] at h
    rcases List.mem_cons.1 hi with rfl | hi
    · omega
    · have := rising_gt h.2 i hi; omega
theorem memL_rising {n q : Nat} : risingF n (-1) (memL (q : Int) n) = true := rising_list n (bitI q)
end Go.AL.Q

namespace Go.AL.Q
open Go
end Go.AL.Q

namespace Go.AL.Q
open Go
def LeP (a b : List Int) : Prop := a.length = b.length ∧ ∀ i, a.getD i 0 ≤ b.getD i 0
theorem LeP.refl (a : List Int) : LeP a a := ⟨rfl, fun _ => Int.le_refl _⟩
theorem LeP.set {a b : List Int} (h : LeP a b) {i : Nat} {x y : Int} (hi : i < b.length) (hx : x ≤ y) : LeP (a.set i x) (b.set i y) :=
  ⟨by simp [h.1], fun j => by
    have hl := h.1
    rw [getD_set' _ _ _ _ (by omega), getD_set' _ _ _ _ hi]
    split
    · exact hx
    · exact h.2 j⟩
structure PlayIn (r : Rce) (takes recs : List Int) : Prop where
  ok : r.ok = true
  l1 : 1 ≤ takes.length
  l10 : takes.length ≤ 10
  len : recs.length = takes.length
  t : ∀ i, i < takes.length → 0 ≤ takes.getD i 0 ∧ takes.getD i 0 ≤ 100000000
  x : ∀ i, i < takes.length → 0 ≤ recs.getD i 0 ∧ recs.getD i 0 ≤ 100000
theorem PlayIn.of {r : Rce} {takes recs : List Int} (h : playOk r takes recs = true) : PlayIn r takes recs := by
  unfold playOk at h
  have h1 := ac1 h
  have h2 := fun i hi => List.all_eq_true.1 (ac2 h) i (List.mem_range.2 hi)
  unfold playHead at h1
  have a1 := wi_iff.1 (ac2 (ac1 h1))
  have a2 := eq_of_beq (ac2 h1)
  exact ⟨ac1 (ac1 h1), by omega, by omega, by omega, fun i hi => wi_iff.1 (ac1 (h2 i hi)), fun i hi => wi_iff.1 (ac2 (h2 i hi))⟩
theorem LeP.up {l : List Int} {i : Nat} {v : Int} (hi : i < l.length) (h : l.getD i 0 ≤ v) : LeP l (l.set i v) := ⟨by simp, fun j => by
  rw [getD_set' _ _ _ _ hi]
  split
  · rename_i e; subst e; exact h
  · exact Int.le_refl _⟩
theorem LeP.dn {l : List Int} {i : Nat} {v : Int} (hi : i < l.length) (h : v ≤ l.getD i 0) : LeP (l.set i v) l := ⟨by simp, fun j => by
  rw [getD_set' _ _ _ _ hi]
  split
  · rename_i e; subst e; exact h
  · exact Int.le_refl _⟩
end Go.AL.Q

namespace Go.AL.Q
open Go
def Fish.brk (f : Fish) (q : Int) (y r s : Nat) : Bool := decide ((f.spawns r s q).getD y 0 < (f.race r).line)
end Go.AL.Q

namespace Go.AL.Q
open Go
def sumM (cells : List Cel) (met : List Bool) : Nat → Cel
  | 0 => ⟨0, 0⟩
  | k + 1 => if met.getD k false then ⟨(sumM cells met k).sp + (cells.getD k ⟨0, 0⟩).sp, (sumM cells met k).la + (cells.getD k ⟨0, 0⟩).la⟩ else sumM cells met k
theorem getB_set {l : List Bool} {i j : Nat} {v : Bool} (hi : i < l.length) : (l.set i v).getD j false = if i = j then v else l.getD j false := by
  simp only [List.getD_eq_getElem?_getD, List.getElem?_set]
  split
  · rename_i e; subst e; simp [hi]
  · rfl
theorem sumM_set_lt {cells : List Cel} {met : List Bool} {c : Nat} (hc : c < met.length) : ∀ k, k ≤ c → sumM cells (met.set c true) k = sumM cells met k
  | 0, _ => rfl
  | k + 1, h => by rw [sumM, sumM, sumM_set_lt hc k (by omega), getB_set hc, if_neg (show ¬ c = k by omega)]
theorem sumM_set {cells : List Cel} {met : List Bool} {c : Nat} (hc : c < met.length) (h0 : met.getD c false = false) : ∀ k, c < k → sumM cells (met.set c true) k = ⟨(sumM cells met k).sp + (cells.getD c ⟨0, 0⟩).sp, (sumM cells met k).la + (cells.getD c ⟨0, 0⟩).la⟩
  | 0, h => by omega
  | k + 1, h => by
    rw [sumM, sumM, getB_set hc]
    by_cases e : c = k
    · subst e
      rw [if_pos rfl, if_pos rfl, h0, sumM_set_lt hc c (Nat.le_refl _)]; rfl
    · rw [if_neg e, sumM_set hc h0 k (by omega)]
      split
      · simp only [Cel.mk.injEq]; omega
      · rfl
theorem sumM_closed {cells : List Cel} {boxes : List NL} {l : List Int} {met : List Bool} : ∀ k, (∀ i, i < k → met.getD i false = inBox boxes l i) → sumM cells met k = closedN cells boxes l k
  | 0, _ => rfl
  | k + 1, h => by rw [sumM, closedN, h k (by omega), sumM_closed k fun i hi => h i (by omega)]
theorem sumM_bd {cells : List Cel} (h : CelsIn cells) (met : List Bool) : ∀ k, (0 ≤ (sumM cells met k).sp ∧ (sumM cells met k).sp ≤ 10000 * k) ∧ 0 ≤ (sumM cells met k).la ∧ (sumM cells met k).la ≤ 10000 * k
  | 0 => by simp [sumM]
  | k + 1 => by
    have h1 := sumM_bd h met k
    have h2 := h.at k
    rw [sumM]
    split
    · simp only; omega
    · omega
structure Met (N : Nat) (boxes : List NL) (l : List Int) (i : Nat) (bx : List Int) (j : Nat) (met : List Bool) : Prop where
  len : met.length = N
  is : ∀ k, k < N → met.getD k false = (inBox boxes (l.take i) k || (bx.take j).contains (k : Int))
theorem Met.zero (N : Nat) (boxes : List NL) (l : List Int) : Met N boxes l 0 [] 0 (List.replicate N false) := ⟨by simp, fun k hk => by
  simp [inBox, List.getD_eq_getElem?_getD, hk]⟩
theorem Met.start {N : Nat} {boxes : List NL} {l : List Int} {i : Nat} {met : List Bool} (h : Met N boxes l i [] 0 met) (bx : List Int) : Met N boxes l i bx 0 met := ⟨h.len, fun k hk => by rw [h.is k hk]; simp⟩
theorem Met.old {N : Nat} {boxes : List NL} {l : List Int} {i : Nat} {bx : List Int} {j c : Nat} {met : List Bool} (h : Met N boxes l i bx j met) (hj : j < bx.length) (hc : bx[j] = (c : Int)) (hcN : c < N) (hm : met.getD c false = true) : Met N boxes l i bx (j + 1) met := ⟨h.len, fun k hk => by
  rw [h.is k hk, List.take_succ_eq_append_getElem hj, hc]
  by_cases e : k = c
  · subst e; rw [← h.is k hk, hm]; simp
  · have e2 : ¬ (k : Int) = (c : Int) := by omega
    simp [e2]⟩
theorem Met.new {N : Nat} {boxes : List NL} {l : List Int} {i : Nat} {bx : List Int} {j c : Nat} {met : List Bool} (h : Met N boxes l i bx j met) (hj : j < bx.length) (hc : bx[j] = (c : Int)) (hcN : c < N) : Met N boxes l i bx (j + 1) (met.set c true) := ⟨by simp [h.len], fun k hk => by
  rw [getB_set (by rw [h.len]; exact hcN), List.take_succ_eq_append_getElem hj, hc]
  by_cases e : c = k
  · subst e; rw [if_pos rfl]; simp
  · rw [if_neg e, h.is k hk]
    have e2 : ¬ (k : Int) = (c : Int) := by omega
    simp [e2]⟩
theorem Met.done {N : Nat} {boxes : List NL} {l : List Int} {i : Nat} (hi : i < l.length) {met : List Bool} (h : Met N boxes l i (boxes.getD l[i].toNat ⟨false, []⟩).l (boxes.getD l[i].toNat ⟨false, []⟩).l.length met) : Met N boxes l (i + 1) [] 0 met := ⟨h.len, fun k hk => by
  rw [h.is k hk, List.take_length]
  unfold inBox
  rw [any_take_succ hi]; simp⟩
theorem box_best {cells : List Cel} {boxes : List NL} {most : Int} (hc : cells.length ≤ 12) (hm : 0 ≤ most) (hb : ∀ b ∈ boxes, ∀ c ∈ b.l, 0 ≤ c ∧ c < 12) :
    Top (closedF cells boxes) (fun c => risingF boxes.length (-1) c = true ∧ c.length ≤ (min most boxes.length).toNat) (boxF cells boxes most) := by
  have t1 := box_top (cells := cells) (boxes := boxes) hm
  have val : ∀ c, risingF boxes.length (-1) c = true → spareF cells (uniS (setsOf boxes) c) = closedF cells boxes c := fun c h => by
    refine spare_closed hb (fun i hi => ?_) _ hc
    have := rising_gt h i hi; omega
  refine ⟨t1.mem, by rw [← val _ t1.mem.1]; exact t1.sp, by rw [← val _ t1.mem.1]; exact t1.la, fun c h w => t1.top c h ?_⟩
  unfold Win at w ⊢
  simp only [val c h.1, val _ t1.mem.1]
  exact w
theorem rising_take {n : Int} : ∀ {l : List Int} {a : Int} (k : Nat), risingF n a l = true → risingF n a (l.take k) = true
  | _, _, 0, _ => rfl
  | [], _, k + 1, _ => rfl
  | x :: l, a, k + 1, h => by
    rw [rising_cons] at h
    rw [List.take_succ_cons, rising_cons]
    exact ⟨h.1, rising_take k h.2⟩
end Go.AL.Q

namespace Go.AL.Q
open Go
end Go.AL.Q

namespace Go.AL.Q
open Go
end Go.AL.Q

namespace Go.AL.Q
open Go
structure Found (f : Fish) (q : Int) (y r s : Nat) : Prop where
  hy : y < f.years
  hr : r < f.many
  hs : s < f.seasons.length
  hb : f.brk q y r s = true
  before : ∀ y', y' < y → ∀ r', r' < f.many → ∀ s', s' < f.seasons.length → f.brk q y' r' s' = false
  races : ∀ r', r' < r → ∀ s', s' < f.seasons.length → f.brk q y r' s' = false
  seas : ∀ s', s' < s → f.brk q y r s' = false
end Go.AL.Q

set_option maxRecDepth 100000
namespace Go.Proofs.Ytdiclbgklegelaa
open Go Go.AL Go.AL.Q Go.ChangeShapes Go.WideShapes Go.ChangeAt Go.RowKit
section
variable {H : Type} {enc : TypeId × Value → H} {w : World} {base : Nat} {spare : Nat → Bool} {held : Bool} {φ : Names}
end
end Go.Proofs.Ytdiclbgklegelaa

set_option maxRecDepth 100000
namespace Go.Proofs.Ytdiclbgklegelaa
open Go Go.AL Go.AL.Q Go.ChangeShapes Go.WideShapes Go.ChangeAt Go.RowKit
theorem t54 : Try.prog.readableRec 54 = true ∧ 54 < Try.prog.types.size := ty_ok (by kernel_rfl) (by kernel_rfl)
theorem t55 : Try.prog.readableRec 55 = true ∧ 55 < Try.prog.types.size := ty_ok (by kernel_rfl) (by kernel_rfl)
theorem u54 : Try.prog.underlying 54 = some (.slice 122) := by kernel_rfl
theorem u55 : Try.prog.underlying 55 = some (.slice 37) := by kernel_rfl
theorem u122 : Try.prog.underlying 122 = some (.struct #[fld "Spawners" 3 0 0, fld "Landings" 3 1 8]) := by kernel_rfl
theorem c122 : Try.prog.cellsOf 122 = 2 := by kernel_rfl
theorem by37 : Try.prog.bytesOf 37 = 24 := by kernel_rfl
theorem by122 : Try.prog.bytesOf 122 = 16 := by kernel_rfl
theorem fit_len {n k : Nat} (h : n * k ≤ reachBytes) (hk : 1 ≤ k) : (n : Int) ≤ 9223372036854775806 := by
  have h3 : n ≤ n * k := Nat.le_mul_of_pos_right _ hk
  have h5 : reachBytes = 140737488351232 := by decide
  omega
section
variable {H : Type} {enc : TypeId × Value → H} {w : World} {base : Nat} {held : Bool} {φ : Names}
theorem r3 : Reads enc Try.prog w base held φ 3 1 (fun n : Int => [A.int n]) fun _ => True := .int u3
theorem rdInts : Reads enc Try.prog w base held φ 37 1 NL.c nlFit := by
  have key := Reads.slice (enc := enc) (w := w) (base := base) (held := held) (φ := φ) u37 c3 (by decide) r3
  exact key.imp fun x h => ⟨⟨x.1, x.2⟩, fit_len h.2 (by rw [by3]; decide), rfl⟩
theorem rdCel : Reads enc Try.prog w base held φ 122 2 Cel.c (fun _ => True) := by
  have key := Reads.struct (enc := enc) (w := w) (base := base) (held := held) (φ := φ) u122 c122 (Flds.cons (f := fld "Spawners" 3 0 0) rfl c3 r3 (Flds.cons (f := fld "Landings" 3 1 8) rfl c3 r3 (Flds.nil _))) rfl rfl
  exact key.imp fun x _ => ⟨⟨x.1, x.2.1⟩, trivial, rfl⟩
theorem rdRow : Reads enc Try.prog w base held φ 55 1 NR.c (fun s => (s.l.length : Int) ≤ 5900000000000 ∧ ∀ l ∈ s.l, nlFit l) := by
  have key := Reads.slice (enc := enc) (w := w) (base := base) (held := held) (φ := φ) u55 c37 (by decide) rdInts
  exact key.imp fun x h => ⟨⟨x.1, x.2⟩, ⟨by
    have := h.2; rw [by37] at this
    have h5 : reachBytes = 140737488351232 := by decide
    show (x.2.length : Int) ≤ _
    omega, h.1⟩, rfl⟩
variable {v : Value} {d : DataW H} {p : List MemPlace} {r : Reach} {b0 : Nat}
theorem arg_cels (hok : Value.okWide Try.prog w r b0 54 v) (h : DataW.Trod enc Try.prog w base (fun _ => true) held 54 v d p) (hw : ∀ k ∈ d.weights Try.prog 54, k ≤ reachBytes) :
    ∃ (b : Bool) (l : List Cel), VR φ (allZ w) w (.sl b .any (l.map Cel.c)) v ∧ (l.length : Int) ≤ 9223372036854775806 := by
  obtain ⟨x, q, e⟩ := (Reads.slice (φ := φ) u54 c122 (by decide) rdCel).arg_slice u54 hok h hw
  exact ⟨x.1, x.2, e, fit_len q.2 (by rw [by122]; decide)⟩
theorem arg_boxes (hok : Value.okWide Try.prog w r b0 55 v) (h : DataW.Trod enc Try.prog w base (fun _ => true) held 55 v d p) (hw : ∀ k ∈ d.weights Try.prog 55, k ≤ reachBytes) :
    ∃ (b : Bool) (l : List NL), VR φ (allZ w) w (.sl b .any (l.map NL.c)) v ∧ (l.length : Int) ≤ 5900000000000 ∧ ∀ x ∈ l, nlFit x := by
  obtain ⟨x, q, e⟩ := (rdRow (φ := φ)).arg_slice u55 hok h hw
  exact ⟨x.n, x.l, e, q.1, q.2⟩
end
end Go.Proofs.Ytdiclbgklegelaa

namespace Go.Proofs.Ytdiclbgklegelaa
open Go Go.AL Go.AL.Q
theorem bit_t (n k : Int) (h : 0 ≤ k) : Ans Try.prog 85 [.int n, .int k] (.bool (iand (n.fdiv (2 ^ (min k.toNat 64))) 1 == 1)) := by
  refine told Try.func85 rfl rfl (Pure.of tab_ok Try.func85 rfl Try.ntmps85 rfl (allC (.s _) (all1 (.s _))) (allC (fun _ => rfl) (all1 (fun _ => rfl))) (by first | exact .s _ | assumption | exact .tup _ (by intro x hx; simp only [List.mem_cons, List.not_mem_nil, or_false] at hx; rcases hx with rfl | rfl | rfl | rfl <;> first | exact .s _ | (simp_all; done))) fun E hE => ?_)
  refine Aw.sm tab_ok mb0 [] rfl rfl ?zo ?zk
  case zo =>
    repeat' apply AllP.cons
    all_goals first | exact trivial | exact id | exact rfl | exact fun _ => rfl | exact Nat.le_of_ble_eq_true rfl | exact fun _ => Nat.le_of_ble_eq_true rfl | exact Int.natCast_nonneg _ | exact fun _ => Int.natCast_nonneg _ | exact in_t _ _ _ | exact (in_t _ _ _).un
  case zk =>
  refine Aw.sm tab_ok mb0 [] rfl rfl ?zo ?zk
  case zo =>
    repeat' apply AllP.cons
    all_goals first | exact trivial | exact id | exact rfl | exact fun _ => rfl | exact Nat.le_of_ble_eq_true rfl | exact fun _ => Nat.le_of_ble_eq_true rfl | exact Int.natCast_nonneg _ | exact fun _ => Int.natCast_nonneg _ | exact in_t _ _ _ | exact (in_t _ _ _).un | exact h
  case zk =>
  exact Aw.ret ⟨_, .cons (.tmp _) .nil, rfl⟩
theorem members_t (s : Int) (n : Nat) (hn : n ≤ 1000) : Ans Try.prog 51 [.int s, .int n] (outA (memL s n)) := by
  have hfr := outA_free (memL s n)
  refine told Try.func51 rfl rfl (Pure.of tab_ok Try.func51 rfl Try.ntmps51 rfl (allC (.s _) (all1 (.s _))) (allC (fun _ => rfl) (all1 (fun _ => rfl))) (by first | exact .s _ | assumption | exact .tup _ (by intro x hx; simp only [List.mem_cons, List.not_mem_nil, or_false] at hx; rcases hx with rfl | rfl | rfl | rfl <;> first | exact .s _ | (simp_all; done))) fun E hE => ?_)
  refine Aw.sm tab_ok mb0 [] rfl rfl ?zo ?zk
  case zo =>
    repeat' apply AllP.cons
    all_goals first | exact trivial | exact id | exact rfl | exact fun _ => rfl | exact Nat.le_of_ble_eq_true rfl | exact fun _ => Nat.le_of_ble_eq_true rfl | exact Int.natCast_nonneg _ | exact fun _ => Int.natCast_nonneg _ | exact in_t _ _ _ | exact (in_t _ _ _).un
  case zk =>
  refine Aw.sm tab_ok mb0 [] rfl rfl ?zo ?zk
  case zo =>
    repeat' apply AllP.cons
    all_goals first | exact trivial | exact id | exact rfl | exact fun _ => rfl | exact Nat.le_of_ble_eq_true rfl | exact fun _ => Nat.le_of_ble_eq_true rfl | exact Int.natCast_nonneg _ | exact fun _ => Int.natCast_nonneg _ | exact in_t _ _ _ | exact (in_t _ _ _).un
  case zk =>
  refine Aw.seq ?_
  refine Aw.sm tab_ok mb0 [] rfl rfl ?zo ?zk
  case zo =>
    repeat' apply AllP.cons
    all_goals first | exact trivial | exact id | exact rfl | exact fun _ => rfl | exact Nat.le_of_ble_eq_true rfl | exact fun _ => Nat.le_of_ble_eq_true rfl | exact Int.natCast_nonneg _ | exact fun _ => Int.natCast_nonneg _ | exact in_t _ _ _ | exact (in_t _ _ _).un
  case zk =>
  refine Aw.block (Aw.rounds 0 hE [(0, .int s), (1, .int n)] (fun k : Nat => [(5, grL 3 (memL s k)), (6, .int k)]) (fun _ => []) (fun k => k ≤ n) (fun k => n - k) 0
    (Nat.zero_le _) ⟨⟨.refl _, .refl _, trivial⟩, ⟨.refl _, .refl _, trivial⟩, trivial, Nat.le_refl _⟩ ⟨.s _, .s _, trivial⟩ (fun _ _ => ⟨grL_under _, .s _, trivial⟩) (fun _ _ => trivial) fun k hk => ?_)
  refine Aw.seq ?_
  refine Aw.sm tab_ok mb0 [] rfl rfl ?zo ?zk
  case zo =>
    repeat' apply AllP.cons
    all_goals first | exact trivial | exact id | exact rfl | exact fun _ => rfl | exact Nat.le_of_ble_eq_true rfl | exact fun _ => Nat.le_of_ble_eq_true rfl | exact Int.natCast_nonneg _ | exact fun _ => Int.natCast_nonneg _ | exact in_t _ _ _ | exact (in_t _ _ _).un
  case zk =>
  refine Aw.cond rfl (fun h1 => Aw.skip ?_) (fun h1 => ?_)
  · have hlt : k < n := by have := of_decide_eq_true h1; omega
    refine Aw.seq (Aw.block ?_)
    refine Aw.sm tab_ok mb0 [(2, [.bool (bitI s k)])] rfl rfl ?zo ?zk
    case zo =>
      repeat' apply AllP.cons
      all_goals first | exact trivial | exact id | exact rfl | exact fun _ => rfl | exact Nat.le_of_ble_eq_true rfl | exact fun _ => Nat.le_of_ble_eq_true rfl | exact Int.natCast_nonneg _ | exact fun _ => Int.natCast_nonneg _ | exact in_t _ _ _ | exact (in_t _ _ _).un | exact bit_t s k (by omega)
    case zk =>
    refine Aw.cond rfl (fun h2 => ?_) (fun h2 => Aw.skip ?_)
    · have h2' : bitI s k = true := h2
      have e : memL s (k + 1) = memL s k ++ [(k : Int)] := by rw [memL_succ, if_pos h2']
      have hlen := memL_len s k
      cases hm : memL s k with
      | nil =>
        rw [hm] at e
        refine Aw.em tab_ok mb0 [] rfl rfl ?zo ?zk
        case zo =>
          repeat' apply AllP.cons
          all_goals first | exact trivial | exact id | exact rfl | exact fun _ => rfl | exact Nat.le_of_ble_eq_true rfl | exact fun _ => Nat.le_of_ble_eq_true rfl | exact Int.natCast_nonneg _ | exact fun _ => Int.natCast_nonneg _ | exact in_t _ _ _ | exact (in_t _ _ _).un | exact (show ∀ z ∈ [] ++ [[A.int _]], z.length = 1 from fun z hz => by simp at hz; subst hz; rfl) | exact (by simp only [Ob.of]; decide)
        case zk =>
        refine Aw.em tab_ok mb0 [] rfl rfl ?zo ?zk
        case zo =>
          repeat' apply AllP.cons
          all_goals first | exact trivial | exact id | exact rfl | exact fun _ => rfl | exact Nat.le_of_ble_eq_true rfl | exact fun _ => Nat.le_of_ble_eq_true rfl | exact Int.natCast_nonneg _ | exact fun _ => Int.natCast_nonneg _ | exact in_t _ _ _ | exact (in_t _ _ _).un | exact inrk k (by omega)
        case zk =>
        exact ⟨k + 1, hlt, by omega, ⟨.refl _, .refl _, trivial⟩, ⟨.of_eq (by rw [e]; rfl), .refl _, trivial⟩, trivial, Nat.le_of_ble_eq_true rfl⟩
      | cons x l =>
        rw [hm] at e hlen
        have hlen2 : (ints (x :: l)).length ≤ k := by simp only [ints, List.length_map]; exact hlen
        have hz : ∀ z ∈ ints (x :: l), z.length = 1 := fun z hz => by obtain ⟨i, _, rfl⟩ := List.mem_map.1 hz; rfl
        refine Aw.em tab_ok mb0 [] rfl rfl ?zo ?zk
        case zo =>
          repeat' apply AllP.cons
          all_goals first | exact trivial | exact id | exact rfl | exact fun _ => rfl | exact Nat.le_of_ble_eq_true rfl | exact fun _ => Nat.le_of_ble_eq_true rfl | exact Int.natCast_nonneg _ | exact fun _ => Int.natCast_nonneg _ | exact in_t _ _ _ | exact (in_t _ _ _).un | exact (show ∀ z ∈ [[A.int _]], z.length = 1 from fun z hz => by simp at hz; subst hz; rfl) | exact hz | exact (show ((ints (x :: l)).length + 1) * 8 ≤ 140737488355328 by omega) | exact (show (ints (x :: l)).length + 1 ≤ maxLen by unfold maxLen; omega)
        case zk =>
        refine Aw.em tab_ok mb0 [] rfl rfl ?zo ?zk
        case zo =>
          repeat' apply AllP.cons
          all_goals first | exact trivial | exact id | exact rfl | exact fun _ => rfl | exact Nat.le_of_ble_eq_true rfl | exact fun _ => Nat.le_of_ble_eq_true rfl | exact Int.natCast_nonneg _ | exact fun _ => Int.natCast_nonneg _ | exact in_t _ _ _ | exact (in_t _ _ _).un | exact inrk k (by omega)
        case zk =>
        exact ⟨k + 1, hlt, by omega, ⟨.refl _, .refl _, trivial⟩, ⟨.of_eq (by rw [e]; show grL 3 ((x :: l) ++ [(k : Int)]) = A.sl false (.own 3) (ints (x :: l) ++ [[A.int k]]); simp [grL, ints]), .refl _, trivial⟩, trivial, Nat.le_of_ble_eq_true rfl⟩
    · have h2' : bitI s k = false := h2
      have e : memL s (k + 1) = memL s k := by rw [memL_succ, h2']; rfl
      refine Aw.em tab_ok mb0 [] rfl rfl ?zo ?zk
      case zo =>
        repeat' apply AllP.cons
        all_goals first | exact trivial | exact id | exact rfl | exact fun _ => rfl | exact Nat.le_of_ble_eq_true rfl | exact fun _ => Nat.le_of_ble_eq_true rfl | exact Int.natCast_nonneg _ | exact fun _ => Int.natCast_nonneg _ | exact in_t _ _ _ | exact (in_t _ _ _).un | exact inrk k (by omega)
      case zk =>
      exact ⟨k + 1, hlt, by omega, ⟨.refl _, .refl _, trivial⟩, ⟨.of_eq (by rw [e]; rfl), .refl _, trivial⟩, trivial, Nat.le_of_ble_eq_true rfl⟩
  · have hle : k = n := by have := of_decide_eq_false h1; omega
    subst hle
    refine Aw.exit2 ?_
    cases hm : memL s k with
    | nil =>
      refine Aw.sm tab_ok mb0 [] rfl rfl ?zo ?zk
      case zo =>
        repeat' apply AllP.cons
        all_goals first | exact trivial | exact id | exact rfl | exact fun _ => rfl | exact Nat.le_of_ble_eq_true rfl | exact fun _ => Nat.le_of_ble_eq_true rfl | exact Int.natCast_nonneg _ | exact fun _ => Int.natCast_nonneg _ | exact in_t _ _ _ | exact (in_t _ _ _).un
      case zk =>
      exact Aw.ret ⟨_, .cons (.tmp _) .nil, rfl⟩
    | cons x l =>
      refine Aw.sm tab_ok mb0 [] rfl rfl ?zo ?zk
      case zo =>
        repeat' apply AllP.cons
        all_goals first | exact trivial | exact id | exact rfl | exact fun _ => rfl | exact Nat.le_of_ble_eq_true rfl | exact fun _ => Nat.le_of_ble_eq_true rfl | exact Int.natCast_nonneg _ | exact fun _ => Int.natCast_nonneg _ | exact in_t _ _ _ | exact (in_t _ _ _).un
      case zk =>
      exact Aw.ret ⟨_, .cons (.tmp _) .nil, rfl⟩
theorem rising_t (l : List Int) (b : Bool) (n : Int) (hl : (l.length : Int) ≤ 9223372036854775807) (hn : 0 ≤ n ∧ n ≤ 1000) : Ans Try.prog 49 [.sl b .any (ints l), .int n] (.bool (risingF n (-1) l)) := by
  have li : ((ints l).length : Int) = l.length := by simp [ints]
  refine told Try.func49 rfl rfl (Pure.of tab_ok Try.func49 rfl Try.ntmps49 rfl (allC (free_ints _ _ _) (all1 (.s _))) (allC (fun _ => rfl) (all1 (fun _ => rfl))) (by first | exact .s _ | assumption | exact .tup _ (by intro x hx; simp only [List.mem_cons, List.not_mem_nil, or_false] at hx; rcases hx with rfl | rfl | rfl | rfl <;> first | exact .s _ | (simp_all; done))) fun E hE => ?_)
  refine Aw.sm tab_ok mb0 [] rfl rfl ?zo ?zk
  case zo =>
    repeat' apply AllP.cons
    all_goals first | exact trivial | exact id | exact rfl | exact fun _ => rfl | exact Nat.le_of_ble_eq_true rfl | exact fun _ => Nat.le_of_ble_eq_true rfl | exact Int.natCast_nonneg _ | exact fun _ => Int.natCast_nonneg _ | exact in_t _ _ _ | exact (in_t _ _ _).un
  case zk =>
  refine Aw.seq ?_
  refine Aw.sm tab_ok mb0 [] rfl rfl ?zo ?zk
  case zo =>
    repeat' apply AllP.cons
    all_goals first | exact trivial | exact id | exact rfl | exact fun _ => rfl | exact Nat.le_of_ble_eq_true rfl | exact fun _ => Nat.le_of_ble_eq_true rfl | exact Int.natCast_nonneg _ | exact fun _ => Int.natCast_nonneg _ | exact in_t _ _ _ | exact (in_t _ _ _).un
  case zk =>
  refine Aw.block (Aw.rounds 0 hE [(0, .sl b .any (ints l)), (1, .int n)] (fun k : Nat => [(5, .int k)]) (fun _ => []) (fun k => k ≤ l.length ∧ -1 ≤ prevI l k ∧ risingF n (-1) l = risingF n (prevI l k) (l.drop k)) (fun k => l.length - k) 0
    ⟨Nat.zero_le _, Int.le_refl _, rfl⟩ ⟨⟨.refl _, .refl _, trivial⟩, ⟨.refl _, trivial⟩, trivial, Nat.le_refl _⟩ ⟨(free_ints _ _ _).under, .s _, trivial⟩ (fun _ _ => ⟨.s _, trivial⟩) (fun _ _ => trivial) fun k hk => ?_)
  obtain ⟨hk, hp, hr⟩ := hk
  refine Aw.seq ?_
  refine Aw.sm tab_ok mb0 [] rfl rfl ?zo ?zk
  case zo =>
    repeat' apply AllP.cons
    all_goals first | exact trivial | exact id | exact rfl | exact fun _ => rfl | exact Nat.le_of_ble_eq_true rfl | exact fun _ => Nat.le_of_ble_eq_true rfl | exact Int.natCast_nonneg _ | exact fun _ => Int.natCast_nonneg _ | exact in_t _ _ _ | exact (in_t _ _ _).un
  case zk =>
  refine Aw.cond rfl (fun h1 => Aw.skip ?_) (fun h1 => ?_)
  · have hlt : k < l.length := by have := of_decide_eq_true h1; omega
    have hd : l.drop k = l[k] :: l.drop (k + 1) := List.drop_eq_getElem_cons hlt
    rw [hd, risingF] at hr
    have hpk : ∀ h : 0 < k, (ints l)[((k : Int) - 1).toNat]? = some [.int (prevI l k)] := fun h => by
      obtain ⟨j, rfl⟩ : ∃ j, k = j + 1 := ⟨k - 1, by omega⟩
      have : (((j + 1 : Nat) : Int) - 1).toNat = j := by omega
      rw [this, ints_get (by omega)]
      simp [prevI, List.getD_eq_getElem?_getD, show j < l.length by omega]
    refine Aw.seq (Aw.block ?_)
    have hk0 : ∀ {a : Bool}, cond a (gq (decide ((k : Int) > 0)) true) false = true → 0 < k := fun h => by
      have := of_decide_eq_true (gq_c2 h).2; omega
    refine Aw.sd tab_ok mixed mb0 [(2, [.int l[k]]), (6, [.bool (wi l[k] 0 (n - 1))]), (14, [.int l[k]]), (19, [.int (prevI l k)])] rfl (by kernel_rfl) rfl rfl ?zo ?zk
    case zo =>
      repeat' apply AllP.cons
      all_goals first | exact trivial | exact id | exact rfl | exact fun _ => rfl | exact Nat.le_of_ble_eq_true rfl | exact fun _ => Nat.le_of_ble_eq_true rfl | exact Int.natCast_nonneg _ | exact fun _ => Int.natCast_nonneg _ | exact in_t _ _ _ | exact (in_t _ _ _).un | exact ints_get hlt | exact fun _ => ints_get hlt | exact (by simp only [Ob.of, inR]; omega) | exact fun _ => (by simp only [Ob.of, inR]; omega) | exact gq_f | exact gq_t | exact gq_c | exact fun _ _ => rfl | exact fun h => hpk (hk0 h) | exact fun h => (show (0 : Int) ≤ (k : Int) - 1 by have := hk0 h; omega)
    case zk =>
    refine Aw.cond rfl (fun h2 => ?_) (fun h2 => Aw.skip ?_)
    · have h2 : cond (!wi l[k] 0 (n - 1)) true (cond (decide ((k : Int) > 0)) (decide (l[k] ≤ prevI l k)) false) = true := h2
      have hno : wi l[k] (prevI l k + 1) (n - 1) = false := by
        cases e : wi l[k] (prevI l k + 1) (n - 1) with
        | false => rfl
        | true =>
          have h3 := wi_iff.1 e
          rw [wi_iff.2 (show 0 ≤ l[k] ∧ l[k] ≤ n - 1 by omega), decide_eq_false (show ¬ l[k] ≤ prevI l k by omega)] at h2
          cases h4 : decide ((k : Int) > 0) <;> rw [h4] at h2 <;> cases h2
      rw [hno] at hr
      refine Aw.sm tab_ok mb0 [] rfl rfl ?zo ?zk
      case zo =>
        repeat' apply AllP.cons
        all_goals first | exact trivial | exact id | exact rfl | exact fun _ => rfl | exact Nat.le_of_ble_eq_true rfl | exact fun _ => Nat.le_of_ble_eq_true rfl | exact Int.natCast_nonneg _ | exact fun _ => Int.natCast_nonneg _ | exact in_t _ _ _ | exact (in_t _ _ _).un
      case zk =>
      exact Aw.ret ⟨_, .cons (.tmp _) .nil, congrArg A.bool hr.symm⟩
    · have h2 : cond (!wi l[k] 0 (n - 1)) true (cond (decide ((k : Int) > 0)) (decide (l[k] ≤ prevI l k)) false) = false := h2
      have h3 : wi l[k] 0 (n - 1) = true := by
        cases e : wi l[k] 0 (n - 1) with
        | true => rfl
        | false => rw [e] at h2; cases h2
      have h4 := wi_iff.1 h3
      have hyes : wi l[k] (prevI l k + 1) (n - 1) = true := by
        refine wi_iff.2 ⟨?_, h4.2⟩
        cases k with
        | zero => show -1 + 1 ≤ _; omega
        | succ j =>
          rw [h3, decide_eq_true (show (((j + 1 : Nat) : Int) > 0) by omega)] at h2
          have := of_decide_eq_false (show decide (l[j + 1] ≤ prevI l (j + 1)) = false from h2)
          omega
      rw [hyes] at hr
      refine Aw.em tab_ok mb0 [] rfl rfl ?zo ?zk
      case zo =>
        repeat' apply AllP.cons
        all_goals first | exact trivial | exact id | exact rfl | exact fun _ => rfl | exact Nat.le_of_ble_eq_true rfl | exact fun _ => Nat.le_of_ble_eq_true rfl | exact Int.natCast_nonneg _ | exact fun _ => Int.natCast_nonneg _ | exact in_t _ _ _ | exact (in_t _ _ _).un | exact (by simp only [Ob.of, inR]; omega)
      case zk =>
      have hpn : prevI l (k + 1) = l[k] := by simp [prevI, List.getD_eq_getElem?_getD, hlt]
      exact ⟨k + 1, ⟨hlt, by rw [hpn]; omega, by rw [hpn]; exact hr⟩, by omega, ⟨.refl _, .refl _, trivial⟩, ⟨.refl _, trivial⟩, trivial, Nat.zero_le _⟩
  · have hle : k = l.length := by have := of_decide_eq_false h1; omega
    subst hle
    rw [List.drop_length, risingF] at hr
    refine Aw.exit2 ?_
    refine Aw.sm tab_ok mb0 [] rfl rfl ?zo ?zk
    case zo =>
      repeat' apply AllP.cons
      all_goals first | exact trivial | exact id | exact rfl | exact fun _ => rfl | exact Nat.le_of_ble_eq_true rfl | exact fun _ => Nat.le_of_ble_eq_true rfl | exact Int.natCast_nonneg _ | exact fun _ => Int.natCast_nonneg _ | exact in_t _ _ _ | exact (in_t _ _ _).un
    case zk =>
    exact Aw.ret ⟨_, .cons (.tmp _) .nil, congrArg A.bool hr.symm⟩
theorem before_t (a b : List Int) (n m : Bool) (ha : (a.length : Int) ≤ 9223372036854775807) (hb : (b.length : Int) ≤ 9223372036854775807) : Ans Try.prog 52 [.sl n .any (ints a), .sl m .any (ints b)] (.bool (befF a b)) := by
  have la : ((ints a).length : Int) = a.length := by simp [ints]
  have lb : ((ints b).length : Int) = b.length := by simp [ints]
  refine told Try.func52 rfl rfl (Pure.of tab_ok Try.func52 rfl Try.ntmps52 rfl (allC (free_ints _ _ _) (all1 (free_ints _ _ _))) (allC (fun _ => rfl) (all1 (fun _ => rfl))) (by first | exact .s _ | assumption | exact .tup _ (by intro x hx; simp only [List.mem_cons, List.not_mem_nil, or_false] at hx; rcases hx with rfl | rfl | rfl | rfl <;> first | exact .s _ | (simp_all; done))) fun E hE => ?_)
  refine Aw.sm tab_ok mb0 [] rfl rfl ?zo ?zk
  case zo =>
    repeat' apply AllP.cons
    all_goals first | exact trivial | exact id | exact rfl | exact fun _ => rfl | exact Nat.le_of_ble_eq_true rfl | exact fun _ => Nat.le_of_ble_eq_true rfl | exact Int.natCast_nonneg _ | exact fun _ => Int.natCast_nonneg _ | exact in_t _ _ _ | exact (in_t _ _ _).un
  case zk =>
  refine Aw.seq ?_
  refine Aw.sm tab_ok mb0 [] rfl rfl ?zo ?zk
  case zo =>
    repeat' apply AllP.cons
    all_goals first | exact trivial | exact id | exact rfl | exact fun _ => rfl | exact Nat.le_of_ble_eq_true rfl | exact fun _ => Nat.le_of_ble_eq_true rfl | exact Int.natCast_nonneg _ | exact fun _ => Int.natCast_nonneg _ | exact in_t _ _ _ | exact (in_t _ _ _).un
  case zk =>
  refine Aw.block (Aw.rounds 0 hE [(0, .sl n .any (ints a)), (1, .sl m .any (ints b))] (fun k : Nat => [(5, .int k)]) (fun _ => []) (fun k => k ≤ a.length ∧ k ≤ b.length ∧ befF a b = befF (a.drop k) (b.drop k)) (fun k => a.length - k) 0
    ⟨Nat.zero_le _, Nat.zero_le _, rfl⟩ ⟨⟨.refl _, .refl _, trivial⟩, ⟨.refl _, trivial⟩, trivial, Nat.le_refl _⟩ ⟨(free_ints _ _ _).under, (free_ints _ _ _).under, trivial⟩ (fun _ _ => ⟨.s _, trivial⟩) (fun _ _ => trivial) fun k hk => ?_)
  obtain ⟨hk, hp, hr⟩ := hk
  refine Aw.seq ?_
  refine Aw.sm tab_ok mb0 [] rfl rfl ?zo ?zk
  case zo =>
    repeat' apply AllP.cons
    all_goals first | exact trivial | exact id | exact rfl | exact fun _ => rfl | exact Nat.le_of_ble_eq_true rfl | exact fun _ => Nat.le_of_ble_eq_true rfl | exact Int.natCast_nonneg _ | exact fun _ => Int.natCast_nonneg _ | exact in_t _ _ _ | exact (in_t _ _ _).un
  case zk =>
  refine Aw.cond rfl (fun h1 => Aw.skip ?_) (fun h1 => ?_)
  · have h1 : cond (decide ((k : Int) < ((ints a).length : Int))) (decide ((k : Int) < ((ints b).length : Int))) false = true := h1
    have hlt : k < a.length := by have := of_decide_eq_true (ac1 h1); omega
    have hlt2 : k < b.length := by have := of_decide_eq_true (ac2 h1); omega
    rw [List.drop_eq_getElem_cons hlt, List.drop_eq_getElem_cons hlt2, befF] at hr
    refine Aw.seq (Aw.block ?_)
    refine Aw.sd tab_ok mixed mb0 [(2, [.int a[k]]), (6, [.int b[k]])] rfl (by kernel_rfl) rfl rfl ?zo ?zk
    case zo =>
      repeat' apply AllP.cons
      all_goals first | exact trivial | exact id | exact rfl | exact fun _ => rfl | exact Nat.le_of_ble_eq_true rfl | exact fun _ => Nat.le_of_ble_eq_true rfl | exact Int.natCast_nonneg _ | exact fun _ => Int.natCast_nonneg _ | exact in_t _ _ _ | exact (in_t _ _ _).un | exact ints_get hlt | exact ints_get hlt2
    case zk =>
    refine Aw.cond rfl (fun h2 => ?_) (fun h2 => Aw.skip ?_)
    · have h2' : ¬ a[k] = b[k] := by simpa using h2
      rw [if_neg h2'] at hr
      refine Aw.sd tab_ok mixed mb0 [(2, [.int a[k]]), (6, [.int b[k]])] rfl (by kernel_rfl) rfl rfl ?zo ?zk
      case zo =>
        repeat' apply AllP.cons
        all_goals first | exact trivial | exact id | exact rfl | exact fun _ => rfl | exact Nat.le_of_ble_eq_true rfl | exact fun _ => Nat.le_of_ble_eq_true rfl | exact Int.natCast_nonneg _ | exact fun _ => Int.natCast_nonneg _ | exact in_t _ _ _ | exact (in_t _ _ _).un | exact ints_get hlt | exact ints_get hlt2
      case zk =>
      exact Aw.ret ⟨_, .cons (.tmp _) .nil, congrArg A.bool hr.symm⟩
    · have h2' : a[k] = b[k] := by simpa using h2
      rw [if_pos h2'] at hr
      refine Aw.em tab_ok mb0 [] rfl rfl ?zo ?zk
      case zo =>
        repeat' apply AllP.cons
        all_goals first | exact trivial | exact id | exact rfl | exact fun _ => rfl | exact Nat.le_of_ble_eq_true rfl | exact fun _ => Nat.le_of_ble_eq_true rfl | exact Int.natCast_nonneg _ | exact fun _ => Int.natCast_nonneg _ | exact in_t _ _ _ | exact (in_t _ _ _).un | exact (by simp only [Ob.of, inR]; omega)
      case zk =>
      exact ⟨k + 1, ⟨hlt, hlt2, hr⟩, by omega, ⟨.refl _, .refl _, trivial⟩, ⟨.refl _, trivial⟩, trivial, Nat.zero_le _⟩
  · have h1 : cond (decide ((k : Int) < ((ints a).length : Int))) (decide ((k : Int) < ((ints b).length : Int))) false = false := h1
    have hend : a.drop k = [] ∨ b.drop k = [] := by
      rw [List.drop_eq_nil_iff, List.drop_eq_nil_iff]
      rw [c_and, Bool.and_eq_false_iff, decide_eq_false_iff_not, decide_eq_false_iff_not] at h1
      omega
    rw [befF_end _ _ hend] at hr
    refine Aw.exit2 ?_
    refine Aw.sm tab_ok mb0 [] rfl rfl ?zo ?zk
    case zo =>
      repeat' apply AllP.cons
      all_goals first | exact trivial | exact id | exact rfl | exact fun _ => rfl | exact Nat.le_of_ble_eq_true rfl | exact fun _ => Nat.le_of_ble_eq_true rfl | exact Int.natCast_nonneg _ | exact fun _ => Int.natCast_nonneg _ | exact in_t _ _ _ | exact (in_t _ _ _).un
    case zk =>
    refine Aw.ret ⟨_, .cons (.tmp _) .nil, ?_⟩
    show A.bool (decide (((ints a).length : Int) < ((ints b).length : Int))) = _
    rw [hr, la, lb]
    simp only [List.length_drop]
    congr 1
    exact decide_eq_decide.2 (by omega)
end Go.Proofs.Ytdiclbgklegelaa

namespace Go.Proofs.Ytdiclbgklegelaa
open Go Go.AL Go.AL.Q
end Go.Proofs.Ytdiclbgklegelaa

namespace Go.Proofs.Ytdiclbgklegelaa
open Go Go.AL Go.AL.Q
end Go.Proofs.Ytdiclbgklegelaa

namespace Go.Proofs.Ytdiclbgklegelaa
open Go Go.AL Go.AL.Q
end Go.Proofs.Ytdiclbgklegelaa

namespace Go.Proofs.Ytdiclbgklegelaa
open Go Go.AL Go.AL.Q
end Go.Proofs.Ytdiclbgklegelaa

namespace Go.Proofs.Ytdiclbgklegelaa
open Go Go.AL Go.AL.Q
end Go.Proofs.Ytdiclbgklegelaa

namespace Go.Proofs.Ytdiclbgklegelaa
open Go Go.AL Go.AL.Q
end Go.Proofs.Ytdiclbgklegelaa

namespace Go.Proofs.Ytdiclbgklegelaa
open Go Go.AL Go.AL.Q
theorem nl_at (l : List NL) {r : Nat} (h : r < l.length) : (l.map NL.c)[r]? = some (l.getD r ⟨false, []⟩).c := by
  rw [get_map h, List.getD_eq_getElem?_getD, List.getElem?_eq_getElem h]; rfl
end Go.Proofs.Ytdiclbgklegelaa

namespace Go.Proofs.Ytdiclbgklegelaa
open Go Go.AL Go.AL.Q
theorem A.Le.tup {l m : List A} (h : LeL l m) : A.Le (.tup l) (.tup m) := ⟨fun φ Z w v hv => by
  obtain ⟨vs, e0, e1, e3⟩ := inv_tup hv
  subst e0
  exact .tup _ _ (by rw [e1, h.len]) fun i hi => (h.get i).vr _ _ _ _ (e3 i (by rw [← h.len]; exact hi)), fun v p e => by simp [spareOf] at e⟩
theorem Ans_out {f : FuncId} {args : List A} {v v' : A} (h : Ans Try.prog f args v) (hl : A.Le v' v) : Ans Try.prog f args v' := ⟨h.ent, fun φ Z w vs hz hvs => (h.pure φ Z w vs hz hvs).mono fun e w' ⟨u, Z', h1, h2, h3, h4⟩ =>
  ⟨u, Z', h1, h2, hl.1 _ _ _ _ h3, fun u' => by
    cases e : spareOf v' u' with
    | none => rfl
    | some p => have := hl.2 _ _ e; rw [h4] at this; cases this⟩⟩
def outW (l : List Int) : A := .sl l.isEmpty .any (ints l)
theorem outW_le : ∀ l : List Int, A.Le (outW l) (outA l)
  | [] => .any _ _ _
  | _ :: _ => .refl _
theorem outW_free (l : List Int) : Free (outW l) := free_ints _ _ _
theorem members_w (s : Int) (n : Nat) (hn : n ≤ 1000) : Ans Try.prog 51 [.int s, .int n] (outW (memL s n)) := Ans_out (members_t s n hn) (outW_le _)
theorem shl1 {n : Nat} (h : n ≤ 8) : IntKind.i64.wrap (1 * 2 ^ (min ((n : Int).toNat) 64)) = ((2 ^ n : Nat) : Int) := by
  match n, h with
  | 0, _ => decide +kernel
  | 1, _ => decide +kernel
  | 2, _ => decide +kernel
  | 3, _ => decide +kernel
  | 4, _ => decide +kernel
  | 5, _ => decide +kernel
  | 6, _ => decide +kernel
  | 7, _ => decide +kernel
  | 8, _ => decide +kernel
end Go.Proofs.Ytdiclbgklegelaa

namespace Go.Proofs.Ytdiclbgklegelaa
open Go Go.AL Go.AL.Q
end Go.Proofs.Ytdiclbgklegelaa

namespace Go.Proofs.Ytdiclbgklegelaa
open Go Go.AL Go.AL.Q
end Go.Proofs.Ytdiclbgklegelaa

namespace Go.Proofs.Ytdiclbgklegelaa
open Go Go.AL Go.AL.Q
end Go.Proofs.Ytdiclbgklegelaa

namespace Go.Proofs.Ytdiclbgklegelaa
open Go Go.AL Go.AL.Q
theorem setSeg_setB {r : List Bool} {v : Bool} {i : Nat} (h : i < r.length) : setSeg (r.map A.bool) i [A.bool v] = (r.set i v).map A.bool := by
  have := setSeg_app (l := []) (r := r.map A.bool) (v := A.bool v) (i := i) (by simpa using h)
  simp only [List.length_nil, Nat.zero_add, List.nil_append] at this
  rw [this, List.map_set]
theorem cellB_at {l : List Bool} {a : Nat} (h : a < l.length) : ((l.map A.bool).getD (0 + a * 1) .un).down = .bool (l.getD a false) := by
  rw [Nat.zero_add, Nat.mul_one]
  simp [List.getD_eq_getElem?_getD, h, A.down]
theorem cellB_set {l : List Bool} {a : Nat} (h : a < l.length) (v : Bool) : setSeg (l.map A.bool) (0 + a * 1) [A.bool v] = (l.set a v).map A.bool := by
  rw [Nat.zero_add, Nat.mul_one, setSeg_setB h]
theorem zerosB_is (n : Nat) : ((List.range (n * 1)).map fun j => ([A.s (.bool false)] : List A).getD (j % 1) .un).map A.down = (List.replicate n false).map A.bool := by
  rw [Nat.mul_one]
  have h : ∀ j : Nat, ([A.s (.bool false)] : List A).getD (j % 1) .un = A.bool false := fun j => by
    have : j % 1 = 0 := by omega
    rw [this]; rfl
  simp only [h]
  rw [List.map_const', List.length_range, List.map_replicate, List.map_replicate]; rfl
theorem bools_under {n : Nat} (l : List Bool) : UnderB n (.cells (l.map A.bool)) := .cells _ fun x hx => by
  obtain ⟨b, _, rfl⟩ := List.mem_map.1 hx; exact .s _
theorem spares_t (p q nb : Bool) (cells : List Cel) (boxes : List NL) (l : List Int) (hc : CelsIn cells) (hb : ∀ b ∈ boxes, nlFit b) (hbr : ∀ b ∈ boxes, ∀ c ∈ b.l, 0 ≤ c ∧ c < cells.length) (hl : ∀ i ∈ l, 0 ≤ i ∧ i < boxes.length) (hln : l.length ≤ 8) :
    Ans Try.prog 50 [.sl p .any (cells.map Cel.c), .sl q .any (boxes.map NL.c), (A.sl nb .any (ints l))] (.tup [.int (closedF cells boxes l).sp, .int (closedF cells boxes l).la]) := by
  have hfr : Free (.tup [.int (closedF cells boxes l).sp, .int (closedF cells boxes l).la]) := .tup _ (allC (.s _) (all1 (.s _)))
  have fc : Free (.sl p .any (cells.map Cel.c)) := free_map Cel.free _ _ _
  have fb : Free (.sl q .any (boxes.map NL.c)) := free_map NL.free _ _ _
  have zc : ((cells.map Cel.c).length : Int) = cells.length := by simp
  have zl : ((ints l).length : Int) = l.length := by simp [ints]
  have n12 := hc.n
  refine told Try.func50 rfl rfl (Pure.of tab_ok Try.func50 rfl Try.ntmps50 rfl (allC (fc) (allC (fb) (all1 (free_ints _ _ _)))) (allC (fun _ => rfl) (allC (fun _ => rfl) (all1 (fun _ => rfl)))) (by first | exact .s _ | assumption | exact .tup _ (by intro x hx; simp only [List.mem_cons, List.not_mem_nil, or_false] at hx; rcases hx with rfl | rfl | rfl | rfl <;> first | exact .s _ | (simp_all; done))) fun E hE => ?_)
  have hE1 : ∀ id, 1 ≤ id → E.φ0 id = none := fun id h => hE id (by omega)
  refine Aw.sm tab_ok mb0 [] rfl rfl ?zo ?zk
  case zo =>
    repeat' apply AllP.cons
    all_goals first | exact trivial | exact id | exact rfl | exact fun _ => rfl | exact Nat.le_of_ble_eq_true rfl | exact fun _ => Nat.le_of_ble_eq_true rfl | exact Int.natCast_nonneg _ | exact fun _ => Int.natCast_nonneg _ | exact in_t _ _ _ | exact (in_t _ _ _).un | exact gq_f
  case zk =>
  refine Aw.sm tab_ok mb0 [] rfl rfl ?zo ?zk
  case zo =>
    repeat' apply AllP.cons
    all_goals first | exact trivial | exact id | exact rfl | exact fun _ => rfl | exact Nat.le_of_ble_eq_true rfl | exact fun _ => Nat.le_of_ble_eq_true rfl | exact Int.natCast_nonneg _ | exact fun _ => Int.natCast_nonneg _ | exact in_t _ _ _ | exact (in_t _ _ _).un | exact gq_f | exact (show (0 : Int) ≤ ((cells.map Cel.c).length : Int) by omega) | exact (show ((cells.map Cel.c).length : Int) ≤ (maxLen : Nat) by unfold maxLen; omega) | exact (show ((1 : Nat) : Int) * ((cells.map Cel.c).length : Int) ≤ 140737488355328 by omega)
  case zk =>
  refine Aw.sm tab_ok mb0 [] rfl rfl ?zo ?zk
  case zo =>
    repeat' apply AllP.cons
    all_goals first | exact trivial | exact id | exact rfl | exact fun _ => rfl | exact Nat.le_of_ble_eq_true rfl | exact fun _ => Nat.le_of_ble_eq_true rfl | exact Int.natCast_nonneg _ | exact fun _ => Int.natCast_nonneg _ | exact in_t _ _ _ | exact (in_t _ _ _).un | exact gq_f
  case zk =>
  have hzr : (((List.range (((cells.map Cel.c).length : Int).toNat * 1)).map fun j => ([A.s (.bool false)] : List A).getD (j % 1) .un).map A.down) = (List.replicate cells.length false).map A.bool := by
    rw [Int.toNat_natCast, List.length_map, zerosB_is]
  have hnn : (((cells.map Cel.c).length : Int)).toNat = cells.length := by omega
  have h0 : sumM cells (List.replicate cells.length false) cells.length = ⟨0, 0⟩ := by
    have : ∀ k, sumM cells (List.replicate cells.length false) k = ⟨0, 0⟩ := fun k => by
      induction k with
      | zero => rfl
      | succ k ih =>
        rw [sumM, ih, if_neg]
        rw [List.getD_eq_getElem?_getD, List.getElem?_replicate]
        split <;> simp
    exact this _
  refine Aw.keep (n := 1) (cst := [(0, .sl p .any (cells.map Cel.c)), (1, .sl q .any (boxes.map NL.c)), (2, (A.sl nb .any (ints l))), (8, .ms 0 0 cells.length)]) (v := [(9, .int (sumM cells (List.replicate cells.length false) cells.length).sp), (10, .int (sumM cells (List.replicate cells.length false) cells.length).la)]) (Hl := [(0, .cells ((List.replicate cells.length false).map A.bool))]) hE1
    ⟨fc.under, fb.under, (free_ints _ _ _).under, .ms _ _ _ (by decide), trivial⟩ ⟨.s _, .s _, trivial⟩ ⟨⟨by decide, bools_under _⟩, trivial⟩ ⟨⟨.refl _, .refl _, .refl _, .of_eq (congrArg (A.ms 0 0) hnn.symm), trivial⟩, ⟨.of_eq (by rw [h0]; rfl), .of_eq (by rw [h0]; rfl), trivial⟩, ⟨congrArg (fun x => some (B.cells x)) hzr, trivial⟩, Nat.le_of_ble_eq_true rfl⟩ ?_
  refine Aw.seq ?_
  refine Aw.sm tab_ok mb0 [] rfl rfl ?zo ?zk
  case zo =>
    repeat' apply AllP.cons
    all_goals first | exact trivial | exact id | exact rfl | exact fun _ => rfl | exact Nat.le_of_ble_eq_true rfl | exact fun _ => Nat.le_of_ble_eq_true rfl | exact Int.natCast_nonneg _ | exact fun _ => Int.natCast_nonneg _ | exact in_t _ _ _ | exact (in_t _ _ _).un | exact gq_f
  case zk =>
  refine Aw.block (Aw.rounds (ι := Nat × List Bool) 1 hE1 [(0, .sl p .any (cells.map Cel.c)), (1, .sl q .any (boxes.map NL.c)), (2, (A.sl nb .any (ints l))), (8, .ms 0 0 cells.length)] (fun i => [(9, .int (sumM cells i.2 cells.length).sp), (10, .int (sumM cells i.2 cells.length).la), (11, .int i.1)]) (fun i => [(0, .cells (i.2.map A.bool))]) (fun i => i.1 ≤ l.length ∧ Met cells.length boxes l i.1 [] 0 i.2) (fun i => l.length - i.1) (0, List.replicate cells.length false)
    ⟨Nat.zero_le _, Met.zero _ _ _⟩ ⟨⟨.refl _, .refl _, .refl _, .refl _, trivial⟩, ⟨.refl _, .refl _, .refl _, trivial⟩, ⟨rfl, trivial⟩, Nat.le_of_ble_eq_true rfl⟩ ⟨fc.under, fb.under, (free_ints _ _ _).under, .ms _ _ _ (by decide), trivial⟩ (fun _ _ => ⟨.s _, .s _, .s _, trivial⟩) (fun _ _ => ⟨⟨by decide, bools_under _⟩, trivial⟩) ?_)
  rintro ⟨i, met⟩ ⟨hi, hmet⟩
  simp only at hi hmet
  refine Aw.seq ?_
  refine Aw.sm tab_ok mb0 [] rfl rfl ?zo ?zk
  case zo =>
    repeat' apply AllP.cons
    all_goals first | exact trivial | exact id | exact rfl | exact fun _ => rfl | exact Nat.le_of_ble_eq_true rfl | exact fun _ => Nat.le_of_ble_eq_true rfl | exact Int.natCast_nonneg _ | exact fun _ => Int.natCast_nonneg _ | exact in_t _ _ _ | exact (in_t _ _ _).un | exact gq_f
  case zk =>
  refine Aw.cond rfl (fun h1 => Aw.skip ?_) (fun h1 => ?_)
  · have hil : i < l.length := by
      have := of_decide_eq_true (show decide ((i : Int) < ((ints l).length : Int)) = true from h1); omega
    have hin := hl _ (List.getElem_mem hil)
    have hbl : (l[i]).toNat < boxes.length := by omega
    have gl : (ints l)[i]? = some [.int l[i]] := ints_get hil
    have gb := nl_at boxes hbl
    have hbm : boxes.getD (l[i]).toNat ⟨false, []⟩ ∈ boxes := by
      rw [List.getD_eq_getElem?_getD, List.getElem?_eq_getElem hbl]; exact List.getElem_mem hbl
    have hfit : nlFit (boxes.getD (l[i]).toNat ⟨false, []⟩) := hb _ hbm
    have hbx := hbr _ hbm
    have hdone := fun met => Met.done (N := cells.length) (boxes := boxes) hil (met := met)
    generalize boxes.getD (l[i]).toNat ⟨false, []⟩ = bx at *
    have zb := ints_lenI bx.l
    have hfit : (bx.l.length : Int) ≤ 9223372036854775806 := hfit
    refine Aw.seq (Aw.block ?_)
    refine Aw.sm tab_ok mb0 [] rfl rfl ?zo ?zk
    case zo =>
      repeat' apply AllP.cons
      all_goals first | exact trivial | exact id | exact rfl | exact fun _ => rfl | exact Nat.le_of_ble_eq_true rfl | exact fun _ => Nat.le_of_ble_eq_true rfl | exact Int.natCast_nonneg _ | exact fun _ => Int.natCast_nonneg _ | exact in_t _ _ _ | exact (in_t _ _ _).un | exact gq_f
    case zk =>
    refine Aw.block (Aw.rounds (ι := Nat × List Bool) 1 hE1 [(0, .sl p .any (cells.map Cel.c)), (1, .sl q .any (boxes.map NL.c)), (2, (A.sl nb .any (ints l))), (8, .ms 0 0 cells.length), (11, .int i)] (fun i => [(9, .int (sumM cells i.2 cells.length).sp), (10, .int (sumM cells i.2 cells.length).la), (12, .int i.1)]) (fun i => [(0, .cells (i.2.map A.bool))]) (fun j => j.1 ≤ bx.l.length ∧ Met cells.length boxes l i bx.l j.1 j.2) (fun i => bx.l.length - i.1) (0, met)
      ⟨Nat.zero_le _, hmet.start _⟩ ⟨⟨.refl _, .refl _, .refl _, .refl _, .refl _, trivial⟩, ⟨.refl _, .refl _, .refl _, trivial⟩, ⟨rfl, trivial⟩, Nat.le_of_ble_eq_true rfl⟩ ⟨fc.under, fb.under, (free_ints _ _ _).under, .ms _ _ _ (by decide), .s _, trivial⟩ (fun _ _ => ⟨.s _, .s _, .s _, trivial⟩) (fun _ _ => ⟨⟨by decide, bools_under _⟩, trivial⟩) ?_)
    rintro ⟨j, met2⟩ ⟨hj, hm2⟩
    simp only at hj hm2
    refine Aw.seq ?_
    refine Aw.sm tab_ok mb0 [(4, [.int l[i]]), (6, bx.c)] rfl rfl ?zo ?zk
    case zo =>
      repeat' apply AllP.cons
      all_goals first | exact trivial | exact id | exact rfl | exact fun _ => rfl | exact Nat.le_of_ble_eq_true rfl | exact fun _ => Nat.le_of_ble_eq_true rfl | exact Int.natCast_nonneg _ | exact fun _ => Int.natCast_nonneg _ | exact in_t _ _ _ | exact (in_t _ _ _).un | exact gq_f | exact gl | exact gb | exact hin.1
    case zk =>
    refine Aw.cond rfl (fun h2 => Aw.skip ?_) (fun h2 => ?_)
    · have hjl : j < bx.l.length := by
        have := of_decide_eq_true (show decide ((j : Int) < ((ints bx.l).length : Int)) = true from h2); omega
      have gj : (ints bx.l)[j]? = some [.int bx.l[j]] := ints_get hjl
      have hcb := hbx _ (List.getElem_mem hjl)
      obtain ⟨c, hcc⟩ : ∃ c : Nat, bx.l[j] = (c : Int) := ⟨(bx.l[j]).toNat, by omega⟩
      have hcN : c < cells.length := by omega
      have hold := fun h => hm2.old hjl hcc hcN h
      have hnew := hm2.new hjl hcc hcN
      have hml : c < met2.length := by rw [hm2.len]; exact hcN
      rw [hcc] at gj
      have gB := cellB_at hml
      have gk : (cells.map Cel.c)[c]? = some (cells.getD c ⟨0, 0⟩).c := by rw [get_map hcN, List.getD_eq_getElem?_getD, List.getElem?_eq_getElem hcN]; rfl
      have bd := sumM_bd hc met2 cells.length
      have bdc := hc.at c
      have hsum := fun h => sumM_set (cells := cells) hml h cells.length hcN
      have hst := cellB_set hml true
      refine Aw.seq (Aw.block ?_)
      refine Aw.sm tab_ok mb0 [(3, [.int l[i]]), (5, bx.c), (8, [.int c])] rfl rfl ?zo ?zk
      case zo =>
        repeat' apply AllP.cons
        all_goals first | exact trivial | exact id | exact rfl | exact fun _ => rfl | exact Nat.le_of_ble_eq_true rfl | exact fun _ => Nat.le_of_ble_eq_true rfl | exact Int.natCast_nonneg _ | exact fun _ => Int.natCast_nonneg _ | exact in_t _ _ _ | exact (in_t _ _ _).un | exact gq_f | exact gl | exact gb | exact gj | exact hin.1
      case zk =>
      have l1 : 0 + c * 1 < (met2.map A.bool).length := by rw [List.length_map]; omega
      have l2 : 0 + c * 1 + 1 ≤ (met2.map A.bool).length := l1
      have l3 : (c : Int) < (cells.length : Nat) := by omega
      refine Aw.sm tab_ok mb0 [(3, [.bool (met2.getD c false)])] rfl rfl ?zo ?zk
      case zo =>
        repeat' apply AllP.cons
        all_goals first | exact trivial | exact id | exact rfl | exact fun _ => rfl | exact Nat.le_of_ble_eq_true rfl | exact fun _ => Nat.le_of_ble_eq_true rfl | exact Int.natCast_nonneg _ | exact fun _ => Int.natCast_nonneg _ | exact in_t _ _ _ | exact (in_t _ _ _).un | exact gq_f | exact gB | exact l1 | exact l2 | exact l3
      case zk =>
      refine Aw.cond rfl (fun h3 => ?_) (fun h3 => Aw.skip ?_)
      · have h3 : met2.getD c false = false := by simpa using h3
        have hsum := hsum h3
        refine Aw.sm tab_ok mb0 [] rfl rfl ?zo ?zk
        case zo =>
          repeat' apply AllP.cons
          all_goals first | exact trivial | exact id | exact rfl | exact fun _ => rfl | exact Nat.le_of_ble_eq_true rfl | exact fun _ => Nat.le_of_ble_eq_true rfl | exact Int.natCast_nonneg _ | exact fun _ => Int.natCast_nonneg _ | exact in_t _ _ _ | exact (in_t _ _ _).un | exact gq_f | exact l1 | exact l2 | exact l3
        case zk =>
        refine Aw.sm tab_ok mb0 [(3, (cells.getD c ⟨0, 0⟩).c)] rfl rfl ?zo ?zk
        case zo =>
          repeat' apply AllP.cons
          all_goals first | exact trivial | exact id | exact rfl | exact fun _ => rfl | exact Nat.le_of_ble_eq_true rfl | exact fun _ => Nat.le_of_ble_eq_true rfl | exact Int.natCast_nonneg _ | exact fun _ => Int.natCast_nonneg _ | exact in_t _ _ _ | exact (in_t _ _ _).un | exact gq_f | exact gk | exact (by simp only [Ob.of, inR]; omega)
        case zk =>
        refine Aw.em tab_ok mb0 [(3, (cells.getD c ⟨0, 0⟩).c)] rfl rfl ?zo ?zk
        case zo =>
          repeat' apply AllP.cons
          all_goals first | exact trivial | exact id | exact rfl | exact fun _ => rfl | exact Nat.le_of_ble_eq_true rfl | exact fun _ => Nat.le_of_ble_eq_true rfl | exact Int.natCast_nonneg _ | exact fun _ => Int.natCast_nonneg _ | exact in_t _ _ _ | exact (in_t _ _ _).un | exact gq_f | exact gk | exact (by simp only [Ob.of, inR]; omega)
        case zk =>
        refine Aw.em tab_ok mb0 [] rfl rfl ?zo ?zk
        case zo =>
          repeat' apply AllP.cons
          all_goals first | exact trivial | exact id | exact rfl | exact fun _ => rfl | exact Nat.le_of_ble_eq_true rfl | exact fun _ => Nat.le_of_ble_eq_true rfl | exact Int.natCast_nonneg _ | exact fun _ => Int.natCast_nonneg _ | exact in_t _ _ _ | exact (in_t _ _ _).un | exact gq_f | exact inrk j (by omega)
        case zk =>
        exact ⟨(j + 1, met2.set c true), ⟨hjl, hnew⟩, by show bx.l.length - (j + 1) < bx.l.length - j; omega, ⟨.refl _, .refl _, .refl _, .refl _, .refl _, trivial⟩, ⟨.of_eq (by rw [hsum]; rfl), .of_eq (by rw [hsum]; rfl), .refl _, trivial⟩, ⟨congrArg (fun x => some (B.cells x)) hst, trivial⟩, Nat.le_of_ble_eq_true rfl⟩
      · have h3 : met2.getD c false = true := by simpa using h3
        refine Aw.em tab_ok mb0 [] rfl rfl ?zo ?zk
        case zo =>
          repeat' apply AllP.cons
          all_goals first | exact trivial | exact id | exact rfl | exact fun _ => rfl | exact Nat.le_of_ble_eq_true rfl | exact fun _ => Nat.le_of_ble_eq_true rfl | exact Int.natCast_nonneg _ | exact fun _ => Int.natCast_nonneg _ | exact in_t _ _ _ | exact (in_t _ _ _).un | exact gq_f | exact inrk j (by omega)
        case zk =>
        exact ⟨(j + 1, met2), ⟨hjl, hold h3⟩, by show bx.l.length - (j + 1) < bx.l.length - j; omega, ⟨.refl _, .refl _, .refl _, .refl _, .refl _, trivial⟩, ⟨.refl _, .refl _, .refl _, trivial⟩, ⟨rfl, trivial⟩, Nat.le_of_ble_eq_true rfl⟩
    have hje : j = bx.l.length := by
      have := of_decide_eq_false (show decide ((j : Int) < ((ints bx.l).length : Int)) = false from h2); omega
    subst hje
    refine Aw.exit2 ?_
    refine Aw.em tab_ok mb0 [] rfl rfl ?zo ?zk
    case zo =>
      repeat' apply AllP.cons
      all_goals first | exact trivial | exact id | exact rfl | exact fun _ => rfl | exact Nat.le_of_ble_eq_true rfl | exact fun _ => Nat.le_of_ble_eq_true rfl | exact Int.natCast_nonneg _ | exact fun _ => Int.natCast_nonneg _ | exact in_t _ _ _ | exact (in_t _ _ _).un | exact gq_f | exact inrk i (by omega)
    case zk =>
    exact ⟨(i + 1, met2), ⟨hil, hdone _ hm2⟩, by show l.length - (i + 1) < l.length - i; omega, ⟨.refl _, .refl _, .refl _, .refl _, trivial⟩, ⟨.refl _, .refl _, .refl _, trivial⟩, ⟨rfl, trivial⟩, Nat.le_of_ble_eq_true rfl⟩
  have hie : i = l.length := by
    have := of_decide_eq_false (show decide ((i : Int) < ((ints l).length : Int)) = false from h1); omega
  subst hie
  have hcl : sumM cells met cells.length = closedF cells boxes l := sumM_closed _ fun k hk => by
    rw [hmet.is k hk, List.take_length]; simp
  rw [hcl]
  refine Aw.exit2 ?_
  refine Aw.sm tab_ok mb0 [] rfl rfl ?zo ?zk
  case zo =>
    repeat' apply AllP.cons
    all_goals first | exact trivial | exact id | exact rfl | exact fun _ => rfl | exact Nat.le_of_ble_eq_true rfl | exact fun _ => Nat.le_of_ble_eq_true rfl | exact Int.natCast_nonneg _ | exact fun _ => Int.natCast_nonneg _ | exact in_t _ _ _ | exact (in_t _ _ _).un | exact gq_f
  case zk =>
  exact Aw.ret ⟨_, .cons (.tmp _) (.cons (.tmp _) .nil), rfl⟩
theorem sparedL_t (p : Bool) (cells : List Cel) (q : Bool) (boxes : List NL) (n0 n1 : Int) (hcl : (cells.length : Int) ≤ 9223372036854775806) (hbl : (boxes.length : Int) ≤ 5900000000000) (hbf : ∀ b ∈ boxes, nlFit b) :
    Ans Try.prog 16 [.sl p .any (cells.map Cel.c), .sl q .any (boxes.map NL.c), .agg [.int n0, .int n1]] (.bool true) := by
  have fc : Free (.sl p .any (cells.map Cel.c)) := free_map Cel.free _ _ _
  have fb : Free (.sl q .any (boxes.map NL.c)) := free_map NL.free _ _ _
  have zc : ((cells.map Cel.c).length : Int) = cells.length := by simp
  have zb : ((boxes.map NL.c).length : Int) = boxes.length := by simp
  have m0 := Int.emod_nonneg n0 (show (9 : Int) ≠ 0 by decide)
  have m1 := Int.emod_lt_of_pos n0 (show (0 : Int) < 9 by decide)
  have cm := mod_t n0 9 (by decide) (by decide)
  generalize n0 % 9 = most at *
  have c1 := Boxes_t p q cells boxes most hcl hbl hbf
  refine told Try.func16 rfl rfl (Pure.of tab_ok Try.func16 rfl Try.ntmps16 rfl (allC (fc) (allC (fb) (all1 (.agg _ (allC (.s _) (all1 (.s _))))))) (allC (fun _ => rfl) (allC (fun _ => rfl) (all1 (fun _ => rfl)))) (by first | exact .s _ | assumption | exact .tup _ (by intro x hx; simp only [List.mem_cons, List.not_mem_nil, or_false] at hx; rcases hx with rfl | rfl | rfl | rfl <;> first | exact .s _ | (simp_all; done))) fun E hE => ?_)
  refine Aw.sm tab_ok mb0 [] rfl rfl ?zo ?zk
  case zo =>
    repeat' apply AllP.cons
    all_goals first | exact trivial | exact id | exact rfl | exact fun _ => rfl | exact Nat.le_of_ble_eq_true rfl | exact fun _ => Nat.le_of_ble_eq_true rfl | exact Int.natCast_nonneg _ | exact fun _ => Int.natCast_nonneg _ | exact in_t _ _ _ | exact (in_t _ _ _).un | exact gq_f
  case zk =>
  refine Aw.sm tab_ok mb0 [(2, [.int most])] rfl rfl ?zo ?zk
  case zo =>
    repeat' apply AllP.cons
    all_goals first | exact trivial | exact id | exact rfl | exact fun _ => rfl | exact Nat.le_of_ble_eq_true rfl | exact fun _ => Nat.le_of_ble_eq_true rfl | exact Int.natCast_nonneg _ | exact fun _ => Int.natCast_nonneg _ | exact in_t _ _ _ | exact (in_t _ _ _).un | exact gq_f | exact cm
  case zk =>
  cases hok : boxesOk cells boxes with
  | false =>
    have e1 : boxR cells boxes most = [outA [], .int 0, .int 0, .int 94] := by unfold boxR; rw [hok]; rfl
    rw [e1] at c1
    refine Aw.sm tab_ok mb0 [(3, [.tup [outA [], .int 0, .int 0, .int 94]])] rfl rfl ?zo ?zk
    case zo =>
      repeat' apply AllP.cons
      all_goals first | exact trivial | exact id | exact rfl | exact fun _ => rfl | exact Nat.le_of_ble_eq_true rfl | exact fun _ => Nat.le_of_ble_eq_true rfl | exact Int.natCast_nonneg _ | exact fun _ => Int.natCast_nonneg _ | exact in_t _ _ _ | exact (in_t _ _ _).un | exact gq_f | exact c1
    case zk =>
    refine Aw.seq ?_
    refine Aw.sm tab_ok mb0 [] rfl rfl ?zo ?zk
    case zo =>
      repeat' apply AllP.cons
      all_goals first | exact trivial | exact id | exact rfl | exact fun _ => rfl | exact Nat.le_of_ble_eq_true rfl | exact fun _ => Nat.le_of_ble_eq_true rfl | exact Int.natCast_nonneg _ | exact fun _ => Int.natCast_nonneg _ | exact in_t _ _ _ | exact (in_t _ _ _).un | exact gq_f
    case zk =>
    refine Aw.cond rfl (fun h => ?_) (fun h => absurd (show true = false from h) (by decide))
    refine Aw.sm tab_ok mb0 [(16, [.bool true])] rfl rfl ?zo ?zk
    case zo =>
      repeat' apply AllP.cons
      all_goals first | exact trivial | exact id | exact rfl | exact fun _ => rfl | exact Nat.le_of_ble_eq_true rfl | exact fun _ => Nat.le_of_ble_eq_true rfl | exact Int.natCast_nonneg _ | exact fun _ => Int.natCast_nonneg _ | exact in_t _ _ _ | exact (in_t _ _ _).un | exact gq_f | exact fun _ => works_t | exact fun _ _ => rfl | exact fun _ h => absurd h (by decide) | exact fun h => absurd h (by decide)
    case zk =>
    exact Aw.ret ⟨_, .cons (.tmp _) .nil, rfl⟩
  | true =>
  have hbok : cond (cond (cond (decide ((cells.length : Int) ≤ 12)) (decide ((boxes.length : Int) ≤ 8)) false) (cells.all celOk) false) (boxes.all fun b => risingF cells.length (-1) b.l) false = true := hok
  have h12 := of_decide_eq_true (ac1 (ac1 (ac1 hbok)))
  have h8 := of_decide_eq_true (ac2 (ac1 (ac1 hbok)))
  have hcel := ac2 (ac1 hbok)
  have hris := List.all_eq_true.1 (ac2 hbok)
  have hcin : CelsIn cells := by
    refine ⟨by omega, fun c hc => ?_, fun c hc => ?_⟩ <;> have := List.all_eq_true.1 hcel c hc <;> unfold celOk at this
    · exact wi_iff.1 (ac1 this)
    · exact wi_iff.1 (ac2 this)
  have hbr : ∀ b ∈ boxes, ∀ c ∈ b.l, 0 ≤ c ∧ c < cells.length := fun b hb c hc => by
    have := rising_gt (hris b hb) c hc; omega
  have T := box_best (cells := cells) (boxes := boxes) (most := most) (by omega) m0 fun b hb c hc => by have := hbr b hb c hc; omega
  have e1 : boxR cells boxes most = [outA (boxF cells boxes most).chosen, .int (boxF cells boxes most).sp, .int (boxF cells boxes most).la, .int 0] := by unfold boxR; rw [hok, wi_iff.2 ⟨m0, by omega⟩]; rfl
  rw [e1] at c1
  have tm := T.mem
  have tsp := T.sp
  have tla := T.la
  have tt := T.top
  generalize boxF cells boxes most = S at *
  have c1 : Ans Try.prog 33 [.sl p .any (cells.map Cel.c), .sl q .any (boxes.map NL.c), .int most] (.tup [outW S.chosen, .int S.sp, .int S.la, .int 0]) := Ans_out c1 (A.Le.tup (.cons (outW_le _) (.cons (.refl _) (.cons (.refl _) (.cons (.refl _) .nil)))))
  obtain ⟨l, sp, la⟩ := S
  simp only at tm tsp tla tt c1
  have zl := ints_lenI l
  have hl8 : l.length ≤ 8 := by omega
  have hlin : ∀ i ∈ l, 0 ≤ i ∧ i < boxes.length := fun i hi => by have := rising_gt tm.1 i hi; omega
  have cs1 := spares_t p q l.isEmpty cells boxes l hcin hbf hbr hlin hl8
  refine Aw.sm tab_ok mb0 [(3, [.tup [outW l, .int sp, .int la, .int 0]])] rfl rfl ?zo ?zk
  case zo =>
    repeat' apply AllP.cons
    all_goals first | exact trivial | exact id | exact rfl | exact fun _ => rfl | exact Nat.le_of_ble_eq_true rfl | exact fun _ => Nat.le_of_ble_eq_true rfl | exact Int.natCast_nonneg _ | exact fun _ => Int.natCast_nonneg _ | exact in_t _ _ _ | exact (in_t _ _ _).un | exact gq_f | exact c1
  case zk =>
  refine Aw.seq ?_
  refine Aw.sm tab_ok mb0 [] rfl rfl ?zo ?zk
  case zo =>
    repeat' apply AllP.cons
    all_goals first | exact trivial | exact id | exact rfl | exact fun _ => rfl | exact Nat.le_of_ble_eq_true rfl | exact fun _ => Nat.le_of_ble_eq_true rfl | exact Int.natCast_nonneg _ | exact fun _ => Int.natCast_nonneg _ | exact in_t _ _ _ | exact (in_t _ _ _).un | exact gq_f
  case zk =>
  refine Aw.cond rfl (fun h => ?_) (fun h => Aw.skip ?_)
  · exfalso
    have h : cond (decide (((cells.map Cel.c).length : Int) > 12)) true (decide (((boxes.map NL.c).length : Int) > 8)) = true := h
    rw [c_or, Bool.or_eq_true, decide_eq_true_eq, decide_eq_true_eq] at h; omega
  clear h
  have cr : Ans Try.prog 49 [outW l, .int ((boxes.map NL.c).length : Int)] (.bool true) := by
    rw [zb]
    have := rising_t l l.isEmpty (boxes.length : Int) (by omega) (by omega)
    rw [tm.1] at this; exact this
  refine Aw.seq ?_
  refine Aw.sm tab_ok mb0 [(3, [.bool true])] rfl rfl ?zo ?zk
  case zo =>
    repeat' apply AllP.cons
    all_goals first | exact trivial | exact id | exact rfl | exact fun _ => rfl | exact Nat.le_of_ble_eq_true rfl | exact fun _ => Nat.le_of_ble_eq_true rfl | exact Int.natCast_nonneg _ | exact fun _ => Int.natCast_nonneg _ | exact in_t _ _ _ | exact (in_t _ _ _).un | exact gq_f | exact cr
  case zk =>
  refine Aw.cond rfl (fun h => ?_) (fun h => Aw.skip ?_)
  · exfalso
    have := of_decide_eq_true (show decide (((ints l).length : Int) > most) = true from h); omega
  clear h
  have u2 : ∀ {n}, Under n (A.pt [A.int n0, A.int n1]) := (Free.pt _ (allC (.s _) (all1 (.s _)))).under
  refine Aw.seq ?_
  refine Aw.sm tab_ok mb0 [] rfl rfl ?zo ?zk
  case zo =>
    repeat' apply AllP.cons
    all_goals first | exact trivial | exact id | exact rfl | exact fun _ => rfl | exact Nat.le_of_ble_eq_true rfl | exact fun _ => Nat.le_of_ble_eq_true rfl | exact Int.natCast_nonneg _ | exact fun _ => Int.natCast_nonneg _ | exact in_t _ _ _ | exact (in_t _ _ _).un | exact gq_f
  case zk =>
  refine Aw.block (Aw.rounds 0 hE [(0, .sl p .any (cells.map Cel.c)), (1, .sl q .any (boxes.map NL.c)), (5, .pt [.int n0, .int n1]), (7, .int most), (8, outW l), (9, .int sp), (10, .int la)] (fun k : Nat => [(12, .int k)]) (fun _ => []) (fun k => k ≤ boxes.length) (fun k => boxes.length - k) 0
    (Nat.zero_le _) ⟨⟨.refl _, .refl _, .refl _, .refl _, .refl _, .refl _, .refl _, trivial⟩, ⟨.refl _, trivial⟩, trivial, Nat.zero_le _⟩ ⟨fc.under, fb.under, u2, .s _, (outW_free _).under, .s _, .s _, trivial⟩ (fun _ _ => ⟨.s _, trivial⟩) (fun _ _ => trivial) fun k hk => ?_)
  refine Aw.seq ?_
  refine Aw.sm tab_ok mb0 [] rfl rfl ?zo ?zk
  case zo =>
    repeat' apply AllP.cons
    all_goals first | exact trivial | exact id | exact rfl | exact fun _ => rfl | exact Nat.le_of_ble_eq_true rfl | exact fun _ => Nat.le_of_ble_eq_true rfl | exact Int.natCast_nonneg _ | exact fun _ => Int.natCast_nonneg _ | exact in_t _ _ _ | exact (in_t _ _ _).un | exact gq_f
  case zk =>
  refine Aw.cond rfl (fun h1 => Aw.skip ?_) (fun h1 => ?_)
  · have hlt : k < boxes.length := by
      have := of_decide_eq_true (show decide ((k : Int) < ((boxes.map NL.c).length : Int)) = true from h1); omega
    have gl := get_map (f := NL.c) hlt
    have hft : (boxes[k].l.length : Int) ≤ 9223372036854775806 := hbf _ (List.getElem_mem hlt)
    have cr2 : Ans Try.prog 49 [.sl boxes[k].n .any (ints boxes[k].l), .int ((cells.map Cel.c).length : Int)] (.bool true) := by
      rw [zc]
      have := rising_t boxes[k].l boxes[k].n (cells.length : Int) (by omega) (by omega)
      rw [hris _ (List.getElem_mem hlt)] at this; exact this
    generalize boxes[k] = x at *
    refine Aw.seq (Aw.block ?_)
    refine Aw.sm tab_ok mb0 [(2, x.c), (6, [.bool true])] rfl rfl ?zo ?zk
    case zo =>
      repeat' apply AllP.cons
      all_goals first | exact trivial | exact id | exact rfl | exact fun _ => rfl | exact Nat.le_of_ble_eq_true rfl | exact fun _ => Nat.le_of_ble_eq_true rfl | exact Int.natCast_nonneg _ | exact fun _ => Int.natCast_nonneg _ | exact in_t _ _ _ | exact (in_t _ _ _).un | exact gq_f | exact gl | exact cr2
    case zk =>
    refine Aw.cond rfl (fun h => absurd h (by decide)) (fun h => Aw.skip ?_)
    refine Aw.em tab_ok mb0 [] rfl rfl ?zo ?zk
    case zo =>
      repeat' apply AllP.cons
      all_goals first | exact trivial | exact id | exact rfl | exact fun _ => rfl | exact Nat.le_of_ble_eq_true rfl | exact fun _ => Nat.le_of_ble_eq_true rfl | exact Int.natCast_nonneg _ | exact fun _ => Int.natCast_nonneg _ | exact in_t _ _ _ | exact (in_t _ _ _).un | exact gq_f | exact inrk k (by omega)
    case zk =>
    exact ⟨k + 1, hlt, by omega, ⟨.refl _, .refl _, .refl _, .refl _, .refl _, .refl _, .refl _, trivial⟩, ⟨.refl _, trivial⟩, trivial, Nat.zero_le _⟩
  refine Aw.exit2 ?_
  have cs1 : Ans Try.prog 50 [.sl p .any (cells.map Cel.c), .sl q .any (boxes.map NL.c), outW l] (.tup [.int (closedF cells boxes l).sp, .int (closedF cells boxes l).la]) := cs1
  refine Aw.sm tab_ok mb0 [(3, [.tup [.int (closedF cells boxes l).sp, .int (closedF cells boxes l).la]])] rfl rfl ?zo ?zk
  case zo =>
    repeat' apply AllP.cons
    all_goals first | exact trivial | exact id | exact rfl | exact fun _ => rfl | exact Nat.le_of_ble_eq_true rfl | exact fun _ => Nat.le_of_ble_eq_true rfl | exact Int.natCast_nonneg _ | exact fun _ => Int.natCast_nonneg _ | exact in_t _ _ _ | exact (in_t _ _ _).un | exact gq_f | exact cs1
  case zk =>
  have hp1 : 1 ≤ 2 ^ boxes.length := Nat.one_le_two_pow
  have hp2 : 2 ^ boxes.length ≤ 2 ^ 8 := Nat.pow_le_pow_right (by decide) (by omega)
  obtain ⟨w, hw⟩ : ∃ w : Nat, (w : Int) = n1 % ((2 ^ boxes.length : Nat) : Int) := ⟨(n1 % ((2 ^ boxes.length : Nat) : Int)).toNat, by have := Int.emod_nonneg n1 (show ((2 ^ boxes.length : Nat) : Int) ≠ 0 by omega); omega⟩
  have hsh : IntKind.i64.wrap (1 * 2 ^ (min (((boxes.map NL.c).length : Int).toNat) 64)) = ((2 ^ boxes.length : Nat) : Int) := by rw [zb]; exact shl1 (by omega)
  have cm2 : Ans Try.prog 35 [.int n1, .int (IntKind.i64.wrap (1 * 2 ^ (min (((boxes.map NL.c).length : Int).toNat) 64)))] (.int w) := by rw [hsh, hw]; exact mod_t n1 _ (by omega) (by omega)
  have cmm : Ans Try.prog 51 [.int w, .int ((boxes.map NL.c).length : Int)] (outW (memL (w : Int) boxes.length)) := by rw [zb]; exact members_w _ _ (by omega)
  have hmr := memL_rising (n := boxes.length) (q := w)
  have hml := memL_len (w : Int) boxes.length
  generalize memL (w : Int) boxes.length = M at *
  refine Aw.sd tab_ok mixed mb0 [(5, [.int w]), (8, [outW M])] rfl (by kernel_rfl) rfl rfl ?zo ?zk
  case zo =>
    repeat' apply AllP.cons
    all_goals first | exact trivial | exact id | exact rfl | exact fun _ => rfl | exact Nat.le_of_ble_eq_true rfl | exact fun _ => Nat.le_of_ble_eq_true rfl | exact Int.natCast_nonneg _ | exact fun _ => Int.natCast_nonneg _ | exact in_t _ _ _ | exact (in_t _ _ _).un | exact gq_f | exact cm2 | exact cmm
  case zk =>
  have zM := ints_lenI M
  have zf : ∀ x : Int, (if most < x then most else x) = min x most := fun x => by omega
  refine Aw.sm tab_ok mb0 [] rfl rfl ?zo ?zk
  case zo =>
    repeat' apply AllP.cons
    all_goals first | exact trivial | exact id | exact rfl | exact fun _ => rfl | exact Nat.le_of_ble_eq_true rfl | exact fun _ => Nat.le_of_ble_eq_true rfl | exact Int.natCast_nonneg _ | exact fun _ => Int.natCast_nonneg _ | exact in_t _ _ _ | exact (in_t _ _ _).un | exact gq_f | exact (show (0 : Int) ≤ if most < ((ints M).length : Int) then most else ((ints M).length : Int) by rw [zf]; omega) | exact (show (if most < ((ints M).length : Int) then most else ((ints M).length : Int)) ≤ ((ints M).length : Int) by rw [zf]; omega)
  case zk =>
  obtain ⟨O, hO⟩ : ∃ O, O = M.take (if most < ((ints M).length : Int) then most else ((ints M).length : Int)).toNat := ⟨_, rfl⟩
  have hOr : risingF boxes.length (-1) O = true := by rw [hO]; exact rising_take _ hmr
  have hOl : O.length ≤ (min most boxes.length).toNat := by
    rw [hO, List.length_take, zf]; omega
  have hO8 : O.length ≤ 8 := by omega
  have hOin : ∀ i ∈ O, 0 ≤ i ∧ i < boxes.length := fun i hi => by have := rising_gt hOr i hi; omega
  have hOi : (ints M).take (if most < ((ints M).length : Int) then most else ((ints M).length : Int)).toNat = ints O := by rw [hO]; unfold ints; rw [List.map_take]
  have hTO := tt O ⟨hOr, hOl⟩
  have zO := ints_lenI O
  have fO : Free (A.sl M.isEmpty .any (ints O)) := free_ints _ _ _
  have cs2 := spares_t p q M.isEmpty cells boxes O hcin hbf hbr hOin hO8
  have cbf := before_t O l M.isEmpty l.isEmpty (by omega) (by omega)
  have cbf : Ans Try.prog 52 [.sl M.isEmpty .any (ints O), outW l] (.bool (befF O l)) := cbf
  unfold Win Ahead at hTO
  rw [tsp, tla]
  generalize closedF cells boxes l = V at *
  generalize closedF cells boxes O = W at *
  refine Aw.keep (n := 0) (cst := [(0, .sl p .any (cells.map Cel.c)), (1, .sl q .any (boxes.map NL.c)), (8, outW l), (9, .int V.sp), (10, .int V.la), (13, .int V.sp), (14, .int V.la)]) (v := [(15, .sl M.isEmpty .any (ints O))]) (Hl := []) hE
    ⟨fc.under, fb.under, (outW_free _).under, .s _, .s _, .s _, .s _, trivial⟩ ⟨fO.under, trivial⟩ trivial ⟨⟨.refl _, .refl _, .refl _, .refl _, .refl _, .refl _, .refl _, trivial⟩, ⟨.of_eq (show A.sl M.isEmpty .any (ints O) = A.sl M.isEmpty .any ((ints M).take (if most < ((ints M).length : Int) then most else ((ints M).length : Int)).toNat) by rw [hOi]), trivial⟩, trivial, Nat.zero_le _⟩ ?_
  refine Aw.sm tab_ok mb0 [(3, [.tup [.int W.sp, .int W.la]])] rfl rfl ?zo ?zk
  case zo =>
    repeat' apply AllP.cons
    all_goals first | exact trivial | exact id | exact rfl | exact fun _ => rfl | exact Nat.le_of_ble_eq_true rfl | exact fun _ => Nat.le_of_ble_eq_true rfl | exact Int.natCast_nonneg _ | exact fun _ => Int.natCast_nonneg _ | exact in_t _ _ _ | exact (in_t _ _ _).un | exact gq_f | exact cs2
  case zk =>
  refine Aw.seq ?_
  refine Aw.sm tab_ok mb0 [] rfl rfl ?zo ?zk
  case zo =>
    repeat' apply AllP.cons
    all_goals first | exact trivial | exact id | exact rfl | exact fun _ => rfl | exact Nat.le_of_ble_eq_true rfl | exact fun _ => Nat.le_of_ble_eq_true rfl | exact Int.natCast_nonneg _ | exact fun _ => Int.natCast_nonneg _ | exact in_t _ _ _ | exact (in_t _ _ _).un | exact gq_f | exact fun _ _ => rfl | exact gq_c | exact fun h1 h2 => gq_c h1 h2
  case zk =>
  refine Aw.cond rfl (fun h => ?_) (fun h => Aw.skip ?_)
  · exfalso
    have h : cond (cond (cond (V.sp != V.sp) true (V.la != V.la)) true (decide (W.sp > V.sp))) true (cond (W.sp == V.sp) (decide (W.la < V.la)) false) = true := h
    simp only [c_or, c_and, bne_self_eq_false, Bool.or_eq_true, Bool.and_eq_true, decide_eq_true_eq, beq_iff_eq] at h
    rcases h with (h | h) | h
    · exact absurd h.1 (by decide)
    · exact hTO (.inl h)
    · exact hTO (.inr ⟨h.1, .inl h.2⟩)
  refine Aw.sm tab_ok mb0 [] rfl rfl ?zo ?zk
  case zo =>
    repeat' apply AllP.cons
    all_goals first | exact trivial | exact id | exact rfl | exact fun _ => rfl | exact Nat.le_of_ble_eq_true rfl | exact fun _ => Nat.le_of_ble_eq_true rfl | exact Int.natCast_nonneg _ | exact fun _ => Int.natCast_nonneg _ | exact in_t _ _ _ | exact (in_t _ _ _).un | exact gq_f
  case zk =>
  refine Aw.sm tab_ok mb0 [(18, [.bool (befF O l)]), (23, [.bool true])] rfl rfl ?zo ?zk
  case zo =>
    repeat' apply AllP.cons
    all_goals first | exact trivial | exact id | exact rfl | exact fun _ => rfl | exact Nat.le_of_ble_eq_true rfl | exact fun _ => Nat.le_of_ble_eq_true rfl | exact Int.natCast_nonneg _ | exact fun _ => Int.natCast_nonneg _ | exact in_t _ _ _ | exact (in_t _ _ _).un | exact gq_f | exact fun _ => cbf | exact fun _ => works_t | exact fun _ _ => rfl | exact gq_c | exact fun h1 h2 => gq_c h1 h2
  case zk =>
  refine Aw.ret ⟨_, .cons (.tmp _) .nil, ?_⟩
  have e : cond (cond (cond (!(cond (W.sp == V.sp) (W.la == V.la) false)) true (decide (((ints O).length : Int) > ((ints l).length : Int)))) true (cond (((ints O).length : Int) == ((ints l).length : Int)) (!(befF O l)) false)) true false = true := by
    rw [zO, zl]
    by_cases e1 : W.sp = V.sp
    · by_cases e2 : W.la = V.la
      · have h3 : ¬ (O.length < l.length ∨ (O.length = l.length ∧ befF O l = true)) := fun h => hTO (.inr ⟨e1, .inr ⟨e2, h⟩⟩)
        by_cases e3 : O.length = l.length
        · have h4 : befF O l = false := by
            cases e4 : befF O l with
            | false => rfl
            | true => exact absurd (.inr ⟨e3, e4⟩) h3
          rw [e3, h4]; simp
        · have : (O.length : Int) > l.length := by omega
          rw [decide_eq_true this]; simp
      · have : (W.la == V.la) = false := by simpa using e2
        rw [this]; cases (W.sp == V.sp) <;> rfl
    · have : (W.sp == V.sp) = false := by simpa using e1
      rw [this]; rfl
  exact congrArg A.bool e
end Go.Proofs.Ytdiclbgklegelaa

namespace Go.Proofs.Ytdiclbgklegelaa
open Go Go.AL Go.ChangeShapes Go.WideShapes Go.ChangeAt Go.RowKit
set_option maxRecDepth 100000 in
theorem stockSpared_lifted (os : Os) (started : os.Started) (H : Type) (enc : TypeId × Value → H) :
    ReturnsInHanded {} Try.checked os 16 .any (Rows.stockSparedSpec.pre6 enc Try.prog Try.f16 [] false) (Rows.stockSparedSpec.post enc Try.prog Try.f16 false true false false) := by
  refine lifted2 (tb := 4) (C := Try.checked) own started (by kernel_rfl) Try.func16
    (ChangeSpec.witness6 (enc := enc) (C := Try.checked) false ⟨#[], #[.slice none 0 0, .slice none 0 0, .agg #[.int .i64 0, .int .i64 0]], []⟩ 8 (by kernel_rfl) (by kernel_rfl) (by kernel_rfl) (by kernel_rfl))
    laidOut ?_ rfl rfl (by kernel_rfl) uBool ?_ ?_
  · rw [Try.params16]; exact all3t (p := fun t => Try.prog.readableRec t = true ∧ t < Try.prog.types.size) t54 t55 t23
  · intro ds hd
    rw [Try.params16] at hd
    match ds, hd with
    | [d0, d1, d2], _ => rfl
  · intro W base args ds p hval hA hwt
    rw [Try.params16] at hA hval
    obtain ⟨v0, v1, v2, d0, d1, d2, p0, p1, p2, rfl, rfl, rfl, h0, h1, h2⟩ := trodAll_three hA
    obtain ⟨b0, y0, q0, s0⟩ := arg_cels (φ := fun _ => none) (hval 0 54 v0 rfl rfl) h0 fun k hk => hwt k (List.mem_append.2 (.inl hk))
    obtain ⟨b1, y1, q1, s1, z1⟩ := arg_boxes (φ := fun _ => none) (hval 1 55 v1 rfl rfl) h1 fun k hk => hwt k (List.mem_append.2 (.inr (List.mem_append.2 (.inl hk))))
    obtain ⟨y2, q2⟩ := arg_pair (φ := fun _ => none) (hval 2 23 v2 rfl rfl) h2
    exact ⟨_, _, vrs3 q0 q1 q2, sparedL_t b0 y0 b1 y1 y2.1 y2.2 s0 s1 z1⟩
theorem stockSpared_holds : Rows.StockSparedSaid :=
  OpenClaim.holds_of_wide 16 Try.f16 rfl rfl rfl rfl rfl rfl rfl ⟨rfl, rfl, rfl, rfl, rfl⟩ rfl rfl rfl rfl rfl (by kernel_rfl) Try.func16 (by kernel_rfl)
    (of_decide_eq_true (by kernel_rfl)) (by unfold Func.isWrapper; first | (rw [if_pos (by decide +kernel)]; kernel_rfl) | (rw [if_neg (by decide +kernel)]; exact ⟨rfl, rfl⟩))
    (fun os started H enc _ => stockSpared_lifted os started H enc)
end Go.Proofs.Ytdiclbgklegelaa

