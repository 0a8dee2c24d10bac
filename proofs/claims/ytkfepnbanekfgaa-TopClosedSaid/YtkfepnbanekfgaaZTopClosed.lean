/- TopClosed holds: The fewest casts that surely find a shoal are the fewest boxes that spare it wherever it can be; with one box less some cell in which it can be is open. No condition. -/
import Derived.Test.YtkfepnbanekfgaaK7
import Derived.ChangeSame
import Derived.Laws.IdiomArrays
import Derived.Lib.SmallJoins
import Derived.ProofKit
import Derived.Test.YtkfepnbanekfgaaRows
set_option linter.all false
namespace Go.AL
open Go Go.RowKit Go.ChangeShapes Go.WideShapes Go.ChangeAt
section
variable {H : Type} {enc : TypeId × Value → H} {P : Program} {w : World} {base : Nat} {spare : Nat → Bool} {held : Bool} {φ : Names}
theorem lifted2 {C : Checked} {os : Os} {f : FuncId} {fn : Func} {s : ChangeSpec} {apart fresh handsOn again : Bool} {tb : TypeId}
    (own : ownKnob C.prog.godebug = none) (started : os.Started) (noInit : C.prog.inits.idxOf? f = none) (hfn : C.prog.funcs[f]? = some fn)
    (witness : ∃ (w : World) (tape : Tape) (i : Input), w.os = os ∧ (w.forCall tape i).Shaped C.prog ∧ i.vars = [] ∧ Input.okWide C.prog (w.forCall tape i) .any w.heap.size f i ∧
      s.pre6 enc C.prog fn [] apart (w.forCall tape i).memory i.args ∧ ({} : Assume).holds C.prog (lone (Frame.enter C.prog f i.args .normal) [] (w.forCall tape i)))
    (hl : laidOutB C.prog = true) (hts : ∀ t ∈ fn.params.toList, C.prog.readableRec t = true ∧ t < C.prog.types.size) (hv : s.vars = []) (hvt : s.plain.varTypes C.prog = [])
    (hr : fn.resultTypes = #[tb]) (htb : C.prog.underlying tb = some .bool)
    (hs : ∀ ds : List (DataW H), ds.length = fn.params.size → s.fn H ds = { results := [.lit (.bool true)], args := ds })
    (key : ∀ (W : World) (base : Nat) (args : Array Value) (ds : List (DataW H)) (p : List MemPlace),
      (∀ (j : Nat) t v, fn.params[j]? = some t → args[j]? = some v → Value.okWide C.prog W .any base t v) →
      DataW.TrodAll enc C.prog W 0 (fun _ => true) true fn.params.toList args.toList ds p → (∀ k ∈ DataW.weightsEach C.prog fn.params.toList ds, k ≤ reachBytes) → ∃ (φ : Names) (az : List A), VRs φ (allZ W) W az args ∧ Ans C.prog f az (.bool true)) :
    ReturnsInHanded {} C os f .any (s.pre6 enc C.prog fn [] apart) (s.post enc C.prog fn apart fresh handsOn again) := by
  refine returnsInHanded_of_calls own started noInit witness ?_
  intro w tape i _ _ _ hok hpre hholds
  obtain ⟨_, _, _, fn', hfn', _, _, _, _, hval⟩ := hok
  have e : fn' = fn := Option.some.inj (hfn'.symm.trans hfn)
  subst e
  obtain ⟨⟨ds, gs, before, hw, hc⟩, hz⟩ := hpre
  have hzw := hz.weights hw
  have hW := DataW.Whole.of_heap (w' := w.forCall tape i) (by rfl) hw
  have hW2 := hW
  obtain ⟨p, q, hA, hV, hpq, hz, hn⟩ := hW2
  rw [hv] at hV
  have hg : gs = [] := by
    cases gs with
    | nil => rfl
    | cons a b => exact hV.elim
  subst hg
  have hlen : ∀ {ts : List TypeId} {vs : List Value} {ds : List (DataW H)} {p : List MemPlace}, DataW.TrodAll enc C.prog (w.forCall tape i) 0 (fun _ => true) true ts vs ds p → ds.length = ts.length := fun {ts} => by
    induction ts with
    | nil => intro vs ds p h; obtain ⟨_, rfl, _⟩ := trodAll_nil h; rfl
    | cons t ts ih => intro vs ds p h; obtain ⟨v, vs1, d, ds1, a, b, _, rfl, _, _, h2⟩ := trodAll_cons h; simp [ih h2]
  have hd : ds.length = fn'.params.size := by rw [hlen hA]; simp
  have hzw : ∀ k ∈ DataW.weightsEach C.prog fn'.params.toList ds, k ≤ reachBytes := fun k hk => by
    have e : (OpenSpec.ofChange s).bare.plain.varTypes C.prog = [] := hvt
    rw [e, List.append_nil, List.append_nil] at hzw
    exact of_decide_eq_true (List.all_eq_true.1 hzw k hk)
  obtain ⟨φ, az, hvs, ha⟩ := key (w.forCall tape i) w.heap.size i.args ds p hval hA hzw
  have e := hs (ds ++ []) (by simpa using hd)
  refine (law_row (apart := apart) (fresh := fresh) (handsOn := handsOn) (again := again) hl hts hv hW (by rw [e]; simp) (by rw [e]) (by rw [e]) hr htb hvs ha).mono fun e W' ⟨v, he, hp⟩ => ?_
  subst he
  exact ChangeSpec.post_blind hp
theorem all1t {p : Nat → Prop} {a : Nat} (h : p a) : ∀ t ∈ (#[a] : Array Nat).toList, p t := fun t ht => by
  rcases List.mem_cons.1 ht with rfl | ht
  · exact h
  · cases ht
theorem all2t {p : Nat → Prop} {a b : Nat} (h : p a) (k : p b) : ∀ t ∈ (#[a, b] : Array Nat).toList, p t := fun t ht => by
  rcases List.mem_cons.1 ht with rfl | ht
  · exact h
  · exact all1t k t ht
theorem all3t {p : Nat → Prop} {a b c : Nat} (h : p a) (k : p b) (l : p c) : ∀ t ∈ (#[a, b, c] : Array Nat).toList, p t := fun t ht => by
  rcases List.mem_cons.1 ht with rfl | ht
  · exact h
  · exact all2t k l t ht
theorem all4t {p : Nat → Prop} {a b c d : Nat} (h : p a) (k : p b) (l : p c) (m : p d) : ∀ t ∈ (#[a, b, c, d] : Array Nat).toList, p t := fun t ht => by
  rcases List.mem_cons.1 ht with rfl | ht
  · exact h
  · exact all3t k l m t ht
theorem vrs4 {a a' a2 a3 : A} {v v' v2 v3 : Value} {Z : Still} (h : VR φ Z w a v) (h' : VR φ Z w a' v') (h2 : VR φ Z w a2 v2) (h3 : VR φ Z w a3 v3) : VRs φ Z w [a, a', a2, a3] #[v, v', v2, v3] := ⟨rfl, fun i hi => by
  match i, hi with
  | 0, _ => exact h
  | 1, _ => exact h'
  | 2, _ => exact h2
  | 3, _ => exact h3⟩
theorem slice_cell {t e : TypeId} (ht : P.underlying t = some (.slice e)) {v : Value} {r : Reach} {b0 : Nat} (hok : Value.okWide P w r b0 t v) : Cell.okWide P w r b0 t v ∧ v.cells.toList = [v] := by
  unfold Value.okWide at hok
  rw [ht] at hok
  have hok : Cell.okWide P w r b0 t v := hok
  refine ⟨hok, ?_⟩
  unfold Cell.okWide Cell.ok at hok
  rw [ht] at hok
  cases v <;> first | rfl | exact hok.elim
end
end Go.AL

namespace Go.AL
open Go Go.RowKit Go.ChangeShapes Go.WideShapes Go.ChangeAt
section
variable {H : Type} {enc : TypeId × Value → H} {P : Program} {w : World} {base : Nat} {held : Bool} {φ : Names}
def CellsAre (φ : Names) (w : World) (az : List A) (cs : List Value) : Prop :=
  cs.length = az.length ∧ ∀ i, i < az.length → VR φ (allZ w) w (az.getD i .un) (cs.getD i undef) ∧ (cs.getD i undef).oneCell' = true
theorem CellsAre.nil : CellsAre φ w [] [] := ⟨rfl, fun i h => by simp at h⟩
theorem CellsAre.one {a : A} {v : Value} (h : VR φ (allZ w) w a v) (h1 : v.oneCell' = true) : CellsAre φ w [a] [v] := ⟨rfl, fun i hi => by
  have : i = 0 := by simp at hi; exact hi
  subst this; exact ⟨h, h1⟩⟩
theorem CellsAre.app {az bz : List A} {cs ds : List Value} (h : CellsAre φ w az cs) (k : CellsAre φ w bz ds) : CellsAre φ w (az ++ bz) (cs ++ ds) := by
  refine ⟨by simp [h.1, k.1], fun i hi => ?_⟩
  by_cases h1 : i < az.length
  · have := h.2 i h1
    rw [show (az ++ bz).getD i .un = az.getD i .un by simp [List.getD_eq_getElem?_getD, List.getElem?_append, h1],
      show (cs ++ ds).getD i undef = cs.getD i undef by simp [List.getD_eq_getElem?_getD, List.getElem?_append, h.1, h1]]
    exact this
  · have hi2 : i - az.length < bz.length := by simp only [List.length_append] at hi; omega
    have := k.2 (i - az.length) hi2
    rw [show (az ++ bz).getD i .un = bz.getD (i - az.length) .un by simp [List.getD_eq_getElem?_getD, List.getElem?_append, h1],
      show (cs ++ ds).getD i undef = ds.getD (i - az.length) undef by simp [List.getD_eq_getElem?_getD, List.getElem?_append, h.1, h1]]
    exact this
theorem CellsAre.agg {az : List A} {cs : List Value} (h : CellsAre φ w az cs) : VR φ (allZ w) w (.agg az) (.agg cs.toArray) := by
  have e : ∀ i, cs.toArray.getD i undef = cs.getD i undef := fun i => by simp [Array.getD_eq_getD_getElem?, List.getD_eq_getElem?_getD]
  refine .agg _ _ (by simp [h.1]) (fun i hi => ?_) fun i hi => ?_
  · rw [e]; exact (h.2 i hi).2
  · rw [e]; exact (h.2 i hi).1
def Reads (enc : TypeId × Value → H) (P : Program) (w : World) (base : Nat) (held : Bool) (φ : Names) (e sz : Nat) {α : Type} (c : α → List A) (Q : α → Prop) : Prop :=
  ∀ n cs y, DataW.trod enc P w base (fun _ => true) held n e cs = some y → (∀ k ∈ y.1.weights P e, k ≤ reachBytes) → ∃ a : α, Q a ∧ (c a).length = sz ∧ CellsAre φ w (c a) cs
theorem Reads.imp {e sz : Nat} {α β : Type} {c : α → List A} {d : β → List A} {Q : α → Prop} {R : β → Prop} (h : Reads enc P w base held φ e sz c Q) (k : ∀ a, Q a → ∃ b, R b ∧ d b = c a) : Reads enc P w base held φ e sz d R := fun n cs y hy hw => by
  obtain ⟨a, q, l, r⟩ := h n cs y hy hw
  obtain ⟨b, q2, e2⟩ := k a q
  exact ⟨b, q2, by rw [e2]; exact l, by rw [e2]; exact r⟩
theorem Reads.int {e : Nat} (he : P.underlying e = some (.int .i64)) : Reads enc P w base held φ e 1 (fun n : Int => [A.int n]) fun _ => True := fun n cs y h _ => by
  obtain ⟨z, rfl, _, _⟩ := DataW.trod_int he h
  exact ⟨z, trivial, rfl, .one (.s _) rfl⟩
theorem weightsAll_at {e : Nat} : ∀ {l : List (DataW H)} {d : DataW H}, d ∈ l → ∀ k ∈ d.weights P e, k ∈ DataW.weightsAll P e l
  | x :: l, d, hm, k, hk => by
    rw [DataW.weightsAll, List.mem_append]
    rcases List.mem_cons.1 hm with rfl | hm
    · exact .inl hk
    · exact .inr (weightsAll_at hm k hk)
theorem cells_spot {a : Addr} {n : Nat} {cs : List Value} (h : w.cells? base a n = some cs) (hn : 0 < n) : a.spot = none := by
  obtain ⟨hl, hc⟩ := cells_at h
  have h0 := hc 0 hn
  rw [List.getElem?_eq_getElem (by omega)] at h0
  have := World.cell?_spot h0
  rwa [show a.add 0 = a from by unfold Addr.add; simp] at this
theorem told_list {α : Type} {c : α → List A} {Q : α → Prop} {R : α → Nat → Prop} (n : Nat) (h : ∀ i, i < n → ∃ a, Q a ∧ R a i) : ∃ l : List α, l.length = n ∧ (∀ a ∈ l, Q a) ∧ ∀ i (hi : i < l.length), R l[i] i := by
  induction n with
  | zero => exact ⟨[], rfl, fun _ h => by simp at h, fun i hi => by simp at hi⟩
  | succ n ih =>
    obtain ⟨l, hl, hq, hr⟩ := ih fun i hi => h i (by omega)
    obtain ⟨a, qa, ra⟩ := h n (by omega)
    refine ⟨l ++ [a], by simp [hl], fun x hx => ?_, fun i hi => ?_⟩
    · rcases List.mem_append.1 hx with hx | hx
      · exact hq x hx
      · rw [List.mem_singleton.1 hx]; exact qa
    · by_cases h1 : i < l.length
      · rw [List.getElem_append_left h1]; exact hr i h1
      · have : i = l.length := by simp at hi; omega
        subst this
        rw [List.getElem_append_right (by omega)]
        simp only [Nat.sub_self, List.getElem_cons_zero]
        rw [hl]; exact ra
theorem Reads.slice {t e sz : Nat} {α : Type} {c : α → List A} {Q : α → Prop} (ht : P.underlying t = some (.slice e)) (hc : P.cellsOf e = sz) (h0 : 0 < sz) (h : Reads enc P w base held φ e sz c Q) :
    Reads enc P w base held φ t 1 (fun x : Bool × List α => [A.sl x.1 .any (x.2.map c)]) fun x => (∀ a ∈ x.2, Q a) ∧ x.2.length * P.bytesOf e ≤ reachBytes := by
  intro fuel cs y hy hw
  rcases DataW.trod_slice ht hy with ⟨rfl, _⟩ | ⟨ad, len, cap, elems, rest, n, _, rfl, hx, hbl, hl, hm, hlen, hel, hre, _⟩
  · exact ⟨(true, []), ⟨fun a ha => (nomatch ha), by simp⟩, rfl, .one (.nil _) rfl⟩
  · obtain ⟨hrl, hre⟩ := hre rfl
    have hwt : (elems.map (·.1)).length * P.bytesOf e ≤ reachBytes ∧ ∀ d ∈ elems.map (·.1), ∀ k ∈ d.weights P e, k ≤ reachBytes := by
      rw [hx] at hw
      simp only [DataW.weights, ht] at hw
      refine ⟨Nat.le_trans (Nat.mul_le_mul_right _ (Nat.le_add_right _ (rest.map (·.1)).length)) (hw _ (List.mem_cons_self ..)), fun d hd k hk => hw k (List.mem_cons_of_mem _ (List.mem_append.2 (.inl (weightsAll_at hd k hk))))⟩
    have hsp : cap = 0 ∨ ad.spot = none := by
      rcases Nat.eq_zero_or_pos cap with h | hpos
      · exact .inl h
      right
      rcases Nat.eq_zero_or_pos len with hz | hlp
      · subst hz
        have h1 := hre 0 (by omega)
        rw [hc] at h1
        obtain ⟨r, hr⟩ : ∃ r, rest[0]? = some r := ⟨rest[0]'(by omega), List.getElem?_eq_getElem _⟩
        rw [hr, Option.bind_eq_some_iff] at h1
        obtain ⟨cs, h2, _⟩ := h1
        rw [show ad.add ((0 + 0) * sz) = ad from by unfold Addr.add; simp] at h2
        exact cells_spot h2 h0
      · have h1 := hel 0 hlp
        rw [hc] at h1
        obtain ⟨r, hr⟩ : ∃ r, elems[0]? = some r := ⟨elems[0]'(by omega), List.getElem?_eq_getElem _⟩
        rw [hr, Option.bind_eq_some_iff] at h1
        obtain ⟨cs, h2, _⟩ := h1
        rw [show ad.add (0 * sz) = ad from by unfold Addr.add; simp] at h2
        exact cells_spot h2 h0
    rcases hsp with hz | hsp
    · subst hz
      have : len = 0 := by omega
      subst this
      exact ⟨(false, []), ⟨fun a ha => (nomatch ha), by simp⟩, rfl, .one (.slz _ ad) rfl⟩
    obtain ⟨b, off, sp⟩ := ad
    simp only at hsp
    subst hsp
    have each : ∀ i, i < len → ∃ a : α, Q a ∧ ((c a).length = sz ∧ ∃ cs, w.cells? base ((⟨b, off, none⟩ : Addr).add (i * sz)) sz = some cs ∧ CellsAre φ w (c a) cs) := fun i hi => by
      have h1 := hel i hi
      rw [hc] at h1
      rw [List.getElem?_eq_getElem (by omega), Option.bind_eq_some_iff] at h1
      obtain ⟨cs, h2, h3⟩ := h1
      obtain ⟨a, qa, la, ra⟩ := h n cs _ h3 (hwt.2 _ (List.mem_map.2 ⟨_, List.getElem_mem (by omega), rfl⟩))
      exact ⟨a, qa, la, cs, h2, ra⟩
    obtain ⟨l, hll, hq, hr⟩ := told_list (c := c) len each
    have hcell : ∀ i j, i < l.length → j < sz → ∃ v, w.cell? ⟨b, off + i * sz + j, none⟩ = some v ∧ VR φ (allZ w) w ((((l.map c).getD i []).getD j .un)) v ∧ v.oneCell' = true := fun i j hi hj => by
      obtain ⟨q1, cs, q2, q3⟩ := hr i hi
      have h1 := (cells_at q2).2 j hj
      rw [add_plain, add_plain] at h1
      have hcl : cs.length = sz := by rw [q3.1, q1]
      rw [List.getElem?_eq_getElem (by omega)] at h1
      have h2 := q3.2 j (by omega)
      have e1 : cs.getD j undef = cs[j]'(by omega) := by rw [List.getD_eq_getElem?_getD, List.getElem?_eq_getElem (by omega)]; rfl
      have e2 : (l.map c).getD i [] = c l[i] := by rw [List.getD_eq_getElem?_getD, List.getElem?_map, List.getElem?_eq_getElem hi]; rfl
      rw [e1] at h2
      exact ⟨_, h1, by rw [e2]; exact h2.1, h2.2⟩
    let val : Nat → Nat → Value := fun i j => (w.cell? ⟨b, off + i * sz + j, none⟩).getD undef
    have hval : ∀ i j, i < l.length → j < sz → w.cell? ⟨b, off + i * sz + j, none⟩ = some (val i j) ∧ VR φ (allZ w) w ((((l.map c).getD i []).getD j .un)) (val i j) ∧ (val i j).oneCell' = true := fun i j hi hj => by
      obtain ⟨v, h1, h2, h3⟩ := hcell i j hi hj
      have : val i j = v := by simp only [val, h1]; rfl
      rw [this]; exact ⟨h1, h2, h3⟩
    have hl2 : (l.map c).length = l.length := by simp
    refine ⟨(false, l), ⟨hq, ?_⟩, rfl, .one ?_ rfl⟩
    · have := hwt.1
      rw [List.length_map, hlen] at this
      rw [hll]; exact this
    · have key : VR φ (allZ w) w (.sl false .any (l.map c)) (.slice (some ⟨b, off, none⟩) (l.map c).length cap) := by
        refine .sl .any _ b off sz cap val (by rw [hl2, hll]; exact hl) (fun h => by cases h) hm (fun z hz => ?_) (fun i j hi hj => ?_) (fun i j hi hj => ?_) (fun i j hi hj => ?_) fun i j hi hj => ?_
        · obtain ⟨a, ha, rfl⟩ := List.mem_map.1 hz
          obtain ⟨i, hi, rfl⟩ := List.mem_iff_getElem.1 ha
          exact (hr i hi).1
        all_goals rw [hl2] at hi
        · exact ⟨_, (hval i j hi hj).1⟩
        · exact (hval i j hi hj).1
        · exact (hval i j hi hj).2.2
        · exact (hval i j hi hj).2.1
      rw [hl2, hll] at key; exact key
inductive Flds (enc : TypeId × Value → H) (P : Program) (w : World) (base : Nat) (held : Bool) (φ : Names) : Nat → List Field → {α : Type} → (α → List A) → (α → Prop) → Nat → Prop
  | nil (off : Nat) : Flds enc P w base held φ off [] (fun _ : Unit => []) (fun _ => True) 0
  | cons {off : Nat} {f : Field} {fs : List Field} {sz m : Nat} {α β : Type} {c : α → List A} {Q : α → Prop} {d : β → List A} {R : β → Prop} (ho : f.offset = off) (hc : P.cellsOf f.type = sz) (h : Reads enc P w base held φ f.type sz c Q)
      (k : Flds enc P w base held φ (off + sz) fs d R m) : Flds enc P w base held φ off (f :: fs) (fun x : α × β => c x.1 ++ d x.2) (fun x => Q x.1 ∧ R x.2) (sz + m)
theorem Flds.read {n : Nat} {cs : List Value} : ∀ {fs : List Field} {off m : Nat} {α : Type} {c : α → List A} {Q : α → Prop} {xs : List (DataW H × List MemPlace)}, Flds enc P w base held φ off fs c Q m → xs.length = fs.length →
    (∀ (i : Nat) (f : Field), fs[i]? = some f → DataW.trod enc P w base (fun _ => true) held n f.type ((cs.drop f.offset).take (P.cellsOf f.type)) = xs[i]?) → (∀ k ∈ DataW.weightsEach P (fs.map (·.type)) (xs.map (·.1)), k ≤ reachBytes) →
    cs.length = off + m → ∃ a, Q a ∧ (c a).length = m ∧ CellsAre φ w (c a) (cs.drop off)
  | _, _, _, _, _, _, [], .nil off, _, _, _, hl => ⟨(), trivial, rfl, by rw [List.drop_of_length_le (by omega)]; exact .nil⟩
  | f :: fs, off, _, _, _, _, x :: xs, .cons (sz := sz) (m := m) ho hc h k, hxl, hx, hw, hl => by
    have h0 := hx 0 f rfl
    rw [ho, hc] at h0
    obtain ⟨a, qa, la, ra⟩ := h n _ x h0 fun k hk => hw k (by
      simp only [List.map_cons, DataW.weightsEach, List.mem_append]; exact .inl hk)
    obtain ⟨b, qb, lb, rb⟩ := Flds.read k (by simpa using hxl) (fun i f' hf => hx (i + 1) f' hf) (fun k hk => hw k (by
      simp only [List.map_cons, DataW.weightsEach, List.mem_append]; exact .inr hk)) (by omega)
    refine ⟨(a, b), ⟨qa, qb⟩, by simp only [List.length_append, la, lb], ?_⟩
    have e : cs.drop off = (cs.drop off).take sz ++ cs.drop (off + sz) := by
      rw [← List.drop_drop, List.take_append_drop]
    rw [e]
    exact ra.app rb
theorem Reads.struct {e m m' : Nat} {fs : Array Field} {l : List Field} {α : Type} {c : α → List A} {Q : α → Prop} (he : P.underlying e = some (.struct fs)) (hc : P.cellsOf e = m) (h : Flds enc P w base held φ 0 l c Q m') (hl : fs.toList = l) (hm : m' = m) : Reads enc P w base held φ e m c Q := by
  subst hl; subst hm
  intro fuel cs y hy hw
  obtain ⟨xs, n, _, hx, hl, hlen, hf⟩ := DataW.trod_struct he hy
  rw [hx] at hw
  simp only [DataW.weights, he] at hw
  obtain ⟨a, q, l, r⟩ := h.read (n := n) (cs := cs) (xs := xs) (by simpa using hlen) (fun i f hf' => hf i f (by simpa using hf')) hw (by omega)
  exact ⟨a, q, l, by simpa using r⟩
theorem Reads.arg_one {t : Nat} {α : Type} {x : α → A} {Q : α → Prop} {v : Value} {d : DataW H} {p : List MemPlace} (h : Reads enc P w base held φ t 1 (fun a => [x a]) Q) (hc : v.cells.toList = [v])
    (ht : DataW.Trod enc P w base (fun _ => true) held t v d p) (hw : ∀ k ∈ d.weights P t, k ≤ reachBytes) : ∃ a, Q a ∧ VR φ (allZ w) w (x a) v := by
  obtain ⟨fuel, ht⟩ := ht
  rw [hc] at ht
  obtain ⟨a, q, _, r⟩ := h fuel _ _ ht hw
  exact ⟨a, q, (r.2 0 (by simp)).1⟩
theorem Reads.arg_slice {t e : Nat} {α : Type} {x : α → A} {Q : α → Prop} {v : Value} {d : DataW H} {p : List MemPlace} {r : Reach} {b0 : Nat} (hu : P.underlying t = some (.slice e)) (h : Reads enc P w base held φ t 1 (fun a => [x a]) Q) (hok : Value.okWide P w r b0 t v)
    (ht : DataW.Trod enc P w base (fun _ => true) held t v d p) (hw : ∀ k ∈ d.weights P t, k ≤ reachBytes) : ∃ a, Q a ∧ VR φ (allZ w) w (x a) v := h.arg_one (slice_cell hu hok).2 ht hw
theorem Reads.arg_agg {t m : Nat} {α : Type} {c : α → List A} {Q : α → Prop} {v : Value} {d : DataW H} {p : List MemPlace} (h : Reads enc P w base held φ t m c Q) (hv : ∃ cs, v = .agg cs)
    (ht : DataW.Trod enc P w base (fun _ => true) held t v d p) (hw : ∀ k ∈ d.weights P t, k ≤ reachBytes) : ∃ a, Q a ∧ VR φ (allZ w) w (.agg (c a)) v := by
  obtain ⟨⟨cs⟩, rfl⟩ := hv
  obtain ⟨fuel, ht⟩ := ht
  obtain ⟨a, q, _, r⟩ := h fuel cs _ ht hw
  exact ⟨a, q, r.agg⟩
theorem agg_struct {t : Nat} {fs : Array Field} {v : Value} {r : Reach} {b0 : Nat} (hu : P.underlying t = some (.struct fs)) (hok : Value.okWide P w r b0 t v) : ∃ cs, v = .agg cs := by
  unfold Value.okWide at hok
  rw [hu] at hok
  obtain ⟨cs, rfl, _⟩ := hok
  exact ⟨cs, rfl⟩
theorem agg_array {t n e : Nat} {v : Value} {r : Reach} {b0 : Nat} (hu : P.underlying t = some (.array n e)) (hok : Value.okWide P w r b0 t v) : ∃ cs, v = .agg cs := by
  unfold Value.okWide at hok
  rw [hu] at hok
  obtain ⟨cs, rfl, _⟩ := hok
  exact ⟨cs, rfl⟩
theorem Reads.ints {t n e : Nat} (hu : P.underlying t = some (.array n e)) (hc : P.cellsOf t = n) (ue : P.underlying e = some (.int .i64)) (ce : P.cellsOf e = 1) :
    Reads enc P w base held φ t n (fun l : List Int => l.map A.int) fun l => l.length = n := by
  intro fuel cs y hy _
  obtain ⟨xs, m, _, _, hl0, hl, hx⟩ := DataW.trod_array hu hy
  rw [ce] at hx
  have hcl : cs.length = n := by omega
  have each : ∀ i, i < n → ∃ z : Int, True ∧ cs[i]? = some (.int .i64 z) := fun i hi => by
    have h1 := hx i hi
    rw [List.getElem?_eq_getElem (by omega)] at h1
    obtain ⟨z, hz, _⟩ := DataW.trod_int ue h1
    refine ⟨z, trivial, ?_⟩
    have h5 := congrArg (fun l => l[0]?) hz
    simpa using h5
  obtain ⟨l, hll, _, hr⟩ := told_list (c := fun _ : Int => []) n each
  refine ⟨l, hll, by simp [hll], by simp [hll, hcl], fun i hi => ?_⟩
  have hi : i < l.length := by simpa using hi
  have h1 := hr i hi
  have e1 : cs.getD i undef = .int .i64 l[i] := by rw [List.getD_eq_getElem?_getD, h1]; rfl
  have e2 : (l.map A.int).getD i .un = A.int l[i] := by simp [List.getD_eq_getElem?_getD, hi]
  rw [e1, e2]
  exact ⟨.s _, rfl⟩
end
end Go.AL

namespace Go.AL.Sh
open Go Go.AL Go.AL.Q
theorem countP_le {P M : Nat → Bool} : ∀ n, (List.range n).countP (fun i => P i && M i) ≤ (List.range n).countP P
  | 0 => Nat.le_refl _
  | n + 1 => by
    have ih := countP_le (P := P) (M := M) n
    rw [List.range_succ, List.countP_append, List.countP_append]
    simp only [List.countP_cons, List.countP_nil]
    cases P n <;> cases M n <;> simp <;> omega
theorem countP_eq {P M : Nat → Bool} : ∀ n, (List.range n).countP (fun i => P i && M i) = (List.range n).countP P ↔ ∀ i, i < n → P i = true → M i = true
  | 0 => by simp
  | n + 1 => by
    have ih := countP_eq (P := P) (M := M) n
    have hle := countP_le (P := P) (M := M) n
    rw [List.range_succ, List.countP_append, List.countP_append]
    simp only [List.countP_cons, List.countP_nil]
    constructor
    · intro h i hi hp
      cases hP : P n with
      | false =>
        rw [hP] at h
        simp at h
        rcases Nat.lt_or_ge i n with h1 | h1
        · exact ih.1 h i h1 hp
        · obtain rfl : i = n := by omega
          rw [hP] at hp; cases hp
      | true =>
        rw [hP] at h
        cases hM : M n with
        | false => rw [hM] at h; simp at h; omega
        | true =>
          rw [hM] at h
          simp at h
          rcases Nat.lt_or_ge i n with h1 | h1
          · exact ih.1 h i h1 hp
          · obtain rfl : i = n := by omega
            exact hM
    · intro h
      have h1 := ih.2 fun i hi hp => h i (by omega) hp
      have h2 := h n (by omega)
      rw [h1]
      cases hP : P n with
      | false => simp
      | true => rw [h2 hP]; simp
theorem closed_count {cells : List Cel} {boxes : List NL} {l : List Int} {P : Nat → Bool} {n : Nat} (hsp : ∀ k, k < n → (cells.getD k ⟨0, 0⟩).sp = if P k then 1 else 0) : ∀ k, k ≤ n → (closedN cells boxes l k).sp = (((List.range k).countP fun i => P i && inBox boxes l i : Nat) : Int)
  | 0, _ => rfl
  | k + 1, h => by
    have ih := closed_count (boxes := boxes) (l := l) hsp k (by omega)
    have hk := hsp k (by omega)
    rw [closedN, List.range_succ, List.countP_append]
    simp only [List.countP_cons, List.countP_nil]
    split
    · rename_i hb
      simp only [hb, Bool.and_true, ih, hk]
      split <;> simp_all
    · rename_i hb
      simp only [hb, Bool.and_false, ih]
      simp
structure BoxIs (boxes : List NL) (P : Nat → Bool) (n : Nat) (most : Int) (R : BSt) : Prop where
  ri : risingF boxes.length (-1) R.chosen = true
  len : R.chosen.length ≤ (min most boxes.length).toNat
  le : R.sp ≤ (((List.range n).countP P : Nat) : Int)
  all : ∀ c, risingF boxes.length (-1) c = true → c.length ≤ (min most boxes.length).toNat → (∀ i, i < n → P i = true → inBox boxes c i = true) → R.sp = (((List.range n).countP P : Nat) : Int)
  some : R.sp = (((List.range n).countP P : Nat) : Int) → ∀ i, i < n → P i = true → inBox boxes R.chosen i = true
theorem box_is {cells : List Cel} {boxes : List NL} {most : Int} {P : Nat → Bool} {n : Nat} (hm : 0 ≤ most) (hn : cells.length = n) (h12 : n ≤ 12) (hsp : ∀ k, k < n → (cells.getD k ⟨0, 0⟩).sp = if P k then 1 else 0) (hb : ∀ b ∈ boxes, ∀ c ∈ b.l, 0 ≤ c ∧ c < 12) : BoxIs boxes P n most (boxF cells boxes most) := by
  have top := box_top (cells := cells) (boxes := boxes) hm
  have key : ∀ c, risingF boxes.length (-1) c = true → (spareF cells (uniS (setsOf boxes) c)).sp = (((List.range n).countP fun i => P i && inBox boxes c i : Nat) : Int) := fun c hc => by
    have hin := (rising_in hc (Int.le_refl _) (by omega)).1
    unfold spareF
    rw [hn, spare_closed hb (fun i hi => by have := hin i hi; omega) n h12, closed_count hsp n (Nat.le_refl _)]
  have hch := key _ top.mem.1
  have hle := countP_le (P := P) (M := fun i => inBox boxes (boxF cells boxes most).chosen i) n
  refine ⟨top.mem.1, top.mem.2, ?_, fun c h1 h2 h3 => ?_, fun h => ?_⟩
  · rw [top.sp, hch]; exact Int.ofNat_le.2 hle
  · have hw := top.top c ⟨h1, h2⟩
    have hc := key c h1
    rw [(countP_eq n).2 h3] at hc
    have : ¬ (spareF cells (uniS (setsOf boxes) c)).sp > (spareF cells (uniS (setsOf boxes) (boxF cells boxes most).chosen)).sp := fun h => hw (.inl h)
    rw [hc, ← top.sp] at this
    have h5 : (boxF cells boxes most).sp ≤ (((List.range n).countP P : Nat) : Int) := by rw [top.sp, hch]; exact Int.ofNat_le.2 hle
    omega
  · rw [top.sp, hch] at h
    exact (countP_eq n).1 (by exact_mod_cast h)
end Go.AL.Sh

namespace Go.Proofs.Ytkfepnbanekfgaa
open Go Go.AL Go.AL.Q Go.AL.Sh
theorem le2 {f : FuncId} {a a' b b' v : A} (h : Ans Try.prog f [a, b] v) (ha : A.Le a a') (hb : A.Le b b') : Ans Try.prog f [a', b'] v := h.le rfl fun i hi => by
  match i, hi with
  | 0, _ => exact ha
  | 1, _ => exact hb
theorem le3 {f : FuncId} {a a' b b' c c' v : A} (h : Ans Try.prog f [a, b, c] v) (ha : A.Le a a') (hb : A.Le b b') (hc : A.Le c c') : Ans Try.prog f [a', b', c'] v := h.le rfl fun i hi => by
  match i, hi with
  | 0, _ => exact ha
  | 1, _ => exact hb
  | 2, _ => exact hc
theorem le4 {f : FuncId} {a a' b b' c c' d d' v : A} (h : Ans Try.prog f [a, b, c, d] v) (ha : A.Le a a') (hb : A.Le b b') (hc : A.Le c c') (hd : A.Le d d') : Ans Try.prog f [a', b', c', d'] v := h.le rfl fun i hi => by
  match i, hi with
  | 0, _ => exact ha
  | 1, _ => exact hb
  | 2, _ => exact hc
  | 3, _ => exact hd
abbrev exSea : Sea := ⟨3, 1, true, [], 1, true, [], 0⟩
abbrev exRep : List Rep := [⟨0, 1, 0, true⟩]
abbrev exSc : List Scale := [⟨3, 2, 4⟩]
abbrev exS : List Stk := [⟨⟨#[98]⟩, 1⟩, ⟨⟨#[97]⟩, 1⟩]
theorem e1 : CanR exSea exRep 0 0 = ([1], 0) := by decide +kernel
theorem e2 : agedS exSc 2 3 = ⟨0, 3⟩ := by decide +kernel
theorem e3 : agedE exSc 2 3 = 0 := by decide +kernel
theorem e4 : divF 5 exS = [2, 3] := by decide +kernel
theorem e5 : areB exS = true := by decide +kernel
theorem x1 : Ans Try.prog 15 [.agg [.int 3, .int 1, .sl true .exact [], .int 1, .sl true .exact [], .int 0], .sl false .exact (exRep.map Rep.c), .int 0, .int 0] (.tup [canA [1], .int 0]) := by
  have h := Can_t exSea ⟨by decide, by decide⟩ false exRep (by decide) 0 0
  rw [e1] at h
  exact le4 h (.agg (.cons (.refl _) (.cons (.refl _) (.cons (.any _ _ _) (.cons (.refl _) (.cons (.any _ _ _) (.cons (.refl _) .nil))))))) (.any _ _ _) (.refl _) (.refl _)
theorem x2 : Ans Try.prog 22 [.sl false .exact (exSc.map Scale.c), .int 2, .int 3] (.tup [.agg (Sp.c ⟨0, 3⟩), .int 0]) := by
  have e : agedR exSc 2 3 = [.agg (Sp.c ⟨0, 3⟩), .int 0] := by unfold agedR; rw [e2, e3]
  exact le3 (e ▸ aged_t false exSc 2 3 (by decide)) (.any _ _ _) (.refl _) (.refl _)
theorem x3 : Ans Try.prog 7 [.int 5, .sl false .exact (exS.map Stk.c)] (.tup [.sl false .exact (ints [2, 3]), .int 0]) := by
  have e : sharesA 5 exS = .tup [.sl false .exact (ints [2, 3]), .int 0] := by
    unfold sharesA; rw [e5, e4]; rfl
  exact le2 (e ▸ Divide_t false exS (by decide) 5) (.refl _) (.any _ _ _)
theorem x4 : Ans Try.prog 24 [canA [1], .sl false .exact (ints [1])] (.bool true) :=
  le2 (same_t false false [1] [1] (by decide)) (.any _ _ _) (.any _ _ _)
theorem x5 : Ans Try.prog 24 [.sl false .exact (ints [2, 3]), .sl false .exact (ints [2, 3])] (.bool true) :=
  le2 (same_t false false [2, 3] [2, 3] (by decide)) (.any _ _ _) (.any _ _ _)
theorem clo9_t : Ans Try.prog 6 [] (.bool true) := by
  refine told Try.func6 rfl rfl (Pure.of tab_ok Try.func6 rfl Try.ntmps6 rfl allN allN (.s _) fun E hE => ?_)
  refine Aw.sm tab_ok mb0 [] rfl rfl ?zo ?zk
  case zo =>
    repeat' apply AllP.cons
    all_goals first | exact trivial
  case zk =>
  refine Aw.sm tab_ok mb0 [(3, [.tup [canA [1], .int 0]])] rfl rfl ?zo ?zk
  case zo =>
    repeat' apply AllP.cons
    all_goals first | exact trivial | exact Nat.le_of_ble_eq_true rfl | exact x1
  case zk =>
  refine Aw.sm tab_ok mb0 [(0, [.agg (Sp.c ⟨2, 4⟩)]), (3, [.tup [.agg (Sp.c ⟨0, 3⟩), .int 0]])] rfl rfl ?zo ?zk
  case zo =>
    repeat' apply AllP.cons
    all_goals first | exact trivial | exact rfl | exact Nat.le_of_ble_eq_true rfl | exact to_t 2 4 | exact x2
  case zk =>
  refine Aw.freeze (id := 0) (t := 3) rfl rfl ?_
  refine Aw.sm tab_ok mb0 [(3, [.tup [.sl false .exact (ints [2, 3]), .int 0]])] rfl rfl ?zo ?zk
  case zo =>
    repeat' apply AllP.cons
    all_goals first | exact trivial | exact Nat.le_of_ble_eq_true rfl | exact x3
  case zk =>
  refine Aw.sd tab_ok mixed mb0 [(13, [.bool true]), (17, [.agg (Sp.c ⟨0, 3⟩)]), (18, [.bool true]), (23, [.bool true])] rfl (by kernel_rfl) rfl rfl ?zo ?zk
  case zo =>
    repeat' apply AllP.cons
    all_goals first | exact trivial | exact id | exact fun _ => rfl | exact fun _ => Nat.le_of_ble_eq_true rfl | exact fun _ => x4 | exact fun _ => x5 | exact fun _ => to_t 0 3 | exact fun _ => eqSpan _ _ ⟨0, 3⟩ ⟨0, 3⟩
  case zk =>
  exact Aw.ret ⟨_, .cons (.tmp _) .nil, rfl⟩
end Go.Proofs.Ytkfepnbanekfgaa

set_option maxRecDepth 100000
namespace Go.AL
open Go Go.RowKit Go.ChangeShapes Go.WideShapes Go.ChangeAt
section
variable {H : Type} {enc : TypeId × Value → H} {P : Program} {w : World} {base : Nat} {held : Bool} {φ : Names}
theorem Reads.str {e : Nat} (he : P.underlying e = some .string) : Reads enc P w base held φ e 1 (fun b : ByteArray => [A.s (.string b)]) fun _ => True := fun n cs y h _ => by
  obtain ⟨z, rfl, _, _⟩ := DataW.trod_string he h
  exact ⟨z, trivial, rfl, .one (.s _) rfl⟩
end
end Go.AL
namespace Go.Proofs.Ytkfepnbanekfgaa
open Go Go.AL Go.AL.Q Go.AL.Sh Go.ChangeShapes Go.WideShapes Go.ChangeAt Go.RowKit
theorem own : ownKnob Try.prog.godebug = none := by kernel_rfl
theorem laidOut : laidOutB Try.prog = true := by kernel_rfl
theorem ty_ok {t : TypeId} (h : Try.prog.readableRec t = true) (h2 : decide (t < Try.prog.types.size) = true) : Try.prog.readableRec t = true ∧ t < Try.prog.types.size := ⟨h, of_decide_eq_true h2⟩
theorem uBool : Try.prog.underlying 4 = some .bool := by kernel_rfl
def fld (n : String) (t o b : Nat) : Field := ⟨n, t, o, false, "", "", b⟩
theorem c3 : Try.prog.cellsOf 3 = 1 := by kernel_rfl
theorem u23 : Try.prog.underlying 23 = some (.slice 3) := by kernel_rfl
theorem c23 : Try.prog.cellsOf 23 = 1 := by kernel_rfl
theorem by3 : Try.prog.bytesOf 3 = 8 := by kernel_rfl
theorem t42 : Try.prog.readableRec 42 = true ∧ 42 < Try.prog.types.size := ty_ok (by kernel_rfl) (by kernel_rfl)
theorem t43 : Try.prog.readableRec 43 = true ∧ 43 < Try.prog.types.size := ty_ok (by kernel_rfl) (by kernel_rfl)
theorem t44 : Try.prog.readableRec 44 = true ∧ 44 < Try.prog.types.size := ty_ok (by kernel_rfl) (by kernel_rfl)
theorem t45 : Try.prog.readableRec 45 = true ∧ 45 < Try.prog.types.size := ty_ok (by kernel_rfl) (by kernel_rfl)
theorem fit_len {n k : Nat} (h : n * k ≤ reachBytes) (hk : 1 ≤ k) : (n : Int) ≤ 9223372036854775806 := by
  have h3 : n ≤ n * k := Nat.le_mul_of_pos_right _ hk
  have h5 : reachBytes = 140737488351232 := by decide
  omega
section
variable {H : Type} {enc : TypeId × Value → H} {w : World} {base : Nat} {spare : Nat → Bool} {held : Bool} {φ : Names}
theorem n3 : Nums enc Try.prog w base spare held 3 1 := nums1 u3
end
section
variable {H : Type} {enc : TypeId × Value → H} {w : World} {base : Nat} {held : Bool} {φ : Names}
theorem r3 : Reads enc Try.prog w base held φ 3 1 (fun n : Int => [A.int n]) fun _ => True := .int u3
variable {v : Value} {d : DataW H} {p : List MemPlace} {r : Reach} {b0 : Nat}
end
end Go.Proofs.Ytkfepnbanekfgaa

namespace Go.Proofs.Ytkfepnbanekfgaa
open Go Go.AL Go.AL.Q Go.AL.Sh
def posB (s : Sea) (l : List Rep) (wrong hour : Int) (i : Nat) : Bool := decide ((thrR s l hour.toNat).getD i 0 ≤ wrong) && watP s i
theorem canF_is (s : Sea) (l : List Rep) (wrong hour : Int) : canF s l wrong hour = ((List.range s.many.toNat).filter (posB s l wrong hour)).map Int.ofNat := by
  unfold canF
  rw [goL_all]
  unfold cellsL
  rw [List.filter_filter]; rfl
theorem canF_len (s : Sea) (l : List Rep) (wrong hour : Int) : (canF s l wrong hour).length = (List.range s.many.toNat).countP (posB s l wrong hour) := by
  rw [canF_is, List.length_map, List.countP_eq_length_filter]
theorem canF_mem {s : Sea} {l : List Rep} {wrong hour : Int} {i : Nat} : (i : Int) ∈ canF s l wrong hour ↔ i < s.many.toNat ∧ posB s l wrong hour i = true := by
  rw [canF_is, List.mem_map]
  constructor
  · rintro ⟨j, hj, e⟩
    obtain rfl : j = i := by have : (j : Int) = (i : Int) := e; omega
    have := List.mem_filter.1 hj
    exact ⟨List.mem_range.1 this.1, this.2⟩
  · rintro ⟨h1, h2⟩
    exact ⟨i, List.mem_filter.2 ⟨List.mem_range.2 h1, h2⟩, rfl⟩
theorem placeF_ge {x : Int} : ∀ (l : List Int) (k : Nat), 0 ≤ placeF x k l ↔ x ∈ l
  | [], k => by simp [placeF]
  | n :: l, k => by
    rw [placeF]
    split
    · rename_i h; subst h; simp
    · rename_i h
      rw [placeF_ge l (k + 1), List.mem_cons]
      exact ⟨.inr, fun h2 => h2.elim (fun e => absurd e.symm h) id⟩
def celP (G : List Int) (k : Nat) : Cel := ⟨if 0 ≤ placeF k 0 G then 1 else 0, 1⟩
def celsL (G : List Int) (n : Nat) : List Cel := (List.range n).map (celP G)
theorem celsL_len (G : List Int) (n : Nat) : (celsL G n).length = n := by simp [celsL]
theorem celsL_at {G : List Int} {n k : Nat} (h : k < n) : (celsL G n)[k]? = some (celP G k) := by simp [celsL, h]
theorem celsL_succ (G : List Int) (n : Nat) : celsL G (n + 1) = celsL G n ++ [celP G n] := by unfold celsL; rw [List.range_succ, List.map_append]; rfl
theorem celsL_sp {s : Sea} {l : List Rep} {wrong hour : Int} {k : Nat} (h : k < s.many.toNat) : ((celsL (canF s l wrong hour) s.many.toNat).getD k ⟨0, 0⟩).sp = if posB s l wrong hour k then 1 else 0 := by
  rw [List.getD_eq_getElem?_getD, celsL_at h, Option.getD_some]
  unfold celP
  by_cases hp : posB s l wrong hour k = true
  · rw [if_pos ((placeF_ge _ _).2 (canF_mem.2 ⟨h, hp⟩)), if_pos hp]
  · rw [if_neg (fun h2 => hp (canF_mem.1 ((placeF_ge _ _).1 h2)).2), if_neg hp]
def nearI (w : Int) (c : Sp) (k : Int) : Int := List.foldl (fun a b : Int => if a < b then b else a) (absI (k.tmod w - c.lo.tmod w)) [absI (k.tdiv w - c.lo.tdiv w)]
theorem near_is (w : Int) (c : Sp) (k : Int) : nearI w c k = farF (placeP w c.lo) (placeP w k) := by
  rw [farF_eq]
  unfold nearI placeP
  simp only [List.foldl_cons, List.foldl_nil, absI_eq]
  split <;> omega
def boxK (w : Int) (c : Sp) (k : Nat) : List Int := ((List.range k).filter fun i : Nat => decide (nearI w c i ≤ c.hi)).map Int.ofNat
theorem boxK_succ (w : Int) (c : Sp) (k : Nat) : boxK w c (k + 1) = if nearI w c (k : Int) ≤ c.hi then boxK w c k ++ [(k : Int)] else boxK w c k := by
  unfold boxK
  rw [List.range_succ, List.filter_append, List.map_append]
  by_cases h : nearI w c (k : Int) ≤ c.hi
  · rw [if_pos h]; simp [h]
  · rw [if_neg h]; simp [h]
theorem boxK_len (w : Int) (c : Sp) (k : Nat) : (boxK w c k).length ≤ k := by
  unfold boxK; rw [List.length_map]
  exact Nat.le_trans (List.length_filter_le ..) (by simp)
theorem boxK_mem {w : Int} {c : Sp} {n : Nat} {x : Int} : x ∈ boxK w c n → 0 ≤ x ∧ x < n := fun h => by
  obtain ⟨i, hi, rfl⟩ := List.mem_map.1 h
  have := List.mem_range.1 (List.mem_filter.1 hi).1
  constructor
  · exact Int.natCast_nonneg i
  · show (i : Int) < n; omega
theorem boxK_has {w : Int} {c : Sp} {n k : Nat} (h : k < n) : (boxK w c n).contains (k : Int) = covB w c k := by
  rw [Bool.eq_iff_iff, List.contains_iff_mem]
  unfold boxK covB
  rw [List.mem_map, ← near_is]
  constructor
  · rintro ⟨i, hi, e⟩
    obtain rfl : i = k := by have : (i : Int) = (k : Int) := e; omega
    exact (List.mem_filter.1 hi).2
  · intro h2
    exact ⟨k, List.mem_filter.2 ⟨List.mem_range.2 h, h2⟩, rfl⟩
theorem rising_nats : ∀ (L : List Nat) (n : Nat) (a : Int), L.Pairwise (· < ·) → (∀ i ∈ L, a < (i : Int) ∧ i < n) → risingF n a (L.map Int.ofNat) = true
  | [], _, _, _, _ => rfl
  | i :: L, n, a, hp, hb => by
    have h0 := hb i (List.mem_cons_self ..)
    rw [List.map_cons, risingF, wi_iff.2 (show a + 1 ≤ Int.ofNat i ∧ Int.ofNat i ≤ (n : Int) - 1 by show a + 1 ≤ (i : Int) ∧ (i : Int) ≤ _; omega), cond_true]
    refine rising_nats L n _ (List.pairwise_cons.1 hp).2 fun j hj => ⟨?_, (hb j (List.mem_cons_of_mem _ hj)).2⟩
    have := (List.pairwise_cons.1 hp).1 j hj
    show (i : Int) < (j : Int); omega
theorem boxK_rising (w : Int) (c : Sp) (n : Nat) : risingF n (-1) (boxK w c n) = true :=
  rising_nats _ n _ (List.Pairwise.filter _ List.pairwise_lt_range) fun i hi => ⟨by omega, List.mem_range.1 (List.mem_filter.1 hi).1⟩
def boxN (w : Int) (n : Nat) (c : Sp) : NL := ⟨(boxK w c n).isEmpty, boxK w c n⟩
def boxesL (w : Int) (n : Nat) (casts : List Sp) : List NL := casts.map (boxN w n)
theorem boxesL_len (w : Int) (n : Nat) (casts : List Sp) : (boxesL w n casts).length = casts.length := by simp [boxesL]
theorem boxes_ok {s : Sea} (G : List Int) {n : Nat} (hn : n ≤ 12) {casts : List Sp} (h8 : casts.length ≤ 8) : boxesOk (celsL G n) (boxesL s.wide n casts) = true := by
  unfold boxesOk
  rw [celsL_len, boxesL_len, decide_eq_true (show (n : Int) ≤ 12 by omega), decide_eq_true (show (casts.length : Int) ≤ 8 by omega)]
  have h1 : (celsL G n).all celOk = true := List.all_eq_true.2 fun x hx => by
    obtain ⟨k, _, rfl⟩ := List.mem_map.1 hx
    unfold celOk celP
    have h2 : (0 : Int) ≤ (if 0 ≤ placeF (k : Int) 0 G then (1 : Int) else 0) ∧ (if 0 ≤ placeF (k : Int) 0 G then (1 : Int) else 0) ≤ 10000 := by split <;> omega
    simp only [wi_iff.2 h2]; rfl
  have h3 : (boxesL s.wide n casts).all (fun b => risingF n (-1) b.l) = true := List.all_eq_true.2 fun x hx => by
    obtain ⟨c, _, rfl⟩ := List.mem_map.1 hx
    exact boxK_rising _ _ _
  rw [h1, h3]; rfl
theorem boxes_in {w : Int} {n : Nat} (hn : n ≤ 12) {casts : List Sp} : ∀ b ∈ boxesL w n casts, ∀ c ∈ b.l, 0 ≤ c ∧ c < 12 := fun b hb c hc => by
  obtain ⟨x, _, rfl⟩ := List.mem_map.1 hb
  have := boxK_mem hc
  omega
theorem box_met {w : Int} {n : Nat} {casts : List Sp} {c : List Int} (hc : ∀ i ∈ c, 0 ≤ i ∧ i < casts.length) {k : Nat} (hk : k < n) : inBox (boxesL w n casts) c k = metB w casts c k := by
  unfold inBox metB
  have key : ∀ i ∈ c, ((boxesL w n casts).getD i.toNat ⟨false, []⟩).l.contains (k : Int) = covB w (casts.getD i.toNat c0) k := fun i hi => by
    have h1 := hc i hi
    have h2 : i.toNat < casts.length := by omega
    rw [show (boxesL w n casts).getD i.toNat ⟨false, []⟩ = boxN w n casts[i.toNat] by simp [boxesL, List.getD_eq_getElem?_getD, h2], show casts.getD i.toNat c0 = casts[i.toNat] by simp [List.getD_eq_getElem?_getD, h2]]
    exact boxK_has hk
  clear hk
  induction c with
  | nil => rfl
  | cons i c ih =>
    rw [List.any_cons, List.any_cons, key i (List.mem_cons_self ..), ih (fun j hj => hc j (List.mem_cons_of_mem _ hj)) fun j hj => key j (List.mem_cons_of_mem _ hj)]
structure Closed (s : Sea) (l : List Rep) (wrong hour : Int) (casts : List Sp) (found : List Int) (e : Int) : Prop where
  none : e = 4 → found = [] ∧ (boxF (celsL (canF s l wrong hour) s.many.toNat) (boxesL s.wide s.many.toNat casts) casts.length).sp < (canF s l wrong hour).length
  some : e = 0 → 1 ≤ found.length ∧ found.length ≤ 8 ∧ (boxF (celsL (canF s l wrong hour) s.many.toNat) (boxesL s.wide s.many.toNat casts) casts.length).sp = (canF s l wrong hour).length ∧
    (boxF (celsL (canF s l wrong hour) s.many.toNat) (boxesL s.wide s.many.toNat casts) found.length).sp = (canF s l wrong hour).length ∧
    (boxF (celsL (canF s l wrong hour) s.many.toNat) (boxesL s.wide s.many.toNat casts) ((found.length : Int) - 1)).sp < (canF s l wrong hour).length
  e04 : e = 0 ∨ e = 4
theorem fnd_iff {s : Sea} {l : List Rep} {wrong hour : Int} {casts : List Sp} {c : List Int} (hc : ∀ i ∈ c, 0 ≤ i ∧ i < casts.length) : fndB s.wide (canF s l wrong hour) casts c = true ↔ ∀ i, i < s.many.toNat → posB s l wrong hour i = true → inBox (boxesL s.wide s.many.toNat casts) c i = true := by
  unfold fndB
  rw [List.all_eq_true]
  constructor
  · intro h i hi hp
    rw [box_met hc hi]
    exact h _ (canF_mem.2 ⟨hi, hp⟩)
  · intro h x hx
    obtain ⟨i, hi, rfl⟩ := List.mem_map.1 ((canF_is s l wrong hour) ▸ hx)
    have h1 := List.mem_filter.1 hi
    have hi' := List.mem_range.1 h1.1
    have := h i hi' h1.2
    rw [box_met hc hi'] at this
    exact this
theorem closed_is {s : Sea} {l : List Rep} {wrong hour : Int} {casts : List Sp} (h12 : s.many.toNat ≤ 12) (hA : AskE s l wrong hour casts = 0) : Closed s l wrong hour casts (SureR s l wrong hour casts).1 (SureR s l wrong hour casts).2 := by
  obtain ⟨-, -, -, hco, hne⟩ := AskE_ok hA
  obtain ⟨⟨h1, h8⟩, -⟩ := castsOk_iff hco
  have hsu := su_is (fndB s.wide (canF s l wrong hour) casts) casts.length
  have hbx := fun (most : Int) (hm : 0 ≤ most) => box_is (cells := celsL (canF s l wrong hour) s.many.toNat) (boxes := boxesL s.wide s.many.toNat casts) (most := most) (P := posB s l wrong hour) (n := s.many.toNat) hm (celsL_len _ _) h12 (fun k hk => celsL_sp hk) (boxes_in h12)
  have hnil : fndB s.wide (canF s l wrong hour) casts [] = false := by
    rw [← Bool.not_eq_true]
    intro h
    cases hG : canF s l wrong hour with
    | nil => exact hne hG
    | cons x G =>
      rw [hG] at h
      have := List.all_eq_true.1 h x (List.mem_cons_self ..)
      simp [metB] at this
  unfold SureR
  rw [if_pos hA]
  generalize suGo (fndB s.wide (canF s l wrong hour) casts) casts.length (List.range casts.length) [] = S at *
  cases S with
  | none =>
    have hsu : ∀ o', o' ≠ [] → risingF casts.length (-1) o' = true → fndB s.wide (canF s l wrong hour) casts o' = false := hsu
    refine ⟨fun _ => ⟨rfl, ?_⟩, (fun h => by cases h), .inr rfl⟩
    have hb := hbx casts.length (by omega)
    have hle := hb.le
    rw [← canF_len] at hle
    rcases Int.lt_or_eq_of_le hle with h | h
    · exact h
    · have hs := hb.some (by rw [← canF_len]; exact h)
      have hri := hb.ri
      rw [boxesL_len] at hri
      have hin := (rising_in hri (Int.le_refl _) (by omega)).1
      have hf := (fnd_iff (fun i hi => by have := hin i hi; omega)).2 hs
      generalize (boxF (celsL (canF s l wrong hour) s.many.toNat) (boxesL s.wide s.many.toNat casts) casts.length).chosen = c at *
      cases c with
      | nil => rw [hnil] at hf; cases hf
      | cons x c => rw [hsu _ (by simp) hri] at hf; cases hf
  | some r =>
    have hsu : SureIs (fndB s.wide (canF s l wrong hour) casts) casts.length r := hsu
    have hri := hsu.ri
    have hin := rising_in hri (Int.le_refl _) (by omega)
    have hrl : r.length ≤ casts.length := by have := hin.2; omega
    have hmet := (fnd_iff (fun i hi => by have := hin.1 i hi; omega)).1 hsu.ok
    have hri2 : risingF (boxesL s.wide s.many.toNat casts).length (-1) r = true := by rw [boxesL_len]; exact hri
    have hpos := hsu.pos
    refine ⟨(fun h => by cases h), fun _ => ⟨hsu.pos, by show r.length ≤ 8; omega, ?_, ?_, ?_⟩, .inl rfl⟩
    · rw [canF_len]; exact (hbx casts.length (by omega)).all r hri2 (by rw [boxesL_len]; omega) hmet
    · rw [canF_len]; exact (hbx r.length (by omega)).all r hri2 (by rw [boxesL_len]; omega) hmet
    · show (boxF _ _ ((r.length : Int) - 1)).sp < _
      have hb := hbx ((r.length : Int) - 1) (by omega)
      have hle := hb.le
      rw [← canF_len] at hle
      rcases Int.lt_or_eq_of_le hle with h | h
      · exact h
      · have hs := hb.some (by rw [← canF_len]; exact h)
        have hri3 := hb.ri
        have hlen := hb.len
        rw [boxesL_len] at hri3 hlen
        have hin3 := (rising_in hri3 (Int.le_refl _) (by omega)).1
        have hf := (fnd_iff (fun i hi => by have := hin3 i hi; omega)).2 hs
        generalize (boxF (celsL (canF s l wrong hour) s.many.toNat) (boxesL s.wide s.many.toNat casts) ((r.length : Int) - 1)).chosen = c at *
        cases c with
        | nil => rw [hnil] at hf; cases hf
        | cons x c =>
          have := hsu.first (x :: c) (by simp) hri3 hf
          rcases this with h1 | ⟨h1, _⟩ <;> omega
end Go.Proofs.Ytkfepnbanekfgaa

namespace Go.Proofs.Ytkfepnbanekfgaa
open Go Go.AL Go.AL.Q Go.AL.Sh
theorem leTup {l m : List A} (h : LeL l m) : A.Le (.tup l) (.tup m) := ⟨fun φ Z w v hv => by
  obtain ⟨vs, e0, e1, e3⟩ := inv_tup hv
  subst e0
  exact .tup _ _ (by rw [e1, h.len]) fun i hi => (h.get i).vr _ _ _ _ (e3 i (by rw [← h.len]; exact hi)), fun v p e => by simp [spareOf] at e⟩
theorem Ans_out {f : FuncId} {args : List A} {v v' : A} (h : Ans Try.prog f args v) (hl : A.Le v' v) : Ans Try.prog f args v' := ⟨h.ent, fun φ Z w vs hz hvs => (h.pure φ Z w vs hz hvs).mono fun e w' ⟨u, Z', h1, h2, h3, h4⟩ =>
  ⟨u, Z', h1, h2, hl.1 _ _ _ _ h3, fun u' => by
    cases e : spareOf v' u' with
    | none => rfl
    | some p => have := hl.2 _ _ e; rw [h4] at this; cases this⟩⟩
def outW (l : List Int) : A := .sl l.isEmpty .any (ints l)
theorem outW_le : ∀ l : List Int, A.Le (outW l) (outA l)
  | [] => .any _ _ _
  | _ :: _ => .refl _
theorem canW_le : ∀ l : List Int, A.Le (outW l) (canA l)
  | [] => .any _ _ _
  | _ :: _ => .any _ _ _
theorem outW_free (l : List Int) : Free (outW l) := free_ints _ _ _
theorem Sure_w (s : Sea) (hf : SeaFit s) (b : Bool) (l : List Rep) (hl : (l.length : Int) ≤ 9223372036854775806) (wrong hour : Int) (cb : Bool) (casts : List Sp) (hcs : CstFit casts) :
    Ans Try.prog 14 [.agg s.c, .sl b .any (l.map Rep.c), .int wrong, .int hour, .sl cb .any (casts.map Sp.c)] (.tup [outW (SureR s l wrong hour casts).1, .int (SureR s l wrong hour casts).2]) :=
  Ans_out (Sure_t s hf b l hl wrong hour cb casts hcs) (leTup (.cons (outW_le _) (.cons (.refl _) .nil)))
theorem Can_w (s : Sea) (hf : SeaFit s) (b : Bool) (l : List Rep) (hl : (l.length : Int) ≤ 9223372036854775806) (wrong hour : Int) :
    Ans Try.prog 15 [.agg s.c, .sl b .any (l.map Rep.c), .int wrong, .int hour] (.tup [outW (CanR s l wrong hour).1, .int (CanR s l wrong hour).2]) :=
  Ans_out (Can_t s hf b l hl wrong hour) (leTup (.cons (canW_le _) (.cons (.refl _) .nil)))
theorem Boxes_w (p q : Bool) {cells : List Cel} {boxes : List NL} {most : Int} (hcl : cells.length ≤ 12) (hbl : boxes.length ≤ 8) (hbf : ∀ b ∈ boxes, nlFit b) (hok : boxesOk cells boxes = true) (hm : 0 ≤ most ∧ most ≤ 8) :
    Ans Try.prog 18 [.sl p .any (cells.map Cel.c), .sl q .any (boxes.map NL.c), .int most] (.tup [outW (boxF cells boxes most).chosen, .int (boxF cells boxes most).sp, .int (boxF cells boxes most).la, .int 0]) := by
  have h := Boxes_t p q cells boxes most (by omega) (by omega) hbf
  unfold boxR at h
  rw [if_pos hok, if_pos (wi_iff.2 hm)] at h
  exact Ans_out h (leTup (.cons (outW_le _) (LeL.refl _)))
theorem grR_cons {α : Type} {e : Nat} {f : α → List A} {l : List α} (h : l ≠ []) : grR e f l = .sl false (.own e) (l.map f) := by
  cases l with
  | nil => exact absurd rfl h
  | cons x l => rfl
theorem grL_w (e : Nat) : ∀ l : List Int, A.Le (outW l) (grL e l)
  | [] => .any _ _ _
  | _ :: _ => .any _ _ _
theorem cel_two (l : List Cel) : ∀ z ∈ l.map Cel.c, z.length = 2 := fun z hz => by obtain ⟨a, _, rfl⟩ := List.mem_map.1 hz; rfl
theorem nl_one (l : List NL) : ∀ z ∈ l.map NL.c, z.length = 1 := fun z hz => by obtain ⟨a, _, rfl⟩ := List.mem_map.1 hz; rfl
theorem boxes_fit {w : Int} {n : Nat} (hn : n ≤ 12) {casts : List Sp} : ∀ b ∈ boxesL w n casts, nlFit b := fun b hb => by
  obtain ⟨c, _, rfl⟩ := List.mem_map.1 hb
  have := boxK_len w c n
  show ((boxK w c n).length : Int) ≤ _
  omega
theorem boxesL_take {w : Int} {n : Nat} {casts : List Sp} {k : Nat} (h : k < casts.length) : boxesL w n (casts.take (k + 1)) = boxesL w n (casts.take k) ++ [boxN w n (casts.getD k c0)] := by
  unfold boxesL
  rw [List.take_succ_eq_append_getElem h, List.map_append, List.getD_eq_getElem?_getD, List.getElem?_eq_getElem h]; rfl
end Go.Proofs.Ytkfepnbanekfgaa

namespace Go.Proofs.Ytkfepnbanekfgaa
open Go Go.AL Go.AL.Q Go.AL.Sh
set_option maxRecDepth 100000 in
set_option maxHeartbeats 8000000 in
theorem closed_l (s : Sea) (hf : SeaFit s) (b : Bool) (l : List Rep) (hl : (l.length : Int) ≤ 9223372036854775806) (cb : Bool) (casts : List Sp) (hcs : CstFit casts) (n0 n1 : Int) :
    Ans Try.prog 4 [.agg s.c, .sl b .any (l.map Rep.c), .sl cb .any (casts.map Sp.c), .agg [.int n0, .int n1]] (.bool true) := by
  have hchk := checkH_t s hf
  have fl : Free (.sl b .any (l.map Rep.c)) := free_map Rep.free _ _ _
  have fc : Free (.sl cb .any (casts.map Sp.c)) := free_map Sp.free _ _ _
  have ll : ((l.map Rep.c).length : Int) = l.length := by simp
  have lc : ((casts.map Sp.c).length : Int) = casts.length := by simp
  have ucs : ∀ {m : Nat}, Under m (A.sl cb .any (casts.map Sp.c)) := fc.under
  have us : ∀ {m : Nat}, Under m (A.pt s.c) := (Free.pt _ s.free).under
  refine told Try.func4 rfl rfl (Pure.of tab_ok Try.func4 rfl Try.ntmps4 rfl (allC (.agg _ s.free) (allC (fl) (allC (fc) (all1 (.agg _ (allC (.s _) (all1 (.s _)))))))) (allC (fun _ => rfl) (allC (fun _ => rfl) (allC (fun _ => rfl) (all1 (fun _ => rfl))))) (by first | exact .s _ | assumption | exact .tup _ (by intro x hx; simp only [List.mem_cons, List.not_mem_nil, or_false] at hx; rcases hx with rfl | rfl | rfl | rfl <;> first | exact .s _ | (simp_all; done))) fun E hE => ?_)
  refine Aw.sm tab_ok mb0 [] rfl rfl ?zo ?zk
  case zo =>
    repeat' apply AllP.cons
    all_goals first | exact trivial
  case zk =>
  refine Aw.seq ?_
  cases hok : s.ok with
  | false =>
    have e : s.chk = 10 := by unfold Sea.chk; rw [hok]; rfl
    rw [e] at hchk
    refine Aw.st tab_ok mb0 [(1, [.int 10])] rfl rfl ?zo ?zk
    case zo =>
      repeat' apply AllP.cons
      all_goals first | exact trivial | exact Nat.le_of_ble_eq_true rfl | exact hchk
    case zk =>
    refine Aw.cond rfl (fun _ => ?_) (fun h => by cases h)
    refine Aw.sm tab_ok mb0 [(0, [.bool true])] rfl rfl ?zo ?zk
    case zo =>
      repeat' apply AllP.cons
      all_goals first | exact trivial | exact clo9_t
    case zk =>
    exact Aw.ret ⟨_, .cons (.tmp _) .nil, rfl⟩
  | true =>
  have e : s.chk = 0 := by unfold Sea.chk; rw [hok]; rfl
  rw [e] at hchk
  have ho := Sea.ok_of hok
  have hw := ho.w
  have hh := ho.h
  have hhr := ho.hr
  have w1 : Ans Try.prog 13 [.int s.wide, .int 1, .int 12] (.bool true) := by have := in_t s.wide 1 12; rwa [wi_iff.2 (by omega)] at this
  have w2 : Ans Try.prog 13 [.int s.high, .int 1, .int 12] (.bool true) := by have := in_t s.high 1 12; rwa [wi_iff.2 (by omega)] at this
  have hmul : 1 ≤ s.wide * s.high ∧ s.wide * s.high ≤ 80 := by
    have h1 : s.wide * s.high ≤ 10 * s.high := Int.mul_le_mul_of_nonneg_right hw.2 (by omega)
    have h2 : 1 * s.high ≤ s.wide * s.high := Int.mul_le_mul_of_nonneg_right hw.1 (by omega)
    omega
  have hmany : s.many = s.wide * s.high := rfl
  have imul : inR (s.wide * s.high) := by simp only [inR]; omega
  refine Aw.sm tab_ok mb0 [(1, [.int 0]), (6, [.bool true]), (12, [.bool true])] rfl rfl ?zo ?zk
  case zo =>
    repeat' apply AllP.cons
    all_goals first | exact trivial | exact id | exact fun _ => rfl | exact Nat.le_of_ble_eq_true rfl | exact fun _ => Nat.le_of_ble_eq_true rfl | exact gq_f | exact hchk | exact fun _ => w1 | exact fun _ => w2 | exact fun _ => imul
  case zk =>
  refine Aw.cond rfl (fun _ => ?_) (fun h => Aw.skip ?_)
  · refine Aw.sm tab_ok mb0 [(0, [.bool true])] rfl rfl ?zo ?zk
    case zo =>
      repeat' apply AllP.cons
      all_goals first | exact trivial | exact clo9_t
    case zk =>
    exact Aw.ret ⟨_, .cons (.tmp _) .nil, rfl⟩
  have h12 : s.wide * s.high ≤ 12 := by
    have h : cond (cond (cond (cond ((0 : Int) != 0) true (!true)) true (!true)) true (decide (s.wide * s.high > 12))) true (decide (s.hours < 1)) = false := h
    rcases Int.lt_or_le 12 (s.wide * s.high) with h2 | h2
    · rw [decide_eq_true (show s.wide * s.high > 12 from h2)] at h; simp at h
    · exact h2
  have m1 := mod_t n0 25 (by decide) (by decide)
  have m2 := mod_t n1 s.hours (by omega) (by omega)
  have hw0 := Int.emod_nonneg n0 (show (25 : Int) ≠ 0 by decide)
  have hw25 := Int.emod_lt_of_pos n0 (show (0 : Int) < 25 by decide)
  have hr0 := Int.emod_nonneg n1 (show s.hours ≠ 0 by omega)
  have hr1 := Int.emod_lt_of_pos n1 (show 0 < s.hours by omega)
  generalize n0 % 25 = wrong at *
  generalize n1 % s.hours = hour at *
  have hask : askedB s wrong hour = true := asked_iff.2 ⟨⟨hw0, by omega⟩, hr0, hr1⟩
  have cS := Sure_w s hf b l hl wrong hour cb casts hcs
  have cC := Can_w s hf b l hl wrong hour
  refine Aw.sd tab_ok mixed mb0 [(2, [.int wrong]), (7, [.int hour])] rfl (by kernel_rfl) rfl rfl ?zo ?zk
  case zo =>
    repeat' apply AllP.cons
    all_goals first | exact trivial | exact Nat.le_of_ble_eq_true rfl | exact Int.natCast_nonneg _ | exact m1 | exact m2
  case zk =>
  by_cases hA : AskE s l wrong hour casts = 0
  rotate_left
  ·
    have eS : SureR s l wrong hour casts = ([], AskE s l wrong hour casts) := by unfold SureR; rw [if_neg hA]
    have h4 : AskE s l wrong hour casts ≠ 4 := by
      unfold AskE canE
      repeat' split
      all_goals decide
    rw [eS] at cS
    generalize AskE s l wrong hour casts = e at *
    generalize CanR s l wrong hour = C at *
    refine Aw.sm tab_ok mb0 [(5, [.tup [outW [], .int e]])] rfl rfl ?zo ?zk
    case zo =>
      repeat' apply AllP.cons
      all_goals first | exact trivial | exact Nat.le_of_ble_eq_true rfl | exact cS
    case zk =>
    refine Aw.sm tab_ok mb0 [(4, [.tup [outW C.1, .int C.2]])] rfl rfl ?zo ?zk
    case zo =>
      repeat' apply AllP.cons
      all_goals first | exact trivial | exact Nat.le_of_ble_eq_true rfl | exact cC
    case zk =>
    refine Aw.seq ?_
    refine Aw.sm tab_ok mb0 [(13, [.bool (wi ((casts.map Sp.c).length : Int) 1 8)])] rfl rfl ?zo ?zk
    case zo =>
      repeat' apply AllP.cons
      all_goals first | exact trivial | exact id | exact fun _ => rfl | exact gq_f | exact fun _ => in_t _ _ _
    case zk =>
    refine Aw.cond rfl (fun _ => ?_) (fun h => ?_)
    · refine Aw.sm tab_ok mb0 [(4, [.bool true])] rfl rfl ?zo ?zk
      case zo =>
        repeat' apply AllP.cons
        all_goals first | exact trivial | exact id | exact fun _ => rfl | exact fun _ => clo9_t
      case zk =>
      exact Aw.ret ⟨_, .cons (.tmp _) .nil, rfl⟩
    · have h : cond (cond (cond (e != 0) (e != 4) false) true (C.2 != 0)) true (!wi ((casts.map Sp.c).length : Int) 1 8) = false := h
      have h1 : (e != 0) = true := by simpa using hA
      have h2 : (e != 4) = true := by simpa using h4
      rw [h1, h2] at h
      cases h
  obtain ⟨-, hrep, -, hco, hne⟩ := AskE_ok hA
  obtain ⟨⟨hc1, hc8⟩, hcin⟩ := castsOk_iff hco
  have eC : CanR s l wrong hour = (canF s l wrong hour, 0) := by
    unfold CanR canE
    rw [if_pos hok, if_pos hrep, if_pos hask]
    cases hG : canF s l wrong hour with
    | nil => exact absurd hG hne
    | cons x G => rfl
  rw [eC] at cC
  have hn12 : s.many.toNat ≤ 12 := by omega
  have hcl := closed_is hn12 hA
  have hGl : (canF s l wrong hour).length ≤ 12 := by
    rw [canF_len]; exact Nat.le_trans List.countP_le_length (by simp; omega)
  have hbok := boxes_ok (s := s) (canF s l wrong hour) hn12 (casts := casts) hc8
  have hbf := boxes_fit (w := s.wide) hn12 (casts := casts)
  have hbl := boxesL_len s.wide s.many.toNat casts
  have hcll := celsL_len (canF s l wrong hour) s.many.toNat
  have hbx := fun (p q : Bool) (most : Int) (hm : 0 ≤ most ∧ most ≤ 8) => Boxes_w p q (cells := celsL (canF s l wrong hour) s.many.toNat) (boxes := boxesL s.wide s.many.toNat casts) (most := most) (by omega) (by omega) hbf hbok hm
  have hri := (box_top (cells := celsL (canF s l wrong hour) s.many.toNat) (boxes := boxesL s.wide s.many.toNat casts) (most := casts.length) (by omega)).mem.1
  rw [hbl] at hri
  have e04 := hcl.e04
  have hnone := hcl.none
  have hsome := hcl.some
  generalize (SureR s l wrong hour casts).1 = F at *
  generalize (SureR s l wrong hour casts).2 = e at *
  generalize hG : canF s l wrong hour = G at *
  refine Aw.sm tab_ok mb0 [(5, [.tup [outW F, .int e]])] rfl rfl ?zo ?zk
  case zo =>
    repeat' apply AllP.cons
    all_goals first | exact trivial | exact Nat.le_of_ble_eq_true rfl | exact cS
  case zk =>
  refine Aw.sm tab_ok mb0 [(4, [.tup [outW G, .int 0]])] rfl rfl ?zo ?zk
  case zo =>
    repeat' apply AllP.cons
    all_goals first | exact trivial | exact Nat.le_of_ble_eq_true rfl | exact cC
  case zk =>
  have w3 : Ans Try.prog 13 [.int ((casts.map Sp.c).length : Int), .int 1, .int 8] (.bool true) := by have := in_t ((casts.map Sp.c).length : Int) 1 8; rwa [wi_iff.2 (by omega)] at this
  refine Aw.seq ?_
  refine Aw.sm tab_ok mb0 [(13, [.bool true])] rfl rfl ?zo ?zk
  case zo =>
    repeat' apply AllP.cons
    all_goals first | exact trivial | exact id | exact fun _ => rfl | exact gq_f | exact fun _ => w3
  case zk =>
  refine Aw.cond rfl (fun h => ?_) (fun _ => Aw.skip ?_)
  · have h : cond (cond (cond (e != 0) (e != 4) false) true ((0 : Int) != 0)) true (!true) = true := h
    rcases e04 with rfl | rfl <;> simp at h
  have uF : ∀ {m : Nat}, Under m (outW F) := (outW_free F).under
  have uG : ∀ {m : Nat}, Under m (outW G) := (outW_free G).under
  have ugr : ∀ {m : Nat} {L : List Cel}, Under m (grR 52 Cel.c L) := grR_under Cel.free _
  have h1e : ∀ id, 1 ≤ id → E.φ0 id = none := fun id _ => hE id (by omega)
  have hnw : ((s.many.toNat : Nat) : Int) = s.wide * s.high := by omega
  generalize s.many.toNat = n at *
  refine Aw.sm tab_ok mb0 [] rfl rfl ?zo ?zk
  case zo =>
    repeat' apply AllP.cons
    all_goals first | exact trivial
  case zk =>
  refine Aw.seq ?_
  refine Aw.sm tab_ok mb0 [] rfl rfl ?zo ?zk
  case zo =>
    repeat' apply AllP.cons
    all_goals first | exact trivial
  case zk =>
  refine Aw.block (Aw.rounds 0 hE [(2, .sl cb .any (casts.map Sp.c)), (4, .pt s.c), (11, outW F), (12, .int e), (13, outW G)] (fun k : Nat => [(15, grR 52 Cel.c (celsL G k)), (16, .int k)]) (fun k => []) (fun k => k ≤ n) (fun k => n - k) 0 ?zg ⟨?zc, ?zv, ?zh, Nat.le_of_ble_eq_true rfl⟩ ?zu (fun k zhk => ?zw) (fun k zhk => ?zx) fun k hk => ?zr)
  case zg =>
    (repeat' (first | exact Nat.zero_le _))
  case zc =>
    (repeat' (first | (refine And.intro ?_ ?_) | exact trivial | exact A.Le.refl _))
  case zv =>
    (repeat' (first | (refine And.intro ?_ ?_) | exact trivial | exact A.Le.refl _))
  case zh =>
    (repeat' (first | exact trivial))
  case zu =>
    (repeat' (first | exact trivial | exact Under.s _ | exact (free_ints _ _ _).under | exact ucs | exact us | (refine And.intro ?_ ?_)))
  case zw =>
    (repeat' (first | exact trivial | exact Under.s _ | exact ugr | (refine And.intro ?_ ?_)))
  case zx =>
    (repeat' (first | exact trivial))
  case zr =>
  refine Aw.seq ?_
  refine Aw.sm tab_ok mb0 [] rfl rfl ?zo ?zk
  case zo =>
    repeat' apply AllP.cons
    all_goals first | exact trivial | exact Nat.le_of_ble_eq_true rfl | exact imul
  case zk =>
  refine Aw.cond rfl (fun h1 => Aw.skip ?_) (fun h1 => ?_)
  · have hlt : k < n := by have h1 : (k : Int) < s.wide * s.high := of_decide_eq_true h1; omega
    have hst := celsL_succ G k
    have hpl := place_t G G.isEmpty (k : Int) (by omega)
    have hck := celsL_len G k
    have hsp : (celP G k).c = [.int (if 0 ≤ placeF (k : Int) 0 G then 1 else 0), .int 1] := rfl
    refine Aw.seq (Aw.block ?_)
    refine Aw.sm tab_ok mb0 [] rfl rfl ?zo ?zk
    case zo =>
      repeat' apply AllP.cons
      all_goals first | exact trivial | exact rfl | exact Nat.le_of_ble_eq_true rfl
    case zk =>
    refine Aw.join1 1 h1e [(2, .sl cb .any (casts.map Sp.c)), (4, .pt s.c), (11, outW F), (12, .int e), (13, outW G), (16, .int k), (17, .ref 0 0)] [(15, grR 52 Cel.c (celsL G k))] [(0, .cells [.int (if 0 ≤ placeF (k : Int) 0 G then 1 else 0), .int 1])] ⟨ucs, us, uF, .s _, uG, .s _, .ref _ _ (by decide), trivial⟩ ⟨ugr, trivial⟩ ⟨⟨by decide, .cells _ (allC (.s _) (all1 (.s _)))⟩, trivial⟩ ?_ ?_
    · generalize placeF (k : Int) 0 G = pl at *
      refine Aw.sm tab_ok mb0 [(2, [.int pl])] rfl rfl ?zo ?zk
      case zo =>
        repeat' apply AllP.cons
        all_goals first | exact trivial | exact hpl
      case zk =>
      refine Aw.cond rfl (fun h2 => ?_) (fun h2 => Aw.skip ?_)
      · have h2 : pl ≥ 0 := of_decide_eq_true h2
        rw [if_pos h2]
        refine Aw.em tab_ok mb0 [] rfl rfl ?zo ?zk
        case zo =>
          repeat' apply AllP.cons
          all_goals first | exact trivial | exact rfl | exact Nat.le_of_ble_eq_true rfl
        case zk =>
        exact ⟨⟨.refl _, .refl _, .refl _, .refl _, .refl _, .refl _, .refl _, trivial⟩, ⟨.refl _, trivial⟩, ⟨rfl, trivial⟩, Nat.le_of_ble_eq_true rfl⟩
      · have h2 : ¬ pl ≥ 0 := of_decide_eq_false h2
        rw [if_neg h2]
        exact ⟨⟨.refl _, .refl _, .refl _, .refl _, .refl _, .refl _, .refl _, trivial⟩, ⟨.refl _, trivial⟩, ⟨rfl, trivial⟩, Nat.le_of_ble_eq_true rfl⟩
    refine Aw.freeze (id := 0) (t := 17) rfl rfl ?_
    have hone : ∀ z ∈ [(celP G k).c], z.length = 2 := fun z hz => by simp at hz; subst hz; rfl
    have hone0 : ∀ z ∈ [] ++ [(celP G k).c], z.length = 2 := fun z hz => by simp at hz; subst hz; rfl
    rw [hsp] at hone hone0
    by_cases h0 : k = 0
    · subst h0
      have e0 : grR 52 Cel.c (celsL G 0) = .sl true .exact [] := rfl
      rw [e0]
      refine Aw.em tab_ok mb0 [] rfl rfl ?zo ?zk
      case zo =>
        repeat' apply AllP.cons
        all_goals first | exact trivial | exact Nat.le_of_ble_eq_true rfl | exact hone
      case zk =>
      refine Aw.em tab_ok mb0 [] rfl rfl ?zo ?zk
      case zo =>
        repeat' apply AllP.cons
        all_goals first | exact trivial | exact inrk 0 (by decide)
      case zk =>
      refine ⟨0 + 1, ?zg, ?zm, ⟨?zc, ?zv, ?zh, Nat.le_of_ble_eq_true rfl⟩⟩
      case zg =>
        (repeat' (first | assumption))
      case zm =>
        (repeat' (first | omega))
      case zc =>
        (repeat' (first | (refine And.intro ?_ ?_) | exact trivial | exact A.Le.refl _))
      case zv =>
        (repeat' (first | (refine And.intro ?_ ?_) | exact trivial | exact A.Le.refl _))
      case zh =>
        (repeat' (first | exact trivial))
    · have hne0 : celsL G k ≠ [] := fun h => by rw [h] at hck; simp at hck; omega
      rw [grR_cons hne0]
      have hz := cel_two (celsL G k)
      have hl1 : ((celsL G k).map Cel.c).length ≤ 12 := by rw [List.length_map]; omega
      refine Aw.em tab_ok mb0 [] rfl rfl ?zo ?zk
      case zo =>
        repeat' apply AllP.cons
        all_goals first | exact trivial | exact Nat.le_of_ble_eq_true rfl | exact hone | exact hz | exact (show (((celsL G k).map Cel.c).length + 1) * 16 ≤ 140737488355328 by omega) | exact (show ((celsL G k).map Cel.c).length + 1 ≤ maxLen by unfold maxLen; omega)
      case zk =>
      refine Aw.em tab_ok mb0 [] rfl rfl ?zo ?zk
      case zo =>
        repeat' apply AllP.cons
        all_goals first | exact trivial | exact inrk k (by omega)
      case zk =>
      refine ⟨k + 1, ?zg, ?zm, ⟨?zc, ?zv, ?zh, Nat.le_of_ble_eq_true rfl⟩⟩
      case zg =>
        (repeat' (first | assumption))
      case zm =>
        (repeat' (first | omega))
      case zc =>
        (repeat' (first | (refine And.intro ?_ ?_) | exact trivial | exact A.Le.refl _))
      case zv =>
        (repeat' (first | (refine And.intro ?_ ?_) | exact trivial | exact A.Le.refl _ | exact .of_eq (by rw [hst, grR_cons (by simp), List.map_append]; rfl)))
      case zh =>
        (repeat' (first | exact trivial))
  obtain rfl : k = n := by have h1 : ¬ (k : Int) < s.wide * s.high := of_decide_eq_false h1; omega
  have hnp : 1 ≤ k := by omega
  have hcne : celsL G k ≠ [] := fun h => by rw [h] at hcll; simp at hcll; omega
  have uce : ∀ {m : Nat}, Under m (A.sl false .any ((celsL G k).map Cel.c)) := (free_map Cel.free _ _ _).under
  have ubx : ∀ {m : Nat} {L : List NL}, Under m (grR 23 NL.c L) := grR_under NL.free _
  refine Aw.exit2 ?_
  refine Aw.keep (n := 0) (cst := [(2, .sl cb .any (casts.map Sp.c)), (4, .pt s.c), (11, outW F), (12, .int e), (13, outW G), (15, .sl false .any ((celsL G k).map Cel.c))]) (v := []) (Hl := []) hE ?zu ?zw ?zx ⟨?zc, ?zv, ?zh, Nat.le_of_ble_eq_true rfl⟩ ?zr
  case zu =>
    (repeat' (first | exact trivial | exact Under.s _ | exact (free_ints _ _ _).under | exact ucs | exact us | exact uce | (refine And.intro ?_ ?_)))
  case zw =>
    (repeat' (first | exact trivial))
  case zx =>
    (repeat' (first | exact trivial))
  case zc =>
    (repeat' (first | (refine And.intro ?_ ?_) | exact trivial | exact A.Le.refl _ | exact (by rw [grR_cons hcne]; exact .any _ _ _)))
  case zv =>
    (repeat' (first | exact trivial))
  case zh =>
    (repeat' (first | exact trivial))
  case zr =>
  generalize hCL : celsL G k = CL at *
  generalize k = n at *
  have lCL : ((CL.map Cel.c).length : Int) = n := by rw [List.length_map, hcll]
  refine Aw.sm tab_ok mb0 [] rfl rfl ?zo ?zk
  case zo =>
    repeat' apply AllP.cons
    all_goals first | exact trivial
  case zk =>
  refine Aw.seq ?_
  refine Aw.sm tab_ok mb0 [] rfl rfl ?zo ?zk
  case zo =>
    repeat' apply AllP.cons
    all_goals first | exact trivial
  case zk =>
  refine Aw.block (Aw.rounds 0 hE [(2, .sl cb .any (casts.map Sp.c)), (4, .pt s.c), (11, outW F), (12, .int e), (13, outW G), (15, .sl false .any (CL.map Cel.c))] (fun i : Nat => [(18, grR 23 NL.c (boxesL s.wide n (casts.take i))), (19, .int i)]) (fun i => []) (fun i => i ≤ casts.length) (fun i => casts.length - i) 0 ?zg ⟨?zc, ?zv, ?zh, Nat.le_of_ble_eq_true rfl⟩ ?zu (fun i zhk => ?zw) (fun i zhk => ?zx) fun i hk => ?zr)
  case zg =>
    (repeat' (first | exact Nat.zero_le _))
  case zc =>
    (repeat' (first | (refine And.intro ?_ ?_) | exact trivial | exact A.Le.refl _))
  case zv =>
    (repeat' (first | (refine And.intro ?_ ?_) | exact trivial | exact A.Le.refl _))
  case zh =>
    (repeat' (first | exact trivial))
  case zu =>
    (repeat' (first | exact trivial | exact Under.s _ | exact (free_ints _ _ _).under | exact ucs | exact us | exact uce | (refine And.intro ?_ ?_)))
  case zw =>
    (repeat' (first | exact trivial | exact Under.s _ | exact ubx | (refine And.intro ?_ ?_)))
  case zx =>
    (repeat' (first | exact trivial))
  case zr =>
  refine Aw.seq ?_
  refine Aw.sm tab_ok mb0 [] rfl rfl ?zo ?zk
  case zo =>
    repeat' apply AllP.cons
    all_goals first | exact trivial
  case zk =>
  refine Aw.cond rfl (fun h1 => Aw.skip ?_) (fun h1 => ?_)
  · have hlt : i < casts.length := by have := of_decide_eq_true h1; omega
    have hbs := boxesL_take (w := s.wide) (n := n) hlt
    have hbk : (boxesL s.wide n (casts.take i)).length = i := by rw [boxesL_len, List.length_take]; omega
    have hgc : (casts.map Sp.c)[i]? = some (casts.getD i c0).c := by rw [List.getElem?_map, List.getElem?_eq_getElem hlt, List.getD_eq_getElem?_getD, List.getElem?_eq_getElem hlt]; rfl
    have hci := hcin (casts.getD i c0) (by rw [List.getD_eq_getElem?_getD, List.getElem?_eq_getElem hlt]; exact List.getElem_mem _)
    generalize hc : casts.getD i c0 = c at *
    generalize hBL1 : boxesL s.wide n (casts.take (i + 1)) = BL1 at *
    generalize boxesL s.wide n (casts.take i) = BL at *
    have q1 : 0 ≤ c.lo.tmod s.wide ∧ c.lo.tmod s.wide ≤ 80 := by
      rw [Int.tmod_eq_emod_of_nonneg hci.1.1]
      have := Int.emod_nonneg c.lo (show s.wide ≠ 0 by omega)
      have := Int.emod_lt_of_pos c.lo (show 0 < s.wide by omega)
      omega
    have q2 : 0 ≤ c.lo.tdiv s.wide ∧ c.lo.tdiv s.wide ≤ 80 := by
      rw [Int.tdiv_eq_ediv_of_nonneg hci.1.1]
      have := Int.ediv_nonneg hci.1.1 (show 0 ≤ s.wide by omega)
      have := Int.ediv_le_self s.wide hci.1.1
      omega
    refine Aw.seq (Aw.block ?_)
    refine Aw.sm tab_ok mb0 [] rfl rfl ?zo ?zk
    case zo =>
      repeat' apply AllP.cons
      all_goals first | exact trivial
    case zk =>
    refine Aw.seq ?_
    refine Aw.sm tab_ok mb0 [] rfl rfl ?zo ?zk
    case zo =>
      repeat' apply AllP.cons
      all_goals first | exact trivial
    case zk =>
    refine Aw.block (Aw.rounds 0 hE [(2, .sl cb .any (casts.map Sp.c)), (4, .pt s.c), (11, outW F), (12, .int e), (13, outW G), (15, .sl false .any (CL.map Cel.c)), (19, .int i)] (fun k : Nat => [(18, grR 23 NL.c BL), (20, grL 3 (boxK s.wide c k)), (21, .int k)]) (fun k => []) (fun k => k ≤ n) (fun k => n - k) 0 ?zg ⟨?zc, ?zv, ?zh, Nat.le_of_ble_eq_true rfl⟩ ?zu (fun k zhk => ?zw) (fun k zhk => ?zx) fun k hk => ?zr)
    case zg =>
      (repeat' (first | exact Nat.zero_le _))
    case zc =>
      (repeat' (first | (refine And.intro ?_ ?_) | exact trivial | exact A.Le.refl _))
    case zv =>
      (repeat' (first | (refine And.intro ?_ ?_) | exact trivial | exact A.Le.refl _))
    case zh =>
      (repeat' (first | exact trivial))
    case zu =>
      (repeat' (first | exact trivial | exact Under.s _ | exact (free_ints _ _ _).under | exact ucs | exact us | exact uce | (refine And.intro ?_ ?_)))
    case zw =>
      (repeat' (first | exact trivial | exact Under.s _ | exact grL_under _ | exact ubx | (refine And.intro ?_ ?_)))
    case zx =>
      (repeat' (first | exact trivial))
    case zr =>
    refine Aw.seq ?_
    refine Aw.sm tab_ok mb0 [] rfl rfl ?zo ?zk
    case zo =>
      repeat' apply AllP.cons
      all_goals first | exact trivial
    case zk =>
    refine Aw.cond rfl (fun h2 => Aw.skip ?_) (fun h2 => ?_)
    · have hlt2 : k < n := by have := of_decide_eq_true h2; omega
      have q3 : 0 ≤ (k : Int).tmod s.wide ∧ (k : Int).tmod s.wide ≤ 80 := by
        rw [Int.tmod_eq_emod_of_nonneg (Int.natCast_nonneg k)]
        have := Int.emod_nonneg (k : Int) (show s.wide ≠ 0 by omega)
        have := Int.emod_lt_of_pos (k : Int) (show 0 < s.wide by omega)
        omega
      have q4 : 0 ≤ (k : Int).tdiv s.wide ∧ (k : Int).tdiv s.wide ≤ 80 := by
        rw [Int.tdiv_eq_ediv_of_nonneg (Int.natCast_nonneg k)]
        have := Int.ediv_nonneg (Int.natCast_nonneg k) (show 0 ≤ s.wide by omega)
        have := Int.ediv_le_self s.wide (Int.natCast_nonneg k)
        omega
      have hkb := boxK_succ s.wide c k
      have hkl := boxK_len s.wide c k
      have a1 := abs_t ((k : Int).tmod s.wide - c.lo.tmod s.wide) (by simp only [inR]; omega)
      have a2 := abs_t ((k : Int).tdiv s.wide - c.lo.tdiv s.wide) (by simp only [inR]; omega)
      have hnr : nearI s.wide c (k : Int) = List.foldl (fun a b : Int => if a < b then b else a) (absI ((k : Int).tmod s.wide - c.lo.tmod s.wide)) [absI ((k : Int).tdiv s.wide - c.lo.tdiv s.wide)] := rfl
      generalize nearI s.wide c (k : Int) = nr at *
      generalize hK1 : boxK s.wide c (k + 1) = K1 at *
      generalize boxK s.wide c k = K at *
      refine Aw.seq (Aw.block ?_)
      refine Aw.sd tab_ok mixed mb0 [(6, c.c), (20, c.c), (31, c.c), (13, [.int (absI ((k : Int).tmod s.wide - c.lo.tmod s.wide))]), (27, [.int (absI ((k : Int).tdiv s.wide - c.lo.tdiv s.wide))])] rfl (by kernel_rfl) rfl rfl ?zo ?zk
      case zo =>
        repeat' apply AllP.cons
        all_goals first | exact trivial | exact rfl | exact Nat.le_of_ble_eq_true rfl | exact Int.natCast_nonneg _ | exact hgc | exact a1 | exact a2 | exact (show s.wide ≠ 0 by omega) | exact (show inR ((k : Int).tmod s.wide - c.lo.tmod s.wide) by simp only [inR]; omega) | exact (show inR ((k : Int).tdiv s.wide - c.lo.tdiv s.wide) by simp only [inR]; omega) | exact (show s.wide ≠ 0 ∧ inR ((k : Int).tdiv s.wide) from ⟨by omega, by simp only [inR]; omega⟩) | exact (show s.wide ≠ 0 ∧ inR (c.lo.tdiv s.wide) from ⟨by omega, by simp only [inR]; omega⟩)
      case zk =>
      refine Aw.cond rfl (fun h3 => ?_) (fun h3 => Aw.skip ?_)
      · have h3 : nr ≤ c.hi := by rw [hnr]; exact of_decide_eq_true h3
        rw [if_pos h3] at hkb
        have hone : ∀ z ∈ [[A.int (k : Int)]], z.length = 1 := fun z hz => by simp at hz; subst hz; rfl
        cases K with
        | nil =>
          refine Aw.em tab_ok mb0 [] rfl rfl ?zo ?zk
          case zo =>
            repeat' apply AllP.cons
            all_goals first | exact trivial | exact Nat.le_of_ble_eq_true rfl | exact hone
          case zk =>
          refine Aw.em tab_ok mb0 [] rfl rfl ?zo ?zk
          case zo =>
            repeat' apply AllP.cons
            all_goals first | exact trivial | exact inrk k (by omega)
          case zk =>
          refine ⟨k + 1, ?zg, ?zm, ⟨?zc, ?zv, ?zh, Nat.le_of_ble_eq_true rfl⟩⟩
          case zg =>
            (repeat' (first | assumption))
          case zm =>
            (repeat' (first | omega))
          case zc =>
            (repeat' (first | (refine And.intro ?_ ?_) | exact trivial | exact A.Le.refl _))
          case zv =>
            (repeat' (first | (refine And.intro ?_ ?_) | exact trivial | exact A.Le.refl _ | exact .of_eq (by rw [hK1, hkb]; rfl)))
          case zh =>
            (repeat' (first | exact trivial))
        | cons y t =>
          have hl1 : (ints (y :: t)).length ≤ 12 := by rw [ints_len]; omega
          have hz := ints_one (y :: t)
          refine Aw.em tab_ok mb0 [] rfl rfl ?zo ?zk
          case zo =>
            repeat' apply AllP.cons
            all_goals first | exact trivial | exact Nat.le_of_ble_eq_true rfl | exact hone | exact hz | exact (show ((ints (y :: t)).length + 1) * 8 ≤ 140737488355328 by omega) | exact (show (ints (y :: t)).length + 1 ≤ maxLen by unfold maxLen; omega)
          case zk =>
          refine Aw.em tab_ok mb0 [] rfl rfl ?zo ?zk
          case zo =>
            repeat' apply AllP.cons
            all_goals first | exact trivial | exact inrk k (by omega)
          case zk =>
          refine ⟨k + 1, ?zg, ?zm, ⟨?zc, ?zv, ?zh, Nat.le_of_ble_eq_true rfl⟩⟩
          case zg =>
            (repeat' (first | assumption))
          case zm =>
            (repeat' (first | omega))
          case zc =>
            (repeat' (first | (refine And.intro ?_ ?_) | exact trivial | exact A.Le.refl _))
          case zv =>
            (repeat' (first | (refine And.intro ?_ ?_) | exact trivial | exact A.Le.refl _ | exact .of_eq (show grL 3 (boxK s.wide c (k + 1)) = A.sl false (.own 3) (ints (y :: t) ++ [[A.int (k : Int)]]) by rw [hK1, hkb]; simp [grL, ints])))
          case zh =>
            (repeat' (first | exact trivial))
      · have h3 : ¬ nr ≤ c.hi := by rw [hnr]; exact of_decide_eq_false h3
        rw [if_neg h3] at hkb
        refine Aw.em tab_ok mb0 [] rfl rfl ?zo ?zk
        case zo =>
          repeat' apply AllP.cons
          all_goals first | exact trivial | exact inrk k (by omega)
        case zk =>
        refine ⟨k + 1, ?zg, ?zm, ⟨?zc, ?zv, ?zh, Nat.le_of_ble_eq_true rfl⟩⟩
        case zg =>
          (repeat' (first | assumption))
        case zm =>
          (repeat' (first | omega))
        case zc =>
          (repeat' (first | (refine And.intro ?_ ?_) | exact trivial | exact A.Le.refl _))
        case zv =>
          (repeat' (first | (refine And.intro ?_ ?_) | exact trivial | exact A.Le.refl _ | exact .of_eq (by rw [hK1, hkb]; rfl)))
        case zh =>
          (repeat' (first | exact trivial))
    obtain rfl : k = n := by have := of_decide_eq_false h2; omega
    refine Aw.exit2 ?_
    have uW : ∀ {m : Nat}, Under m (outW (boxK s.wide c k)) := (outW_free _).under
    refine Aw.keep (n := 0) (cst := [(2, .sl cb .any (casts.map Sp.c)), (4, .pt s.c), (11, outW F), (12, .int e), (13, outW G), (15, .sl false .any (CL.map Cel.c)), (19, .int i), (20, outW (boxK s.wide c k))]) (v := [(18, grR 23 NL.c BL)]) (Hl := []) hE ?zu ?zw ?zx ⟨?zc, ?zv, ?zh, Nat.le_of_ble_eq_true rfl⟩ ?zr
    case zu =>
      (repeat' (first | exact trivial | exact Under.s _ | exact (free_ints _ _ _).under | exact ucs | exact us | exact uce | (refine And.intro ?_ ?_)))
    case zw =>
      (repeat' (first | exact trivial | exact ubx | (refine And.intro ?_ ?_)))
    case zx =>
      (repeat' (first | exact trivial))
    case zc =>
      (repeat' (first | (refine And.intro ?_ ?_) | exact trivial | exact A.Le.refl _ | exact grL_w 3 _))
    case zv =>
      (repeat' (first | (refine And.intro ?_ ?_) | exact trivial | exact A.Le.refl _))
    case zh =>
      (repeat' (first | exact trivial))
    case zr =>
    have hbn : (boxN s.wide k c).c = [outW (boxK s.wide c k)] := rfl
    generalize boxN s.wide k c = bn at *
    generalize boxK s.wide c k = BK at *
    have hone : ∀ z ∈ [[outW BK]], z.length = 1 := fun z hz => by simp at hz; subst hz; rfl
    cases BL with
    | nil =>
      refine Aw.em tab_ok mb0 [] rfl rfl ?zo ?zk
      case zo =>
        repeat' apply AllP.cons
        all_goals first | exact trivial | exact Nat.le_of_ble_eq_true rfl | exact hone
      case zk =>
      refine Aw.em tab_ok mb0 [] rfl rfl ?zo ?zk
      case zo =>
        repeat' apply AllP.cons
        all_goals first | exact trivial | exact inrk i (by omega)
      case zk =>
      refine ⟨i + 1, ?zg, ?zm, ⟨?zc, ?zv, ?zh, Nat.le_of_ble_eq_true rfl⟩⟩
      case zg =>
        (repeat' (first | assumption))
      case zm =>
        (repeat' (first | omega))
      case zc =>
        (repeat' (first | (refine And.intro ?_ ?_) | exact trivial | exact A.Le.refl _))
      case zv =>
        (repeat' (first | (refine And.intro ?_ ?_) | exact trivial | exact A.Le.refl _ | exact .of_eq (by rw [hBL1, hbs]; show A.sl false (.own 23) [bn.c] = _; rw [hbn]; rfl)))
      case zh =>
        (repeat' (first | exact trivial))
    | cons x t =>
      have hl1 : ((x :: t).map NL.c).length ≤ 8 := by rw [List.length_map]; omega
      have hz := nl_one (x :: t)
      refine Aw.em tab_ok mb0 [] rfl rfl ?zo ?zk
      case zo =>
        repeat' apply AllP.cons
        all_goals first | exact trivial | exact Nat.le_of_ble_eq_true rfl | exact hone | exact hz | exact (show (((x :: t).map NL.c).length + 1) * 24 ≤ 140737488355328 by omega) | exact (show ((x :: t).map NL.c).length + 1 ≤ maxLen by unfold maxLen; omega)
      case zk =>
      refine Aw.em tab_ok mb0 [] rfl rfl ?zo ?zk
      case zo =>
        repeat' apply AllP.cons
        all_goals first | exact trivial | exact inrk i (by omega)
      case zk =>
      refine ⟨i + 1, ?zg, ?zm, ⟨?zc, ?zv, ?zh, Nat.le_of_ble_eq_true rfl⟩⟩
      case zg =>
        (repeat' (first | assumption))
      case zm =>
        (repeat' (first | omega))
      case zc =>
        (repeat' (first | (refine And.intro ?_ ?_) | exact trivial | exact A.Le.refl _))
      case zv =>
        (repeat' (first | (refine And.intro ?_ ?_) | exact trivial | exact A.Le.refl _ | exact .of_eq (by rw [hBL1, hbs]; show A.sl false (.own 23) (((x :: t) ++ [bn]).map NL.c) = _; rw [List.map_append, show [bn].map NL.c = [bn.c] from rfl, hbn]; rfl)))
      case zh =>
        (repeat' (first | exact trivial))
  obtain rfl : i = casts.length := by have := of_decide_eq_false h1; omega
  rw [List.take_length]
  have hbne : boxesL s.wide n casts ≠ [] := fun h => by rw [h] at hbl; simp at hbl; omega
  have ubn : ∀ {m : Nat}, Under m (A.sl false .any ((boxesL s.wide n casts).map NL.c)) := (free_map NL.free _ _ _).under
  refine Aw.exit2 ?_
  refine Aw.keep (n := 0) (cst := [(2, .sl cb .any (casts.map Sp.c)), (11, outW F), (12, .int e), (13, outW G), (15, .sl false .any (CL.map Cel.c)), (18, .sl false .any ((boxesL s.wide n casts).map NL.c))]) (v := []) (Hl := []) hE ?zu ?zw ?zx ⟨?zc, ?zv, ?zh, Nat.le_of_ble_eq_true rfl⟩ ?zr
  case zu =>
    (repeat' (first | exact trivial | exact Under.s _ | exact (free_ints _ _ _).under | exact ucs | exact uce | exact ubn | (refine And.intro ?_ ?_)))
  case zw =>
    (repeat' (first | exact trivial))
  case zx =>
    (repeat' (first | exact trivial))
  case zc =>
    (repeat' (first | (refine And.intro ?_ ?_) | exact trivial | exact A.Le.refl _ | exact (by rw [grR_cons hbne]; exact .any _ _ _)))
  case zv =>
    (repeat' (first | exact trivial))
  case zh =>
    (repeat' (first | exact trivial))
  case zr =>
  have hb1 := hbx false false (casts.length : Int) ⟨by omega, by omega⟩
  have hb2 := hbx false false (F.length : Int)
  have hb3 := hbx false false ((F.length : Int) - 1)
  rw [← lc] at hb1
  have zF := ints_lenI F
  have zG := ints_lenI G
  have hrl := (rising_in hri (Int.le_refl _) (by omega)).2
  have hrs : Ans Try.prog 19 [outW (boxF CL (boxesL s.wide n casts) casts.length).chosen, .int ((casts.map Sp.c).length : Int)] (.bool true) := by
    have := rising_t (boxF CL (boxesL s.wide n casts) casts.length).chosen (boxF CL (boxesL s.wide n casts) casts.length).chosen.isEmpty (casts.length : Int) (by omega) ⟨by omega, by omega⟩
    rw [hri] at this
    rw [lc]; exact this
  generalize boxesL s.wide n casts = BX at *
  rw [lc] at hb1
  generalize boxF CL BX casts.length = R1 at *
  rw [← lc] at hb1
  refine Aw.sm tab_ok mb0 [(4, [.tup [outW R1.chosen, .int R1.sp, .int R1.la, .int 0]])] rfl rfl ?zo ?zk
  case zo =>
    repeat' apply AllP.cons
    all_goals first | exact trivial | exact hb1
  case zk =>
  refine Aw.seq ?_
  refine Aw.sm tab_ok mb0 [(6, [.bool true])] rfl rfl ?zo ?zk
  case zo =>
    repeat' apply AllP.cons
    all_goals first | exact trivial | exact id | exact fun _ => rfl | exact fun _ => hrs
  case zk =>
  refine Aw.cond rfl (fun h => by cases h) (fun _ => Aw.skip ?_)
  refine Aw.seq ?_
  rcases e04 with rfl | rfl
  rotate_left
  · obtain ⟨rfl, hlt⟩ := hnone rfl
    refine Aw.sm tab_ok mb0 [] rfl rfl ?zo ?zk
    case zo =>
      repeat' apply AllP.cons
      all_goals first | exact trivial
    case zk =>
    refine Aw.cond rfl (fun _ => ?_) (fun h => by cases h)
    refine Aw.sm tab_ok mb0 [(10, [.bool true])] rfl rfl ?zo ?zk
    case zo =>
      repeat' apply AllP.cons
      all_goals first | exact trivial | exact id | exact fun _ => rfl | exact fun _ => clo9_t
    case zk =>
    have hd : decide (R1.sp < ((ints G).length : Int)) = true := decide_eq_true (by rw [zG]; exact hlt)
    exact Aw.ret ⟨_, .cons (.tmp _) .nil, congrArg A.bool (show cond (cond (decide (R1.sp < ((ints G).length : Int))) ((0 : Int) == 0) false) true false = true by rw [hd]; rfl)⟩
  obtain ⟨f1, f8, s1, s2, s3⟩ := hsome rfl
  refine Aw.sm tab_ok mb0 [] rfl rfl ?zo ?zk
  case zo =>
    repeat' apply AllP.cons
    all_goals first | exact trivial
  case zk =>
  refine Aw.cond rfl (fun h => by cases h) (fun _ => Aw.skip ?_)
  have hb2 := hb2 ⟨by omega, by omega⟩
  have hb3 := hb3 ⟨by omega, by omega⟩
  have hmx : List.foldl (fun a b : Int => if a < b then b else a) 0 [((ints F).length : Int) - 1] = (F.length : Int) - 1 := by
    rw [zF]
    show (if (0 : Int) < (F.length : Int) - 1 then (F.length : Int) - 1 else 0) = _
    split <;> omega
  generalize boxF CL BX (F.length : Int) = R2 at *
  generalize boxF CL BX ((F.length : Int) - 1) = R3 at *
  rw [← zF] at hb2
  rw [← hmx] at hb3
  refine Aw.sm tab_ok mb0 [(4, [.tup [outW R2.chosen, .int R2.sp, .int R2.la, .int 0]])] rfl rfl ?zo ?zk
  case zo =>
    repeat' apply AllP.cons
    all_goals first | exact trivial | exact hb2
  case zk =>
  refine Aw.sm tab_ok mb0 [(6, [.tup [outW R3.chosen, .int R3.sp, .int R3.la, .int 0]])] rfl rfl ?zo ?zk
  case zo =>
    repeat' apply AllP.cons
    all_goals first | exact trivial | exact hb3 | exact (show inR (((ints F).length : Int) - 1) by rw [zF]; simp only [inR]; omega)
  case zk =>
  refine Aw.sm tab_ok mb0 [(30, [.bool true])] rfl rfl ?zo ?zk
  case zo =>
    repeat' apply AllP.cons
    all_goals first | exact trivial | exact id | exact fun _ => rfl | exact fun _ => clo9_t
  case zk =>
  refine Aw.ret ⟨_, .cons (.tmp _) .nil, congrArg A.bool (show cond (cond (cond (cond (cond (cond ((0 : Int) == 0) ((0 : Int) == 0) false) (R1.sp == ((ints G).length : Int)) false) (R2.sp == ((ints G).length : Int)) false) (decide (((ints F).length : Int) > 0)) false) (decide (R3.sp < ((ints G).length : Int))) false) true false = true from ?_)⟩
  rw [zG, zF, s1, s2, decide_eq_true s3, decide_eq_true (show (F.length : Int) > 0 by omega)]
  simp
theorem closed_c (s : Sea) (b : Bool) (l : List Rep) (cb : Bool) (casts : List Sp) (n0 n1 : Int) (hf : SeaFit s) (hl : (l.length : Int) ≤ 9223372036854775806) (hcs : CstFit casts) :
    Ans Try.prog 4 [.agg s.c, .sl b .any (l.map Rep.c), .sl cb .any (casts.map Sp.c), .agg [.int n0, .int n1]] (.bool true) := closed_l s hf b l hl cb casts hcs n0 n1
end Go.Proofs.Ytkfepnbanekfgaa

set_option maxRecDepth 100000
namespace Go.Proofs.Ytkfepnbanekfgaa
open Go Go.AL Go.AL.Q Go.AL.Sh Go.ChangeShapes Go.WideShapes Go.ChangeAt Go.RowKit
theorem u40 : Try.prog.underlying 40 = some (.slice 84) := by kernel_rfl
theorem u42 : Try.prog.underlying 42 = some (.struct #[fld "Wide" 3 0 0, fld "High" 3 1 8, fld "Land" 23 2 16, fld "Hours" 3 3 40, fld "Drift" 40 4 48, fld "Speed" 3 5 72]) := by kernel_rfl
theorem u43 : Try.prog.underlying 43 = some (.slice 66) := by kernel_rfl
theorem u44c : Try.prog.underlying 44 = some (.slice 56) := by kernel_rfl
theorem u45p : Try.prog.underlying 45 = some (.array 2 3) := by kernel_rfl
theorem u56 : Try.prog.underlying 56 = some (.struct #[fld "Cell" 3 0 0, fld "Far" 3 1 8]) := by kernel_rfl
theorem u66 : Try.prog.underlying 66 = some (.struct #[fld "Hour" 3 0 0, fld "Cell" 3 1 8, fld "Far" 3 2 16, fld "There" 4 3 24]) := by kernel_rfl
theorem u84 : Try.prog.underlying 84 = some (.struct #[fld "East" 3 0 0, fld "North" 3 1 8]) := by kernel_rfl
theorem c4 : Try.prog.cellsOf 4 = 1 := by kernel_rfl
theorem c40 : Try.prog.cellsOf 40 = 1 := by kernel_rfl
theorem c42 : Try.prog.cellsOf 42 = 6 := by kernel_rfl
theorem c45p : Try.prog.cellsOf 45 = 2 := by kernel_rfl
theorem c56 : Try.prog.cellsOf 56 = 2 := by kernel_rfl
theorem c66 : Try.prog.cellsOf 66 = 4 := by kernel_rfl
theorem c84 : Try.prog.cellsOf 84 = 2 := by kernel_rfl
theorem by56 : Try.prog.bytesOf 56 = 16 := by kernel_rfl
theorem by66 : Try.prog.bytesOf 66 = 32 := by kernel_rfl
theorem by84 : Try.prog.bytesOf 84 = 16 := by kernel_rfl
section
variable {H : Type} {enc : TypeId × Value → H} {w : World} {base : Nat} {held : Bool} {φ : Names}
theorem r3i : Reads enc Try.prog w base held φ 3 1 (fun n : Int => [A.int n]) fun n => inR n := fun n cs y h _ => by
  obtain ⟨z, rfl, _, hw⟩ := DataW.trod_int u3 h
  exact ⟨z, by simpa [Lit.wf, inR, IntKind.min, IntKind.max, IntKind.signed, IntKind.bits] using hw, rfl, .one (.s _) rfl⟩
theorem r4 : Reads enc Try.prog w base held φ 4 1 (fun b : Bool => [A.bool b]) fun _ => True := fun n cs y h _ => by
  obtain ⟨z, rfl, _⟩ := DataW.trod_bool uBool h
  exact ⟨z, trivial, rfl, .one (.s _) rfl⟩
theorem rdIntsH : Reads enc Try.prog w base held φ 23 1 (fun x : Bool × List Int => [A.sl x.1 .any (ints x.2)]) (fun x => (x.2.length : Int) ≤ 9223372036854775806) := by
  have key := Reads.slice (enc := enc) (w := w) (base := base) (held := held) (φ := φ) u23 c3 (by decide) r3i
  exact key.imp fun x h => ⟨x, fit_len h.2 (by rw [by3]; decide), rfl⟩
theorem rdStep : Reads enc Try.prog w base held φ 84 2 Sp.c (fun _ => True) := by
  have key := Reads.struct (enc := enc) (w := w) (base := base) (held := held) (φ := φ) u84 c84 (Flds.cons (f := fld "East" 3 0 0) rfl c3 r3i (Flds.cons (f := fld "North" 3 1 8) rfl c3 r3i (Flds.nil _))) rfl rfl
  exact key.imp fun x _ => ⟨⟨x.1, x.2.1⟩, trivial, rfl⟩
theorem rdCast : Reads enc Try.prog w base held φ 56 2 Sp.c (fun c => inR c.lo ∧ inR c.hi) := by
  have key := Reads.struct (enc := enc) (w := w) (base := base) (held := held) (φ := φ) u56 c56 (Flds.cons (f := fld "Cell" 3 0 0) rfl c3 r3i (Flds.cons (f := fld "Far" 3 1 8) rfl c3 r3i (Flds.nil _))) rfl rfl
  exact key.imp fun x h => ⟨⟨x.1, x.2.1⟩, ⟨h.1, h.2.1⟩, rfl⟩
theorem rdRep : Reads enc Try.prog w base held φ 66 4 Rep.c (fun _ => True) := by
  have key := Reads.struct (enc := enc) (w := w) (base := base) (held := held) (φ := φ) u66 c66 (Flds.cons (f := fld "Hour" 3 0 0) rfl c3 r3i (Flds.cons (f := fld "Cell" 3 1 8) rfl c3 r3i (Flds.cons (f := fld "Far" 3 2 16) rfl c3 r3i (Flds.cons (f := fld "There" 4 3 24) rfl c4 r4 (Flds.nil _))))) rfl rfl
  exact key.imp fun x _ => ⟨⟨x.1, x.2.1, x.2.2.1, x.2.2.2.1⟩, trivial, rfl⟩
theorem rdSteps : Reads enc Try.prog w base held φ 40 1 (fun x : Bool × List Sp => [A.sl x.1 .any (x.2.map Sp.c)]) (fun x => (x.2.length : Int) ≤ 9223372036854775806) := by
  have key := Reads.slice (enc := enc) (w := w) (base := base) (held := held) (φ := φ) u40 c84 (by decide) rdStep
  exact key.imp fun x h => ⟨x, fit_len h.2 (by rw [by84]; decide), rfl⟩
theorem rdSea : Reads enc Try.prog w base held φ 42 6 Sea.c SeaFit := by
  have key := Reads.struct (enc := enc) (w := w) (base := base) (held := held) (φ := φ) u42 c42 (Flds.cons (f := fld "Wide" 3 0 0) rfl c3 r3i (Flds.cons (f := fld "High" 3 1 8) rfl c3 r3i (Flds.cons (f := fld "Land" 23 2 16) rfl c23 rdIntsH (Flds.cons (f := fld "Hours" 3 3 40) rfl c3 r3i (Flds.cons (f := fld "Drift" 40 4 48) rfl c40 rdSteps (Flds.cons (f := fld "Speed" 3 5 72) rfl c3 r3i (Flds.nil _))))))) rfl rfl
  exact key.imp fun x h => ⟨⟨x.1, x.2.1, x.2.2.1.1, x.2.2.1.2, x.2.2.2.1, x.2.2.2.2.1.1, x.2.2.2.2.1.2, x.2.2.2.2.2.1⟩, ⟨h.2.2.1, h.2.2.2.2.1⟩, rfl⟩
variable {v : Value} {d : DataW H} {p : List MemPlace} {r : Reach} {b0 : Nat}
theorem arg_sea (hok : Value.okWide Try.prog w r b0 42 v) (h : DataW.Trod enc Try.prog w base (fun _ => true) held 42 v d p) (hw : ∀ k ∈ d.weights Try.prog 42, k ≤ reachBytes) :
    ∃ y : Sea, VR φ (allZ w) w (.agg y.c) v ∧ SeaFit y := by
  obtain ⟨x, q, e⟩ := (rdSea (φ := φ)).arg_agg (agg_struct u42 hok) h hw
  exact ⟨x, e, q⟩
theorem arg_reps (hok : Value.okWide Try.prog w r b0 43 v) (h : DataW.Trod enc Try.prog w base (fun _ => true) held 43 v d p) (hw : ∀ k ∈ d.weights Try.prog 43, k ≤ reachBytes) :
    ∃ (b : Bool) (l : List Rep), VR φ (allZ w) w (.sl b .any (l.map Rep.c)) v ∧ (l.length : Int) ≤ 9223372036854775806 := by
  obtain ⟨x, q, e⟩ := (Reads.slice (φ := φ) u43 c66 (by decide) rdRep).arg_slice u43 hok h hw
  exact ⟨x.1, x.2, e, fit_len q.2 (by rw [by66]; decide)⟩
theorem arg_casts (hok : Value.okWide Try.prog w r b0 44 v) (h : DataW.Trod enc Try.prog w base (fun _ => true) held 44 v d p) (hw : ∀ k ∈ d.weights Try.prog 44, k ≤ reachBytes) :
    ∃ (b : Bool) (l : List Sp), VR φ (allZ w) w (.sl b .any (l.map Sp.c)) v ∧ CstFit l := by
  obtain ⟨x, q, e⟩ := (Reads.slice (φ := φ) u44c c56 (by decide) rdCast).arg_slice u44c hok h hw
  exact ⟨x.1, x.2, e, ⟨by
    have h2 := q.2
    rw [by56] at h2
    have h5 : reachBytes = 140737488351232 := by decide
    omega, q.1⟩⟩
theorem arg_pair (hok : Value.okWide Try.prog w r b0 45 v) (h : DataW.Trod enc Try.prog w base (fun _ => true) held 45 v d p) (hw : ∀ k ∈ d.weights Try.prog 45, k ≤ reachBytes) : ∃ y : Int × Int, VR φ (allZ w) w (.agg [.int y.1, .int y.2]) v := by
  obtain ⟨x, q, e⟩ := (Reads.ints (φ := φ) u45p c45p u3 c3).arg_agg (agg_array u45p hok) h hw
  match x, q with
  | [a, b], _ => exact ⟨(a, b), e⟩
end
end Go.Proofs.Ytkfepnbanekfgaa

namespace Go.Proofs.Ytkfepnbanekfgaa
open Go Go.AL Go.ChangeShapes Go.WideShapes Go.ChangeAt Go.RowKit
set_option maxRecDepth 100000 in
theorem topClosed_lifted (os : Os) (started : os.Started) (H : Type) (enc : TypeId × Value → H) :
    ReturnsInHanded {} Try.checked os 4 .any (Rows.topClosedSpec.pre6 enc Try.prog Try.f4 [] false) (Rows.topClosedSpec.post enc Try.prog Try.f4 false true false false) := by
  refine lifted2 (tb := 4) (C := Try.checked) own started (by kernel_rfl) Try.func4
    (ChangeSpec.witness6 (enc := enc) (C := Try.checked) false ⟨#[], #[.agg #[.int .i64 0, .int .i64 0, .slice none 0 0, .int .i64 0, .slice none 0 0, .int .i64 0], .slice none 0 0, .slice none 0 0, .agg #[.int .i64 0, .int .i64 0]], []⟩ 8 (by kernel_rfl) (by kernel_rfl) (by kernel_rfl) (by kernel_rfl))
    laidOut ?_ rfl rfl (by kernel_rfl) uBool ?_ ?_
  · rw [Try.params4]; exact all4t (p := fun t => Try.prog.readableRec t = true ∧ t < Try.prog.types.size) t42 t43 t44 t45
  · intro ds hd
    rw [Try.params4] at hd
    match ds, hd with
    | [d0, d1, d2, d3], _ => rfl
  · intro W base args ds p hval hA hwt
    rw [Try.params4] at hA hval
    obtain ⟨v0, v1, v2, v3, d0, d1, d2, d3, p0, p1, p2, p3, rfl, rfl, rfl, h0, h1, h2, h3⟩ := trodAll_four hA
    obtain ⟨y0, q0, s0⟩ := arg_sea (φ := fun _ => none) (hval 0 42 v0 rfl rfl) h0 fun k hk => hwt k (List.mem_append.2 (.inl hk))
    obtain ⟨b1, y1, q1, s1⟩ := arg_reps (φ := fun _ => none) (hval 1 43 v1 rfl rfl) h1 fun k hk => hwt k (List.mem_append.2 (.inr (List.mem_append.2 (.inl hk))))
    obtain ⟨b2, y2, q2, s2⟩ := arg_casts (φ := fun _ => none) (hval 2 44 v2 rfl rfl) h2 fun k hk => hwt k (List.mem_append.2 (.inr (List.mem_append.2 (.inr (List.mem_append.2 (.inl hk))))))
    obtain ⟨y3, q3⟩ := arg_pair (φ := fun _ => none) (hval 3 45 v3 rfl rfl) h3 fun k hk => hwt k (List.mem_append.2 (.inr (List.mem_append.2 (.inr (List.mem_append.2 (.inr (List.mem_append.2 (.inl hk))))))))
    exact ⟨_, _, vrs4 q0 q1 q2 q3, closed_c y0 b1 y1 b2 y2 y3.1 y3.2 s0 s1 s2⟩
theorem topClosed_holds : Rows.TopClosedSaid :=
  OpenClaim.holds_of_wide 4 Try.f4 rfl rfl rfl rfl rfl rfl rfl ⟨rfl, rfl, rfl, rfl, rfl⟩ rfl rfl rfl rfl rfl (by kernel_rfl) Try.func4 (by kernel_rfl)
    (of_decide_eq_true (by kernel_rfl)) (by unfold Func.isWrapper; first | (rw [if_pos (by decide +kernel)]; kernel_rfl) | (rw [if_neg (by decide +kernel)]; exact ⟨rfl, rfl⟩))
    (fun os started H enc _ => topClosed_lifted os started H enc)
end Go.Proofs.Ytkfepnbanekfgaa

