/- TopRights holds: The greatest quota is divided among boats by their rights, and nothing of it is left over: whatever each boat catches of its part no race breaks; with one more some race does, if there could be one more. No condition. -/
import Derived.Test.YtkfepnbanekfgaaK6
import Derived.ChangeSame
import Derived.Laws.IdiomArrays
import Derived.Lib.SmallJoins
import Derived.ProofKit
import Derived.Test.YtkfepnbanekfgaaRows
set_option linter.all false
namespace Go.AL
open Go Go.RowKit Go.ChangeShapes Go.WideShapes Go.ChangeAt
section
variable {H : Type} {enc : TypeId × Value → H} {P : Program} {w : World} {base : Nat} {spare : Nat → Bool} {held : Bool} {φ : Names}
theorem slice_len {t e fuel : Nat} {v : Value} {x : DataW H × List MemPlace} {Z : Still} {nil : Bool} {c : Cap} {es : List (List A)} (ht : P.underlying t = some (.slice e)) (h : DataW.trod enc P w base spare held fuel t [v] = some x)
    (hv : VR φ Z w (.sl nil c es) v) (hw : ∀ k ∈ x.1.weights P t, k ≤ reachBytes) : es.length * P.bytesOf e ≤ reachBytes := by
  rcases DataW.trod_slice ht h with ⟨h0, _⟩ | ⟨a, len, cap, elems, rest, n, _, hcs, hx, _, _, _, hlen, _, _, _⟩
  · simp only [List.cons.injEq, and_true] at h0
    subst h0
    rcases inv_sl hv with ⟨_, rfl, _⟩ | ⟨_, rfl, _⟩ | ⟨_, b, off, sz, c, val, h1, _⟩
    · simp
    · simp
    · cases h1
  · simp only [List.cons.injEq, and_true] at hcs
    subst hcs
    rcases inv_sl hv with ⟨_, _, h1⟩ | ⟨_, rfl, _, h1⟩ | ⟨_, b, off, sz, c, val, h1, _⟩
    · cases h1
    · simp
    · have e1 : len = es.length := by cases h1; rfl
      have h2 := hw ((elems.length + rest.length) * P.bytesOf e) (by
        rw [hx]; simp only [DataW.weights, ht, List.length_map]; exact List.mem_cons_self ..)
      have h3 : es.length ≤ elems.length + rest.length := by omega
      exact Nat.le_trans (Nat.mul_le_mul_right _ h3) h2
theorem lifted2 {C : Checked} {os : Os} {f : FuncId} {fn : Func} {s : ChangeSpec} {apart fresh handsOn again : Bool} {tb : TypeId}
    (own : ownKnob C.prog.godebug = none) (started : os.Started) (noInit : C.prog.inits.idxOf? f = none) (hfn : C.prog.funcs[f]? = some fn)
    (witness : ∃ (w : World) (tape : Tape) (i : Input), w.os = os ∧ (w.forCall tape i).Shaped C.prog ∧ i.vars = [] ∧ Input.okWide C.prog (w.forCall tape i) .any w.heap.size f i ∧
      s.pre6 enc C.prog fn [] apart (w.forCall tape i).memory i.args ∧ ({} : Assume).holds C.prog (lone (Frame.enter C.prog f i.args .normal) [] (w.forCall tape i)))
    (hl : laidOutB C.prog = true) (hts : ∀ t ∈ fn.params.toList, C.prog.readableRec t = true ∧ t < C.prog.types.size) (hv : s.vars = []) (hvt : s.plain.varTypes C.prog = [])
    (hr : fn.resultTypes = #[tb]) (htb : C.prog.underlying tb = some .bool)
    (hs : ∀ ds : List (DataW H), ds.length = fn.params.size → s.fn H ds = { results := [.lit (.bool true)], args := ds })
    (key : ∀ (W : World) (base : Nat) (args : Array Value) (ds : List (DataW H)) (p : List MemPlace),
      (∀ (j : Nat) t v, fn.params[j]? = some t → args[j]? = some v → Value.okWide C.prog W .any base t v) →
      DataW.TrodAll enc C.prog W 0 (fun _ => true) true fn.params.toList args.toList ds p → (∀ k ∈ DataW.weightsEach C.prog fn.params.toList ds, k ≤ reachBytes) → ∃ (φ : Names) (az : List A), VRs φ (allZ W) W az args ∧ Ans C.prog f az (.bool true)) :
    ReturnsInHanded {} C os f .any (s.pre6 enc C.prog fn [] apart) (s.post enc C.prog fn apart fresh handsOn again) := by
  refine returnsInHanded_of_calls own started noInit witness ?_
  intro w tape i _ _ _ hok hpre hholds
  obtain ⟨_, _, _, fn', hfn', _, _, _, _, hval⟩ := hok
  have e : fn' = fn := Option.some.inj (hfn'.symm.trans hfn)
  subst e
  obtain ⟨⟨ds, gs, before, hw, hc⟩, hz⟩ := hpre
  have hzw := hz.weights hw
  have hW := DataW.Whole.of_heap (w' := w.forCall tape i) (by rfl) hw
  have hW2 := hW
  obtain ⟨p, q, hA, hV, hpq, hz, hn⟩ := hW2
  rw [hv] at hV
  have hg : gs = [] := by
    cases gs with
    | nil => rfl
    | cons a b => exact hV.elim
  subst hg
  have hlen : ∀ {ts : List TypeId} {vs : List Value} {ds : List (DataW H)} {p : List MemPlace}, DataW.TrodAll enc C.prog (w.forCall tape i) 0 (fun _ => true) true ts vs ds p → ds.length = ts.length := fun {ts} => by
    induction ts with
    | nil => intro vs ds p h; obtain ⟨_, rfl, _⟩ := trodAll_nil h; rfl
    | cons t ts ih => intro vs ds p h; obtain ⟨v, vs1, d, ds1, a, b, _, rfl, _, _, h2⟩ := trodAll_cons h; simp [ih h2]
  have hd : ds.length = fn'.params.size := by rw [hlen hA]; simp
  have hzw : ∀ k ∈ DataW.weightsEach C.prog fn'.params.toList ds, k ≤ reachBytes := fun k hk => by
    have e : (OpenSpec.ofChange s).bare.plain.varTypes C.prog = [] := hvt
    rw [e, List.append_nil, List.append_nil] at hzw
    exact of_decide_eq_true (List.all_eq_true.1 hzw k hk)
  obtain ⟨φ, az, hvs, ha⟩ := key (w.forCall tape i) w.heap.size i.args ds p hval hA hzw
  have e := hs (ds ++ []) (by simpa using hd)
  refine (law_row (apart := apart) (fresh := fresh) (handsOn := handsOn) (again := again) hl hts hv hW (by rw [e]; simp) (by rw [e]) (by rw [e]) hr htb hvs ha).mono fun e W' ⟨v, he, hp⟩ => ?_
  subst he
  exact ChangeSpec.post_blind hp
theorem rows1 : ∀ es : List (List Int), (∀ z ∈ es, z.length = 1) → ∃ l : List Int, (es.map fun z => z.map A.int) = Q.ints l ∧ l.length = es.length
  | [], _ => ⟨[], rfl, rfl⟩
  | z :: es, h => by
    obtain ⟨l, h1, h2⟩ := rows1 es fun y hy => h y (List.mem_cons_of_mem _ hy)
    match z, h z (List.mem_cons_self ..) with
    | [a], _ => exact ⟨a :: l, by rw [List.map_cons, h1]; rfl, by simp [h2]⟩
theorem all1t {p : Nat → Prop} {a : Nat} (h : p a) : ∀ t ∈ (#[a] : Array Nat).toList, p t := fun t ht => by
  rcases List.mem_cons.1 ht with rfl | ht
  · exact h
  · cases ht
theorem all2t {p : Nat → Prop} {a b : Nat} (h : p a) (k : p b) : ∀ t ∈ (#[a, b] : Array Nat).toList, p t := fun t ht => by
  rcases List.mem_cons.1 ht with rfl | ht
  · exact h
  · exact all1t k t ht
theorem all3t {p : Nat → Prop} {a b c : Nat} (h : p a) (k : p b) (l : p c) : ∀ t ∈ (#[a, b, c] : Array Nat).toList, p t := fun t ht => by
  rcases List.mem_cons.1 ht with rfl | ht
  · exact h
  · exact all2t k l t ht
theorem vrs3 {a a' a2 : A} {v v' v2 : Value} {Z : Still} (h : VR φ Z w a v) (h' : VR φ Z w a' v') (h2 : VR φ Z w a2 v2) : VRs φ Z w [a, a', a2] #[v, v', v2] := ⟨rfl, fun i hi => by
  match i, hi with
  | 0, _ => exact h
  | 1, _ => exact h'
  | 2, _ => exact h2⟩
theorem slice_cell {t e : TypeId} (ht : P.underlying t = some (.slice e)) {v : Value} {r : Reach} {b0 : Nat} (hok : Value.okWide P w r b0 t v) : Cell.okWide P w r b0 t v ∧ v.cells.toList = [v] := by
  unfold Value.okWide at hok
  rw [ht] at hok
  have hok : Cell.okWide P w r b0 t v := hok
  refine ⟨hok, ?_⟩
  unfold Cell.okWide Cell.ok at hok
  rw [ht] at hok
  cases v <;> first | rfl | exact hok.elim
theorem arg_nums {t e sz : Nat} (ht : P.underlying t = some (.slice e)) (hc : P.cellsOf e = sz) (hn : Nums enc P w base spare held e sz) (hb : 1 ≤ P.bytesOf e)
    {v : Value} {d : DataW H} {p : List MemPlace} {r : Reach} {b0 : Nat} (hok : Value.okWide P w r b0 t v) (h : DataW.Trod enc P w base spare held t v d p) (hw : ∀ k ∈ d.weights P t, k ≤ reachBytes) :
    ∃ (nil : Bool) (es : List (List Int)), VR φ (allZ w) w (.sl nil .any (es.map fun z => z.map A.int)) v ∧ (∀ z ∈ es, z.length = sz) ∧ (es.length : Int) ≤ 9223372036854775806 ∧ es.length * P.bytesOf e ≤ reachBytes := by
  obtain ⟨fuel, h⟩ := h
  obtain ⟨h1, h2⟩ := slice_cell ht hok
  rw [h2] at h
  obtain ⟨b, es, q, l1, m⟩ := open_nums (φ := φ) ht hc hn h1 h
  have z := slice_len ht h q hw
  rw [List.length_map] at z
  refine ⟨b, es, q, l1, ?_, z⟩
  have h3 : es.length ≤ es.length * P.bytesOf e := Nat.le_mul_of_pos_right _ hb
  have h4 : es.length ≤ reachBytes := Nat.le_trans h3 z
  have h5 : reachBytes = 140737488351232 := by decide
  omega
end
end Go.AL

namespace Go.AL
open Go Go.RowKit Go.ChangeShapes Go.WideShapes Go.ChangeAt
section
variable {H : Type} {enc : TypeId × Value → H} {P : Program} {w : World} {base : Nat} {held : Bool} {φ : Names}
def CellsAre (φ : Names) (w : World) (az : List A) (cs : List Value) : Prop :=
  cs.length = az.length ∧ ∀ i, i < az.length → VR φ (allZ w) w (az.getD i .un) (cs.getD i undef) ∧ (cs.getD i undef).oneCell' = true
theorem CellsAre.nil : CellsAre φ w [] [] := ⟨rfl, fun i h => by simp at h⟩
theorem CellsAre.one {a : A} {v : Value} (h : VR φ (allZ w) w a v) (h1 : v.oneCell' = true) : CellsAre φ w [a] [v] := ⟨rfl, fun i hi => by
  have : i = 0 := by simp at hi; exact hi
  subst this; exact ⟨h, h1⟩⟩
theorem CellsAre.app {az bz : List A} {cs ds : List Value} (h : CellsAre φ w az cs) (k : CellsAre φ w bz ds) : CellsAre φ w (az ++ bz) (cs ++ ds) := by
  refine ⟨by simp [h.1, k.1], fun i hi => ?_⟩
  by_cases h1 : i < az.length
  · have := h.2 i h1
    rw [show (az ++ bz).getD i .un = az.getD i .un by simp [List.getD_eq_getElem?_getD, List.getElem?_append, h1],
      show (cs ++ ds).getD i undef = cs.getD i undef by simp [List.getD_eq_getElem?_getD, List.getElem?_append, h.1, h1]]
    exact this
  · have hi2 : i - az.length < bz.length := by simp only [List.length_append] at hi; omega
    have := k.2 (i - az.length) hi2
    rw [show (az ++ bz).getD i .un = bz.getD (i - az.length) .un by simp [List.getD_eq_getElem?_getD, List.getElem?_append, h1],
      show (cs ++ ds).getD i undef = ds.getD (i - az.length) undef by simp [List.getD_eq_getElem?_getD, List.getElem?_append, h.1, h1]]
    exact this
theorem CellsAre.agg {az : List A} {cs : List Value} (h : CellsAre φ w az cs) : VR φ (allZ w) w (.agg az) (.agg cs.toArray) := by
  have e : ∀ i, cs.toArray.getD i undef = cs.getD i undef := fun i => by simp [Array.getD_eq_getD_getElem?, List.getD_eq_getElem?_getD]
  refine .agg _ _ (by simp [h.1]) (fun i hi => ?_) fun i hi => ?_
  · rw [e]; exact (h.2 i hi).2
  · rw [e]; exact (h.2 i hi).1
def Reads (enc : TypeId × Value → H) (P : Program) (w : World) (base : Nat) (held : Bool) (φ : Names) (e sz : Nat) {α : Type} (c : α → List A) (Q : α → Prop) : Prop :=
  ∀ n cs y, DataW.trod enc P w base (fun _ => true) held n e cs = some y → (∀ k ∈ y.1.weights P e, k ≤ reachBytes) → ∃ a : α, Q a ∧ (c a).length = sz ∧ CellsAre φ w (c a) cs
theorem Reads.imp {e sz : Nat} {α β : Type} {c : α → List A} {d : β → List A} {Q : α → Prop} {R : β → Prop} (h : Reads enc P w base held φ e sz c Q) (k : ∀ a, Q a → ∃ b, R b ∧ d b = c a) : Reads enc P w base held φ e sz d R := fun n cs y hy hw => by
  obtain ⟨a, q, l, r⟩ := h n cs y hy hw
  obtain ⟨b, q2, e2⟩ := k a q
  exact ⟨b, q2, by rw [e2]; exact l, by rw [e2]; exact r⟩
theorem Reads.int {e : Nat} (he : P.underlying e = some (.int .i64)) : Reads enc P w base held φ e 1 (fun n : Int => [A.int n]) fun _ => True := fun n cs y h _ => by
  obtain ⟨z, rfl, _, _⟩ := DataW.trod_int he h
  exact ⟨z, trivial, rfl, .one (.s _) rfl⟩
theorem weightsAll_at {e : Nat} : ∀ {l : List (DataW H)} {d : DataW H}, d ∈ l → ∀ k ∈ d.weights P e, k ∈ DataW.weightsAll P e l
  | x :: l, d, hm, k, hk => by
    rw [DataW.weightsAll, List.mem_append]
    rcases List.mem_cons.1 hm with rfl | hm
    · exact .inl hk
    · exact .inr (weightsAll_at hm k hk)
theorem cells_spot {a : Addr} {n : Nat} {cs : List Value} (h : w.cells? base a n = some cs) (hn : 0 < n) : a.spot = none := by
  obtain ⟨hl, hc⟩ := cells_at h
  have h0 := hc 0 hn
  rw [List.getElem?_eq_getElem (by omega)] at h0
  have := World.cell?_spot h0
  rwa [show a.add 0 = a from by unfold Addr.add; simp] at this
theorem told_list {α : Type} {c : α → List A} {Q : α → Prop} {R : α → Nat → Prop} (n : Nat) (h : ∀ i, i < n → ∃ a, Q a ∧ R a i) : ∃ l : List α, l.length = n ∧ (∀ a ∈ l, Q a) ∧ ∀ i (hi : i < l.length), R l[i] i := by
  induction n with
  | zero => exact ⟨[], rfl, fun _ h => by simp at h, fun i hi => by simp at hi⟩
  | succ n ih =>
    obtain ⟨l, hl, hq, hr⟩ := ih fun i hi => h i (by omega)
    obtain ⟨a, qa, ra⟩ := h n (by omega)
    refine ⟨l ++ [a], by simp [hl], fun x hx => ?_, fun i hi => ?_⟩
    · rcases List.mem_append.1 hx with hx | hx
      · exact hq x hx
      · rw [List.mem_singleton.1 hx]; exact qa
    · by_cases h1 : i < l.length
      · rw [List.getElem_append_left h1]; exact hr i h1
      · have : i = l.length := by simp at hi; omega
        subst this
        rw [List.getElem_append_right (by omega)]
        simp only [Nat.sub_self, List.getElem_cons_zero]
        rw [hl]; exact ra
theorem Reads.slice {t e sz : Nat} {α : Type} {c : α → List A} {Q : α → Prop} (ht : P.underlying t = some (.slice e)) (hc : P.cellsOf e = sz) (h0 : 0 < sz) (h : Reads enc P w base held φ e sz c Q) :
    Reads enc P w base held φ t 1 (fun x : Bool × List α => [A.sl x.1 .any (x.2.map c)]) fun x => (∀ a ∈ x.2, Q a) ∧ x.2.length * P.bytesOf e ≤ reachBytes := by
  intro fuel cs y hy hw
  rcases DataW.trod_slice ht hy with ⟨rfl, _⟩ | ⟨ad, len, cap, elems, rest, n, _, rfl, hx, hbl, hl, hm, hlen, hel, hre, _⟩
  · exact ⟨(true, []), ⟨fun a ha => (nomatch ha), by simp⟩, rfl, .one (.nil _) rfl⟩
  · obtain ⟨hrl, hre⟩ := hre rfl
    have hwt : (elems.map (·.1)).length * P.bytesOf e ≤ reachBytes ∧ ∀ d ∈ elems.map (·.1), ∀ k ∈ d.weights P e, k ≤ reachBytes := by
      rw [hx] at hw
      simp only [DataW.weights, ht] at hw
      refine ⟨Nat.le_trans (Nat.mul_le_mul_right _ (Nat.le_add_right _ (rest.map (·.1)).length)) (hw _ (List.mem_cons_self ..)), fun d hd k hk => hw k (List.mem_cons_of_mem _ (List.mem_append.2 (.inl (weightsAll_at hd k hk))))⟩
    have hsp : cap = 0 ∨ ad.spot = none := by
      rcases Nat.eq_zero_or_pos cap with h | hpos
      · exact .inl h
      right
      rcases Nat.eq_zero_or_pos len with hz | hlp
      · subst hz
        have h1 := hre 0 (by omega)
        rw [hc] at h1
        obtain ⟨r, hr⟩ : ∃ r, rest[0]? = some r := ⟨rest[0]'(by omega), List.getElem?_eq_getElem _⟩
        rw [hr, Option.bind_eq_some_iff] at h1
        obtain ⟨cs, h2, _⟩ := h1
        rw [show ad.add ((0 + 0) * sz) = ad from by unfold Addr.add; simp] at h2
        exact cells_spot h2 h0
      · have h1 := hel 0 hlp
        rw [hc] at h1
        obtain ⟨r, hr⟩ : ∃ r, elems[0]? = some r := ⟨elems[0]'(by omega), List.getElem?_eq_getElem _⟩
        rw [hr, Option.bind_eq_some_iff] at h1
        obtain ⟨cs, h2, _⟩ := h1
        rw [show ad.add (0 * sz) = ad from by unfold Addr.add; simp] at h2
        exact cells_spot h2 h0
    rcases hsp with hz | hsp
    · subst hz
      have : len = 0 := by omega
      subst this
      exact ⟨(false, []), ⟨fun a ha => (nomatch ha), by simp⟩, rfl, .one (.slz _ ad) rfl⟩
    obtain ⟨b, off, sp⟩ := ad
    simp only at hsp
    subst hsp
    have each : ∀ i, i < len → ∃ a : α, Q a ∧ ((c a).length = sz ∧ ∃ cs, w.cells? base ((⟨b, off, none⟩ : Addr).add (i * sz)) sz = some cs ∧ CellsAre φ w (c a) cs) := fun i hi => by
      have h1 := hel i hi
      rw [hc] at h1
      rw [List.getElem?_eq_getElem (by omega), Option.bind_eq_some_iff] at h1
      obtain ⟨cs, h2, h3⟩ := h1
      obtain ⟨a, qa, la, ra⟩ := h n cs _ h3 (hwt.2 _ (List.mem_map.2 ⟨_, List.getElem_mem (by omega), rfl⟩))
      exact ⟨a, qa, la, cs, h2, ra⟩
    obtain ⟨l, hll, hq, hr⟩ := told_list (c := c) len each
    have hcell : ∀ i j, i < l.length → j < sz → ∃ v, w.cell? ⟨b, off + i * sz + j, none⟩ = some v ∧ VR φ (allZ w) w ((((l.map c).getD i []).getD j .un)) v ∧ v.oneCell' = true := fun i j hi hj => by
      obtain ⟨q1, cs, q2, q3⟩ := hr i hi
      have h1 := (cells_at q2).2 j hj
      rw [add_plain, add_plain] at h1
      have hcl : cs.length = sz := by rw [q3.1, q1]
      rw [List.getElem?_eq_getElem (by omega)] at h1
      have h2 := q3.2 j (by omega)
      have e1 : cs.getD j undef = cs[j]'(by omega) := by rw [List.getD_eq_getElem?_getD, List.getElem?_eq_getElem (by omega)]; rfl
      have e2 : (l.map c).getD i [] = c l[i] := by rw [List.getD_eq_getElem?_getD, List.getElem?_map, List.getElem?_eq_getElem hi]; rfl
      rw [e1] at h2
      exact ⟨_, h1, by rw [e2]; exact h2.1, h2.2⟩
    let val : Nat → Nat → Value := fun i j => (w.cell? ⟨b, off + i * sz + j, none⟩).getD undef
    have hval : ∀ i j, i < l.length → j < sz → w.cell? ⟨b, off + i * sz + j, none⟩ = some (val i j) ∧ VR φ (allZ w) w ((((l.map c).getD i []).getD j .un)) (val i j) ∧ (val i j).oneCell' = true := fun i j hi hj => by
      obtain ⟨v, h1, h2, h3⟩ := hcell i j hi hj
      have : val i j = v := by simp only [val, h1]; rfl
      rw [this]; exact ⟨h1, h2, h3⟩
    have hl2 : (l.map c).length = l.length := by simp
    refine ⟨(false, l), ⟨hq, ?_⟩, rfl, .one ?_ rfl⟩
    · have := hwt.1
      rw [List.length_map, hlen] at this
      rw [hll]; exact this
    · have key : VR φ (allZ w) w (.sl false .any (l.map c)) (.slice (some ⟨b, off, none⟩) (l.map c).length cap) := by
        refine .sl .any _ b off sz cap val (by rw [hl2, hll]; exact hl) (fun h => by cases h) hm (fun z hz => ?_) (fun i j hi hj => ?_) (fun i j hi hj => ?_) (fun i j hi hj => ?_) fun i j hi hj => ?_
        · obtain ⟨a, ha, rfl⟩ := List.mem_map.1 hz
          obtain ⟨i, hi, rfl⟩ := List.mem_iff_getElem.1 ha
          exact (hr i hi).1
        all_goals rw [hl2] at hi
        · exact ⟨_, (hval i j hi hj).1⟩
        · exact (hval i j hi hj).1
        · exact (hval i j hi hj).2.2
        · exact (hval i j hi hj).2.1
      rw [hl2, hll] at key; exact key
inductive Flds (enc : TypeId × Value → H) (P : Program) (w : World) (base : Nat) (held : Bool) (φ : Names) : Nat → List Field → {α : Type} → (α → List A) → (α → Prop) → Nat → Prop
  | nil (off : Nat) : Flds enc P w base held φ off [] (fun _ : Unit => []) (fun _ => True) 0
  | cons {off : Nat} {f : Field} {fs : List Field} {sz m : Nat} {α β : Type} {c : α → List A} {Q : α → Prop} {d : β → List A} {R : β → Prop} (ho : f.offset = off) (hc : P.cellsOf f.type = sz) (h : Reads enc P w base held φ f.type sz c Q)
      (k : Flds enc P w base held φ (off + sz) fs d R m) : Flds enc P w base held φ off (f :: fs) (fun x : α × β => c x.1 ++ d x.2) (fun x => Q x.1 ∧ R x.2) (sz + m)
theorem Flds.read {n : Nat} {cs : List Value} : ∀ {fs : List Field} {off m : Nat} {α : Type} {c : α → List A} {Q : α → Prop} {xs : List (DataW H × List MemPlace)}, Flds enc P w base held φ off fs c Q m → xs.length = fs.length →
    (∀ (i : Nat) (f : Field), fs[i]? = some f → DataW.trod enc P w base (fun _ => true) held n f.type ((cs.drop f.offset).take (P.cellsOf f.type)) = xs[i]?) → (∀ k ∈ DataW.weightsEach P (fs.map (·.type)) (xs.map (·.1)), k ≤ reachBytes) →
    cs.length = off + m → ∃ a, Q a ∧ (c a).length = m ∧ CellsAre φ w (c a) (cs.drop off)
  | _, _, _, _, _, _, [], .nil off, _, _, _, hl => ⟨(), trivial, rfl, by rw [List.drop_of_length_le (by omega)]; exact .nil⟩
  | f :: fs, off, _, _, _, _, x :: xs, .cons (sz := sz) (m := m) ho hc h k, hxl, hx, hw, hl => by
    have h0 := hx 0 f rfl
    rw [ho, hc] at h0
    obtain ⟨a, qa, la, ra⟩ := h n _ x h0 fun k hk => hw k (by
      simp only [List.map_cons, DataW.weightsEach, List.mem_append]; exact .inl hk)
    obtain ⟨b, qb, lb, rb⟩ := Flds.read k (by simpa using hxl) (fun i f' hf => hx (i + 1) f' hf) (fun k hk => hw k (by
      simp only [List.map_cons, DataW.weightsEach, List.mem_append]; exact .inr hk)) (by omega)
    refine ⟨(a, b), ⟨qa, qb⟩, by simp only [List.length_append, la, lb], ?_⟩
    have e : cs.drop off = (cs.drop off).take sz ++ cs.drop (off + sz) := by
      rw [← List.drop_drop, List.take_append_drop]
    rw [e]
    exact ra.app rb
theorem Reads.struct {e m m' : Nat} {fs : Array Field} {l : List Field} {α : Type} {c : α → List A} {Q : α → Prop} (he : P.underlying e = some (.struct fs)) (hc : P.cellsOf e = m) (h : Flds enc P w base held φ 0 l c Q m') (hl : fs.toList = l) (hm : m' = m) : Reads enc P w base held φ e m c Q := by
  subst hl; subst hm
  intro fuel cs y hy hw
  obtain ⟨xs, n, _, hx, hl, hlen, hf⟩ := DataW.trod_struct he hy
  rw [hx] at hw
  simp only [DataW.weights, he] at hw
  obtain ⟨a, q, l, r⟩ := h.read (n := n) (cs := cs) (xs := xs) (by simpa using hlen) (fun i f hf' => hf i f (by simpa using hf')) hw (by omega)
  exact ⟨a, q, l, by simpa using r⟩
theorem Reads.arg_one {t : Nat} {α : Type} {x : α → A} {Q : α → Prop} {v : Value} {d : DataW H} {p : List MemPlace} (h : Reads enc P w base held φ t 1 (fun a => [x a]) Q) (hc : v.cells.toList = [v])
    (ht : DataW.Trod enc P w base (fun _ => true) held t v d p) (hw : ∀ k ∈ d.weights P t, k ≤ reachBytes) : ∃ a, Q a ∧ VR φ (allZ w) w (x a) v := by
  obtain ⟨fuel, ht⟩ := ht
  rw [hc] at ht
  obtain ⟨a, q, _, r⟩ := h fuel _ _ ht hw
  exact ⟨a, q, (r.2 0 (by simp)).1⟩
theorem Reads.arg_slice {t e : Nat} {α : Type} {x : α → A} {Q : α → Prop} {v : Value} {d : DataW H} {p : List MemPlace} {r : Reach} {b0 : Nat} (hu : P.underlying t = some (.slice e)) (h : Reads enc P w base held φ t 1 (fun a => [x a]) Q) (hok : Value.okWide P w r b0 t v)
    (ht : DataW.Trod enc P w base (fun _ => true) held t v d p) (hw : ∀ k ∈ d.weights P t, k ≤ reachBytes) : ∃ a, Q a ∧ VR φ (allZ w) w (x a) v := h.arg_one (slice_cell hu hok).2 ht hw
theorem Reads.arg_agg {t m : Nat} {α : Type} {c : α → List A} {Q : α → Prop} {v : Value} {d : DataW H} {p : List MemPlace} (h : Reads enc P w base held φ t m c Q) (hv : ∃ cs, v = .agg cs)
    (ht : DataW.Trod enc P w base (fun _ => true) held t v d p) (hw : ∀ k ∈ d.weights P t, k ≤ reachBytes) : ∃ a, Q a ∧ VR φ (allZ w) w (.agg (c a)) v := by
  obtain ⟨⟨cs⟩, rfl⟩ := hv
  obtain ⟨fuel, ht⟩ := ht
  obtain ⟨a, q, _, r⟩ := h fuel cs _ ht hw
  exact ⟨a, q, r.agg⟩
theorem agg_struct {t : Nat} {fs : Array Field} {v : Value} {r : Reach} {b0 : Nat} (hu : P.underlying t = some (.struct fs)) (hok : Value.okWide P w r b0 t v) : ∃ cs, v = .agg cs := by
  unfold Value.okWide at hok
  rw [hu] at hok
  obtain ⟨cs, rfl, _⟩ := hok
  exact ⟨cs, rfl⟩
theorem Reads.ints {t n e : Nat} (hu : P.underlying t = some (.array n e)) (hc : P.cellsOf t = n) (ue : P.underlying e = some (.int .i64)) (ce : P.cellsOf e = 1) :
    Reads enc P w base held φ t n (fun l : List Int => l.map A.int) fun l => l.length = n := by
  intro fuel cs y hy _
  obtain ⟨xs, m, _, _, hl0, hl, hx⟩ := DataW.trod_array hu hy
  rw [ce] at hx
  have hcl : cs.length = n := by omega
  have each : ∀ i, i < n → ∃ z : Int, True ∧ cs[i]? = some (.int .i64 z) := fun i hi => by
    have h1 := hx i hi
    rw [List.getElem?_eq_getElem (by omega)] at h1
    obtain ⟨z, hz, _⟩ := DataW.trod_int ue h1
    refine ⟨z, trivial, ?_⟩
    have h5 := congrArg (fun l => l[0]?) hz
    simpa using h5
  obtain ⟨l, hll, _, hr⟩ := told_list (c := fun _ : Int => []) n each
  refine ⟨l, hll, by simp [hll], by simp [hll, hcl], fun i hi => ?_⟩
  have hi : i < l.length := by simpa using hi
  have h1 := hr i hi
  have e1 : cs.getD i undef = .int .i64 l[i] := by rw [List.getD_eq_getElem?_getD, h1]; rfl
  have e2 : (l.map A.int).getD i .un = A.int l[i] := by simp [List.getD_eq_getElem?_getD, hi]
  rw [e1, e2]
  exact ⟨.s _, rfl⟩
end
end Go.AL

namespace Go.AL.Q
open Go
end Go.AL.Q

namespace Go.AL.Q
open Go
def LeP (a b : List Int) : Prop := a.length = b.length ∧ ∀ i, a.getD i 0 ≤ b.getD i 0
theorem LeP.refl (a : List Int) : LeP a a := ⟨rfl, fun _ => Int.le_refl _⟩
theorem LeP.set {a b : List Int} (h : LeP a b) {i : Nat} {x y : Int} (hi : i < b.length) (hx : x ≤ y) : LeP (a.set i x) (b.set i y) :=
  ⟨by simp [h.1], fun j => by
    have hl := h.1
    rw [getD_set' _ _ _ _ (by omega), getD_set' _ _ _ _ hi]
    split
    · exact hx
    · exact h.2 j⟩
theorem catchF_mono {mesh : Nat} : ∀ (k : Nat) (t t' : Int) (l l' : List Int), LeP l l' → k ≤ l'.length → t' ≤ t → LeP (catchF l mesh k t) (catchF l' mesh k t')
  | 0, t, t', l, l', h, _, _ => h
  | k + 1, t, t', l, l', h, hk, ht => by
    unfold catchF
    have h1 := h.2 k
    have hl := h.1
    split
    · exact catchF_mono k _ _ _ _ (h.set (by omega) (by omega)) (by simp; omega) (by omega)
    · exact h
theorem sum_mono {α : Type} {f g : α → Int} : ∀ {l : List α}, (∀ x ∈ l, f x ≤ g x) → (l.map f).sum ≤ (l.map g).sum
  | [], _ => by simp
  | x :: l, h => by
    have h1 := h x (List.mem_cons_self ..)
    have h2 := sum_mono (f := f) (g := g) (l := l) fun y hy => h y (List.mem_cons_of_mem _ hy)
    simp only [List.map_cons, List.sum_cons]; omega
theorem spawnF_mono {r : Rce} (hr : RceOk r) {l l' : List Int} (h : LeP l l') : spawnF r l ≤ spawnF r l' := by
  unfold spawnF spawnN
  exact sum_mono fun i hi => Int.mul_le_mul_of_nonneg_right (h.2 i) (hr.sb i (List.mem_range.1 hi)).1
theorem tdiv_mono {a b : Int} (h : a ≤ b) : a.tdiv 1000 ≤ b.tdiv 1000 := by
  rw [Int.tdiv_eq_ediv, Int.tdiv_eq_ediv, show Int.sign 1000 = 1 from rfl]
  split <;> split <;> omega
theorem winN_len {r : Rce} {l : List Int} : ∀ k, (winN r l k).length = r.many
  | 0 => by simp [winN]
  | k + 1 => by simp [winN, winN_len k]
theorem winN_mono {r : Rce} (hr : RceOk r) {l l' : List Int} (h : LeP l l') : ∀ k, k ≤ r.many → LeP (winN r l k) (winN r l' k)
  | 0, _ => LeP.refl _
  | k + 1, hk => by
    have ih := winN_mono hr h k (by omega)
    have h1 := hr.m1
    have h2 := Int.mul_le_mul_of_nonneg_right (h.2 k) (hr.kb k (by omega)).1
    have h3 := tdiv_mono h2
    have h4 := ih.2 (min (k + 1) (r.many - 1))
    exact ih.set (by rw [winN_len]; omega) (by omega)
theorem winF_mono {r : Rce} (hr : RceOk r) {l l' : List Int} {x x' : Int} (h : LeP l l') (hx : x ≤ x') : LeP (winF r l x) (winF r l' x') := by
  have ih := winN_mono hr h r.many (Nat.le_refl _)
  have h1 := hr.m1
  have h2 := ih.2 0
  exact ih.set (by rw [winN_len]; omega) (by omega)
theorem playF_mono {r : Rce} (hr : RceOk r) : ∀ (ts ts' xs xs' l l' : List Int), LeP l l' → r.many ≤ l'.length → LeP ts' ts → LeP xs xs' → ts.length = xs.length → LeP (playF r l ts xs) (playF r l' ts' xs')
  | [], [], xs, xs', l, l', _, _, _, _, _ => by cases xs <;> cases xs' <;> exact LeP.refl _
  | t :: ts, [], xs, xs', l, l', _, _, h, _, _ => by cases h.1
  | [], t' :: ts', xs, xs', l, l', _, _, h, _, _ => by cases h.1
  | t :: ts, t' :: ts', [], xs', l, l', _, _, h, hx, e => by cases e
  | t :: ts, t' :: ts', x :: xs, [], l, l', _, _, h, hx, e => by cases hx.1
  | t :: ts, t' :: ts', x :: xs, x' :: xs', l, l', hl, hm, ht, hx, e => by
    have t0 : t' ≤ t := ht.2 0
    have x0 : x ≤ x' := hx.2 0
    have hts : LeP ts' ts := ⟨by simpa using ht.1, fun i => by simpa using ht.2 (i + 1)⟩
    have hxs : LeP xs xs' := ⟨by simpa using hx.1, fun i => by simpa using hx.2 (i + 1)⟩
    have hc : LeP (caughtF r l t) (caughtF r l' t') := catchF_mono _ _ _ _ _ hl hm t0
    have hs := spawnF_mono hr hc
    have hw := winF_mono hr hc x0
    have ih := playF_mono hr ts ts' xs xs' _ _ hw (by simp [winF, winN_len]) hts hxs (by simpa using e)
    unfold playF yearF
    exact ⟨by simp [ih.1], fun i => by
      cases i with
      | zero => exact hs
      | succ i => exact ih.2 i⟩
structure PlayIn (r : Rce) (takes recs : List Int) : Prop where
  ok : r.ok = true
  l1 : 1 ≤ takes.length
  l10 : takes.length ≤ 10
  len : recs.length = takes.length
  t : ∀ i, i < takes.length → 0 ≤ takes.getD i 0 ∧ takes.getD i 0 ≤ 100000000
  x : ∀ i, i < takes.length → 0 ≤ recs.getD i 0 ∧ recs.getD i 0 ≤ 100000
theorem PlayIn.of {r : Rce} {takes recs : List Int} (h : playOk r takes recs = true) : PlayIn r takes recs := by
  unfold playOk at h
  have h1 := ac1 h
  have h2 := fun i hi => List.all_eq_true.1 (ac2 h) i (List.mem_range.2 hi)
  unfold playHead at h1
  have a1 := wi_iff.1 (ac2 (ac1 h1))
  have a2 := eq_of_beq (ac2 h1)
  exact ⟨ac1 (ac1 h1), by omega, by omega, by omega, fun i hi => wi_iff.1 (ac1 (h2 i hi)), fun i hi => wi_iff.1 (ac2 (h2 i hi))⟩
theorem getD_mem {l : List Int} {x : Int} (h : x ∈ l) : ∃ i, i < l.length ∧ l.getD i 0 = x := by
  obtain ⟨i, hi, rfl⟩ := List.mem_iff_getElem.1 h
  exact ⟨i, hi, by simp [List.getD_eq_getElem?_getD, hi]⟩
theorem LeP.up {l : List Int} {i : Nat} {v : Int} (hi : i < l.length) (h : l.getD i 0 ≤ v) : LeP l (l.set i v) := ⟨by simp, fun j => by
  rw [getD_set' _ _ _ _ hi]
  split
  · rename_i e; subst e; exact h
  · exact Int.le_refl _⟩
theorem LeP.dn {l : List Int} {i : Nat} {v : Int} (hi : i < l.length) (h : v ≤ l.getD i 0) : LeP (l.set i v) l := ⟨by simp, fun j => by
  rw [getD_set' _ _ _ _ hi]
  split
  · rename_i e; subst e; exact h
  · exact Int.le_refl _⟩
end Go.AL.Q

namespace Go.AL.Q
open Go
def Fish.brk (f : Fish) (q : Int) (y r s : Nat) : Bool := decide ((f.spawns r s q).getD y 0 < (f.race r).line)
def Fish.findS (f : Fish) (q : Int) (y r : Nat) (k : Nat) : Option Nat := (List.range' k (f.seasons.length - k)).find? (f.brk q y r)
def Fish.findR (f : Fish) (q : Int) (y : Nat) (k : Nat) : Option (Nat × Nat) := (List.range' k (f.many - k)).findSome? fun r => (f.findS q y r 0).map fun s => (r, s)
def Fish.findY (f : Fish) (q : Int) (k : Nat) : Option (Nat × Nat × Nat) := (List.range' k (f.years - k)).findSome? fun y => (f.findR q y 0).map fun p => (y, p)
end Go.AL.Q

namespace Go.AL.Q
open Go
theorem spawns_len {f : Fish} (hok : FishOk f) {r s : Nat} (hr : r < f.many) (hs : s < f.seasons.length) (q : Int) : (f.spawns r s q).length = f.years := by
  unfold Fish.spawns
  rw [playF_len _ _ _ _ (by simp), List.length_replicate, hok.rl s r hs hr]
theorem any_brk {f : Fish} (hok : FishOk f) {r s : Nat} (hr : r < f.many) (hs : s < f.seasons.length) (q : Int) : decide (f.breakY r s q ≥ 0) = true ↔ ∃ y, y < f.years ∧ f.brk q y r s = true := by
  unfold Fish.breakY
  rw [idxF_any, List.any_eq_true]
  have hl := spawns_len hok hr hs q
  constructor
  · rintro ⟨x, hx, h⟩
    obtain ⟨i, hi, rfl⟩ := getD_mem hx
    exact ⟨i, by omega, h⟩
  · rintro ⟨y, hy, h⟩
    refine ⟨(f.spawns r s q).getD y 0, ?_, h⟩
    rw [List.getD_eq_getElem?_getD, List.getElem?_eq_getElem (by omega)]
    exact List.getElem_mem (by omega)
theorem findY_none {f : Fish} {q : Int} : f.findY q 0 = none ↔ ∀ y, y < f.years → ∀ r, r < f.many → ∀ s, s < f.seasons.length → f.brk q y r s = false := by
  unfold Fish.findY Fish.findR Fish.findS
  simp only [List.findSome?_eq_none_iff, Option.map_eq_none_iff, List.find?_eq_none, List.mem_range'_1, Nat.sub_zero, Nat.zero_add, Nat.zero_le, true_and, Bool.not_eq_true]
theorem holds_find {f : Fish} (hok : FishOk f) (q : Int) : f.holds q = (f.findY q 0).isNone := by
  rw [Bool.eq_iff_iff, Option.isNone_iff_eq_none, findY_none]
  unfold Fish.holds
  simp only [List.all_eq_true, List.mem_range, Bool.not_eq_true']
  constructor
  · intro h y hy r hr s hs
    have h1 := h r hr s hs
    cases e : f.brk q y r s with
    | false => rfl
    | true =>
      rw [(any_brk hok hr hs q).2 ⟨y, hy, e⟩] at h1
      cases h1
  · intro h r hr s hs
    cases e : decide (f.breakY r s q ≥ 0) with
    | false => rfl
    | true =>
      obtain ⟨y, hy, h2⟩ := (any_brk hok hr hs q).1 e
      rw [h y hy r hr s hs] at h2
      cases h2
end Go.AL.Q

namespace Go.AL.Q
open Go
theorem idxF_first {p : Int → Bool} : ∀ (l : List Int) (k y : Nat), y < l.length → p (l.getD y 0) = true → (∀ i, i < y → p (l.getD i 0) = false) → idxF p k l = (k + y : Nat)
  | [], k, y, h, _, _ => by simp at h
  | n :: l, k, 0, h, h1, _ => by
    have h1 : p n = true := h1
    rw [idxF, h1]; simp
  | n :: l, k, y + 1, h, h1, h2 => by
    have h0 : p n = false := h2 0 (by omega)
    rw [idxF, h0]
    have := idxF_first (p := p) l (k + 1) y (by simpa using h) h1 fun i hi => h2 (i + 1) (by omega)
    simp only [Bool.false_eq_true, if_false]
    rw [this]; congr 1; omega
theorem break_is {f : Fish} (hok : FishOk f) {r s y : Nat} (hr : r < f.many) (hs : s < f.seasons.length) {q : Int} (hy : y < f.years) (h : f.brk q y r s = true) (h0 : ∀ i, i < y → f.brk q i r s = false) : f.breakY r s q = y := by
  unfold Fish.breakY
  rw [idxF_first _ 0 y (by rw [spawns_len hok hr hs]; exact hy) h h0]; simp
theorem break_ge {f : Fish} (hok : FishOk f) {r s y : Nat} (hr : r < f.many) (hs : s < f.seasons.length) {q : Int} (h0 : ∀ i, i < y → f.brk q i r s = false) (hb : f.breakY r s q ≥ 0) : f.breakY r s q ≥ y := by
  obtain ⟨m, hm⟩ : ∃ m : Nat, f.breakY r s q = m := ⟨(f.breakY r s q).toNat, by omega⟩
  obtain ⟨z, hz, hbz⟩ := (any_brk hok hr hs q).1 (decide_eq_true hb)
  have hex : ∃ z, z < f.years ∧ f.brk q z r s = true ∧ ∀ i, i < z → f.brk q i r s = false := by
    induction z using Nat.strongRecOn with
    | _ z ih =>
      by_cases h : ∃ i, i < z ∧ f.brk q i r s = true
      · obtain ⟨i, hi, hb⟩ := h
        exact ih i hi (by omega) hb
      · refine ⟨z, hz, hbz, fun i hi => ?_⟩
        cases e : f.brk q i r s with
        | false => rfl
        | true => exact absurd ⟨i, hi, e⟩ h
  obtain ⟨z, hz, hbz, hmin⟩ := hex
  rw [break_is hok hr hs hz hbz hmin]
  by_cases h : y ≤ z
  · omega
  · have := h0 z (by omega)
    rw [hbz] at this; cases this
def Late (y : Nat) (b : Int × Int × Int) : Prop := b.2.2 < 0 ∨ b.2.2 > y
theorem firstS_late {f : Fish} {q : Int} {r y : Nat} : ∀ (ss : List Nat) (b : Int × Int × Int), Late y b → (∀ s ∈ ss, f.breakY r s q < 0 ∨ f.breakY r s q > y) → Late y (firstS f q r ss b)
  | [], b, h, _ => h
  | s :: ss, b, h, hs => by
    rw [firstS]
    refine firstS_late ss _ ?_ fun t ht => hs t (List.mem_cons_of_mem _ ht)
    split
    · have := hs s (List.mem_cons_self ..)
      unfold Late
      show f.breakY r s q < 0 ∨ f.breakY r s q > y
      exact this
    · exact h
theorem firstS_keep {f : Fish} {q : Int} {r y : Nat} : ∀ (ss : List Nat) (b : Int × Int × Int), b.2.2 = y → (∀ s ∈ ss, f.breakY r s q < 0 ∨ f.breakY r s q ≥ y) → firstS f q r ss b = b
  | [], b, h, _ => rfl
  | s :: ss, b, h, hs => by
    rw [firstS]
    have := hs s (List.mem_cons_self ..)
    rw [if_neg (by omega)]
    exact firstS_keep ss b h fun t ht => hs t (List.mem_cons_of_mem _ ht)
theorem firstS_app {f : Fish} {q : Int} {r : Nat} : ∀ (a c : List Nat) (b : Int × Int × Int), firstS f q r (a ++ c) b = firstS f q r c (firstS f q r a b)
  | [], c, b => rfl
  | s :: a, c, b => by rw [List.cons_append, firstS, firstS, firstS_app a c]
theorem firstR_app {f : Fish} {q : Int} : ∀ (a c : List Nat) (b : Int × Int × Int), firstR f q (a ++ c) b = firstR f q c (firstR f q a b)
  | [], c, b => rfl
  | s :: a, c, b => by rw [List.cons_append, firstR, firstR, firstR_app a c]
theorem firstR_late {f : Fish} {q : Int} {y : Nat} : ∀ (rs : List Nat) (b : Int × Int × Int), Late y b → (∀ r ∈ rs, ∀ s, s < f.seasons.length → f.breakY r s q < 0 ∨ f.breakY r s q > y) → Late y (firstR f q rs b)
  | [], b, h, _ => h
  | r :: rs, b, h, hs => by
    rw [firstR]
    exact firstR_late rs _ (firstS_late _ _ h fun s m => hs r (List.mem_cons_self ..) s (List.mem_range.1 m)) fun t ht => hs t (List.mem_cons_of_mem _ ht)
theorem firstR_keep {f : Fish} {q : Int} {y : Nat} : ∀ (rs : List Nat) (b : Int × Int × Int), b.2.2 = y → (∀ r ∈ rs, ∀ s, s < f.seasons.length → f.breakY r s q < 0 ∨ f.breakY r s q ≥ y) → firstR f q rs b = b
  | [], b, h, _ => rfl
  | r :: rs, b, h, hs => by
    rw [firstR, firstS_keep _ b h fun s m => hs r (List.mem_cons_self ..) s (List.mem_range.1 m)]
    exact firstR_keep rs b h fun t ht => hs t (List.mem_cons_of_mem _ ht)
theorem range_split {r n : Nat} (h : r < n) : List.range n = List.range r ++ r :: List.range' (r + 1) (n - (r + 1)) := by
  have e : n = r + ((n - (r + 1)) + 1) := by omega
  rw [List.range_eq_range', List.range_eq_range']
  conv => lhs; rw [e, ← List.range'_append_1]
  rw [Nat.zero_add, List.range'_succ]
theorem first_is {f : Fish} {q : Int} {y r s : Nat} (hr : r < f.many) (hs : s < f.seasons.length) (hb : f.breakY r s q = y)
    (h1 : ∀ r', r' < r → ∀ s', s' < f.seasons.length → f.breakY r' s' q < 0 ∨ f.breakY r' s' q > y)
    (h2 : ∀ s', s' < s → f.breakY r s' q < 0 ∨ f.breakY r s' q > y)
    (h3 : ∀ r', r' < f.many → ∀ s', s' < f.seasons.length → f.breakY r' s' q < 0 ∨ f.breakY r' s' q ≥ y) : f.first q = ((r : Int), (s : Int), (y : Int)) := by
  unfold Fish.first
  rw [range_split hr, firstR_app, firstR, range_split hs, firstS_app, firstS]
  have l1 := firstR_late (f := f) (q := q) (y := y) (List.range r) (0, 0, -1) (.inl (by decide)) fun r' m s' hs' => h1 r' (List.mem_range.1 m) s' hs'
  have l2 := firstS_late (f := f) (q := q) (r := r) (y := y) (List.range s) _ l1 fun s' m => h2 s' (List.mem_range.1 m)
  unfold Late at l2
  rw [if_pos ⟨by omega, by rw [hb]; exact l2⟩, hb, firstS_keep (y := y) _ _ rfl fun s' m => h3 r hr s' (by have := List.mem_range'_1.1 m; omega)]
  exact firstR_keep (y := y) _ _ rfl fun r' m s' hs' => h3 r' (by have := List.mem_range'_1.1 m; omega) s' hs'
end Go.AL.Q

namespace Go.AL.Q
open Go
theorem lt_or_ge0 (a : Int) : a < 0 ∨ a ≥ 0 := by omega
theorem fs_some {β : Type} {g : Nat → Option β} : ∀ (d k : Nat) (b : β), (List.range' k d).findSome? g = some b → ∃ i, k ≤ i ∧ i < k + d ∧ g i = some b ∧ ∀ j, k ≤ j → j < i → g j = none
  | 0, k, b, h => by simp at h
  | d + 1, k, b, h => by
    rw [List.range'_succ, List.findSome?_cons] at h
    cases e : g k with
    | some x =>
      rw [e] at h
      exact ⟨k, Nat.le_refl _, by omega, by rw [e]; exact h, fun j h1 h2 => by omega⟩
    | none =>
      rw [e] at h
      obtain ⟨i, h1, h2, h3, h4⟩ := fs_some d (k + 1) b h
      refine ⟨i, by omega, by omega, h3, fun j j1 j2 => ?_⟩
      by_cases hj : j = k
      · rw [hj]; exact e
      · exact h4 j (by omega) j2
theorem f_some {p : Nat → Bool} : ∀ (d k i : Nat), (List.range' k d).find? p = some i → k ≤ i ∧ i < k + d ∧ p i = true ∧ ∀ j, k ≤ j → j < i → p j = false
  | 0, k, b, h => by simp at h
  | d + 1, k, b, h => by
    rw [List.range'_succ, List.find?_cons] at h
    cases e : p k with
    | true =>
      rw [e] at h
      cases h
      exact ⟨Nat.le_refl _, by omega, e, fun j h1 h2 => by omega⟩
    | false =>
      rw [e] at h
      obtain ⟨h1, h2, h3, h4⟩ := f_some d (k + 1) b h
      refine ⟨by omega, by omega, h3, fun j j1 j2 => ?_⟩
      by_cases hj : j = k
      · rw [hj]; exact e
      · exact h4 j (by omega) j2
theorem findS_none {f : Fish} {q : Int} {y r : Nat} (h : f.findS q y r 0 = none) : ∀ s, s < f.seasons.length → f.brk q y r s = false := by
  unfold Fish.findS at h
  simp only [List.find?_eq_none, List.mem_range'_1, Nat.sub_zero, Nat.zero_add, Nat.zero_le, true_and, Bool.not_eq_true] at h
  exact h
theorem findR_none {f : Fish} {q : Int} {y : Nat} (h : f.findR q y 0 = none) : ∀ r, r < f.many → ∀ s, s < f.seasons.length → f.brk q y r s = false := by
  unfold Fish.findR Fish.findS at h
  simp only [List.findSome?_eq_none_iff, Option.map_eq_none_iff, List.find?_eq_none, List.mem_range'_1, Nat.sub_zero, Nat.zero_add, Nat.zero_le, true_and, Bool.not_eq_true] at h
  exact h
structure Found (f : Fish) (q : Int) (y r s : Nat) : Prop where
  hy : y < f.years
  hr : r < f.many
  hs : s < f.seasons.length
  hb : f.brk q y r s = true
  before : ∀ y', y' < y → ∀ r', r' < f.many → ∀ s', s' < f.seasons.length → f.brk q y' r' s' = false
  races : ∀ r', r' < r → ∀ s', s' < f.seasons.length → f.brk q y r' s' = false
  seas : ∀ s', s' < s → f.brk q y r s' = false
theorem findY_some {f : Fish} {q : Int} {y r s : Nat} (h : f.findY q 0 = some (y, r, s)) : Found f q y r s := by
  unfold Fish.findY at h
  obtain ⟨i, _, hi, e, hy⟩ := fs_some _ _ _ h
  cases eR : f.findR q i 0 with
  | none => rw [eR] at e; cases e
  | some p =>
    rw [eR] at e
    cases e
    unfold Fish.findR at eR
    obtain ⟨j, _, hj, e2, hr⟩ := fs_some _ _ _ eR
    cases eS : f.findS q y j 0 with
    | none => rw [eS] at e2; cases e2
    | some p =>
      rw [eS] at e2
      cases e2
      unfold Fish.findS at eS
      obtain ⟨_, hs, hb, hss⟩ := f_some _ _ _ eS
      refine ⟨by omega, by omega, by omega, hb, fun y' h1 => findR_none ?_, fun r' h1 => findS_none ?_, fun s' h1 => hss s' (Nat.zero_le _) h1⟩
      · have := hy y' (Nat.zero_le _) h1
        cases e : f.findR q y' 0 with
        | none => rfl
        | some x => rw [e] at this; cases this
      · have := hr r' (Nat.zero_le _) h1
        cases e : f.findS q y r' 0 with
        | none => rfl
        | some x => rw [e] at this; cases this
theorem break_neg {f : Fish} (hok : FishOk f) {r s : Nat} (hr : r < f.many) (hs : s < f.seasons.length) {q : Int} {y : Nat} (h : ∀ i, i ≤ y → f.brk q i r s = false) : f.breakY r s q < 0 ∨ f.breakY r s q > y := by
  rcases lt_or_ge0 (f.breakY r s q) with h1 | h1
  · exact .inl h1
  · right
    have := break_ge hok hr hs (y := y + 1) (fun i hi => h i (by omega)) h1
    omega
theorem first_found {f : Fish} (hok : FishOk f) {q : Int} {y r s : Nat} (h : Found f q y r s) : f.first q = ((r : Int), (s : Int), (y : Int)) := by
  refine first_is h.hr h.hs (break_is hok h.hr h.hs h.hy h.hb fun i hi => h.before i hi r h.hr s h.hs) (fun r' h1 s' h2 => break_neg hok (by have := h.hr; omega) h2 fun i hi => ?_) (fun s' h1 => break_neg hok h.hr (by have := h.hs; omega) fun i hi => ?_) fun r' h1 s' h2 => ?_
  · by_cases e : i = y
    · subst e; exact h.races r' h1 s' h2
    · exact h.before i (by omega) r' (by have := h.hr; omega) s' h2
  · by_cases e : i = y
    · subst e; exact h.seas s' h1
    · exact h.before i (by omega) r h.hr s' (by have := h.hs; omega)
  · rcases lt_or_ge0 (f.breakY r' s' q) with h3 | h3
    · exact .inl h3
    · exact .inr (break_ge hok h1 h2 (fun i hi => h.before i hi r' h1 s' h2) h3)
theorem firstS_same {f : Fish} {q : Int} {r : Nat} : ∀ (ss : List Nat) (b : Int × Int × Int), (∀ s ∈ ss, f.breakY r s q < 0) → firstS f q r ss b = b
  | [], b, _ => rfl
  | s :: ss, b, h => by
    have := h s (List.mem_cons_self ..)
    rw [firstS, if_neg (by omega)]
    exact firstS_same ss b fun t ht => h t (List.mem_cons_of_mem _ ht)
theorem firstR_same {f : Fish} {q : Int} : ∀ (rs : List Nat) (b : Int × Int × Int), (∀ r ∈ rs, ∀ s, s < f.seasons.length → f.breakY r s q < 0) → firstR f q rs b = b
  | [], b, _ => rfl
  | r :: rs, b, h => by
    rw [firstR, firstS_same _ b fun s m => h r (List.mem_cons_self ..) s (List.mem_range.1 m)]
    exact firstR_same rs b fun t ht => h t (List.mem_cons_of_mem _ ht)
theorem first_none {f : Fish} (hok : FishOk f) {q : Int} (h : f.findY q 0 = none) : f.first q = (0, 0, -1) := by
  have h1 := findY_none.1 h
  refine firstR_same _ _ fun r hr s hs => ?_
  have hr := List.mem_range.1 hr
  rcases lt_or_ge0 (f.breakY r s q) with h3 | h3
  · exact h3
  · obtain ⟨y, hy, hb⟩ := (any_brk hok hr hs q).1 (decide_eq_true h3)
    rw [h1 y hy r hr s hs] at hb; cases hb
theorem firstR_find {f : Fish} {q : Int} (hok : f.ok = true) (hq : wi q 0 10000 = true) : f.firstR q = match f.findY q 0 with
    | some (y, r, s) => [.int r, .int s, .int y, .int 0]
    | none => [.int 0, .int 0, .int 0, .int 4] := by
  unfold Fish.firstR
  rw [if_pos hok, if_pos hq]
  cases e : f.findY q 0 with
  | none => rw [first_none (FishOk.of hok) e]; rfl
  | some p =>
    obtain ⟨y, r, s⟩ := p
    rw [first_found (FishOk.of hok) (findY_some e)]
    show (if (y : Int) < 0 then _ else _) = _
    rw [if_neg (by omega)]
end Go.AL.Q

namespace Go.AL.Q
open Go
theorem halve_spec {h : Int → Bool} : ∀ (n : Nat) (lo hi : Int), 0 ≤ lo → lo < hi → hi - lo ≤ n → h lo = true → lo ≤ halve h n lo hi ∧ halve h n lo hi < hi ∧ h (halve h n lo hi) = true ∧ (halve h n lo hi + 1 = hi ∨ h (halve h n lo hi + 1) = false)
  | 0, lo, hi, h0, h1, h2, h3 => by omega
  | n + 1, lo, hi, h0, h1, h2, h3 => by
    rw [halve]
    split
    · rename_i hgt
      have hmid : lo < (lo + hi).tdiv 2 ∧ (lo + hi).tdiv 2 < hi := by rw [Int.tdiv_eq_ediv_of_nonneg (by omega)]; omega
      generalize (lo + hi).tdiv 2 = m at *
      split
      · rename_i hm
        obtain ⟨a, b, c, d⟩ := halve_spec n m hi (by omega) hmid.2 (by omega) hm
        exact ⟨by omega, b, c, d⟩
      · rename_i hm
        obtain ⟨a, b, c, d⟩ := halve_spec n lo m h0 hmid.1 (by omega) h3
        refine ⟨a, by omega, c, .inr ?_⟩
        rcases d with d | d
        · rw [d]; simpa using hm
        · exact d
    · exact ⟨Int.le_refl _, h1, h3, .inl (by omega)⟩
theorem quota_spec {f : Fish} (h0 : f.holds 0 = true) : 0 ≤ f.quota ∧ f.quota ≤ 10000 ∧ f.holds f.quota = true ∧ (f.quota = 10000 ∨ f.holds (f.quota + 1) = false) := by
  unfold Fish.quota
  obtain ⟨a, b, c, d⟩ := halve_spec (h := f.holds) 10001 0 10001 (by decide) (by decide) (by decide) h0
  exact ⟨a, by omega, c, d.imp (fun h => by omega) id⟩
theorem first_holds {f : Fish} (hok : f.ok = true) {q : Int} (hq : 0 ≤ q ∧ q ≤ 10000) : (f.holds q = true → f.firstR q = [.int 0, .int 0, .int 0, .int 4]) ∧ (f.holds q = false → ∃ a b c : Int, f.firstR q = [.int a, .int b, .int c, .int 0]) := by
  rw [firstR_find hok (wi_iff.2 hq), holds_find (FishOk.of hok)]
  cases f.findY q 0 with
  | none => exact ⟨fun _ => rfl, fun h => by cases h⟩
  | some p => obtain ⟨y, r, s⟩ := p; exact ⟨fun h => (by cases h), fun _ => ⟨_, _, _, rfl⟩⟩
end Go.AL.Q

namespace Go.AL.Q
open Go
theorem LeP.trans {a b c : List Int} (h : LeP a b) (k : LeP b c) : LeP a c := ⟨h.1.trans k.1, fun i => Int.le_trans (h.2 i) (k.2 i)⟩
theorem LeP.map {f : Int → Int} {l : List Int} (h : ∀ x ∈ l, x ≤ f x) : LeP l (l.map f) := ⟨by simp, fun i => by
  simp only [List.getD_eq_getElem?_getD, List.getElem?_map]
  cases e : l[i]? with
  | none => exact Int.le_refl _
  | some x => exact h x (List.mem_of_getElem? e)⟩
theorem holds_iff {f : Fish} (hok : FishOk f) {q : Int} : f.holds q = true ↔ ∀ y, y < f.years → ∀ r, r < f.many → ∀ s, s < f.seasons.length → (f.race r).line ≤ (f.spawns r s q).getD y 0 := by
  rw [holds_find hok, Option.isNone_iff_eq_none, findY_none]
  constructor
  · intro h y hy r hr s hs
    have := of_decide_eq_false (show decide (_ < _) = false from h y hy r hr s hs)
    omega
  · intro h y hy r hr s hs
    have := h y hy r hr s hs
    exact decide_eq_false (show ¬ (f.spawns r s q).getD y 0 < (f.race r).line by omega)
structure RaceLe (a b : Rce) : Prop where
  n : b.numbers = a.numbers
  s : b.spawn = a.spawn
  m : b.mesh = a.mesh
  k : LeP a.keep b.keep
theorem RaceLe.refl (a : Rce) : RaceLe a a := ⟨rfl, rfl, rfl, .refl _⟩
theorem winN_keep {a b : Rce} (h : RaceLe a b) {l : List Int} (hl : ∀ i, 0 ≤ l.getD i 0) (hm : 1 ≤ a.many) : ∀ k, k ≤ a.many → LeP (winN a l k) (winN b l k)
  | 0, _ => by
    have : b.many = a.many := by unfold Rce.many; rw [h.n]
    simp only [winN, this]; exact .refl _
  | k + 1, hk => by
    have hmn : b.many = a.many := by unfold Rce.many; rw [h.n]
    have ih := winN_keep h hl hm k (by omega)
    have h2 := Int.mul_le_mul_of_nonneg_left (h.k.2 k) (hl k)
    have h3 := tdiv_mono h2
    have h4 := ih.2 (min (k + 1) (a.many - 1))
    simp only [winN, hmn]
    exact ih.set (by rw [winN_len, hmn]; omega) (by omega)
theorem winF_keep {a b : Rce} (h : RaceLe a b) {l : List Int} (hl : ∀ i, 0 ≤ l.getD i 0) (hm : 1 ≤ a.many) (x : Int) : LeP (winF a l x) (winF b l x) := by
  have hmn : b.many = a.many := by unfold Rce.many; rw [h.n]
  have ih := winN_keep h hl hm a.many (Nat.le_refl _)
  have h2 := ih.2 0
  unfold winF
  rw [hmn]
  exact ih.set (by rw [winN_len, hmn]; omega) (by omega)
theorem playF_keep {a b : Rce} (ha : RaceLe a b) (hoa : RceOk a) (hob : RceOk b) : ∀ (ts xs l : List Int) (B : Int), Pop b B l → (∀ t ∈ ts, 0 ≤ t) → (∀ x ∈ xs, 0 ≤ x) → ts.length = xs.length → LeP (playF a l ts xs) (playF b l ts xs)
  | [], xs, l, B, _, _, _, _ => by cases xs <;> exact LeP.refl _
  | t :: ts, [], l, B, _, _, _, h => by cases h
  | t :: ts, x :: xs, l, B, hl, ht, hx, he => by
    have t0 := ht t (List.mem_cons_self ..)
    have x0 := hx x (List.mem_cons_self ..)
    have hmn : b.many = a.many := by unfold Rce.many; rw [ha.n]
    have hc : caughtF a l t = caughtF b l t := by unfold caughtF; rw [ha.m, hmn]
    have hp := caughtF_pop hl t0
    have hw := winF_keep (x := x) ha (fun i => getD_pos hp.pos i) hoa.m1
    have hs : spawnF a (caughtF b l t) = spawnF b (caughtF b l t) := by unfold spawnF spawnN; rw [ha.s, hmn]
    have hpw := winF_pop hob hp x0
    have he' : ts.length = xs.length := by simpa using he
    have i1 := playF_mono hoa ts ts xs xs _ _ hw (by rw [hpw.len, hmn]; exact Nat.le_refl _) (.refl _) (.refl _) he'
    have i2 := playF_keep ha hoa hob ts xs _ _ hpw (fun y hy => ht y (List.mem_cons_of_mem _ hy)) (fun y hy => hx y (List.mem_cons_of_mem _ hy)) he'
    have ih := i1.trans i2
    unfold playF yearF
    rw [hc, hs]
    exact ⟨by simp [ih.1], fun i => by
      cases i with
      | zero => exact Int.le_refl _
      | succ i => exact ih.2 i⟩
theorem takeF_mono {q q' m m' : Int} (hq : 0 ≤ q') (hqq : q' ≤ q) (hm : 0 ≤ m') (hmm : m' ≤ m) : takeF q' m' ≤ takeF q m := by
  unfold takeF
  have h : q' * m' ≤ q * m := Int.mul_le_mul hqq hmm hm (by omega)
  have h0 : 0 ≤ q' * m' := Int.mul_nonneg hq hm
  rw [Int.tdiv_eq_ediv_of_nonneg (by omega), Int.tdiv_eq_ediv_of_nonneg (by omega)]; omega
theorem LeP.rep {n n' : Nat} {t t' : Int} (hn : n = n') (h : t' ≤ t) : LeP (List.replicate n' t') (List.replicate n t) := by
  subst hn
  exact ⟨by simp, fun i => by
    simp only [List.getD_eq_getElem?_getD, List.getElem?_replicate]
    split
    · exact h
    · exact Int.le_refl _⟩
theorem spawns_le {f g : Fish} (hf : FishOk f) (hg : FishOk g) {r s s' : Nat} (hr : r < f.many) (hr' : r < g.many) (hs : s < f.seasons.length) (hs' : s' < g.seasons.length) {q q' : Int} (hq : 0 ≤ q') (hqq : q' ≤ q)
    (hm : g.most.getD r 0 ≤ f.most.getD r 0) (hrc : LeP (f.recs s r) (g.recs s' r)) (hk : RaceLe (f.race r) (g.race r)) : LeP (f.spawns r s q) (g.spawns r s' q') := by
  have h1 := hf.race r hr
  have h2 := hg.race r hr'
  have hl := hrc.1
  have ht := takeF_mono hq hqq (hg.mb r hr').1 hm
  unfold Fish.spawns
  rw [hk.n]
  have a := playF_mono h1 (List.replicate (f.recs s r).length (takeF q (f.most.getD r 0))) (List.replicate (g.recs s' r).length (takeF q' (g.most.getD r 0))) (f.recs s r) (g.recs s' r) (f.race r).numbers (f.race r).numbers (.refl _) (Nat.le_refl _) (LeP.rep hl ht) hrc (by simp)
  have hp := first_pop h2
  rw [hk.n] at hp
  have t0 : 0 ≤ takeF q' (g.most.getD r 0) := take_nn hq (hg.mb r hr').1
  exact a.trans (playF_keep hk h1 h2 _ _ _ _ hp (fun t ht => by rw [List.mem_replicate] at ht; rw [ht.2]; exact t0) (fun x hx => (hg.rb s' r hs' hr' x hx).1) (by simp))
structure FishLe (f g : Fish) : Prop where
  many : g.many = f.many
  years : g.years = f.years
  most : ∀ r, r < f.many → g.most.getD r 0 ≤ f.most.getD r 0
  race : ∀ r, r < f.many → RaceLe (f.race r) (g.race r) ∧ (g.race r).line ≤ (f.race r).line
  recs : ∀ r, r < f.many → ∀ s', s' < g.seasons.length → ∃ s, s < f.seasons.length ∧ LeP (f.recs s r) (g.recs s' r)
theorem FishLe.holds {f g : Fish} (hf : FishOk f) (hg : FishOk g) (h : FishLe f g) {q q' : Int} (hq : 0 ≤ q') (hqq : q' ≤ q) (hh : f.holds q = true) : g.holds q' = true := by
  rw [holds_iff hf] at hh
  rw [holds_iff hg]
  intro y hy r hr s' hs'
  rw [h.years] at hy
  have hr2 : r < f.many := by rw [← h.many]; exact hr
  obtain ⟨s, hs, h1⟩ := h.recs r hr2 s' hs'
  have h2 := h.race r hr2
  have h3 := (spawns_le hf hg hr2 hr hs hs' hq hqq (h.most r hr2) h1 h2.1).2 y
  exact Int.le_trans h2.2 (Int.le_trans (hh y hy r hr2 s hs) h3)
theorem FishLe.refl (f : Fish) : FishLe f f := ⟨rfl, rfl, fun _ _ => Int.le_refl _, fun _ _ => ⟨.refl _, Int.le_refl _⟩, fun r _ s hs => ⟨s, hs, .refl _⟩⟩
theorem FishLe.quota {f g : Fish} (hf : FishOk f) (hg : FishOk g) (h : FishLe f g) (h0 : f.holds 0 = true) : g.holds 0 = true ∧ f.quota ≤ g.quota := by
  have g0 := h.holds hf hg (Int.le_refl 0) (Int.le_refl 0) h0
  obtain ⟨a1, a2, a3, a4⟩ := quota_spec h0
  obtain ⟨b1, b2, b3, b4⟩ := quota_spec g0
  refine ⟨g0, ?_⟩
  rcases b4 with b4 | b4
  · omega
  · by_cases hlt : f.quota ≤ g.quota
    · exact hlt
    · have := h.holds hf hg (q' := g.quota + 1) (by omega) (by omega) a3
      rw [b4] at this; cases this
theorem mem_getD {l : List Int} {a b : Int} (h : ∀ i, i < l.length → a ≤ l.getD i 0 ∧ l.getD i 0 ≤ b) : ∀ x ∈ l, a ≤ x ∧ x ≤ b := fun x hx => by
  obtain ⟨i, hi, rfl⟩ := getD_mem hx; exact h i hi
end Go.AL.Q

namespace Go.Proofs.Ytkfepnbanekfgaa
open Go Go.AL Go.AL.Q Go.AL.Sh
theorem le2 {f : FuncId} {a a' b b' v : A} (h : Ans Try.prog f [a, b] v) (ha : A.Le a a') (hb : A.Le b b') : Ans Try.prog f [a', b'] v := h.le rfl fun i hi => by
  match i, hi with
  | 0, _ => exact ha
  | 1, _ => exact hb
theorem le3 {f : FuncId} {a a' b b' c c' v : A} (h : Ans Try.prog f [a, b, c] v) (ha : A.Le a a') (hb : A.Le b b') (hc : A.Le c c') : Ans Try.prog f [a', b', c'] v := h.le rfl fun i hi => by
  match i, hi with
  | 0, _ => exact ha
  | 1, _ => exact hb
  | 2, _ => exact hc
theorem le4 {f : FuncId} {a a' b b' c c' d d' v : A} (h : Ans Try.prog f [a, b, c, d] v) (ha : A.Le a a') (hb : A.Le b b') (hc : A.Le c c') (hd : A.Le d d') : Ans Try.prog f [a', b', c', d'] v := h.le rfl fun i hi => by
  match i, hi with
  | 0, _ => exact ha
  | 1, _ => exact hb
  | 2, _ => exact hc
  | 3, _ => exact hd
abbrev exSea : Sea := ⟨3, 1, true, [], 1, true, [], 0⟩
abbrev exRep : List Rep := [⟨0, 1, 0, true⟩]
abbrev exSc : List Scale := [⟨3, 2, 4⟩]
abbrev exS : List Stk := [⟨⟨#[98]⟩, 1⟩, ⟨⟨#[97]⟩, 1⟩]
theorem e1 : CanR exSea exRep 0 0 = ([1], 0) := by decide +kernel
theorem e2 : agedS exSc 2 3 = ⟨0, 3⟩ := by decide +kernel
theorem e3 : agedE exSc 2 3 = 0 := by decide +kernel
theorem e4 : divF 5 exS = [2, 3] := by decide +kernel
theorem e5 : areB exS = true := by decide +kernel
theorem x1 : Ans Try.prog 15 [.agg [.int 3, .int 1, .sl true .exact [], .int 1, .sl true .exact [], .int 0], .sl false .exact (exRep.map Rep.c), .int 0, .int 0] (.tup [canA [1], .int 0]) := by
  have h := Can_t exSea ⟨by decide, by decide⟩ false exRep (by decide) 0 0
  rw [e1] at h
  exact le4 h (.agg (.cons (.refl _) (.cons (.refl _) (.cons (.any _ _ _) (.cons (.refl _) (.cons (.any _ _ _) (.cons (.refl _) .nil))))))) (.any _ _ _) (.refl _) (.refl _)
theorem x2 : Ans Try.prog 22 [.sl false .exact (exSc.map Scale.c), .int 2, .int 3] (.tup [.agg (Sp.c ⟨0, 3⟩), .int 0]) := by
  have e : agedR exSc 2 3 = [.agg (Sp.c ⟨0, 3⟩), .int 0] := by unfold agedR; rw [e2, e3]
  exact le3 (e ▸ aged_t false exSc 2 3 (by decide)) (.any _ _ _) (.refl _) (.refl _)
theorem x3 : Ans Try.prog 7 [.int 5, .sl false .exact (exS.map Stk.c)] (.tup [.sl false .exact (ints [2, 3]), .int 0]) := by
  have e : sharesA 5 exS = .tup [.sl false .exact (ints [2, 3]), .int 0] := by
    unfold sharesA; rw [e5, e4]; rfl
  exact le2 (e ▸ Divide_t false exS (by decide) 5) (.refl _) (.any _ _ _)
theorem x4 : Ans Try.prog 24 [canA [1], .sl false .exact (ints [1])] (.bool true) :=
  le2 (same_t false false [1] [1] (by decide)) (.any _ _ _) (.any _ _ _)
theorem x5 : Ans Try.prog 24 [.sl false .exact (ints [2, 3]), .sl false .exact (ints [2, 3])] (.bool true) :=
  le2 (same_t false false [2, 3] [2, 3] (by decide)) (.any _ _ _) (.any _ _ _)
theorem clo9_t : Ans Try.prog 6 [] (.bool true) := by
  refine told Try.func6 rfl rfl (Pure.of tab_ok Try.func6 rfl Try.ntmps6 rfl allN allN (.s _) fun E hE => ?_)
  refine Aw.sm tab_ok mb0 [] rfl rfl ?zo ?zk
  case zo =>
    repeat' apply AllP.cons
    all_goals first | exact trivial
  case zk =>
  refine Aw.sm tab_ok mb0 [(3, [.tup [canA [1], .int 0]])] rfl rfl ?zo ?zk
  case zo =>
    repeat' apply AllP.cons
    all_goals first | exact trivial | exact Nat.le_of_ble_eq_true rfl | exact x1
  case zk =>
  refine Aw.sm tab_ok mb0 [(0, [.agg (Sp.c ⟨2, 4⟩)]), (3, [.tup [.agg (Sp.c ⟨0, 3⟩), .int 0]])] rfl rfl ?zo ?zk
  case zo =>
    repeat' apply AllP.cons
    all_goals first | exact trivial | exact rfl | exact Nat.le_of_ble_eq_true rfl | exact to_t 2 4 | exact x2
  case zk =>
  refine Aw.freeze (id := 0) (t := 3) rfl rfl ?_
  refine Aw.sm tab_ok mb0 [(3, [.tup [.sl false .exact (ints [2, 3]), .int 0]])] rfl rfl ?zo ?zk
  case zo =>
    repeat' apply AllP.cons
    all_goals first | exact trivial | exact Nat.le_of_ble_eq_true rfl | exact x3
  case zk =>
  refine Aw.sd tab_ok mixed mb0 [(13, [.bool true]), (17, [.agg (Sp.c ⟨0, 3⟩)]), (18, [.bool true]), (23, [.bool true])] rfl (by kernel_rfl) rfl rfl ?zo ?zk
  case zo =>
    repeat' apply AllP.cons
    all_goals first | exact trivial | exact id | exact fun _ => rfl | exact fun _ => Nat.le_of_ble_eq_true rfl | exact fun _ => x4 | exact fun _ => x5 | exact fun _ => to_t 0 3 | exact fun _ => eqSpan _ _ ⟨0, 3⟩ ⟨0, 3⟩
  case zk =>
  exact Aw.ret ⟨_, .cons (.tmp _) .nil, rfl⟩
end Go.Proofs.Ytkfepnbanekfgaa

set_option maxRecDepth 100000
namespace Go.AL
open Go Go.RowKit Go.ChangeShapes Go.WideShapes Go.ChangeAt
section
variable {H : Type} {enc : TypeId × Value → H} {P : Program} {w : World} {base : Nat} {held : Bool} {φ : Names}
theorem Reads.str {e : Nat} (he : P.underlying e = some .string) : Reads enc P w base held φ e 1 (fun b : ByteArray => [A.s (.string b)]) fun _ => True := fun n cs y h _ => by
  obtain ⟨z, rfl, _, _⟩ := DataW.trod_string he h
  exact ⟨z, trivial, rfl, .one (.s _) rfl⟩
end
end Go.AL
namespace Go.Proofs.Ytkfepnbanekfgaa
open Go Go.AL Go.AL.Q Go.AL.Sh Go.ChangeShapes Go.WideShapes Go.ChangeAt Go.RowKit
theorem own : ownKnob Try.prog.godebug = none := by kernel_rfl
theorem laidOut : laidOutB Try.prog = true := by kernel_rfl
theorem ty_ok {t : TypeId} (h : Try.prog.readableRec t = true) (h2 : decide (t < Try.prog.types.size) = true) : Try.prog.readableRec t = true ∧ t < Try.prog.types.size := ⟨h, of_decide_eq_true h2⟩
theorem uBool : Try.prog.underlying 4 = some .bool := by kernel_rfl
def fld (n : String) (t o b : Nat) : Field := ⟨n, t, o, false, "", "", b⟩
theorem c3 : Try.prog.cellsOf 3 = 1 := by kernel_rfl
theorem t23 : Try.prog.readableRec 23 = true ∧ 23 < Try.prog.types.size := ty_ok (by kernel_rfl) (by kernel_rfl)
theorem u23 : Try.prog.underlying 23 = some (.slice 3) := by kernel_rfl
theorem c23 : Try.prog.cellsOf 23 = 1 := by kernel_rfl
theorem by3 : Try.prog.bytesOf 3 = 8 := by kernel_rfl
theorem t26 : Try.prog.readableRec 26 = true ∧ 26 < Try.prog.types.size := ty_ok (by kernel_rfl) (by kernel_rfl)
theorem t27 : Try.prog.readableRec 27 = true ∧ 27 < Try.prog.types.size := ty_ok (by kernel_rfl) (by kernel_rfl)
theorem u114 : Try.prog.underlying 114 = some (.struct #[fld "Numbers" 23 0 0, fld "Keep" 23 1 24, fld "Spawn" 23 2 48, fld "Line" 3 3 72, fld "Mesh" 3 4 80]) := by kernel_rfl
theorem c114 : Try.prog.cellsOf 114 = 5 := by kernel_rfl
theorem u9s : Try.prog.underlying 9 = some .string := by kernel_rfl
theorem c9 : Try.prog.cellsOf 9 = 1 := by kernel_rfl
theorem u76 : Try.prog.underlying 76 = some (.struct #[fld "Name" 9 0 0, fld "Weight" 3 1 16]) := by kernel_rfl
theorem c76 : Try.prog.cellsOf 76 = 2 := by kernel_rfl
theorem by76 : Try.prog.bytesOf 76 = 24 := by kernel_rfl
theorem u27 : Try.prog.underlying 27 = some (.slice 76) := by kernel_rfl
theorem u22 : Try.prog.underlying 22 = some (.slice 114) := by kernel_rfl
theorem u24 : Try.prog.underlying 24 = some (.slice 53) := by kernel_rfl
theorem u26 : Try.prog.underlying 26 = some (.struct #[fld "Races" 22 0 0, fld "Most" 23 1 24, fld "Seasons" 24 2 48]) := by kernel_rfl
theorem u53 : Try.prog.underlying 53 = some (.slice 23) := by kernel_rfl
theorem c22 : Try.prog.cellsOf 22 = 1 := by kernel_rfl
theorem c24 : Try.prog.cellsOf 24 = 1 := by kernel_rfl
theorem c26 : Try.prog.cellsOf 26 = 3 := by kernel_rfl
theorem c53 : Try.prog.cellsOf 53 = 1 := by kernel_rfl
theorem by23 : Try.prog.bytesOf 23 = 24 := by kernel_rfl
theorem by114 : Try.prog.bytesOf 114 = 88 := by kernel_rfl
theorem by53 : Try.prog.bytesOf 53 = 24 := by kernel_rfl
theorem fit_len {n k : Nat} (h : n * k ≤ reachBytes) (hk : 1 ≤ k) : (n : Int) ≤ 9223372036854775806 := by
  have h3 : n ≤ n * k := Nat.le_mul_of_pos_right _ hk
  have h5 : reachBytes = 140737488351232 := by decide
  omega
section
variable {H : Type} {enc : TypeId × Value → H} {w : World} {base : Nat} {spare : Nat → Bool} {held : Bool} {φ : Names}
theorem n3 : Nums enc Try.prog w base spare held 3 1 := nums1 u3
theorem arg_ints {v : Value} {d : DataW H} {p : List MemPlace} {r : Reach} {b0 : Nat} (hok : Value.okWide Try.prog w r b0 23 v) (h : DataW.Trod enc Try.prog w base spare held 23 v d p) (hw : ∀ k ∈ d.weights Try.prog 23, k ≤ reachBytes) :
    ∃ (b : Bool) (l : List Int), VR φ (allZ w) w (.sl b .any (ints l)) v ∧ (l.length : Int) ≤ 9223372036854775806 := by
  obtain ⟨b, es, q, l1, m, _⟩ := arg_nums (φ := φ) u23 c3 n3 (by rw [by3]; decide) hok h hw
  obtain ⟨l, r1, p1⟩ := rows1 es l1
  rw [r1] at q
  exact ⟨b, l, q, by rw [p1]; exact m⟩
end
section
variable {H : Type} {enc : TypeId × Value → H} {w : World} {base : Nat} {held : Bool} {φ : Names}
theorem r3 : Reads enc Try.prog w base held φ 3 1 (fun n : Int => [A.int n]) fun _ => True := .int u3
theorem rdInts : Reads enc Try.prog w base held φ 23 1 NL.c nlFit := by
  have key := Reads.slice (enc := enc) (w := w) (base := base) (held := held) (φ := φ) u23 c3 (by decide) r3
  exact key.imp fun x h => ⟨⟨x.1, x.2⟩, fit_len h.2 (by rw [by3]; decide), rfl⟩
theorem rdRce : Reads enc Try.prog w base held φ 114 5 Rce.c Rce.Fit := by
  have key := Reads.struct (enc := enc) (w := w) (base := base) (held := held) (φ := φ) u114 c114 (Flds.cons (f := fld "Numbers" 23 0 0) rfl c23 rdInts (Flds.cons (f := fld "Keep" 23 1 24) rfl c23 rdInts (Flds.cons (f := fld "Spawn" 23 2 48) rfl c23 rdInts (Flds.cons (f := fld "Line" 3 3 72) rfl c3 r3 (Flds.cons (f := fld "Mesh" 3 4 80) rfl c3 r3 (Flds.nil _)))))) rfl rfl
  exact key.imp fun x h =>
    ⟨⟨x.1.n, x.1.l, x.2.1.n, x.2.1.l, x.2.2.1.n, x.2.2.1.l, x.2.2.2.1, x.2.2.2.2.1⟩, ⟨h.1, h.2.1, h.2.2.1⟩, rfl⟩
theorem rdRces : Reads enc Try.prog w base held φ 22 1 (fun x : Bool × List Rce => [A.sl x.1 .any (x.2.map Rce.c)]) (fun x => (∀ a ∈ x.2, a.Fit) ∧ (x.2.length : Int) ≤ 9223372036854775806) := by
  have key := Reads.slice (enc := enc) (w := w) (base := base) (held := held) (φ := φ) u22 c114 (by decide) rdRce
  exact key.imp fun x h => ⟨x, ⟨h.1, fit_len h.2 (by rw [by114]; decide)⟩, rfl⟩
theorem rdRow : Reads enc Try.prog w base held φ 53 1 NR.c (fun s => (s.l.length : Int) ≤ 5900000000000 ∧ ∀ l ∈ s.l, nlFit l) := by
  have key := Reads.slice (enc := enc) (w := w) (base := base) (held := held) (φ := φ) u53 c23 (by decide) rdInts
  exact key.imp fun x h => ⟨⟨x.1, x.2⟩, ⟨by
    have := h.2; rw [by23] at this
    have h5 : reachBytes = 140737488351232 := by decide
    show (x.2.length : Int) ≤ _
    omega, h.1⟩, rfl⟩
theorem rdRows : Reads enc Try.prog w base held φ 24 1 (fun x : Bool × List NR => [A.sl x.1 .any (x.2.map NR.c)]) (fun x => (∀ s ∈ x.2, (s.l.length : Int) ≤ 9223372036854775806 ∧ ∀ l ∈ s.l, nlFit l) ∧ (x.2.length : Int) ≤ 9223372036854775806) := by
  have key := Reads.slice (enc := enc) (w := w) (base := base) (held := held) (φ := φ) u24 c53 (by decide) rdRow
  exact key.imp fun x h => ⟨x, ⟨fun s hs => ⟨by have := (h.1 s hs).1; omega, (h.1 s hs).2⟩, fit_len h.2 (by rw [by53]; decide)⟩, rfl⟩
theorem rdFish : Reads enc Try.prog w base held φ 26 3 Fish.c Fish.Fit := by
  have key := Reads.struct (enc := enc) (w := w) (base := base) (held := held) (φ := φ) u26 c26 (Flds.cons (f := fld "Races" 22 0 0) rfl c22 rdRces (Flds.cons (f := fld "Most" 23 1 24) rfl c23 rdInts (Flds.cons (f := fld "Seasons" 24 2 48) rfl c24 rdRows (Flds.nil _)))) rfl rfl
  exact key.imp fun x h =>
    ⟨⟨x.1.1, x.1.2, x.2.1.n, x.2.1.l, x.2.2.1.1, x.2.2.1.2⟩, ⟨h.1.2, h.2.1, h.2.2.1.2, h.1.1, h.2.2.1.1⟩, rfl⟩
theorem rdStk : Reads enc Try.prog w base held φ 76 2 Stk.c (fun _ => True) := by
  have key := Reads.struct (enc := enc) (w := w) (base := base) (held := held) (φ := φ) u76 c76 (Flds.cons (f := fld "Name" 9 0 0) rfl c9 (.str u9s) (Flds.cons (f := fld "Weight" 3 1 16) rfl c3 r3 (Flds.nil _))) rfl rfl
  exact key.imp fun x _ => ⟨⟨x.1, x.2.1⟩, trivial, rfl⟩
variable {v : Value} {d : DataW H} {p : List MemPlace} {r : Reach} {b0 : Nat}
theorem arg_fish (hok : Value.okWide Try.prog w r b0 26 v) (h : DataW.Trod enc Try.prog w base (fun _ => true) held 26 v d p) (hw : ∀ k ∈ d.weights Try.prog 26, k ≤ reachBytes) :
    ∃ y : Fish, VR φ (allZ w) w (.agg y.c) v ∧ y.Fit := by
  obtain ⟨x, q, e⟩ := (rdFish (φ := φ)).arg_agg (agg_struct u26 hok) h hw
  exact ⟨x, e, q⟩
theorem arg_stks (hok : Value.okWide Try.prog w r b0 27 v) (h : DataW.Trod enc Try.prog w base (fun _ => true) held 27 v d p) (hw : ∀ k ∈ d.weights Try.prog 27, k ≤ reachBytes) :
    ∃ (b : Bool) (l : List Stk), VR φ (allZ w) w (.sl b .any (l.map Stk.c)) v ∧ (l.length : Int) ≤ 9223372036854775806 := by
  obtain ⟨x, q, e⟩ := (Reads.slice (φ := φ) u27 c76 (by decide) rdStk).arg_slice u27 hok h hw
  exact ⟨x.1, x.2, e, fit_len q.2 (by rw [by76]; decide)⟩
end
end Go.Proofs.Ytkfepnbanekfgaa

namespace Go.Proofs.Ytkfepnbanekfgaa
open Go Go.AL Go.AL.Q Go.AL.Sh
theorem sumB_t (b : Bool) (l : List Int) (hl : (l.length : Int) ≤ 9223372036854775806) (h : ∀ k, k ≤ l.length → inR (l.take k).sum) : Ans Try.prog 11 [.sl b .any (ints l)] (.int l.sum) := by
  have ul : ∀ {n : Nat}, Under n (A.sl b .any (ints l)) := (free_ints _ _ _).under
  have ll := ints_lenI l
  refine told Try.func11 rfl rfl (Pure.of tab_ok Try.func11 rfl Try.ntmps11 rfl (all1 (free_ints _ _ _)) (all1 (fun _ => rfl)) (by first | exact .s _ | assumption | exact .tup _ (by intro x hx; simp only [List.mem_cons, List.not_mem_nil, or_false] at hx; rcases hx with rfl | rfl | rfl | rfl <;> first | exact .s _ | (simp_all; done))) fun E hE => ?_)
  refine Aw.sm tab_ok mb0 [] rfl rfl ?zo ?zk
  case zo =>
    repeat' apply AllP.cons
    all_goals first | exact trivial
  case zk =>
  refine Aw.sm tab_ok mb0 [] rfl rfl ?zo ?zk
  case zo =>
    repeat' apply AllP.cons
    all_goals first | exact trivial
  case zk =>
  refine Aw.seq ?_
  refine Aw.sm tab_ok mb0 [] rfl rfl ?zo ?zk
  case zo =>
    repeat' apply AllP.cons
    all_goals first | exact trivial
  case zk =>
  refine Aw.block (Aw.rounds 0 hE [(0, .sl b .any (ints l))] (fun k : Nat => [(3, .int (l.take k).sum), (4, .int k)]) (fun k => []) (fun k => k ≤ l.length) (fun k => l.length - k) 0 ?zg ⟨?zc, ?zv, ?zh, Nat.le_of_ble_eq_true rfl⟩ ?zu (fun k zhk => ?zw) (fun k zhk => ?zx) fun k hk => ?zr)
  case zg =>
    (repeat' (first | exact Nat.zero_le _))
  case zc =>
    (repeat' (first | (refine And.intro ?_ ?_) | exact trivial | exact A.Le.refl _))
  case zv =>
    (repeat' (first | (refine And.intro ?_ ?_) | exact trivial | exact A.Le.refl _))
  case zh =>
    (repeat' (first | exact trivial))
  case zu =>
    (repeat' (first | exact trivial | exact (free_ints _ _ _).under | (refine And.intro ?_ ?_)))
  case zw =>
    (repeat' (first | exact trivial | exact Under.s _ | (refine And.intro ?_ ?_)))
  case zx =>
    (repeat' (first | exact trivial))
  case zr =>
  refine Aw.seq ?_
  refine Aw.sm tab_ok mb0 [] rfl rfl ?zo ?zk
  case zo =>
    repeat' apply AllP.cons
    all_goals first | exact trivial
  case zk =>
  refine Aw.cond rfl (fun h1 => Aw.skip ?_) (fun h1 => ?_)
  · have hlt : k < l.length := by have := of_decide_eq_true h1; omega
    have ht := sum_take_succ hlt
    refine Aw.seq (Aw.block ?_)
    refine Aw.em tab_ok mb0 [(3, [.int l[k]])] rfl rfl ?zo ?zk
    case zo =>
      repeat' apply AllP.cons
      all_goals first | exact trivial | exact rfl | exact Nat.le_of_ble_eq_true rfl | exact Int.natCast_nonneg _ | exact ints_get hlt | exact ht ▸ h (k + 1) hlt
    case zk =>
    refine Aw.em tab_ok mb0 [] rfl rfl ?zo ?zk
    case zo =>
      repeat' apply AllP.cons
      all_goals first | exact trivial | exact inrk k (by omega)
    case zk =>
    refine ⟨k + 1, ?zg, ?zm, ⟨?zc, ?zv, ?zh, Nat.le_of_ble_eq_true rfl⟩⟩
    case zg =>
      (repeat' (first | assumption))
    case zm =>
      (repeat' (first | omega))
    case zc =>
      (repeat' (first | (refine And.intro ?_ ?_) | exact trivial | exact A.Le.refl _))
    case zv =>
      (repeat' (first | (refine And.intro ?_ ?_) | exact trivial | exact A.Le.refl _ | exact .of_eq (by rw [ht]; rfl)))
    case zh =>
      (repeat' (first | exact trivial))
  have hle : k = l.length := by have := of_decide_eq_false h1; omega
  subst hle
  refine Aw.exit2 ?_
  refine Aw.sm tab_ok mb0 [] rfl rfl ?zo ?zk
  case zo =>
    repeat' apply AllP.cons
    all_goals first | exact trivial
  case zk =>
  exact Aw.ret ⟨_, .cons (.tmp _) .nil, by rw [List.take_length]; rfl⟩
theorem holds_le {f : Fish} (hf : FishOk f) {q q' : Int} (h0 : 0 ≤ q') (h1 : q' ≤ q) (h : f.holds q = true) : f.holds q' = true := FishLe.holds hf hf (.refl f) h0 h1 h
def cgt (D bits : List Int) (k : Nat) : Int := ((List.range k).map fun i : Nat => pickF bits (i : Int) % (D.getD i 0 + 1)).sum
theorem cgt_succ (D bits : List Int) (k : Nat) : cgt D bits (k + 1) = cgt D bits k + pickF bits (k : Int) % (D.getD k 0 + 1) := by
  unfold cgt; rw [List.range_succ, List.map_append, List.map_cons, List.map_nil, sum_snoc]
theorem sum_nn : ∀ {m : List Int}, (∀ x ∈ m, 0 ≤ x) → 0 ≤ m.sum
  | [], _ => Int.le_refl _
  | a :: m, h => by have := h a (List.mem_cons_self ..); have := sum_nn fun x hx => h x (List.mem_cons_of_mem _ hx); rw [List.sum_cons]; omega
theorem cgt_bd {D : List Int} (bits : List Int) (hD : ∀ x ∈ D, 0 ≤ x) : ∀ k, k ≤ D.length → 0 ≤ cgt D bits k ∧ cgt D bits k ≤ (D.take k).sum
  | 0, _ => by simp [cgt]
  | k + 1, h => by
    have ih := cgt_bd bits hD k (by omega)
    have e : D.getD k 0 = D[k] := by simp [List.getD_eq_getElem?_getD, show k < D.length by omega]
    have hp := hD _ (List.getElem_mem (show k < D.length by omega))
    have h1 := Int.emod_nonneg (pickF bits (k : Int)) (show D.getD k 0 + 1 ≠ 0 by omega)
    have h2 := Int.emod_lt_of_pos (pickF bits (k : Int)) (show 0 < D.getD k 0 + 1 by omega)
    rw [cgt_succ, sum_take_succ (show k < D.length by omega)]
    omega
set_option maxRecDepth 100000 in
set_option maxHeartbeats 8000000 in
theorem rights_l (f : Fish) (hfit : f.Fit) (b : Bool) (l : List Stk) (hl : (l.length : Int) ≤ 9223372036854775806) (b2 : Bool) (bits : List Int) (hl2 : (bits.length : Int) ≤ 9223372036854775806) : Ans Try.prog 3 [.agg f.c, .sl b .any (l.map Stk.c), .sl b2 .any (ints bits)] (.bool true) := by
  have c1 := quota_t f hfit
  have ub : ∀ {m : Nat}, Under m (A.sl b2 .any (ints bits)) := (free_ints _ _ _).under
  have ufc : ∀ {m : Nat}, Under m (A.pt f.c) := (Free.pt _ f.free).under
  have hfl : Free (.sl b2 .any (ints bits)) := free_ints _ _ _
  have hfs : Free (.sl b .any (l.map Stk.c)) := free_map Stk.free _ _ _
  refine told Try.func3 rfl rfl (Pure.of tab_ok Try.func3 rfl Try.ntmps3 rfl (allC (.agg _ f.free) (allC (hfs) (all1 (hfl)))) (allC (fun _ => rfl) (allC (fun _ => rfl) (all1 (fun _ => rfl)))) (by first | exact .s _ | assumption | exact .tup _ (by intro x hx; simp only [List.mem_cons, List.not_mem_nil, or_false] at hx; rcases hx with rfl | rfl | rfl | rfl <;> first | exact .s _ | (simp_all; done))) fun E hE => ?_)
  refine Aw.sm tab_ok mb0 [] rfl rfl ?zo ?zk
  case zo =>
    repeat' apply AllP.cons
    all_goals first | exact trivial
  case zk =>
  cases hok : f.ok with
  | false =>
    have e1 : f.quotaR = [.int 0, .int 93] := by unfold Q.Fish.quotaR; rw [hok]; rfl
    rw [e1] at c1
    refine Aw.sm tab_ok mb0 [(1, [.tup [.int 0, .int 93]])] rfl rfl ?zo ?zk
    case zo =>
      repeat' apply AllP.cons
      all_goals first | exact trivial | exact Nat.le_of_ble_eq_true rfl | exact c1
    case zk =>
    refine Aw.seq ?_
    refine Aw.st tab_ok mb0 [] rfl rfl ?zo ?zk
    case zo =>
      repeat' apply AllP.cons
      all_goals first | exact trivial
    case zk =>
    refine Aw.cond rfl (fun _ => ?_) (fun h => by cases h)
    refine Aw.st tab_ok mb0 [(11, [.bool true])] rfl rfl ?zo ?zk
    case zo =>
      repeat' apply AllP.cons
      all_goals first | exact trivial | exact id | exact fun _ => rfl | exact clo9_t
    case zk =>
    exact Aw.ret ⟨_, .cons (.tmp _) .nil, rfl⟩
  | true =>
  have hf := FishOk.of hok
  cases h0 : f.holds 0 with
  | false =>
    have e1 : f.quotaR = [.int 0, .int 4] := by unfold Q.Fish.quotaR; rw [hok, h0]; rfl
    rw [e1] at c1
    refine Aw.sm tab_ok mb0 [(1, [.tup [.int 0, .int 4]])] rfl rfl ?zo ?zk
    case zo =>
      repeat' apply AllP.cons
      all_goals first | exact trivial | exact Nat.le_of_ble_eq_true rfl | exact c1
    case zk =>
    refine Aw.seq ?_
    refine Aw.st tab_ok mb0 [] rfl rfl ?zo ?zk
    case zo =>
      repeat' apply AllP.cons
      all_goals first | exact trivial
    case zk =>
    refine Aw.cond rfl (fun _ => ?_) (fun h => by cases h)
    refine Aw.st tab_ok mb0 [(11, [.bool true])] rfl rfl ?zo ?zk
    case zo =>
      repeat' apply AllP.cons
      all_goals first | exact trivial | exact id | exact fun _ => rfl | exact clo9_t
    case zk =>
    exact Aw.ret ⟨_, .cons (.tmp _) .nil, rfl⟩
  | true =>
  obtain ⟨q0, q1, q2, q3⟩ := quota_spec h0
  have e1 : f.quotaR = [.int f.quota, .int 0] := by unfold Q.Fish.quotaR; rw [hok, h0]; rfl
  have c4 := First_t f hfit (f.quota + 1)
  have e4 := fun h => (first_holds hok (q := f.quota + 1) h).2
  rw [e1] at c1
  have c5 : ∀ q', 0 ≤ q' → q' ≤ f.quota → Ans Try.prog 10 [.agg f.c, .int q'] (.tup [.int 0, .int 0, .int 0, .int 4]) := fun q' h1 h2 => by
    have := First_t f hfit q'
    rw [(first_holds hok (q := q') ⟨h1, by omega⟩).1 (holds_le hf h1 h2 q2)] at this
    exact this
  generalize f.quota = q at *
  have hdv := Divide_t b l hl q
  have hwi : wi q 0 10000000 = true := wi_iff.2 ⟨q0, by omega⟩
  unfold sharesA at hdv
  rw [hwi, cond_true] at hdv
  refine Aw.sm tab_ok mb0 [(1, [.tup [.int q, .int 0]])] rfl rfl ?zo ?zk
  case zo =>
    repeat' apply AllP.cons
    all_goals first | exact trivial | exact Nat.le_of_ble_eq_true rfl | exact c1
  case zk =>
  refine Aw.seq ?_
  refine Aw.st tab_ok mb0 [] rfl rfl ?zo ?zk
  case zo =>
    repeat' apply AllP.cons
    all_goals first | exact trivial
  case zk =>
  refine Aw.cond rfl (fun h => by cases h) (fun _ => Aw.skip ?_)
  cases hV : cond (areB l) (decide (0 < (wts l).sum)) false with
  | false =>
    rw [hV, cond_false] at hdv
    refine Aw.sm tab_ok mb0 [(2, [.tup [.sl true .exact [], .int 32]])] rfl rfl ?zo ?zk
    case zo =>
      repeat' apply AllP.cons
      all_goals first | exact trivial | exact hdv
    case zk =>
    refine Aw.seq ?_
    refine Aw.st tab_ok mb0 [] rfl rfl ?zo ?zk
    case zo =>
      repeat' apply AllP.cons
      all_goals first | exact trivial
    case zk =>
    refine Aw.cond rfl (fun _ => ?_) (fun h => by cases h)
    refine Aw.st tab_ok mb0 [(8, [.bool true])] rfl rfl ?zo ?zk
    case zo =>
      repeat' apply AllP.cons
      all_goals first | exact trivial | exact id | exact fun _ => rfl | exact clo9_t
    case zk =>
    exact Aw.ret ⟨_, .cons (.tmp _) .nil, rfl⟩
  | true =>
  rw [hV, cond_true] at hdv
  have hr := are_rights (ac1 hV)
  have hW : 0 < (wts l).sum := of_decide_eq_true (ac2 hV)
  have dlen := divF_len q l
  have dsum := divF_sum hr q0 (by omega) hW
  have dpos := divF_pos hr q0 (by omega) hW
  have hn := hr.n
  generalize divF q l = D at *
  have zD := ints_lenI D
  have hsumD : ∀ k, k ≤ D.length → 0 ≤ (D.take k).sum ∧ (D.take k).sum ≤ q := fun k _ => by
    have h2 := sum_nn fun x (hx : x ∈ D.take k) => dpos x (List.mem_of_mem_take hx)
    have h3 := sum_nn fun x (hx : x ∈ D.drop k) => dpos x (List.mem_of_mem_drop hx)
    have h4 : (D.take k).sum + (D.drop k).sum = q := by rw [← List.sum_append, List.take_append_drop, dsum]
    omega
  have hsB := sumB_t false D (by omega) fun k hk => by have := hsumD k hk; simp only [inR]; omega
  rw [dsum] at hsB
  have hcg : ∀ k, k ≤ D.length → 0 ≤ cgt D bits k ∧ cgt D bits k ≤ q := fun k hk => by
    have := cgt_bd bits dpos k hk
    have := hsumD k hk
    omega
  have uD : ∀ {m : Nat}, Under m (A.sl false .any (ints D)) := (free_ints _ _ _).under
  refine Aw.sm tab_ok mb0 [(2, [.tup [.sl false .exact (ints D), .int 0]])] rfl rfl ?zo ?zk
  case zo =>
    repeat' apply AllP.cons
    all_goals first | exact trivial | exact hdv
  case zk =>
  refine Aw.seq ?_
  refine Aw.st tab_ok mb0 [] rfl rfl ?zo ?zk
  case zo =>
    repeat' apply AllP.cons
    all_goals first | exact trivial
  case zk =>
  refine Aw.cond rfl (fun h => by cases h) (fun _ => Aw.skip ?_)
  refine Aw.sm tab_ok mb0 [] rfl rfl ?zo ?zk
  case zo =>
    repeat' apply AllP.cons
    all_goals first | exact trivial
  case zk =>
  refine Aw.seq ?_
  refine Aw.sm tab_ok mb0 [] rfl rfl ?zo ?zk
  case zo =>
    repeat' apply AllP.cons
    all_goals first | exact trivial
  case zk =>
  refine Aw.block (Aw.rounds 0 hE [(2, .sl b2 .any (ints bits)), (3, .pt f.c), (7, .int q), (9, .sl false .any (ints D))] (fun k : Nat => [(10, .int (cgt D bits k)), (11, .int k)]) (fun k => []) (fun k => k ≤ D.length) (fun k => D.length - k) 0 ?zg ⟨?zc, ?zv, ?zh, Nat.le_of_ble_eq_true rfl⟩ ?zu (fun k zhk => ?zw) (fun k zhk => ?zx) fun k hk => ?zr)
  case zg =>
    (repeat' (first | exact Nat.zero_le _))
  case zc =>
    (repeat' (first | (refine And.intro ?_ ?_) | exact trivial | exact A.Le.refl _ | exact A.Le.any _ _ _))
  case zv =>
    (repeat' (first | (refine And.intro ?_ ?_) | exact trivial | exact A.Le.refl _))
  case zh =>
    (repeat' (first | exact trivial))
  case zu =>
    (repeat' (first | exact trivial | exact Under.s _ | exact (free_ints _ _ _).under | exact ufc | (refine And.intro ?_ ?_)))
  case zw =>
    (repeat' (first | exact trivial | exact Under.s _ | (refine And.intro ?_ ?_)))
  case zx =>
    (repeat' (first | exact trivial))
  case zr =>
  refine Aw.seq ?_
  refine Aw.sm tab_ok mb0 [] rfl rfl ?zo ?zk
  case zo =>
    repeat' apply AllP.cons
    all_goals first | exact trivial
  case zk =>
  refine Aw.cond rfl (fun h1 => Aw.skip ?_) (fun h1 => ?_)
  · have hlt : k < D.length := by have := of_decide_eq_true h1; omega
    have hg := ints_getD hlt
    have hgp : 0 ≤ D.getD k 0 ∧ D.getD k 0 ≤ q := by
      have h1 := hsumD (k + 1) hlt
      have h2 := hsumD k (by omega)
      rw [sum_take_succ hlt] at h1
      have e : D.getD k 0 = D[k] := by simp [List.getD_eq_getElem?_getD, hlt]
      have h0 := dpos _ (List.getElem_mem hlt)
      rw [e]; omega
    have hcs := cgt_succ D bits k
    have hcb := hcg (k + 1) hlt
    have hpk := pick_t b2 bits (k : Int) (by omega)
    have hmd := mod_t (pickF bits (k : Int)) (D.getD k 0 + 1) (by omega) (by omega)
    rw [hcs] at hcb
    generalize D.getD k 0 = x at *
    generalize pickF bits (k : Int) = y at *
    generalize y % (x + 1) = m at *
    refine Aw.seq (Aw.block ?_)
    refine Aw.seq ?_
    refine Aw.sm tab_ok mb0 [(2, [.int x])] rfl rfl ?zo ?zk
    case zo =>
      repeat' apply AllP.cons
      all_goals first | exact trivial | exact rfl | exact Nat.le_of_ble_eq_true rfl | exact Int.natCast_nonneg _ | exact hg
    case zk =>
    refine Aw.cond rfl (fun h2 => ?_) (fun _ => Aw.skip ?_)
    · have h2 : x < 0 := of_decide_eq_true h2
      omega
    refine Aw.ed tab_ok mixed mb0 [(3, [.int y]), (6, [.int x]), (9, [.int m])] rfl (by kernel_rfl) rfl rfl ?zo ?zk
    case zo =>
      repeat' apply AllP.cons
      all_goals first | exact trivial | exact rfl | exact Nat.le_of_ble_eq_true rfl | exact Int.natCast_nonneg _ | exact hpk | exact hg | exact hmd | exact (show inR (x + 1) by simp only [inR]; omega) | exact (show inR (cgt D bits k + m) by simp only [inR]; omega)
    case zk =>
    refine Aw.em tab_ok mb0 [] rfl rfl ?zo ?zk
    case zo =>
      repeat' apply AllP.cons
      all_goals first | exact trivial | exact inrk k (by omega)
    case zk =>
    refine ⟨k + 1, ?zg, ?zm, ⟨?zc, ?zv, ?zh, Nat.le_of_ble_eq_true rfl⟩⟩
    case zg =>
      (repeat' (first | assumption))
    case zm =>
      (repeat' (first | omega))
    case zc =>
      (repeat' (first | (refine And.intro ?_ ?_) | exact trivial | exact A.Le.refl _))
    case zv =>
      (repeat' (first | (refine And.intro ?_ ?_) | exact trivial | exact A.Le.refl _ | exact .of_eq (congrArg A.int hcs)))
    case zh =>
      (repeat' (first | exact trivial))
  obtain rfl : k = D.length := by have := of_decide_eq_false h1; omega
  have hcf := hcg D.length (Nat.le_refl _)
  generalize cgt D bits D.length = c at *
  have hm1 := mod_t c 10001 (by decide) (by decide)
  rw [Int.emod_eq_of_lt hcf.1 (by omega)] at hm1
  have hfi := c5 c hcf.1 hcf.2
  refine Aw.exit2 ?_
  refine Aw.sd tab_ok mixed mb0 [(2, [.int c]), (3, [.tup [.int 0, .int 0, .int 0, .int 4]])] rfl (by kernel_rfl) rfl rfl ?zo ?zk
  case zo =>
    repeat' apply AllP.cons
    all_goals first | exact trivial | exact Nat.le_of_ble_eq_true rfl | exact hm1 | exact hfi
  case zk =>
  refine Aw.seq ?_
  refine Aw.sm tab_ok mb0 [(1, [.int q])] rfl rfl ?zo ?zk
  case zo =>
    repeat' apply AllP.cons
    all_goals first | exact trivial | exact id | exact fun _ => rfl | exact gq_f | exact hsB
  case zk =>
  refine Aw.cond rfl (fun h => ?_) (fun _ => Aw.skip ?_)
  · have h : cond (cond (q != q) true (decide (c > q))) true ((4 : Int) != 4) = true := h
    rw [decide_eq_false (show ¬ c > q by omega)] at h
    simp at h
  refine Aw.seq ?_
  refine Aw.sm tab_ok mb0 [] rfl rfl ?zo ?zk
  case zo =>
    repeat' apply AllP.cons
    all_goals first | exact trivial
  case zk =>
  refine Aw.cond rfl (fun h3 => ?_) (fun h3 => Aw.skip ?_)
  · refine Aw.sm tab_ok mb0 [(0, [.bool true])] rfl rfl ?zo ?zk
    case zo =>
      repeat' apply AllP.cons
      all_goals first | exact trivial | exact clo9_t
    case zk =>
    exact Aw.ret ⟨_, .cons (.tmp _) .nil, rfl⟩
  have h3 : ¬ q = 10000 := fun e => by subst e; exact absurd h3 (by decide)
  have hbr : f.holds (q + 1) = false := by
    rcases q3 with h | h
    · exact absurd h h3
    · exact h
  obtain ⟨x, y, z, e5⟩ := e4 (by omega) hbr
  rw [e5] at c4
  refine Aw.sd tab_ok mixed mb0 [(2, [.int q]), (4, [.tup [.int x, .int y, .int z, .int 0]])] rfl (by kernel_rfl) rfl rfl ?zo ?zk
  case zo =>
    repeat' apply AllP.cons
    all_goals first | exact trivial | exact Nat.le_of_ble_eq_true rfl | exact hsB | exact c4 | exact (show inR (q + 1) by simp only [inR]; omega)
  case zk =>
  refine Aw.sm tab_ok mb0 [(3, [.bool true])] rfl rfl ?zo ?zk
  case zo =>
    repeat' apply AllP.cons
    all_goals first | exact trivial | exact id | exact fun _ => rfl | exact fun _ => clo9_t
  case zk =>
  exact Aw.ret ⟨_, .cons (.tmp _) .nil, rfl⟩
theorem rights_c (f : Fish) (b : Bool) (l : List Stk) (b2 : Bool) (bits : List Int) (hfit : f.Fit) (hl : (l.length : Int) ≤ 9223372036854775806) (hl2 : (bits.length : Int) ≤ 9223372036854775806) : Ans Try.prog 3 [.agg f.c, .sl b .any (l.map Stk.c), .sl b2 .any (ints bits)] (.bool true) := rights_l f hfit b l hl b2 bits hl2
end Go.Proofs.Ytkfepnbanekfgaa

namespace Go.Proofs.Ytkfepnbanekfgaa
open Go Go.AL Go.ChangeShapes Go.WideShapes Go.ChangeAt Go.RowKit
set_option maxRecDepth 100000 in
theorem topRights_lifted (os : Os) (started : os.Started) (H : Type) (enc : TypeId × Value → H) :
    ReturnsInHanded {} Try.checked os 3 .any (Rows.topRightsSpec.pre6 enc Try.prog Try.f3 [] false) (Rows.topRightsSpec.post enc Try.prog Try.f3 false true false false) := by
  refine lifted2 (tb := 4) (C := Try.checked) own started (by kernel_rfl) Try.func3
    (ChangeSpec.witness6 (enc := enc) (C := Try.checked) false ⟨#[], #[.agg #[.slice none 0 0, .slice none 0 0, .slice none 0 0], .slice none 0 0, .slice none 0 0], []⟩ 8 (by kernel_rfl) (by kernel_rfl) (by kernel_rfl) (by kernel_rfl))
    laidOut ?_ rfl rfl (by kernel_rfl) uBool ?_ ?_
  · rw [Try.params3]; exact all3t (p := fun t => Try.prog.readableRec t = true ∧ t < Try.prog.types.size) t26 t27 t23
  · intro ds hd
    rw [Try.params3] at hd
    match ds, hd with
    | [d0, d1, d2], _ => rfl
  · intro W base args ds p hval hA hwt
    rw [Try.params3] at hA hval
    obtain ⟨v0, v1, v2, d0, d1, d2, p0, p1, p2, rfl, rfl, rfl, h0, h1, h2⟩ := trodAll_three hA
    obtain ⟨y0, q0, s0⟩ := arg_fish (φ := fun _ => none) (hval 0 26 v0 rfl rfl) h0 fun k hk => hwt k (List.mem_append.2 (.inl hk))
    obtain ⟨b1, y1, q1, s1⟩ := arg_stks (φ := fun _ => none) (hval 1 27 v1 rfl rfl) h1 fun k hk => hwt k (List.mem_append.2 (.inr (List.mem_append.2 (.inl hk))))
    obtain ⟨b2, y2, q2, s2⟩ := arg_ints (φ := fun _ => none) (hval 2 23 v2 rfl rfl) h2 fun k hk => hwt k (List.mem_append.2 (.inr (List.mem_append.2 (.inr (List.mem_append.2 (.inl hk))))))
    exact ⟨_, _, vrs3 q0 q1 q2, rights_c y0 b1 y1 b2 y2 s0 s1 s2⟩
theorem topRights_holds : Rows.TopRightsSaid :=
  OpenClaim.holds_of_wide 3 Try.f3 rfl rfl rfl rfl rfl rfl rfl ⟨rfl, rfl, rfl, rfl, rfl⟩ rfl rfl rfl rfl rfl (by kernel_rfl) Try.func3 (by kernel_rfl)
    (of_decide_eq_true (by kernel_rfl)) (by unfold Func.isWrapper; first | (rw [if_pos (by decide +kernel)]; kernel_rfl) | (rw [if_neg (by decide +kernel)]; exact ⟨rfl, rfl⟩))
    (fun os started H enc _ => topRights_lifted os started H enc)
end Go.Proofs.Ytkfepnbanekfgaa

