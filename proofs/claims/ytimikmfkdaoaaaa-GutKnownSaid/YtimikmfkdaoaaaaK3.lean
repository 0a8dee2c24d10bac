/- What the proof leans on, part 3: N4b N5 X1 RW A17 GD N7 N8 GP N9 X4. -/
import Derived.Test.YtimikmfkdaoaaaaK2
import Derived.ChangeArms
import Derived.Lib.SmallJoins
set_option linter.all false
namespace Go.AL
open Go Go.RowKit
structure NewMap (P : Program) (g : FuncId) (args : List A) (nm : Nat) (v : A) (kvs : List (A × A)) : Prop where
  ent : Enters P g
  run : ∀ H c φ Z w vs, HRel P φ Z H c w → VRs φ Z w args vs → φ nm = none → nm < c → Calls P g vs w fun e w' =>
    ∃ u φ' Z', e = .returned u ∧ VR φ' Z' w' v u ∧ (∀ u', spareOf v u' = none) ∧ HRel P φ' Z' (updH H nm (some (.map kvs))) c w' ∧ Grew P φ φ' Z Z' H (updH H nm (some (.map kvs))) w w' ∧ ∀ k, k ≠ nm → φ' k = φ k
theorem NewMap.of {P : Program} {g : FuncId} {args : List A} {nm k : Nat} {v v' : A} {kvs : List (A × A)} (he : Enters P g) (ha : ∀ x ∈ args, Free x) (hk : ∀ p ∈ kvs, Free p.1 ∧ Free p.2)
    (h : SCall P g args (fun _ => none) 0 fun v' H' _ => v' = v ∧ H' = ofH [(k, .map kvs)])
    (hv : ∀ φ φ' Z w u b, φ k = some b → φ' nm = some b → VR φ Z w v u → VR φ' Z w v' u) (hs : ∀ u, spareOf v' u = none) : NewMap P g args nm v' kvs := by
  refine ⟨he, fun H c φ Z w vs hr hvs hnm hlt => ?_⟩
  let φs : Names := fun _ => none
  have hrs : HRel P φs Z (fun _ => none) 0 w := {
    boxes := fun id bx hb => by cases hb
    inj := fun id id' b hi => by cases hi
    zok := hr.zok
    zbox := fun b o id hz hi hb => by cases hb
    own1 := fun id j b e hl => by simp [absAt, spareOf] at hl
    own2 := fun id j id' j' b e e' hl hl' => by simp [absAt, spareOf] at hl
    fresh := fun id hi => rfl }
  have mine0 : ∀ b, ¬ Mine φs (fun _ => none) w b := fun b hm => by
    rcases hm with ⟨id, h1, h2⟩ | ⟨id, j, e, h1⟩
    · cases h2
    · simp [absAt, spareOf] at h1
  have hvs' : VRs φs Z w args vs := ⟨hvs.1, fun i hi => (hvs.2 i hi).nms (D := fun _ => False) (ha _ (mem_getD hi)).nms fun _ _ h => h.elim⟩
  refine (h φs Z w vs hrs hvs').mono ?_
  rintro e w' ⟨u, v0, H', c', φ', Z', rfl, ⟨rfl, rfl⟩, hv', hsp, hr', g⟩
  have hHk : ofH [(k, B.map kvs)] k = some (.map kvs) := by simp [ofH, updH_apply]
  obtain ⟨b, hb1, hb2⟩ := hr'.boxes k (.map kvs) hHk
  have bnew : w.heap.size ≤ b := (g.mine b (.inl ⟨k, by rw [hHk]; rfl, hb1⟩)).resolve_left (mine0 b)
  have keep : ∀ b, b < w.heap.size → w'.heap[b]? = w.heap[b]? := fun b hb => g.frame b hb (mine0 b)
  have blt : ∀ id b, (H id).isSome = true → φ id = some b → b < w.heap.size := fun id b h1 h2 => by
    obtain ⟨bx, hbx⟩ := Option.isSome_iff_exists.1 h1
    obtain ⟨b0, h3, h4⟩ := hr.boxes id bx hbx
    rw [h2] at h3; cases h3; exact h4.lt
  have hHn : H nm = none := by
    cases e : H nm with
    | none => rfl
    | some bx => obtain ⟨b0, h3, _⟩ := hr.boxes nm bx e; rw [hnm] at h3; cases h3
  let φ2 : Names := fun id => if id = nm then some b else φ id
  have φn : φ2 nm = some b := if_pos rfl
  have φo : ∀ id, id ≠ nm → φ2 id = φ id := fun id h => if_neg h
  have up : ∀ id b, φ id = some b → φ2 id = some b := fun id b h => by
    have : id ≠ nm := fun e => by rw [e, hnm] at h; cases h
    rw [φo id this]; exact h
  have Hn : updH H nm (some (.map kvs)) nm = some (.map kvs) := by simp [updH_apply]
  have Ho : ∀ id, id ≠ nm → updH H nm (some (.map kvs)) id = H id := fun id h => by simp [updH_apply, h]
  have dom : ∀ id, (updH H nm (some (.map kvs)) id).isSome = true → id ≠ nm → (H id).isSome = true := fun id h1 h2 => by rwa [Ho id h2] at h1
  have absN : ∀ j, absAt ⟨fun _ => .un, updH H nm (some (.map kvs)), c⟩ (.box nm j) = .un := fun j => by simp only [absAt, Hn]
  have absO : ∀ id j, id ≠ nm → absAt ⟨fun _ => .un, updH H nm (some (.map kvs)), c⟩ (.box id j) = absAt ⟨fun _ => .un, H, c⟩ (.box id j) := fun id j h => by simp only [absAt, Ho id h]
  have notN : ∀ {id j : Nat} {x : Value} {p : Nat × Nat}, spareOf (absAt ⟨fun _ => .un, updH H nm (some (.map kvs)), c⟩ (.box id j)) x = some p → id ≠ nm := fun {id j x p} hl e => by
    subst e; rw [absN] at hl; simp [spareOf] at hl
  have abs_some : ∀ {id j : Nat} {x : Value} {p : Nat × Nat}, spareOf (absAt ⟨fun _ => .un, H, c⟩ (.box id j)) x = some p → (H id).isSome = true := fun {id j v p} hs => by
    cases e : H id with
    | some b => rfl
    | none => simp [absAt, e, spareOf] at hs
  have conO : ∀ id j, (H id).isSome = true → id ≠ nm → conAt φ2 ⟨#[], []⟩ w' (.box id j) = conAt φ ⟨#[], []⟩ w (.box id j) := fun id j h1 h2 => by
    simp only [conAt, φo id h2]
    cases e : φ id with
    | none => rfl
    | some b0 => simp only [World.cell?_of_block (w := w) (w' := w') (a := ⟨b0, j, none⟩) (keep b0 (blt id b0 h1 e))]
  have mineO : ∀ id j b e, spareOf (absAt ⟨fun _ => .un, updH H nm (some (.map kvs)), c⟩ (.box id j)) (conAt φ2 ⟨#[], []⟩ w' (.box id j)) = some (b, e) →
      id ≠ nm ∧ (H id).isSome = true ∧ spareOf (absAt ⟨fun _ => .un, H, c⟩ (.box id j)) (conAt φ ⟨#[], []⟩ w (.box id j)) = some (b, e) := fun id j b e hl => by
    have h1 := notN hl
    rw [absO id j h1] at hl
    have h2 := abs_some hl
    rw [conO id j h2 h1] at hl
    exact ⟨h1, h2, hl⟩
  refine ⟨u, φ2, Z', rfl, hv φ' φ2 Z' w' u b hb1 φn hv', hs, {
    boxes := fun id bx hb => by
      by_cases hi : id = nm
      · subst hi
        rw [Hn] at hb; cases hb
        exact ⟨b, φn, hb2.nms (D := fun _ => False) (.map _ fun p hp => ⟨(hk p hp).1.nms, (hk p hp).2.nms⟩) fun _ _ h => h.elim⟩
      · rw [Ho id hi] at hb
        obtain ⟨b0, h1, h2⟩ := hr.boxes id bx hb
        exact ⟨b0, up id b0 h1, h2.mono up (fun b o hz => (g.up b o hz).1) (fun b o hz => (g.up b o hz).2) (keep b0 h2.lt)⟩
    inj := fun id id' b0 hi hi' h1 h2 => by
      by_cases e : id = nm <;> by_cases e' : id' = nm
      · rw [e, e']
      · subst e; rw [φn] at h1; cases h1
        rw [φo id' e'] at h2
        have := blt id' b (dom id' hi' e') h2; omega
      · subst e'; rw [φn] at h2; cases h2
        rw [φo id e] at h1
        have := blt id b (dom id hi e) h1; omega
      · rw [φo id e] at h1; rw [φo id' e'] at h2
        exact hr.inj id id' b0 (dom id hi e) (dom id' hi' e') h1 h2
    zok := hr'.zok
    zbox := fun b0 o id hz hi hb => by
      by_cases e : id = nm
      · subst e; rw [φn] at hb; cases hb
        exact hr'.zbox b o k hz (by rw [hHk]; rfl) hb1
      · rw [φo id e] at hb
        have h2 := dom id hi e
        have hlt := blt id b0 h2 hb
        exact (g.back b0 o hz hlt).elim (fun h3 => hr.zbox b0 o id h3 h2 hb) (mine0 b0)
    own1 := fun id j b0 e hl => by
      obtain ⟨h1, h2, h3⟩ := mineO id j b0 e hl
      obtain ⟨k0, n', c'', i, cur, k1, k2, k3, k4, k5⟩ := hr.own1 id j b0 e h3
      have hlt := lt_of_block k3
      rw [conO id j h2 h1]
      refine ⟨fun i hi hb => ?_, n', c'', i, cur, k1, k2, (keep b0 hlt).trans k3, k4, fun o ho hz => (g.back b0 o hz hlt).elim (k5 o ho) (mine0 b0)⟩
      by_cases e : i = nm
      · subst e; rw [φn] at hb; cases hb; omega
      · rw [φo i e] at hb; exact k0 i (dom i hi e) hb
    own2 := fun id j id' j' b0 e e' hl hl' => hr.own2 id j id' j' b0 e e' (mineO id j b0 e hl).2.2 (mineO id' j' b0 e' hl').2.2
    fresh := fun id hi => by rw [φo id (by omega)]; exact hr.fresh id hi }, {
    size := g.size
    frame := fun b hb _ => keep b hb
    os := g.os
    tape := g.tape
    output := g.output
    up := g.up
    back := fun b o hz hb => (g.back b o hz hb).elim .inl fun h1 => (mine0 b h1).elim
    names := up
    mine := fun b0 hm => by
      rcases hm with ⟨id, h1, h2⟩ | ⟨id, j, e, h1⟩
      · by_cases e : id = nm
        · subst e; rw [φn] at h2; cases h2; exact .inr bnew
        · rw [φo id e] at h2; exact .inl (.inl ⟨id, dom id h1 e, h2⟩)
      · obtain ⟨q1, q2, q3⟩ := mineO id j b0 e (by simpa only [absAt] using h1)
        exact .inl (.inr ⟨id, j, e, by simpa only [absAt] using q3⟩) }, φo⟩
def kvsOf (l : List (List A)) : List (A × A) := l.map fun e => (e.getD 0 .un, e.getD 1 .un)
def kvsTo (l : List (A × A)) : List (List A) := l.map fun p => [p.1, p.2]
theorem kvs_to (l : List (A × A)) : kvsOf (kvsTo l) = l := by
  unfold kvsOf kvsTo; rw [List.map_map]; exact (List.map_congr_left fun p _ => rfl).trans (List.map_id l)
section
variable {X : Ctx} {r : Option Nat} {o : Oper}
theorem NewMap.fire {f : Operand} {args : Array Operand} {at' : Array TypeId} {d g : Nat} {fst cap : List A} {nm : Nat} {v : A} {kvs : List (A × A)} {S : Slots} {H : Hp} (ho : o.op = .call { callee := .value f, args := args, argTypes := at' }) (hd : o.dst = some d)
    (hf : rd S f = .fn (.func g) fst cap) (h : NewMap X.P g (fst ++ rds S args.toList ++ cap) nm v kvs) : FireR X r o (opTmps o.op) [] S H ⟨[(d, v)], [(nm, .map kvs)]⟩ nm := by
  intro hdn S' H' c' φ Z a w hr h1 h2 hnm hlt next Q hn
  obtain ⟨dst, op, ty, pos, aft, gd⟩ := o
  simp only at ho hd
  subst ho; subst hd
  have hf' : rd S' f = .fn (.func g) fst cap := by rw [← hf]; exact tmp_mem (by simp [Op.operands, Call.operands]) h1
  have ha : rds S' args.toList = rds S args.toList := rds_congr fun t ht => h1 t (mem_opTmps (by simp [Op.operands, Call.operands] at ht ⊢; exact .inr ht))
  obtain ⟨fv, cv, e0, q1, q2⟩ := inv_fn (hf' ▸ hr.sees.rd f)
  have q3 := vrs_rds hr.slots args
  refine ⟨fun f _ => trivial, ?_⟩
  have hrun : (execOp a.eval { dst := some d, op := Op.call { callee := .value f, args := args, argTypes := at' }, type := ty, pos := pos, after := aft, guard := gd }).run X.P w =
      .ok (.enter g (fv ++ args.map a.eval ++ cv)) w := by
    simp only [ex_call, resolve, e0, Deferred.ofValue, invoke, Sem.run_bind, Sem.run_pure, Result.andThen_ok]
    exact h.ent _ _
  rw [Oper.semAt_eq _ _ _ (fun c => by simp), hrun, Oper.uponIn_enter]
  refine ⟨fun h0 => (by cases h0), callsIn_fenceR ((h.run H' c' φ Z w _ hr.hrel (by rw [← ha]; exact (q1.append q3).append q2) hnm hlt).mono ?_)⟩
  rintro e w' ⟨u, φ', Z', rfl, hv, hsp, k1, k2, k3⟩
  have hr' := hr.called k1 k2
  exact hn φ' Z' _ w' k3 (hr'.put_down hr'.more_refl (hdn d rfl) hv (fun p hs => by rw [hsp] at hs; cases hs))
end
end Go.AL
namespace Go.AL
open Go Go.RowKit
def wstM (all : Array Oper) (o : Oper) : List Nat := wst o ++ (match o.op with
  | .store _ _ (.tmp t) => [t]
  | .move (.tmp t) => (match o.dst with | some d => cond (feeds all.toList d) [t] [] | none => [])
  | _ => [])
def only (H : Hp) (id : Nat) : Hp := fun j => cond (Nat.beq j id) (H j) none
section
variable (P : Program) (T : Tab) (mb : Nat → Bool)
def effM (H : Hp) (hr : List Nat) (o : Oper) (d : Nat) (S : Slots) (ht : Option (List A)) : Option (Eff × List Nat × List Ob) := match evM P T S H ht o.op o.type with
  | some (v, p) => some (⟨[(d, v)], []⟩, hr, p)
  | none => none
def readsH (H : Hp) (S : Slots) : Op → Hp × List Nat
  | .load _ x => match rd S x with
    | .ref id _ => (only H id, [id])
    | _ => (fun _ => none, [])
  | .lookup _ x _ _ => match rd S x with
    | .mp id => (only H id, [id])
    | _ => (fun _ => none, [])
  | .call { callee := .value _, args, .. } => match (rds S args.toList).filterMap (fun | .ms id _ _ => some id | _ => none) with
    | [id] => (only H id, [id])
    | _ => (fun _ => none, [])
  | _ => (fun _ => none, [])
def valD (o : Oper) (d : Nat) (S : Slots) (H : Hp) (ht : Option (List A)) : Option (Eff × List Nat × List Ob) := match readsH H S o.op with
  | (H', hr) => effM P T H' hr o d S ht
def dM (all : Array Oper) (nm : Nat) (o : Oper) (S : Slots) (H : Hp) (ht : Option (List A)) : Option (Eff × List Nat × List Ob) := match o.op, o.dst with
  | .alloc t, some d => match T.ty t with
    | .none => none
    | _ => some (⟨[(d, .ref nm 0)], [(nm, .cells ((T.zr t).map A.down))]⟩, [], [])
  | .box t x, some d => match mb d with
    | true => match okPart (rd S x) with
      | true => some (⟨[(d, .ref nm 0)], [(nm, .cells ((cellsA (rd S x)).map A.down))]⟩, [], [])
      | false => none
    | false => valD P T o d S H ht
  | .load t x, some d => match ht with
    | some [] => match rd S x with
      | .ref id off => match H id with
        | some (.cells cs) => match T.ty t, (T.ty t).isAgg with
          | .none, _ => none
          | _, false => some (⟨[(d, cs.getD off .un)], [(id, .cells (setSeg cs off [(cs.getD off .un).down]))]⟩, [id], [.of (off < cs.length)])
          | _, _ => none
        | _ => none
      | _ => none
    | _ => valD P T o d S H ht
  | .store t x v, none => match rd S x with
    | .ref id off => match H id, T.ty t with
      | _, .none => none
      | some (.cells cs), _ => match v, isOwn (rd S v) with
        | .tmp tv, true => some (⟨[(tv, (S tv).down)], [(id, .cells (setSeg cs off [S tv]))]⟩, [id], [.of (T.sz t = 1), .of (off < cs.length)])
        | _, _ => match okPart (rd S v) with
          | true => some (⟨[], [(id, .cells (setSeg cs off ((cellsA (rd S v)).map A.down)))]⟩, [id], [.of ((cellsA (rd S v)).length = T.sz t), .of (off + T.sz t ≤ cs.length)])
          | false => none
      | _, _ => none
    | _ => none
  | .makeSlice t x y, some d => match rd S x, rd S y, T.ty t with
    | .s (.int .i64 n), .s (.int .i64 m), .slice el => match T.ty el with
      | .none => none
      | _ => some (⟨[(d, .ms nm 0 n.toNat)], [(nm, .cells (((List.range (n.toNat * T.sz el)).map fun j => (T.zr el).getD (j % T.sz el) .un).map A.down))]⟩, [], [.of (m = n), .of (0 ≤ n), .of (n ≤ maxLen), .of ((T.by' el : Int) * n ≤ 140737488355328)])
    | _, _, _ => none
  | .buildSlice t n parts, some d => match ht with
    | some [.ms _ _ _] => match litW T S t n parts with
      | some (cs, p) => some (⟨[(d, .ms nm 0 n)], [(nm, .cells cs)]⟩, [], p)
      | none => none
    | _ => valD P T o d S H ht
  | .assign (.tmp t), some d => match isOwn (S t) && !Nat.beq t d with
    | true => some (⟨[(t, (S t).down), (d, S t)], []⟩, [], [])
    | false => valD P T o d S H ht
  | .move (.tmp t), some d => match feeds all.toList d && (isOwn (S t) && !Nat.beq t d) with
    | true => some (⟨[(t, (S t).down), (d, S t)], []⟩, [], [])
    | false => valD P T o d S H ht
  | .call { callee := .builtin .append, args, argTypes }, some d => match args.toList, argTypes.toList with
    | [.tmp tx, y], [t, t'] => match S tx, rd S y, T.ty t with
      | .sl false (.own el) es, .sl _ _ ys, .slice el' => match T.ty el, T.sz el, Nat.beq t t', Nat.beq el el', Nat.beq tx d with
        | .none, _, _, _, _ => none
        | _, 0, _, _, _ => none
        | _, _, true, true, false => some (⟨[(tx, (S tx).down), (d, .sl false (.own el) (es ++ ys))], []⟩, [], [.of (∀ z ∈ ys, z.length = T.sz el), .of (∀ z ∈ es, z.length = T.sz el), .of ((es.length + ys.length) * T.by' el ≤ 140737488355328), .of (es.length + ys.length ≤ maxLen)])
        | _, _, _, _, _ => none
      | _, _, _ => valD P T o d S H ht
    | _, _ => valD P T o d S H ht
  | .call { callee := .value f, args, argTypes }, some d => match ht, rd S f with
    | some [v, .sl false .any kl], .fn (.func g) fst cap => some (⟨[(d, v)], [(nm, .map (kvsOf kl))]⟩, [], [obP (NewMap P g (fst ++ rds S args.toList ++ cap) nm v (kvsOf kl))])
    | _, _ => valD P T o d S H ht
  | .makeMap t none, some d => some (⟨[(d, .mp nm)], [(nm, .map [])]⟩, [], [])
  | .mapUpdate t x k v, none => match T.ty t, rd S x with
    | .map kt et, .mp id => match H id with
      | some (.map kvs) => forceK (rd S k) fun k => some (⟨[], [(id, .map (upKV kvs k (rd S v).down (ixOf P kt kvs k)))]⟩, [id], [obP (∃ j, KeyAt P kt kvs k j)])
      | _ => none
    | _, _ => none
  | .mapEntry t x k, some d => match T.ty t, rd S x, ht with
    | .map kt et, .mp id, some [v] => match H id, T.ty et with
      | _, .none => none
      | some (.map kvs), _ => forceK (rd S k) fun k => some (⟨[(d, .tup [v, .int (match ixOf P kt kvs k with | some j => j | none => kvs.length)])], [(id, .map (upKV kvs k v (ixOf P kt kvs k)))]⟩, [id], [obP (∃ j, KeyAt P kt kvs k j), obP (v = lkA T et kvs (ixOf P kt kvs k))])
      | _, _ => none
    | _, _, _ => none
  | .entryStore t x st v, none => match rd S x, rd S st with
    | .mp id, .s (.int .i64 n) => match H id with
      | some (.map kvs) => some (⟨[], [(id, .map (kvs.set n.toNat ((kvs.getD n.toNat (.un, .un)).1, (rd S v).down)))]⟩, [id], [obP (0 ≤ n), obP (n.toNat < kvs.length)])
      | _ => none
    | _, _ => none
  | _, some d => valD P T o d S H ht
  | _, none => none
def gM (all : Array Oper) (nm : Nat) (o : Oper) (S : Slots) (H : Hp) (ht : Option (List A)) : Option (Eff × List Nat × List Ob) := match o.guard with
  | none => dM P T mb all nm o S H ht
  | some (j, want) => match (all[j]?).bind (·.dst), o.dst with
    | some t, some d => match gv (S t) want with
      | some q => match readsH H (gS o.op S) o.op with
        | (H', hr) => match evM P T (gS o.op S) H' ht o.op o.type with
          | some (v, p) => some (⟨[(d, .cnd q v)], []⟩, hr, under q (owed S ((opTmps o.op).filter (gset o.op))) ++ under q p)
          | none => none
      | none => none
    | _, _ => none
end
section
variable {X : Ctx} {T : Tab} {r : Option Nat} {mb : Nat → Bool} {o : Oper} {S : Slots} {H : Hp} {all : Array Oper}
theorem reads_ok {S : Slots} {op : Op} {H' : Hp} {hr : List Nat} (h : readsH H S op = (H', hr)) : ∀ H1 : Hp, (∀ id, id ∈ hr → H1 id = H id) → ∀ id bx, H' id = some bx → H1 id = some bx := by
  have one : ∀ i, H' = only H i → hr = [i] → ∀ H1 : Hp, (∀ id, id ∈ hr → H1 id = H id) → ∀ id bx, H' id = some bx → H1 id = some bx := by
    rintro i rfl rfl H1 h1 id bx hb
    by_cases e : id = i
    · subst e; rw [h1 id (by simp)]; simpa [only] using hb
    · simp [only, beq_no e] at hb
  have non : H' = (fun _ => none) → ∀ H1 : Hp, (∀ id, id ∈ hr → H1 id = H id) → ∀ id bx, H' id = some bx → H1 id = some bx := by
    rintro rfl H1 h1 id bx hb; cases hb
  unfold readsH at h
  split at h
  · split at h <;> (simp only [Prod.mk.injEq] at h; obtain ⟨rfl, rfl⟩ := h)
    · exact one _ rfl rfl
    · exact non rfl
  · split at h <;> (simp only [Prod.mk.injEq] at h; obtain ⟨rfl, rfl⟩ := h)
    · exact one _ rfl rfl
    · exact non rfl
  · split at h <;> (simp only [Prod.mk.injEq] at h; obtain ⟨rfl, rfl⟩ := h)
    · exact one _ rfl rfl
    · exact non rfl
  · simp only [Prod.mk.injEq] at h; obtain ⟨rfl, rfl⟩ := h; exact non rfl
theorem valD_fire (hT : T.Ok X.P) {d nm : Nat} {f : Eff} {hr : List Nat} {ht : Option (List A)} {p : List Ob} (hd : o.dst = some d) (h : valD X.P T o d S H ht = some (f, hr, p)) (hp : AllP p) : FireR X r o (opTmps o.op) hr S H f nm := by
  unfold valD at h
  split at h
  rename_i H' hr' hrd
  unfold effM at h
  split at h
  · rename_i v p' hev
    simp only [Option.some.injEq, Prod.mk.injEq] at h
    obtain ⟨rfl, rfl, rfl⟩ := h
    exact .of_P fun S' H1 c' h1 h2 => DoesP.valM hT hd ((evM_sound hev hp).congr h1 (reads_ok hrd H1 h2)) rfl
  · cases h
set_option maxHeartbeats 2000000 in
theorem dM_fire (hT : T.Ok X.P) {nm : Nat} {f : Eff} {hr : List Nat} {ht : Option (List A)} {p : List Ob} (h : dM X.P T mb all nm o S H ht = some (f, hr, p)) (hp : AllP p) : FireR X r o (opTmps o.op) hr S H f nm := by
  have plain : ∀ d, o.dst = some d → valD X.P T o d S H ht = some (f, hr, p) → FireR X r o (opTmps o.op) hr S H f nm := fun d hd h => valD_fire hT hd h hp
  have tm : ∀ {S' : Slots} {x : Operand}, x ∈ o.op.operands.toList → (∀ t, t ∈ opTmps o.op → S' t = S t) → rd S' x = rd S x := fun hx h => tmp_mem hx h
  unfold dM at h
  split at h
  · rename_i t d ho hd
    split at h
    · cases h
    · rename_i ht
      simp only [Option.some.injEq, Prod.mk.injEq] at h
      obtain ⟨rfl, rfl, rfl⟩ := h
      intro hdn S' H' c' φ Z a w hr h1 h2 hnm hlt next Q hn
      obtain ⟨dst, op, ty, pos, aft, gd⟩ := o
      simp only at ho hd; subst ho; subst hd
      obtain ⟨z, hz1, hz2⟩ := run_zero hT (w := w) ht
      exact wp_run (fun c => by simp) (by rw [ex_alloc, Sem.run_bind, run_alloc hz1]; rfl) (hn _ Z _ _ (fun k hk => by simp [beq_no hk])
        (hr.newCells (ty := t) (hdn d rfl) hnm (Nat.le_refl _) hlt (zero_vrc hz2) (.ref _ _ _ (by simp)) (fun p => by simp [spareOf])))
  · rename_i t x d ho hd
    split at h
    · split at h
      · rename_i hpk
        simp only [Option.some.injEq, Prod.mk.injEq] at h
        obtain ⟨rfl, rfl, rfl⟩ := h
        intro hdn S' H' c' φ Z a w hr h1 h2 hnm hlt next Q hn
        have hx : rd S' x = rd S x := tm (by rw [ho]; simp [Op.operands]) h1
        rw [← hx] at hpk hn
        obtain ⟨dst, op, ty, pos, aft, gd⟩ := o
        simp only at ho hd; subst ho; subst hd
        exact wp_run (v := .pointer (some ⟨w.heap.size, 0, none⟩)) (w' := w.alloc (.cells (a.eval x).cells t)) (fun c => by simp) (by rw [ex_box]; rfl)
          (hn _ Z _ _ (fun k hk => by simp [beq_no hk]) (hr.newCells (ty := t) (hdn d rfl) hnm (Nat.le_refl _) hlt (cells_vr (hr.sees.rd x) hpk) (.ref _ _ _ (by simp)) (fun p => by simp [spareOf])))
      · cases h
    · exact plain d hd h
  · rename_i t x d ho hd
    split at h
    · split at h
      · rename_i id off hx
        split at h
        · rename_i cs hl
          split at h
          · cases h
          · rename_i h2 h3
            simp only [Option.some.injEq, Prod.mk.injEq] at h
            obtain ⟨rfl, rfl, rfl⟩ := h
            refine .of_P fun S' H' c' k1 k2 => ?_
            have ex : rd S' x = rd S x := tm (by rw [ho]; simp [Op.operands]) k1
            exact DoesP.loadTake hT ho hd (by show rd S' x = _; rw [ex]; exact hx) (by show H' id = _; rw [k2 id (by simp)]; exact hl) (by assumption) (by assumption) hp.1 rfl
          · cases h
        · cases h
      · cases h
    · exact plain d hd h
  · rename_i t x v ho hd
    split at h
    · rename_i id off hx
      split at h
      · cases h
      · rename_i cs hl ht
        split at h
        · rename_i tv how
          simp only [Option.some.injEq, Prod.mk.injEq] at h
          obtain ⟨rfl, rfl, rfl⟩ := h
          refine .of_P fun S' H' c' k1 k2 => ?_
          have ex : rd S' x = rd S x := tm (by rw [ho]; simp [Op.operands]) k1
          have et : S' tv = S tv := k1 tv (by rw [ho]; exact mem_opTmps (by simp [Op.operands]))
          have how : isOwn (S tv) = true := how
          refine DoesP.storeOwn hT ho hd (by show rd S' x = _; rw [ex]; exact hx) (by show H' id = _; rw [k2 id (by simp)]; exact hl) ht (own_one (by show isOwn (S' tv) = _; rw [et]; exact how)) hp.1 hp.2.1 ?_
          show (⟨upd S' tv (S' tv).down, updH H' id (some (.cells (setSeg cs off [S' tv]))), c'⟩ : St) = _
          rw [et]; rfl
        split at h
        · rename_i v v' bb hne b2 h1
          simp only [Option.some.injEq, Prod.mk.injEq] at h
          obtain ⟨rfl, rfl, rfl⟩ := h
          refine .of_P fun S' H' c' k1 k2 => ?_
          have ex : rd S' x = rd S x := tm (by rw [ho]; simp [Op.operands]) k1
          have ev : rd S' v = rd S v := tm (by rw [ho]; simp [Op.operands]) k1
          refine DoesP.store hT ho hd (by show rd S' x = _; rw [ex]; exact hx) (by show H' id = _; rw [k2 id (by simp)]; exact hl) ht (by show okPart (rd S' v) = _; rw [ev]; exact h1) (by show (cellsA (rd S' v)).length = _; rw [ev]; exact hp.1) hp.2.1 ?_
          show (⟨S', updH H' id (some (.cells (setSeg cs off ((cellsA (rd S' v)).map A.down)))), c'⟩ : St) = _
          rw [ev]; rfl
        · cases h
      · cases h
    · cases h
  · rename_i t x y d ho hd
    split at h
    · rename_i n m el h1 h2 h3
      split at h
      · cases h
      · rename_i h4
        simp only [Option.some.injEq, Prod.mk.injEq] at h
        obtain ⟨rfl, rfl, rfl⟩ := h
        obtain ⟨k0, k1, k2, k3, _⟩ := hp
        have k0 : m = n := k0
        subst k0
        intro hdn S' H' c' φ Z a w hr q1 q2 hnm hlt next Q hn
        have ex : rd S' x = rd S x := tm (by rw [ho]; simp [Op.operands]) q1
        have ey : rd S' y = rd S y := tm (by rw [ho]; simp [Op.operands]) q1
        rw [← ex] at h1; rw [← ey] at h2
        obtain ⟨dst, op, ty, pos, aft, gd⟩ := o
        simp only at ho hd; subst ho; subst hd
        obtain ⟨i, hi, hi1, hi2, z, hiz, hzf⟩ := hT.inf el h4
        have e1 := inv_s (h1 ▸ hr.sees.rd x)
        have e2 := inv_s (h2 ▸ hr.sees.rd y)
        have k2' : m ≤ maxLen := k2
        have k3' : (T.by' el : Int) * m ≤ 140737488355328 := k3
        have hrun := run_make (P := X.P) w t el i z (und_slice hT h3) hi hiz .i64 .i64 m m k1 (Int.le_refl _) (by rw [hi2]; omega) (by simp only [maxLen] at k2'; omega)
        have hv : VRc φ Z w ((List.range (m.toNat * T.sz el)).map fun j => (T.zr el).getD (j % T.sz el) .un) (madeCells z.cells (m.toNat * i.size)) := by
          have hz := zero_vrc (φ := φ) (Z := Z) (w := w) hzf
          refine ⟨by rw [size_madeCells, hi1]; simp, fun j hj => ?_⟩
          have hj' : j < m.toNat * T.sz el := by simpa using hj
          have hpos : 0 < T.sz el := Nat.pos_of_ne_zero fun h => by rw [h] at hj'; simp at hj'
          have hmod : j % T.sz el < T.sz el := Nat.mod_lt _ hpos
          have h3 := hz.2 (j % T.sz el) (by rw [hzf.2.1]; exact hmod)
          have g1 : (madeCells z.cells (m.toNat * i.size)).getD j undef = z.cells.getD (j % T.sz el) undef := by
            have h5 : j % T.sz el < z.cells.size := by rw [hzf.1]; exact hmod
            simp [madeCells, Array.getD_eq_getD_getElem?, hi1, hj', hzf.1, h5, getElem!_pos z.cells (j % T.sz el) h5]
            rw [Array.getElem?_eq_getElem h5]; rfl
          have g2 : ((List.range (m.toNat * T.sz el)).map fun j => (T.zr el).getD (j % T.sz el) .un).getD j .un = (T.zr el).getD (j % T.sz el) .un := by
            simp [List.getD_eq_getElem?_getD, hj']
          rw [g1, g2]
          exact h3
        refine wp_run (fun c => by simp) (by rw [ex_makeSlice, Sem.run_bind, e1, e2, hrun]; rfl) (hn _ Z _ _ (fun k hk => by simp [beq_no hk]) (hr.newCells (ty := el) (hdn d rfl) hnm (Nat.le_refl _) hlt hv ?_ (fun p => by simp [spareOf])))
        exact .ms _ _ _ _ _ (by simp) (Nat.le_refl _) (by omega)
    · cases h
  · rename_i t n parts d ho hd
    split at h
    · split at h
      · rename_i cs p' hl
        simp only [Option.some.injEq, Prod.mk.injEq] at h
        obtain ⟨rfl, rfl, rfl⟩ := h
        intro hdn S' H' c' φ Z a w hr q1 q2 hnm hlt next Q hn
        have hlS : litW T S' t n parts = some (cs, p') := by
          have e1 : ∀ p ∈ parts.toList, rd S' p.2 = rd S p.2 := fun p hp => tm (by rw [ho]; simp only [Op.operands]; exact (by simpa using ⟨p.1, by simpa using hp⟩)) q1
          have e2 : (parts.toList.map fun p => rd S' p.2) = parts.toList.map fun p => rd S p.2 := List.map_congr_left e1
          unfold litW at hl ⊢
          rw [e2]; exact hl
        obtain ⟨dst, op, ty, pos, aft, gd⟩ := o
        simp only at ho hd
        subst ho; subst hd
        obtain ⟨e, cs0, cells', rfl, k1, k2, k3⟩ := litW_run hT hr.sees hlS hp
        exact wp_run (fun c => by simp) (by rw [ex_lit, Sem.run_bind, k2]; rfl) (hn _ Z _ _ (fun k hk => by simp [beq_no hk]) (hr.newCells (ty := e) (hdn d rfl) hnm (Nat.le_refl _) hlt k1 (.ms _ _ _ _ _ (by simp) (Nat.le_refl _) k3) (fun p => by simp [spareOf])))
      · cases h
    · exact plain d hd h
  · rename_i t d ho hd
    split at h
    · rename_i h1
      simp only [Bool.and_eq_true, Bool.not_eq_true'] at h1
      simp only [Option.some.injEq, Prod.mk.injEq] at h
      obtain ⟨rfl, rfl, rfl⟩ := h
      refine .of_P fun S' H' c' k1 k2 => ?_
      have et : S' t = S t := k1 t (by rw [ho]; simp [opTmps, Op.operands])
      refine DoesP.take (.inr ho) hd (fun e1 => by subst e1; simp at h1) ?_
      show (⟨upd (upd S' t (S' t).down) d (S' t), H', c'⟩ : St) = _
      rw [et]; rfl
    · exact plain d hd h
  · rename_i t d ho hd
    split at h
    · rename_i h1
      simp only [Bool.and_eq_true, Bool.not_eq_true'] at h1
      simp only [Option.some.injEq, Prod.mk.injEq] at h
      obtain ⟨rfl, rfl, rfl⟩ := h
      refine .of_P fun S' H' c' k1 k2 => ?_
      have et : S' t = S t := k1 t (by rw [ho]; simp [opTmps, Op.operands])
      refine DoesP.take (.inl ho) hd (fun e1 => by subst e1; simp at h1) ?_
      show (⟨upd (upd S' t (S' t).down) d (S' t), H', c'⟩ : St) = _
      rw [et]; rfl
    · exact plain d hd h
  · rename_i args at' d ho hd
    split at h
    · rename_i tx y t t' ha ht
      obtain rfl := two_arg ha
      obtain rfl := two_arg ht
      split at h
      · rename_i el es nil2 cap2 ys el' h1 h2 h3
        split at h
        · cases h
        · cases h
        · rename_i h4 h5 h6 h7 h8
          obtain rfl := Nat.eq_of_beq_eq_true h4
          obtain rfl := Nat.eq_of_beq_eq_true h5
          simp only [Option.some.injEq, Prod.mk.injEq] at h
          obtain ⟨rfl, rfl, rfl⟩ := h
          refine .of_P fun S' H' c' j1 j2 => ?_
          have et : S' tx = S tx := j1 tx (by rw [ho]; simp [opTmps, Op.operands, Call.operands])
          have ey : rd S' y = rd S y := tm (by rw [ho]; simp [Op.operands, Call.operands]) j1
          refine DoesP.appOwn hT ho hd h3 (by assumption) (Nat.pos_of_ne_zero (by assumption)) (by show S' tx = _; rw [et]; exact h1) (by show rd S' y = _; rw [ey]; exact h2) (fun e => by subst e; simp at h6) (fun z hz => (List.mem_append.1 hz).elim (hp.2.1 z) (hp.1 z)) hp.2.2.1 hp.2.2.2.1 ?_
          show (⟨upd (upd S' tx (S' tx).down) d _, H', c'⟩ : St) = _
          rw [et]; rfl
        · cases h
      · exact plain d hd h
    · exact plain d hd h
  · rename_i f args at' d ho hd
    split at h
    · rename_i hf
      simp only [Option.some.injEq, Prod.mk.injEq] at h
      obtain ⟨rfl, rfl, rfl⟩ := h
      exact NewMap.fire ho hd hf hp.1
    · exact plain d hd h
  · rename_i t d ho hd
    simp only [Option.some.injEq, Prod.mk.injEq] at h
    obtain ⟨rfl, rfl, rfl⟩ := h
    intro hdn S' H' c' φ Z a w hr h1 h2 hnm hlt next Q hn
    obtain ⟨dst, op, ty, pos, aft, gd⟩ := o
    simp only at ho hd; subst ho; subst hd
    have m : More w (w.alloc (.map #[] 0)) Z Z := ⟨Quiet.alloc _ _, fun _ _ h => h, fun _ _ h _ => h, fun b o hz hb => by have := hr.zlt hz; omega⟩
    have h1 := hr.newBox (bx := .map []) (b := w.heap.size) (nm := nm) (c' := c') m hnm (Nat.le_refl _) hlt (Nat.le_refl _) (fun o hz => by have := hr.zlt hz; omega)
      ⟨#[], heap_alloc_new w _, rfl, fun i hi => by simp at hi⟩ (fun j v p => by simp [cellOf, spareOf])
    have h2 := h1.put_down h1.more_refl (hdn d rfl) (x := .mp nm) (v := .map (some w.heap.size)) (.mp _ _ (by simp)) (fun p => by simp [spareOf])
    exact wp_run (v := .map (some w.heap.size)) (w' := w.alloc (.map #[] 0)) (fun c => by simp) (by rw [ex_makeMap]; rfl) (hn _ Z _ _ (fun k hk => by simp [beq_no hk]) h2)
  · rename_i t x k v ho hd
    split at h
    · rename_i kt et id ht hx
      split at h
      · rename_i kvs hl
        simp only [forceK_eq, Option.some.injEq, Prod.mk.injEq] at h
        obtain ⟨rfl, rfl, rfl⟩ := h
        obtain ⟨⟨j, hj⟩, _⟩ := hp
        rw [hj.ix]
        obtain ⟨ks, kv, k1, k2, k3, k4, k5, k6⟩ := hj.ex
        refine .of_P fun S' H' c' q1 q2 => ?_
        have ex : rd S' x = rd S x := tm (by rw [ho]; simp [Op.operands]) q1
        have ek : rd S' k = rd S k := tm (by rw [ho]; simp [Op.operands]) q1
        have ev : rd S' v = rd S v := tm (by rw [ho]; simp [Op.operands]) q1
        refine DoesP.mapUpdate hT ho hd ht (by show rd S' x = _; rw [ex]; exact hx) (by show H' id = _; rw [q2 id (by simp)]; exact hl) (by show concA (rd S' k) = _; rw [ek]; exact k1) k2 k4 k5 k6 ?_
        show (⟨S', updH H' id (some (.map (upKV kvs (rd S' k) (rd S' v).down j))), c'⟩ : St) = _
        rw [ek, ev]; rfl
      · cases h
    · cases h
  · rename_i t x k d ho hd
    split at h
    · rename_i kt et id v ht hx
      split at h
      · cases h
      · rename_i kvs hl he
        simp only [forceK_eq, Option.some.injEq, Prod.mk.injEq] at h
        obtain ⟨rfl, rfl, rfl⟩ := h
        obtain ⟨⟨j, hj⟩, hv, _⟩ := hp
        have hv : v = _ := hv
        rw [hj.ix] at hv ⊢
        subst hv
        obtain ⟨ks, kv, k1, k2, k3, k4, k5, k6⟩ := hj.ex
        refine .of_P fun S' H' c' q1 q2 => ?_
        have ex : rd S' x = rd S x := tm (by rw [ho]; simp [Op.operands]) q1
        have ek : rd S' k = rd S k := tm (by rw [ho]; simp [Op.operands]) q1
        refine DoesP.mapEntry hT ho hd ht (by assumption) (by show rd S' x = _; rw [ex]; assumption) (by show H' id = _; rw [q2 id (by simp)]; assumption) (by show concA (rd S' k) = _; rw [ek]; exact k1) k2 k4 k5 k6 ?_
        show (⟨upd S' d _, updH H' id (some (.map (upKV kvs (rd S' k) (lkA T et kvs j) j))), c'⟩ : St) = _
        rw [ek]; cases j <;> rfl
      · cases h
    · cases h
  · rename_i t x st v ho hd
    split at h
    · rename_i id n hx hst
      split at h
      · rename_i kvs hl
        simp only [Option.some.injEq, Prod.mk.injEq] at h
        obtain ⟨rfl, rfl, rfl⟩ := h
        obtain ⟨h0, h1, _⟩ := hp
        have h0 : 0 ≤ n := h0
        refine .of_P fun S' H' c' q1 q2 => ?_
        have ex : rd S' x = rd S x := tm (by rw [ho]; simp [Op.operands]) q1
        have es : rd S' st = rd S st := tm (by rw [ho]; simp [Op.operands]) q1
        have ev : rd S' v = rd S v := tm (by rw [ho]; simp [Op.operands]) q1
        refine DoesP.entryStore hT ho hd (by show rd S' x = _; rw [ex]; exact hx) (by show H' id = _; rw [q2 id (by simp)]; exact hl) (by show rd S' st = _; rw [es, Int.toNat_of_nonneg h0]; exact hst) h1 ?_
        show (⟨S', updH H' id (some (.map (kvs.set n.toNat ((kvs.getD n.toNat (.un, .un)).1, (rd S' v).down)))), c'⟩ : St) = _
        rw [ev]; rfl
      · cases h
    · cases h
  · exact plain _ (by assumption) h
  · cases h
theorem gM_fire (hT : T.Ok X.P) {nm : Nat} {f : Eff} {hr : List Nat} {ht : Option (List A)} {p : List Ob} (h : gM X.P T mb all nm o S H ht = some (f, hr, p)) (hp : AllP p) : FireOk X r all o (rst all o) hr S H f nm := by
  unfold gM at h
  split at h
  · rename_i hg
    intro hd S' H' c' φ Z a w hr' h1 h2 h3 h4 next Q hn
    unfold StepW
    rw [if_pos (wanted_none hg _)]
    exact dM_fire hT h hp hd S' H' c' φ Z a w hr' (fun t ht => h1 t (List.mem_append_left _ ht)) h2 h3 h4 next Q hn
  · rename_i j want hg
    split at h
    · rename_i t d hj hd
      split at h
      · rename_i q hS
        split at h
        rename_i H1 hr1 hrd
        split at h
        · rename_i v p' hev
          simp only [Option.some.injEq, Prod.mk.injEq] at h
          obtain ⟨rfl, rfl, rfl⟩ := h
          rw [AllP.append] at hp
          intro hdn S' H' c' φ Z a w hr' h1 h2 h3 h4 next Q hn
          have ht' : gv (S' t) want = some q := by rw [h1 t (List.mem_append_right _ (by simp [guardTmps, hg, hj])), hS]
          have hop : ∀ t', t' ∈ opTmps o.op → S' t' = S t' := fun t' ht' => h1 t' (List.mem_append_left _ ht')
          exact step_valgM (s := ⟨S', H', c'⟩) hT hg hj ht' hd (fun hq t' ht' hg' => by show guardOf (S' t') = true; rw [hop t' ht']; exact owed_ok (under_ok hp.1 hq) t' (List.mem_filter.2 ⟨ht', hg'⟩))
            (fun hq => (evM_sound hev (under_ok hp.2 hq)).congr (fun t' ht' => by show gS o.op S' t' = gS o.op S t'; unfold gS; rw [hop t' ht']) (reads_ok hrd H' h2)) hdn hr'
            fun Z' a' w' hr2 => hn φ Z' a' w' (fun _ _ => rfl) hr2
        · cases h
      · cases h
    · cases h
end
def runMD (P : Program) (T : Tab) (mb : Nat → Bool) (all : Array Oper) (c0 : Nat) (hs : List (Nat × List A)) : List Oper → Nat → Slots → Hp → List Ob → Option (Slots × Hp × List (Eff × List Nat) × List Ob)
  | [], _, S, H, ob => some (S, H, [], ob)
  | o :: l, i, S, H, ob => match gM P T mb all (c0 + i) o S H (lkHint hs i) with
    | some (f, hr, p) => match f.ws.all fun q => (wstM all o).any (Nat.beq q.1) with
      | true => forceO p ob fun ob => match runMD P T mb all c0 hs l (i + 1) (apS S f.ws) (apH H f.hs) ob with
        | some (S', H', fs, ob') => some (S', H', (f, hr) :: fs, ob')
        | none => none
      | false => none
    | none => none
theorem runMD_ok {X : Ctx} {T : Tab} {r : Option Nat} {mb : Nat → Bool} {all : Array Oper} {c0 : Nat} {hs : List (Nat × List A)} (hT : T.Ok X.P) : ∀ (l : List Oper) (i : Nat) {S S' : Slots} {H H' : Hp} {fs : List (Eff × List Nat)} {ob ob' : List Ob},
    runMD X.P T mb all c0 hs l i S H ob = some (S', H', fs, ob') → AllP ob' →
    AllP ob ∧ fs.length = l.length ∧ S' = apAll S (fs.map (·.1)) ∧ H' = apAllH H (fs.map (·.1)) ∧
    ∀ k o f hr, l[k]? = some o → fs[k]? = some (f, hr) → FireOk X r all o (rst all o) hr (apAll S ((fs.map (·.1)).take k)) (apAllH H ((fs.map (·.1)).take k)) f (c0 + (i + k)) ∧ ∀ t, t ∈ f.ws.map (·.1) → t ∈ wstM all o
  | [], i, S, S', H, H', fs, ob, ob', h, ho => by
    simp only [runMD, Option.some.injEq, Prod.mk.injEq] at h
    obtain ⟨rfl, rfl, rfl, rfl⟩ := h
    exact ⟨ho, rfl, rfl, rfl, fun k o f hr h => by simp at h⟩
  | o :: l, i, S, S', H, H', fs, ob, ob', h, ho => by
    unfold runMD at h
    split at h
    · rename_i f hr p hst
      split at h
      · rename_i hws
        rw [forceO_eq] at h
        split at h
        · rename_i S1 H1 fs1 ob1 hrun
          simp only [Option.some.injEq, Prod.mk.injEq] at h
          obtain ⟨rfl, rfl, rfl, rfl⟩ := h
          obtain ⟨k0, k1, k2, k3, k4⟩ := runMD_ok (r := r) hT l (i + 1) hrun ho
          rw [AllP.append] at k0
          refine ⟨k0.2, by simp [k1], k2, k3, fun k o' f' hr' ho' hf => ?_⟩
          cases k with
          | zero =>
            simp only [List.getElem?_cons_zero, Option.some.injEq] at ho' hf
            subst ho'; cases hf
            refine ⟨gM_fire hT hst k0.1, fun t ht => ?_⟩
            obtain ⟨p, hp, rfl⟩ := List.mem_map.1 ht
            have := List.all_eq_true.1 hws p hp
            obtain ⟨y, hy, hy2⟩ := List.any_eq_true.1 this
            rw [Nat.eq_of_beq_eq_true hy2]; exact hy
          | succ k =>
            have := k4 k o' f' hr' (by simpa using ho') (by simpa using hf)
            rw [show i + 1 + k = i + (k + 1) by omega] at this
            exact this
        · cases h
      · cases h
    · cases h
def confB (ms : List Nat) (b m : Nat) (W R : Nat → List Nat) : Bool := (List.range m).all fun i => match W i with
  | [] => true
  | _ => (List.range m).all fun j => Nat.beq i j || (cond (Nat.blt i j) ((ms.getD (b + j) 0).testBit (b + i)) ((ms.getD (b + i) 0).testBit (b + j)) || (disj (W i) (W j) && disj (W i) (R j)))
theorem confB_at {ms : List Nat} {b m : Nat} {W R : Nat → List Nat} (h : confB ms b m W R = true) {i j : Nat} (hi : i < m) (hj : j < m) (hne : i ≠ j) (hb : cond (Nat.blt i j) ((ms.getD (b + j) 0).testBit (b + i)) ((ms.getD (b + i) 0).testBit (b + j)) = false) :
    ∀ t, t ∈ W i → t ∉ W j ∧ t ∉ R j := fun t ht => by
  have h1 := List.all_eq_true.1 h i (List.mem_range.2 hi)
  split at h1
  · rename_i e; rw [e] at ht; cases ht
  · have h2 := List.all_eq_true.1 h1 j (List.mem_range.2 hj)
    rw [beq_no hne, hb] at h2
    simp only [Bool.false_or, Bool.and_eq_true] at h2
    exact ⟨disj_ok h2.1 t ht, disj_ok h2.2 t ht⟩
theorem confB_ok {ms : List Nat} {b m : Nat} {W R : Nat → List Nat} (h : confB ms b m W R = true) {i j : Nat} (hij : i < j) (hj : j < m) (hb : (ms.getD (b + j) 0).testBit (b + i) = false) :
    (∀ t, t ∈ W i → t ∉ R j ∧ t ∉ W j) ∧ ∀ t, t ∈ R i → t ∉ W j := by
  refine ⟨fun t ht => ?_, fun t ht hw => ?_⟩
  · have := confB_at h (show i < m by omega) hj (by omega) (by rw [blt_of hij]; exact hb) t ht
    exact ⟨this.2, this.1⟩
  · exact (confB_at h hj (show i < m by omega) (by omega) (by rw [blt_no (by omega)]; exact hb) t hw).2 ht
def barB (ms : List Nat) (b m n : Nat) : Bool := (List.range n).all fun i => Nat.blt i (b + m) || (List.range m).all fun k => (ms.getD i 0).testBit (b + k)
theorem barB_ok {ms : List Nat} {b m n : Nat} (h : barB ms b m n = true) : ∀ i k, b + m ≤ i → i < n → b ≤ k → k < b + m → (ms.getD i 0).testBit k = true := fun i k h1 h2 h3 h4 => by
  have := List.all_eq_true.1 h i (List.mem_range.2 h2)
  rw [blt_no (by omega), Bool.false_or] at this
  have := List.all_eq_true.1 this (k - b) (List.mem_range.2 (by omega))
  rwa [show b + (k - b) = k by omega] at this
def opsW (all : Array Oper) (b : Nat) (i : Nat) : List Nat := match all.toList[b + i]? with | some o => wstM all o | none => []
def opsR (all : Array Oper) (b : Nat) (i : Nat) : List Nat := match all.toList[b + i]? with | some o => rst all o | none => []
def namesW (fs : List (Eff × List Nat)) (i : Nat) : List Nat := match fs[i]? with | some p => p.1.hs.map (·.1) | none => []
def namesR (fs : List (Eff × List Nat)) (i : Nat) : List Nat := match fs[i]? with | some p => p.2 | none => []
def pieceOk (ops : Array Oper) (b m : Nat) : Bool := edgesOk ops.toList 0 && (Nat.ble (b + m) ops.size && (barB (masks ops.toList []) b m ops.size && confB (masks ops.toList []) b m (opsW ops b) (opsR ops b)))
section
variable {X : Ctx} {T : Tab} {r : Option Nat} {mb : Nat → Bool} {ops : Array Oper} {Q : Exit → St → Prop} {s : St}
theorem SegW.run (hT : T.Ok X.P) (mb : Nat → Bool) {b : Nat} (m : Nat) (hs : List (Nat × List A)) (hd : dstsOk X.nt ops = true) (hp : pieceOk ops b m = true) {S' : Slots} {H' : Hp} {fs : List (Eff × List Nat)} {ob : List Ob}
    (h : runMD X.P T mb ops s.c hs ((ops.toList.drop b).take m) 0 s.S s.H [] = some (S', H', fs, ob)) (hc : confB (masks ops.toList []) b m (namesW fs) (namesR fs) = true) (ho : AllP ob)
    (k : SegW X r ops Q (b + m) ⟨S', H', s.c + m⟩) : SegW X r ops Q b s := by
  simp only [pieceOk, Bool.and_eq_true] at hp
  obtain ⟨he, hle, hbar, hcs⟩ := hp
  have hle := Nat.le_of_ble_eq_true hle
  obtain ⟨_, k1, k2, k3, k4⟩ := runMD_ok (X := X) (r := r) hT _ _ h ho
  have hlen : fs.length = m := by rw [k1, List.length_take, List.length_drop]; simp; omega
  have hlen2 : (fs.map (·.1)).length = m := by simpa using hlen
  have at0 : ∀ i o, i < m → ops.toList[b + i]? = some o → ((ops.toList.drop b).take m)[i]? = some o := fun i o hi ho => by
    rw [List.getElem?_take, if_pos hi, List.getElem?_drop]; exact ho
  have at1 : ∀ i f, (fs.map (·.1))[i]? = some f → ∃ hr o, fs[i]? = some (f, hr) ∧ ops.toList[b + i]? = some o ∧ i < m := fun i f hf => by
    have hi : i < m := by rw [← hlen2]; exact (List.getElem?_eq_some_iff.1 hf).1
    obtain ⟨p, hp, rfl⟩ : ∃ p, fs[i]? = some p ∧ p.1 = f := by simpa [List.getElem?_map] using hf
    exact ⟨p.2, ops.toList[b + i]'(by simp; omega), hp, by simp [show b + i < ops.size by omega], hi⟩
  refine SegW.draw (fs.map (·.1)) ((List.range m).map (opsR ops b)) (fs.map (·.2)) hd he (by omega) ?_ ?_ ?_ ?_
  · intro i j fi fj hij hi hj hb
    obtain ⟨hri, oi, a1, a2, a3⟩ := at1 i fi hi
    obtain ⟨hrj, oj, b1, b2, b3⟩ := at1 j fj hj
    have s1 := confB_ok hcs hij b3 hb
    have s2 := confB_ok hc hij b3 hb
    simp only [opsW, opsR, a2, b2] at s1
    simp only [namesW, namesR, a1, b1] at s2
    have wi := (k4 i oi fi hri (at0 i oi a3 a2) a1).2
    have wj := (k4 j oj fj hrj (at0 j oj b3 b2) b1).2
    have gi : ((List.range m).map (opsR ops b)).getD i [] = rst ops oi := by simp [List.getD_eq_getElem?_getD, List.getElem?_map, a3, opsR, a2, show (ops.toList[b + i]?) = some oi from a2]
    have gj : ((List.range m).map (opsR ops b)).getD j [] = rst ops oj := by simp [List.getD_eq_getElem?_getD, List.getElem?_map, b3, opsR, b2, show (ops.toList[b + j]?) = some oj from b2]
    have hi' : (fs.map (·.2)).getD i [] = hri := by simp [List.getD_eq_getElem?_getD, List.getElem?_map, a1]
    have hj' : (fs.map (·.2)).getD j [] = hrj := by simp [List.getD_eq_getElem?_getD, List.getElem?_map, b1]
    rw [gi, gj, hi', hj']
    exact ⟨⟨fun t ht => ⟨(s1.1 t (wi t ht)).1, fun ht' => (s1.1 t (wi t ht)).2 (wj t ht')⟩, fun t ht ht' => s1.2 t ht (wj t ht')⟩, s2⟩
  · intro i k hi hi2 hk hk2
    rw [hlen2] at hi hk2
    exact barB_ok hbar i k hi hi2 hk hk2
  · intro i o f ho hf L _
    refine FireOk.g ?_
    obtain ⟨hr, o', a1, a2, a3⟩ := at1 i f hf
    have : o' = o := by rw [Array.getElem?_toList, ho] at a2; cases a2; rfl
    subst this
    have := (k4 i o' f hr (at0 i o' a3 a2) a1).1
    have gi : ((List.range m).map (opsR ops b)).getD i [] = rst ops o' := by simp [List.getD_eq_getElem?_getD, List.getElem?_map, a3, opsR, a2, show (ops.toList[b + i]?) = some o' from a2]
    have hi' : (fs.map (·.2)).getD i [] = hr := by simp [List.getD_eq_getElem?_getD, List.getElem?_map, a1]
    have p1 := LS_prefix (fs.map (·.1)) 0 i s.S
    have p2 := LH_prefix (fs.map (·.1)) 0 i s.H
    rw [Nat.zero_add] at p1 p2
    rw [gi, hi', p1, p2]
    simpa using this
  · have p1 := LS_prefix (fs.map (·.1)) 0 (fs.map (·.1)).length s.S
    have p2 := LH_prefix (fs.map (·.1)) 0 (fs.map (·.1)).length s.H
    rw [Nat.zero_add, List.take_length] at p1 p2
    rw [p1, p2, hlen2, ← k2, ← k3]
    exact k
def relax (i0 : Nat) (f : Nat → List Nat) : Nat → List Nat := fun i => cond (Nat.beq i i0) [] (f i)
theorem lookup_soft (hT : T.Ok X.P) {o : Oper} {d t kt et id nm : Nat} {x k : Operand} {v : A} {S0 : Slots} {H0 : Hp} {G : Hp → Prop} (ho : o.op = .lookup t x k false) (hd : o.dst = some d) (hg : o.guard = none) (ht : T.ty t = .map kt et) (he : T.ty et ≠ .none)
    (hx : rd S0 x = .mp id) (hl : ∀ H', G H' → ∃ kvs is, H' id = some (.map kvs) ∧ LkIs X.P T kt et kvs (rd S0 k) v is) : FireG X r ops o (rst ops o) [] S0 H0 ⟨[(d, v)], []⟩ nm G := by
  intro hdn S' H' c' φ Z a w hr h1 h2 hG h5 h6 next Q hn
  unfold StepW
  rw [if_pos (wanted_none hg _)]
  obtain ⟨kvs, is, q1, q2⟩ := hl H' hG
  have tm : ∀ {x : Operand}, x ∈ o.op.operands.toList → rd S' x = rd S0 x := fun hx => tmp_mem hx fun t ht => h1 t (List.mem_append_left _ ht)
  have hx' : rd S' x = .mp id := by rw [tm (by rw [ho]; simp [Op.operands])]; exact hx
  have hk' : rd S' k = rd S0 k := tm (by rw [ho]; simp [Op.operands])
  have hop : OpM X.P T S' H' o.op o.type v := by
    rw [ho]
    exact OpM.lk (ok := false) ht he hx' q1 (by rw [hk']; exact q2)
  exact DoesP.valM (s := ⟨S', H', c'⟩) (K := fun s => s = ⟨upd S' d v, H', c'⟩) hT hd hop rfl hdn φ Z a w hr next Q fun s' Z' a' w' hs hr' => hn φ Z' a' w' (fun _ _ => rfl) (by subst hs; exact hr')
theorem SegW.runS (i0 : Nat) (hT : T.Ok X.P) (mb : Nat → Bool) {b : Nat} (m : Nat) (hs : List (Nat × List A)) (hd : dstsOk X.nt ops = true) (hp : pieceOk ops b m = true) {S' : Slots} {H' : Hp} {fs : List (Eff × List Nat)} {ob : List Ob}
    (h : runMD X.P T mb ops s.c hs ((ops.toList.drop b).take m) 0 s.S s.H [] = some (S', H', fs, ob)) (hc : confB (masks ops.toList []) b m (namesW fs) (relax i0 (namesR fs)) = true)
    (soft : ∀ o f (L : Nat → Bool), ops[b + i0]? = some o → (fs.map (·.1))[i0]? = some f → (∀ j, j < m → i0 < j → ((masks ops.toList []).getD (b + j) 0).testBit (b + i0) = true → L j = false) →
      FireG X r ops o (rst ops o) [] (LS (fun k => Nat.blt k i0) (fs.map (·.1)) 0 s.S) (LH (fun k => Nat.blt k i0) (fs.map (·.1)) 0 s.H) f (s.c + i0) (fun H' => H' = LH L (fs.map (·.1)) 0 s.H)) (ho : AllP ob)
    (k : SegW X r ops Q (b + m) ⟨S', H', s.c + m⟩) : SegW X r ops Q b s := by
  simp only [pieceOk, Bool.and_eq_true] at hp
  obtain ⟨he, hle, hbar, hcs⟩ := hp
  have hle := Nat.le_of_ble_eq_true hle
  obtain ⟨_, k1, k2, k3, k4⟩ := runMD_ok (X := X) (r := r) hT _ _ h ho
  have hlen : fs.length = m := by rw [k1, List.length_take, List.length_drop]; simp; omega
  have hlen2 : (fs.map (·.1)).length = m := by simpa using hlen
  have at0 : ∀ i o, i < m → ops.toList[b + i]? = some o → ((ops.toList.drop b).take m)[i]? = some o := fun i o hi ho => by
    rw [List.getElem?_take, if_pos hi, List.getElem?_drop]; exact ho
  have at1 : ∀ i f, (fs.map (·.1))[i]? = some f → ∃ hr o, fs[i]? = some (f, hr) ∧ ops.toList[b + i]? = some o ∧ i < m := fun i f hf => by
    have hi : i < m := by rw [← hlen2]; exact (List.getElem?_eq_some_iff.1 hf).1
    obtain ⟨p, hp, rfl⟩ : ∃ p, fs[i]? = some p ∧ p.1 = f := by simpa [List.getElem?_map] using hf
    exact ⟨p.2, ops.toList[b + i]'(by simp; omega), hp, by simp [show b + i < ops.size by omega], hi⟩
  refine SegW.draw (fs.map (·.1)) ((List.range m).map (opsR ops b)) ((List.range m).map (relax i0 (namesR fs))) hd he (by omega) ?_ ?_ ?_ ?_
  · intro i j fi fj hij hi hj hb
    obtain ⟨hri, oi, a1, a2, a3⟩ := at1 i fi hi
    obtain ⟨hrj, oj, b1, b2, b3⟩ := at1 j fj hj
    have s1 := confB_ok hcs hij b3 hb
    have s2 := confB_ok hc hij b3 hb
    simp only [opsW, opsR, a2, b2] at s1
    simp only [namesW, namesR, a1, b1] at s2
    have wi := (k4 i oi fi hri (at0 i oi a3 a2) a1).2
    have wj := (k4 j oj fj hrj (at0 j oj b3 b2) b1).2
    have gi : ((List.range m).map (opsR ops b)).getD i [] = rst ops oi := by simp [List.getD_eq_getElem?_getD, List.getElem?_map, a3, opsR, a2, show (ops.toList[b + i]?) = some oi from a2]
    have gj : ((List.range m).map (opsR ops b)).getD j [] = rst ops oj := by simp [List.getD_eq_getElem?_getD, List.getElem?_map, b3, opsR, b2, show (ops.toList[b + j]?) = some oj from b2]
    have hi' : ((List.range m).map (relax i0 (namesR fs))).getD i [] = relax i0 (namesR fs) i := by simp [List.getD_eq_getElem?_getD, List.getElem?_map, a3]
    have hj' : ((List.range m).map (relax i0 (namesR fs))).getD j [] = relax i0 (namesR fs) j := by simp [List.getD_eq_getElem?_getD, List.getElem?_map, b3]
    rw [gi, gj, hi', hj']
    exact ⟨⟨fun t ht => ⟨(s1.1 t (wi t ht)).1, fun ht' => (s1.1 t (wi t ht)).2 (wj t ht')⟩, fun t ht ht' => s1.2 t ht (wj t ht')⟩, s2⟩
  · intro i k hi hi2 hk hk2
    rw [hlen2] at hi hk2
    exact barB_ok hbar i k hi hi2 hk hk2
  · intro i o f ho hf L hL
    obtain ⟨hr, o', a1, a2, a3⟩ := at1 i f hf
    have : o' = o := by rw [Array.getElem?_toList, ho] at a2; cases a2; rfl
    subst this
    have gi : ((List.range m).map (opsR ops b)).getD i [] = rst ops o' := by simp [List.getD_eq_getElem?_getD, List.getElem?_map, a3, opsR, a2, show (ops.toList[b + i]?) = some o' from a2]
    have hi' : ((List.range m).map (relax i0 (namesR fs))).getD i [] = relax i0 (namesR fs) i := by simp [List.getD_eq_getElem?_getD, List.getElem?_map, a3]
    by_cases e0 : i = i0
    · subst e0
      have : relax i (namesR fs) i = [] := by simp [relax]
      rw [gi, hi', this]
      exact soft o' f L ho hf fun j hj hij hb => hL j (by rw [hlen2]; exact hj) hij hb
    · refine FireOk.g ?_
      have := (k4 i o' f hr (at0 i o' a3 a2) a1).1
      have hr' : relax i0 (namesR fs) i = hr := by simp [relax, beq_no e0, namesR, a1]
      have p1 := LS_prefix (fs.map (·.1)) 0 i s.S
      have p2 := LH_prefix (fs.map (·.1)) 0 i s.H
      rw [Nat.zero_add] at p1 p2
      rw [gi, hi', hr', p1, p2]
      simpa using this
  · have p1 := LS_prefix (fs.map (·.1)) 0 (fs.map (·.1)).length s.S
    have p2 := LH_prefix (fs.map (·.1)) 0 (fs.map (·.1)).length s.H
    rw [Nat.zero_add, List.take_length] at p1 p2
    rw [p1, p2, hlen2, ← k2, ← k3]
    exact k
theorem Aw.sd (hT : T.Ok X.P) (hm : X.P.follows .mixedOrders = true) (mb : Nat → Bool) {id : Nat} {y : Code} (hs : List (Nat × List A)) (hd : dstsOk X.nt ops = true) (hp : pieceOk ops 0 ops.size = true) {S' : Slots} {H' : Hp} {fs : List (Eff × List Nat)} {ob : List Ob}
    (h : runMD X.P T mb ops s.c hs ops.toList 0 s.S s.H [] = some (S', H', fs, ob)) (hc : confB (masks ops.toList []) 0 ops.size (namesW fs) (namesR fs) = true) (ho : AllP ob)
    (k : Aw X r y Q ⟨S', H', s.c + ops.size⟩) : Aw X r (.seq (.region id ops true) y) Q s := by
  refine Aw.seq (SegW.start hm (SegW.run (b := 0) hT mb ops.size hs hd hp (by rw [List.drop_zero, List.take_of_length_le (by simp)]; exact h) hc ho ?_))
  have he : edgesOk ops.toList 0 = true := by simp only [pieceOk, Bool.and_eq_true] at hp; exact hp.1
  exact SegW.done he (by omega) k
theorem Aw.sdS (i0 : Nat) (hT : T.Ok X.P) (hm : X.P.follows .mixedOrders = true) (mb : Nat → Bool) {id : Nat} {y : Code} (hs : List (Nat × List A)) (hd : dstsOk X.nt ops = true) (hp : pieceOk ops 0 ops.size = true) {S' : Slots} {H' : Hp} {fs : List (Eff × List Nat)} {ob : List Ob}
    (h : runMD X.P T mb ops s.c hs ops.toList 0 s.S s.H [] = some (S', H', fs, ob)) (hc : confB (masks ops.toList []) 0 ops.size (namesW fs) (relax i0 (namesR fs)) = true) (ho : AllP ob)
    (soft : ∀ o f (L : Nat → Bool), ops[0 + i0]? = some o → (fs.map (·.1))[i0]? = some f → (∀ j, j < ops.size → i0 < j → ((masks ops.toList []).getD (0 + j) 0).testBit (0 + i0) = true → L j = false) →
      FireG X r ops o (rst ops o) [] (LS (fun k => Nat.blt k i0) (fs.map (·.1)) 0 s.S) (LH (fun k => Nat.blt k i0) (fs.map (·.1)) 0 s.H) f (s.c + i0) (fun H' => H' = LH L (fs.map (·.1)) 0 s.H))
    (k : Aw X r y Q ⟨S', H', s.c + ops.size⟩) : Aw X r (.seq (.region id ops true) y) Q s := by
  refine Aw.seq (SegW.start hm (SegW.runS (b := 0) i0 hT mb ops.size hs hd hp (by rw [List.drop_zero, List.take_of_length_le (by simp)]; exact h) hc soft ho ?_))
  have he : edgesOk ops.toList 0 = true := by simp only [pieceOk, Bool.and_eq_true] at hp; exact hp.1
  exact SegW.done he (by omega) k
theorem Aw.ed (hT : T.Ok X.P) (hm : X.P.follows .mixedOrders = true) (mb : Nat → Bool) {id : Nat} (hs : List (Nat × List A)) (hd : dstsOk X.nt ops = true) (hp : pieceOk ops 0 ops.size = true) {S' : Slots} {H' : Hp} {fs : List (Eff × List Nat)} {ob : List Ob}
    (h : runMD X.P T mb ops s.c hs ops.toList 0 s.S s.H [] = some (S', H', fs, ob)) (hc : confB (masks ops.toList []) 0 ops.size (namesW fs) (namesR fs) = true) (ho : AllP ob)
    (k : Q .normal ⟨S', H', s.c + ops.size⟩) : Aw X r (.region id ops true) Q s := by
  refine SegW.start hm (SegW.run (b := 0) hT mb ops.size hs hd hp (by rw [List.drop_zero, List.take_of_length_le (by simp)]; exact h) hc ho ?_)
  have he : edgesOk ops.toList 0 = true := by simp only [pieceOk, Bool.and_eq_true] at hp; exact hp.1
  exact SegW.done he (by omega) k
end
theorem resC {P : Program} {T : Tab} {s : St} {t ty id off : Nat} {cs : List A} {v : A} (h1 : s.S t = .ref id off) (h2 : s.H id = some (.cells cs)) (hty : (T.ty ty).isAgg = true) (hl : Nat.ble (off + T.sz ty) cs.length = true)
    (hv : A.agg (((cs.drop off).take (T.sz ty)).map A.down) = v) : ResV P T s (.cell t ty) v :=
  hv ▸ .cell (ty' := ty) (.loadRefAgg h1 h2 (fun h => by rw [h] at hty; cases hty) hty (Nat.le_of_ble_eq_true hl))
theorem resO {P : Program} {T : Tab} {s : St} {t ty id off : Nat} {cs : List A} {v : A} (h1 : s.S t = .ref id off) (h2 : s.H id = some (.cells cs)) (hn : T.ty ty ≠ .none) (hty : (T.ty ty).isAgg = false) (hl : Nat.blt off cs.length = true)
    (hv : (cs.getD off .un).down = v) : ResV P T s (.cell t ty) v :=
  hv ▸ .cell (ty' := ty) (.loadRefOne h1 h2 hn hty (by simpa [Nat.blt_eq] using hl))
end Go.AL
namespace Go.AL
open Go Go.RowKit
def allZ (w : World) : Still := fun b o => ∃ u, w.cell? ⟨b, o, none⟩ = some u
section
variable {H : Type} {enc : TypeId × Value → H} {P : Program} {w : World} {base : Nat} {spare : Nat → Bool} {held : Bool} {φ : Names}
theorem cells_at {a : Addr} {n : Nat} {cs : List Value} (h : w.cells? base a n = some cs) : cs.length = n ∧ ∀ j, j < n → w.cell? (a.add j) = cs[j]? := by
  unfold World.cells? at h
  split at h
  · exact ⟨by simpa using mapM_some_length h, fun j hj => mapM_some_get h j j (by simp [hj])⟩
  · cases h
theorem add_plain (b off k : Nat) : (⟨b, off, none⟩ : Addr).add k = ⟨b, off + k, none⟩ := by
  unfold Addr.add; split
  · rename_i h; subst h; rfl
  · rfl
def Nums (enc : TypeId × Value → H) (P : Program) (w : World) (base : Nat) (spare : Nat → Bool) (held : Bool) (e sz : Nat) : Prop :=
  ∀ n cs y, DataW.trod enc P w base spare held n e cs = some y → ∃ zs : List Int, cs = zs.map (Value.int .i64) ∧ zs.length = sz
theorem open_nums {t e sz fuel : Nat} {v : Value} {x : DataW H × List MemPlace} {r : Reach} {b0 : Nat} (ht : P.underlying t = some (.slice e)) (hc : P.cellsOf e = sz) (hn : Nums enc P w base spare held e sz)
    (hok : Cell.okWide P w r b0 t v) (h : DataW.trod enc P w base spare held fuel t [v] = some x) :
    ∃ (nil : Bool) (es : List (List Int)), VR φ (allZ w) w (.sl nil .any (es.map fun z => z.map A.int)) v ∧ (∀ z ∈ es, z.length = sz) ∧ (es.length : Int) ≤ 9223372036854775807 := by
  rcases DataW.trod_slice ht h with ⟨h0, _⟩ | ⟨a, len, cap, elems, rest, n, _, hcs, _, _, hl, hm, hlen, hel, _, _⟩
  · simp only [List.cons.injEq, and_true] at h0
    subst h0
    exact ⟨true, [], .nil _, (fun _ h => nomatch h), by simp⟩
  · simp only [List.cons.injEq, and_true] at hcs
    subst hcs
    have hsp : a.spot = none := by
      simp only [Cell.okWide, ht, Cell.ok] at hok
      exact hok.2.2.2.1
    obtain ⟨b, off, sp⟩ := a
    simp only at hsp
    subst hsp
    have each : ∀ i, i < len → ∃ zs : List Int, w.cells? base ((⟨b, off, none⟩ : Addr).add (i * sz)) sz = some (zs.map (Value.int .i64)) ∧ zs.length = sz := fun i hi => by
      have h1 := hel i hi
      rw [hc] at h1
      obtain ⟨y, hy⟩ : ∃ y, elems[i]? = some y := ⟨elems[i]'(by omega), by simp [show i < elems.length by omega]⟩
      rw [hy, Option.bind_eq_some_iff] at h1
      obtain ⟨cs, h2, h3⟩ := h1
      obtain ⟨zs, rfl, h4⟩ := hn n cs y h3
      exact ⟨zs, h2, h4⟩
    let f : Nat → List Int := fun i => if h : i < len then (each i h).choose else []
    have hf : ∀ i, i < len → w.cells? base ((⟨b, off, none⟩ : Addr).add (i * sz)) sz = some ((f i).map (Value.int .i64)) ∧ (f i).length = sz := fun i hi => by
      simp only [f, dif_pos hi]; exact (each i hi).choose_spec
    have hcell : ∀ i j, i < len → j < sz → w.cell? ⟨b, off + i * sz + j, none⟩ = some (.int .i64 ((f i).getD j 0)) := fun i j hi hj => by
      have h1 := (cells_at (hf i hi).1).2 j hj
      have h2 := (hf i hi).2
      rw [add_plain, add_plain] at h1
      rw [h1, List.getElem?_map, List.getD_eq_getElem?_getD, List.getElem?_eq_getElem (by omega)]; rfl
    refine ⟨false, (List.range len).map f, ?_, fun z hz => ?_, ?_⟩
    · have hl2 : (((List.range len).map f).map fun z => z.map A.int).length = len := by simp
      have key : VR φ (allZ w) w (.sl false .any (((List.range len).map f).map fun z => z.map A.int)) (.slice (some ⟨b, off, none⟩) (((List.range len).map f).map fun z => z.map A.int).length cap) := by
        refine .sl .any _ b off sz cap (fun i j => .int .i64 ((f i).getD j 0)) (by rw [hl2]; exact hl) (fun h => by cases h) hm (fun z hz => ?_) (fun i j hi hj => ?_) (fun i j hi hj => ?_) (fun i j hi hj => rfl) fun i j hi hj => ?_
        · obtain ⟨z0, hz0, rfl⟩ := List.mem_map.1 hz
          obtain ⟨i, hi, rfl⟩ := List.mem_map.1 hz0
          rw [List.length_map]; exact (hf i (List.mem_range.1 hi)).2
        · rw [hl2] at hi; exact ⟨_, hcell i j hi hj⟩
        · rw [hl2] at hi; exact hcell i j hi hj
        · rw [hl2] at hi
          have h2 := (hf i hi).2
          have e1 : (((List.range len).map f).map fun z => z.map A.int).getD i [] = (f i).map A.int := by simp [List.getD_eq_getElem?_getD, hi]
          have e2 : ((f i).map A.int).getD j .un = A.int ((f i).getD j 0) := by
            rw [List.getD_eq_getElem?_getD, List.getElem?_map, List.getD_eq_getElem?_getD, List.getElem?_eq_getElem (by omega)]; rfl
          rw [e1, e2]; exact .s _
      rwa [hl2] at key
    · obtain ⟨i, hi, rfl⟩ := List.mem_map.1 hz
      exact (hf i (List.mem_range.1 hi)).2
    · simp only [List.length_map, List.length_range]; unfold maxLen at hm; omega
theorem nums1 {e : Nat} (he : P.underlying e = some (.int .i64)) : Nums enc P w base spare held e 1 := fun n cs y h => by
  obtain ⟨z, rfl, _, _⟩ := DataW.trod_int he h
  exact ⟨[z], rfl, rfl⟩
theorem numsS {e : Nat} {fs : Array Field} (he : P.underlying e = some (.struct fs)) (hf : ∀ (i : Nat) (f : Field), fs[i]? = some f → f.offset = i ∧ P.underlying f.type = some (.int .i64) ∧ P.cellsOf f.type = 1) (hc : P.cellsOf e = fs.size) : Nums enc P w base spare held e fs.size := fun n cs y h => by
  obtain ⟨xs, m, _, _, hl, _, hx⟩ := DataW.trod_struct he h
  rw [hc] at hl
  have each : ∀ i, i < fs.size → ∃ z : Int, cs[i]? = some (.int .i64 z) := fun i hi => by
    obtain ⟨h1, h2, h3⟩ := hf i fs[i] (by simp [hi])
    have h4 := hx i fs[i] (by simp [hi])
    rw [h1, h3] at h4
    obtain ⟨y2, hy2⟩ : ∃ y2, xs[i]? = some y2 := by
      cases e : xs[i]? with
      | some y2 => exact ⟨y2, rfl⟩
      | none => have := List.getElem?_eq_none_iff.1 e; omega
    rw [hy2] at h4
    obtain ⟨z, hz, _⟩ := DataW.trod_int h2 h4
    refine ⟨z, ?_⟩
    have h5 := congrArg (fun l => l[0]?) hz
    simp only [List.getElem?_take, List.getElem?_drop] at h5
    simpa using h5
  let g : Nat → Int := fun i => if h : i < fs.size then (each i h).choose else 0
  have hg : ∀ i, i < fs.size → cs[i]? = some (.int .i64 (g i)) := fun i hi => by simp only [g, dif_pos hi]; exact (each i hi).choose_spec
  refine ⟨(List.range fs.size).map g, ?_, by simp⟩
  refine List.ext_getElem? fun i => ?_
  by_cases hi : i < fs.size
  · rw [hg i hi]; simp [hi]
  · rw [List.getElem?_eq_none (by omega), List.getElem?_eq_none (by simp; omega)]
end
end Go.AL
namespace Go.AL
open Go Go.RowKit
theorem rows_of {ys : List (List A)} {sz : Nat} (hs : ∀ y ∈ ys, y.length = sz) (hd : ys.flatten.map A.down = ys.flatten) : RowsAre ys.flatten ys sz := by
  refine ⟨hs, by rw [flat_len hs]; exact Nat.le_refl _, fun i j hi hj => ?_⟩
  have hk : i * sz + j < ys.length * sz := by
    have : (i + 1) * sz ≤ ys.length * sz := Nat.mul_le_mul_right _ hi
    rw [Nat.add_mul, Nat.one_mul] at this; omega
  have h0 : 0 < sz := by omega
  have e1 : (i * sz + j) / sz = i := by rw [Nat.mul_comm, Nat.mul_add_div h0, Nat.div_eq_of_lt hj]; rfl
  have e2 : (i * sz + j) % sz = j := by rw [Nat.mul_comm, Nat.mul_add_mod, Nat.mod_eq_of_lt hj]
  have e3 := flat_get hs (i * sz + j) hk
  rw [e1, e2] at e3
  have hl : i * sz + j < ys.flatten.length := by rw [flat_len hs]; exact hk
  have e4 : (ys.flatten.getD (i * sz + j) .un).down = ys.flatten.getD (i * sz + j) .un := by
    have := congrArg (fun l => l.getD (i * sz + j) .un) hd
    simp only [List.getD_eq_getElem?_getD, List.getElem?_map, List.getElem?_eq_getElem hl] at this ⊢
    exact this
  rw [e4, e3]
section
variable {α : Type} {c : α → List A} {sz : Nat}
theorem flat_down (hd : ∀ a, (c a).map A.down = c a) (l : List α) : (l.map c).flatten.map A.down = (l.map c).flatten := by
  rw [List.map_flatten, List.map_map]
  congr 1
  exact List.map_congr_left fun a _ => hd a
theorem rows_set (hc : ∀ a, (c a).length = sz) (hd : ∀ a, (c a).map A.down = c a) {l : List α} {k : Nat} (hk : k < l.length) (a : α) : setSeg ((l.map c).flatten.map A.down) (0 + k * sz) (c a) = ((l.set k a).map c).flatten := by
  rw [flat_down hd, Nat.zero_add]
  have e : l = l.take k ++ (l[k] :: l.drop (k + 1)) := by rw [← List.drop_eq_getElem_cons hk, List.take_append_drop]
  have e2 : l.set k a = l.take k ++ (a :: l.drop (k + 1)) := by rw [List.set_eq_take_append_cons_drop, if_pos hk]
  have h1 : ((l.take k).map c).flatten.length = k * sz := by
    rw [flat_len (sz := sz) fun y hy => by obtain ⟨b, _, rfl⟩ := List.mem_map.1 hy; exact hc b, List.length_map, List.length_take, Nat.min_eq_left (by omega)]
  have e3 : (l.map c).flatten = ((l.take k).map c).flatten ++ (c l[k] ++ ((l.drop (k + 1)).map c).flatten) := by
    conv => lhs; rw [e]
    rw [List.map_append, List.flatten_append, List.map_cons, List.flatten_cons]
  rw [e3, e2]
  unfold setSeg
  rw [← h1, List.take_left]
  have e4 : List.drop (((l.take k).map c).flatten.length + (c a).length) (((l.take k).map c).flatten ++ (c l[k] ++ ((l.drop (k + 1)).map c).flatten)) = ((l.drop (k + 1)).map c).flatten := by
    rw [hc, ← hc l[k], ← List.drop_drop, List.drop_left, List.drop_left]
  rw [e4, List.map_append, List.flatten_append, List.map_cons, List.flatten_cons]
theorem rows_all (hc : ∀ a, (c a).length = sz) (hd : ∀ a, (c a).map A.down = c a) (l : List α) : RowsAre (l.map c).flatten (l.map c) sz := rows_of (fun y hy => by obtain ⟨b, _, rfl⟩ := List.mem_map.1 hy; exact hc b) (flat_down hd l)
end
theorem le_agg4 {a b c e a' b' c' e' : A} (h1 : A.Le a' a) (h2 : A.Le b' b) (h3 : A.Le c' c) (h4 : A.Le e' e) : A.Le (.agg [a', b', c', e']) (.agg [a, b, c, e]) :=
  ⟨fun φ Z w v hv => by
    obtain ⟨vs, e0, e1, e2, e3⟩ := inv_agg hv
    subst e0
    refine .agg _ _ e1 e2 fun i hi => ?_
    match i, hi with
    | 0, _ => exact h1.1 _ _ _ _ (e3 0 (by show 0 < 4; omega))
    | 1, _ => exact h2.1 _ _ _ _ (e3 1 (by show 1 < 4; omega))
    | 2, _ => exact h3.1 _ _ _ _ (e3 2 (by show 2 < 4; omega))
    | 3, _ => exact h4.1 _ _ _ _ (e3 3 (by show 3 < 4; omega)), fun v p e => by simp [spareOf] at e⟩
end Go.AL
namespace Go.AL
open Go Go.RowKit
inductive Ex where
  | normal
  | exit (id : Nat)
  | ret
def Ex.out : Ex → Exit
  | .normal => .normal
  | .exit id => .exit id
  | .ret => .ret
def ofArgs : List A → Nat → Tr → Tr
  | [], _, tr => tr
  | v :: l, i, tr => ofArgs l (i + 1) (Tr.set 10 tr i v)
theorem ofArgs_get : ∀ (l : List A) (i : Nat) (tr : Tr) (t : Nat), i + l.length < 1000 → Tr.get 10 (ofArgs l i tr) t = if i ≤ t ∧ t < i + l.length then l.getD (t - i) .un else Tr.get 10 tr t
  | [], i, tr, t, h => by rw [if_neg (by simp only [List.length_nil]; omega)]; rfl
  | v :: l, i, tr, t, h => by
    simp only [List.length_cons] at h
    rw [ofArgs, ofArgs_get l (i + 1) _ t (by omega), Tr.get_set 10 tr i v t (by omega)]
    by_cases h1 : t = i
    · subst h1; rw [if_neg (by omega), if_pos rfl, if_pos (by simp)]; simp only [Nat.sub_self, List.getD_cons_zero]
    · by_cases h2 : i + 1 ≤ t ∧ t < i + 1 + l.length
      · rw [if_pos h2, if_pos (by simp; omega), show t - i = (t - (i + 1)) + 1 by omega]; simp
      · rw [if_neg h2, if_neg h1, if_neg (by simp; omega)]
theorem ofArgs_init {l : List A} (h : l.length < 1000) : (fun t => Tr.get 10 (ofArgs l 0 .lf) t) = initS l := by
  funext t
  rw [ofArgs_get l 0 .lf t (by omega), Tr.get_lf]
  by_cases h1 : t < l.length
  · rw [if_pos (by omega)]; rfl
  · rw [if_neg (by omega)]; simp [initS, List.getD_eq_getElem?_getD, List.getElem?_eq_none (show l.length ≤ t by omega)]
def resE (T : Tab) (e : ES) : List ResultVar → Option (List A)
  | [] => some []
  | .tmp t :: l => match resE T e l with
    | some vs => forceK (e.sl t).down fun v => some (v :: vs)
    | none => none
  | .cell t ty :: l => match evV T e.sl (lkH e.H) none (.load ty (.tmp t)) ty, resE T e l with
    | some (v, obs), some vs => match allChk obs with
      | true => forceK v fun v => some (v :: vs)
      | false => none
    | _, _ => none
theorem resE_sound {P : Program} {T : Tab} {e : ES} : ∀ {l : List ResultVar} {vs : List A}, resE T e l = some vs → ResVs P T e.st l vs
  | [], vs, h => by simp only [resE, Option.some.injEq] at h; subst h; exact .nil
  | .tmp t :: l, vs, h => by
    simp only [resE, forceK_eq] at h
    split at h
    · rename_i vs' h1; simp only [Option.some.injEq] at h; subst h; exact .cons (.tmp t) (resE_sound h1)
    · cases h
  | .cell t ty :: l, vs, h => by
    simp only [resE, forceK_eq] at h
    split at h
    · rename_i v obs vs' h1 h2
      split at h
      · rename_i h3
        simp only [Option.some.injEq] at h; subst h
        exact .cons (.cell (evV_sound h1 (allChk_ok h3))) (resE_sound h2)
      · cases h
    · cases h
def enterOk (fn : Func) : Bool := !(fn.name == "runtime.NumGoroutine")
theorem enters_of {P : Program} {g : Nat} {fn : Func} {c : Code} (h : P.funcs[g]? = some fn) (hb : fn.body = some c) (hn : enterOk fn = true) : Enters P g := by
  intro args w
  have hn' : (fn.name == "runtime.NumGoroutine") = false := by simpa [enterOk] using hn
  simp only [callFunc, Sem.run_bind, run_program, Result.andThen_ok, h, hn', hb, Bool.false_eq_true, if_false, Option.isNone_some, Sem.run_pure]
def callOf (P : Program) (T : Tab) (go : Nat → Nat → Code → ES → Option (Ex × ES)) : CallF := fun g args H c => match P.funcs[g]? with
  | some fn => match fn.body with
    | some c0 => match enterOk fn && (Nat.ble args.length fn.ntmps && (Nat.blt fn.ntmps 1000 && args.all fun v => !isOwn v)) with
      | true => match go g fn.ntmps c0 ⟨ofArgs args 0 .lf, H, c⟩ with
        | some (.normal, e') | some (.ret, e') => match resE T e' fn.results.toList with
          | some vs => some (tupA vs, e'.H, e'.c)
          | none => none
        | _ => none
      | false => none
    | none => none
  | none => none
def trOf (S : Slots) : Nat → Tr → Tr
  | 0, tr => tr
  | n + 1, tr => forceK (S n).down fun v => trOf S n (Tr.set 10 tr n v)
theorem trOf_get (S : Slots) : ∀ (n : Nat) (tr : Tr) (t : Nat), n ≤ 1000 → Tr.get 10 (trOf S n tr) t = if t < n then (S t).down else Tr.get 10 tr t
  | 0, tr, t, _ => by simp [trOf]
  | n + 1, tr, t, h => by
    rw [trOf, forceK_eq, trOf_get S n _ t (by omega), Tr.get_set 10 tr n _ t (by omega)]
    by_cases h1 : t < n
    · rw [if_pos h1, if_pos (by omega)]
    · by_cases h2 : t = n
      · subst h2; rw [if_neg h1, if_pos rfl, if_pos (by omega)]
      · rw [if_neg h1, if_neg h2, if_neg (by omega)]
def setTr (tr : Tr) : List Nat → List A → Tr
  | t :: ts, v :: vs => setTr (Tr.set 10 tr t v) ts vs
  | _, _ => tr
theorem setTr_get : ∀ (ts : List Nat) (vs : List A) {tr : Tr}, (∀ t ∈ ts, t < 1000) → (fun t => Tr.get 10 (setTr tr ts vs) t) = setPs (fun t => Tr.get 10 tr t) ts vs
  | [], vs, tr, _ => by cases vs <;> rfl
  | t :: ts, [], tr, _ => rfl
  | t :: ts, v :: vs, tr, h => by
    have e : (fun t' => Tr.get 10 (Tr.set 10 tr t v) t') = upd (fun t => Tr.get 10 tr t) t v := by
      funext t'
      rw [Tr.get_set 10 tr t v t' (by have := h t (by simp); omega), upd_apply]
    rw [setTr, setTr_get ts vs (fun t' h' => h t' (by simp [h'])), e]; rfl
theorem setPs_le : ∀ (ts : List Nat) (vs : List A) {S S' : Slots}, (∀ t, A.Le (S' t) (S t)) → ∀ t, A.Le (setPs S' ts vs t) (setPs S ts vs t)
  | [], vs, S, S', h => by cases vs <;> exact h
  | t :: ts, [], S, S', h => h
  | t :: ts, v :: vs, S, S', h => setPs_le ts vs fun t' => by
    rw [upd_apply, upd_apply]
    split
    · exact .refl _
    · exact h t'
def rmH : List (Nat × B) → Nat → List (Nat × B)
  | [], _ => []
  | (i, b) :: l, j => match Nat.beq j i with
    | true => rmH l j
    | false => (i, b) :: rmH l j
theorem lk_rm : ∀ (l : List (Nat × B)) (i : Nat), lkH (rmH l i) = updH (lkH l) i none
  | [], i => by funext j; simp [rmH, lkH, updH]
  | (k, b) :: l, i => by
    funext j
    have ih := congrFun (lk_rm l i) j
    rw [updH_apply] at ih ⊢
    simp only [rmH]
    cases e : Nat.beq i k with
    | true =>
      have e1 := Nat.eq_of_beq_eq_true e
      subst e1
      simp only [ih, lkH]
      by_cases h1 : j = i
      · rw [if_pos h1, if_pos h1]
      · rw [if_neg h1, if_neg h1, beq_no h1]; rfl
    | false =>
      have hne : i ≠ k := fun e2 => by subst e2; simp at e
      simp only [lkH, ih]
      by_cases h1 : j = k
      · subst h1; have h2 : ¬ j = i := fun e2 => hne e2.symm
        simp [h2]
      · rw [beq_no h1]; rfl
def yieldOf (go : Nat → Nat → Code → ES → Option (Ex × ES)) : CallF := fun id args H c => match lkH H id with
  | some (.lp .ready _ S nt ps asg body) => match Nat.beq args.length ps.size && (Nat.blt nt 1000 && ps.toList.all fun t => Nat.blt t nt) with
    | true => match go 0 nt asg ⟨setTr (trOf S nt .lf) ps.toList args, H, c⟩ with
      | some (.normal, e1) => match lkH e1.H id with
        | some (.lp .ready p1 S1 nt1 ps1 as1 bo1) => match go 0 nt body ⟨e1.S, stH e1.H id (.lp .busy p1 S1 nt1 ps1 as1 bo1), e1.c⟩ with
          | some (x, e2) => match lkH e2.H id with
            | some (.lp _ _ S2 nt2 ps2 as2 bo2) => match x with
              | .normal => some (.bool true, stH e2.H id (.lp .ready none S2 nt2 ps2 as2 bo2), e2.c)
              | .ret => some (.bool false, stH e2.H id (.lp .done (some .ret) S2 nt2 ps2 as2 bo2), e2.c)
              | .exit j => some (.bool false, stH e2.H id (.lp .done (some (.exit j)) S2 nt2 ps2 as2 bo2), e2.c)
            | _ => none
          | none => none
        | _ => none
      | _ => none
    | false => none
  | _ => none
def evSeq (r : Option (Ex × ES)) (k : ES → Option (Ex × ES)) : Option (Ex × ES) := match r with
      | some (.normal, e') => k e'
      | some (.exit id, e') => some (.exit id, e')
      | some (.ret, e') => some (.ret, e')
      | none => none
def evCnd (a : A) (x y : Option (Ex × ES)) : Option (Ex × ES) := match a with
      | .s (.bool true) => x
      | .s (.bool false) => y
      | _ => none
def evBlk (id : Nat) (r : Option (Ex × ES)) : Option (Ex × ES) := match r with
      | some (.exit id', e') => match Nat.beq id' id with
        | true => some (.normal, e')
        | false => some (.exit id', e')
      | some (.normal, e') => some (.normal, e')
      | some (.ret, e') => some (.ret, e')
      | none => none
def evReg (T : Tab) (mbf : Nat → Bool) (callf yf : CallF) (nt : Nat) (ops : Array Oper) (e : ES) : Option (Ex × ES) := match dstsOk nt ops with
      | true => match runE T mbf callf yf ops.toList ops ops.toList e with
        | some e' => some (.normal, e')
        | none => none
      | false => none
def evDrw (P : Program) (T : Tab) (mbf : Nat → Bool) (callf yf : CallF) (nt : Nat) (ops : Array Oper) (e : ES) : Option (Ex × ES) := match dstsOk nt ops && P.follows .mixedOrders with
      | true => match runDraw T mbf callf yf ops e with
        | some e' => some (.normal, e')
        | none => none
      | false => none
def evRgB (e : ES) (r : Option (A × List (Nat × B) × Nat)) : Option (Ex × ES) := match r with
        | some (_, H', c') => match lkH H' e.c with
          | some (.lp .busy _ _ _ _ _ _) => none
          | some (.lp _ none _ _ _ _ _) => some (.normal, ⟨e.S, rmH H' e.c, c'⟩)
          | some (.lp _ (some .ret) _ _ _ _ _) => some (.ret, ⟨e.S, rmH H' e.c, c'⟩)
          | some (.lp _ (some (.exit j)) _ _ _ _ _) => some (.exit j, ⟨e.S, rmH H' e.c, c'⟩)
          | _ => none
        | none => none
def evRng (callf : CallF) (top : Bool) (nt : Nat) (g : Operand) (ps : Array Tmp) (asg body : Code) (e : ES) : Option (Ex × ES) := match top, rd e.sl g with
      | true, .fn (.func f') fst cap => evRgB e (callf f' ((fst ++ [.yl e.c]) ++ cap) ((e.c, .lp .ready none (fun t => (e.sl t).down) nt ps asg body) :: e.H) (e.c + 1))
      | _, _ => none
section
variable (P : Program) (T : Tab) (mb : Nat → Nat → Bool)
def evC : Nat → Bool → Nat → Nat → Code → ES → Option (Ex × ES)
  | 0, _, _, _, _, _ => none
  | n + 1, top, f, nt, c, e => match c with
    | .skip => some (.normal, e)
    | .label _ => some (.normal, e)
    | .exit id => some (.exit id, e)
    | .ret => some (.ret, e)
    | .seq x y => evSeq (evC n top f nt x e) fun e' => evC n top f nt y e'
    | .cond c x y => evCnd (rd e.sl c) (evC n top f nt x e) (evC n top f nt y e)
    | .block id x => evBlk id (evC n top f nt x e)
    | .loop x => evSeq (evC n top f nt x e) fun e' => evC n top f nt (.loop x) e'
    | .scope x => evC n top f nt x e
    | .region _ ops false => evReg T (mb f) (callOf P T fun f nt c e => evC n true f nt c e) (yieldOf fun f nt c e => evC n false f nt c e) nt ops e
    | .region _ ops true => evDrw P T (mb f) (callOf P T fun f nt c e => evC n true f nt c e) (yieldOf fun f nt c e => evC n false f nt c e) nt ops e
    | .rangeFunc g ps asg body => evRng (callOf P T (fun f nt c e => evC n true f nt c e)) top nt g ps asg body e
    | _ => none
def evF (n : Nat) : CallF := callOf P T (evC P T mb n true)
end
section
variable {P : Program} {T : Tab} {mb : Nat → Nat → Bool}
theorem evF_sound (hT : T.Ok P) {n : Nat}
    (ih : ∀ (X : Ctx) (r : Option Nat) top f nt c e x e', (top = true → r = none) → X.P = P → X.nt = nt → nt ≤ 1000 → evC P T mb n top f nt c e = some (x, e') → Aw X r c (fun ex s => ex = x.out ∧ s = e'.st) e.st) : CallOk P (evF P T mb n) := by
  intro g args H c v H' c' h
  unfold evF callOf at h
  split at h
  · rename_i fn hfn
    split at h
    · rename_i c0 hb
      split at h
      · rename_i h1
        simp only [Bool.and_eq_true] at h1
        obtain ⟨k1, k2, k3, k4⟩ := h1
        have hlt : args.length < 1000 := Nat.lt_of_le_of_lt (Nat.le_of_ble_eq_true k2) (blt_lt k3)
        refine ⟨enters_of hfn hb k1, ?_⟩
        have key : ∀ x e', evC P T mb n true g fn.ntmps c0 ⟨ofArgs args 0 .lf, H, c⟩ = some (x, e') → (x = .normal ∨ x = .ret) → (match resE T e' fn.results.toList with | some vs => some (tupA vs, e'.H, e'.c) | none => none) = some (v, H', c') →
            SCall P g args (lkH H) c fun v1 H1 c1 => v1 = v ∧ H1 = lkH H' ∧ c1 = c' := by
          intro x e' hev hx hres
          split at hres
          · rename_i vs hvs
            cases hres
            refine SCall.of_body hT hfn hb rfl (Nat.le_of_ble_eq_true k2) (fun a ha u => not_own (by simpa using List.all_eq_true.1 k4 a ha) u) fun E => ?_
            have := ih (E.cx P fn.ntmps) none true g fn.ntmps c0 _ x e' (fun _ => rfl) rfl rfl (Nat.le_of_lt (blt_lt k3)) hev
            have e0 : (⟨ofArgs args 0 .lf, H, c⟩ : ES).st = ⟨initS args, lkH H, c⟩ := by
              rw [← ofArgs_init hlt]; rfl
            rw [e0] at this
            refine this.mono fun ex s hq => ?_
            obtain ⟨rfl, rfl⟩ := hq
            rcases hx with rfl | rfl <;> exact ⟨vs, resE_sound hvs, rfl, rfl, rfl⟩
          · cases hres
        split at h
        · rename_i e' hev; exact key _ _ hev (.inl rfl) h
        · rename_i e' hev; exact key _ _ hev (.inr rfl) h
        · cases h
      · cases h
    · cases h
  · cases h
theorem yield_sound (hT : T.Ok P) {n : Nat}
    (ih : ∀ (X : Ctx) (r : Option Nat) top f nt c e x e', (top = true → r = none) → X.P = P → X.nt = nt → nt ≤ 1000 → evC P T mb n top f nt c e = some (x, e') → Aw X r c (fun ex s => ex = x.out ∧ s = e'.st) e.st) :
    YieldOk P (yieldOf fun f nt c e => evC P T mb n false f nt c e) := by
  intro id args H c v H' c' h
  unfold yieldOf at h
  split at h
  · rename_i pend S nt ps asg body hl
    split at h
    · rename_i hc
      simp only [Bool.and_eq_true] at hc
      obtain ⟨k1, k2, k3⟩ := hc
      have hps : ∀ t ∈ ps.toList, t < nt := fun t ht => blt_lt (List.all_eq_true.1 k3 t ht)
      have hnt := blt_lt k2
      split at h
      · rename_i e1 h1
        split at h
        · rename_i p1 S1 nt1 ps1 as1 bo1 hl1
          split at h
          · rename_i x e2 h2
            split at h
            · rename_i st2 p2 S2 nt2 ps2 as2 bo2 hl2
              refine ⟨pend, S, nt, ps, asg, body, hl, Nat.eq_of_beq_eq_true k1, hps, fun E b => ?_⟩
              have a1 := ih (E.cx P nt) (some b) false 0 nt asg _ _ _ (fun h => by cases h) rfl rfl (Nat.le_of_lt hnt) h1
              have a2 := ih (E.cx P nt) (some b) false 0 nt body _ _ _ (fun h => by cases h) rfl rfl (Nat.le_of_lt hnt) h2
              have e0 : (⟨setTr (trOf S nt .lf) ps.toList args, H, c⟩ : ES).st = ⟨setPs (fun t => Tr.get 10 (trOf S nt .lf) t) ps.toList args, lkH H, c⟩ := by
                rw [← setTr_get ps.toList args (fun t ht => Nat.lt_trans (hps t ht) hnt)]; rfl
              rw [e0] at a1
              refine Aw.weaken (S' := setPs (fun t => Tr.get 10 (trOf S nt .lf) t) ps.toList args) (H' := lkH H) (c' := c) (setPs_le _ _ fun t => ?_) (fun id bx hb => ⟨bx, hb, .refl _⟩) (Nat.le_refl _) (a1.mono fun ex s hq => ?_)
              · show A.Le (Tr.get 10 (trOf S nt .lf) t) (S t).down
                rw [trOf_get S nt .lf t (Nat.le_of_lt hnt), Tr.get_lf]
                split
                · exact .refl _
                · exact .un _
              · obtain ⟨rfl, rfl⟩ := hq
                refine ⟨rfl, p1, S1, nt1, ps1, as1, bo1, hl1, ?_⟩
                have e3 : (⟨e1.S, stH e1.H id (.lp .busy p1 S1 nt1 ps1 as1 bo1), e1.c⟩ : ES).st = { e1.st with H := updH e1.st.H id (some (.lp .busy p1 S1 nt1 ps1 as1 bo1)) } := by
                  show (⟨e1.sl, lkH (stH e1.H id _), e1.c⟩ : St) = _
                  rw [lk_st hl1]; rfl
                rw [e3] at a2
                refine a2.mono fun ex s hq => ?_
                obtain ⟨rfl, rfl⟩ := hq
                cases x with
                | normal => cases h; exact ⟨st2, p2, S2, nt2, ps2, as2, bo2, hl2, rfl, (lk_st hl2).symm, rfl⟩
                | ret => cases h; exact ⟨st2, p2, S2, nt2, ps2, as2, bo2, hl2, rfl, (lk_st hl2).symm, rfl⟩
                | exit j => cases h; exact ⟨st2, p2, S2, nt2, ps2, as2, bo2, hl2, rfl, (lk_st hl2).symm, rfl⟩
            · cases h
          · cases h
        · cases h
      · cases h
    · cases h
  · cases h
theorem evC_sound (hT : T.Ok P) : ∀ (n : Nat) (X : Ctx) (r : Option Nat) (top : Bool) (f nt : Nat) (c : Code) (e : ES) (x : Ex) (e' : ES), (top = true → r = none) → X.P = P → X.nt = nt → nt ≤ 1000 → evC P T mb n top f nt c e = some (x, e') →
    Aw X r c (fun ex s => ex = x.out ∧ s = e'.st) e.st := by
  intro n
  induction n using Nat.strongRecOn with
  | _ n ih =>
  intro X r top f nt c e x e' htop hP hnt hle h
  cases n with
  | zero => simp [evC] at h
  | succ n =>
    have ihn := ih n (Nat.lt_succ_self n)
    cases c with
    | skip => simp only [evC, Option.some.injEq, Prod.mk.injEq] at h; obtain ⟨rfl, rfl⟩ := h; exact Aw.skip ⟨rfl, rfl⟩
    | label l => simp only [evC, Option.some.injEq, Prod.mk.injEq] at h; obtain ⟨rfl, rfl⟩ := h; exact Aw.label ⟨rfl, rfl⟩
    | exit id => simp only [evC, Option.some.injEq, Prod.mk.injEq] at h; obtain ⟨rfl, rfl⟩ := h; exact Aw.exit ⟨rfl, rfl⟩
    | ret => simp only [evC, Option.some.injEq, Prod.mk.injEq] at h; obtain ⟨rfl, rfl⟩ := h; exact Aw.ret ⟨rfl, rfl⟩
    | seq a b =>
      simp only [evC, evSeq] at h
      refine Aw.seq ?_
      split at h
      · rename_i e1 h1
        refine (ihn X r top f nt a e _ _ htop hP hnt hle h1).mono fun ex s hq => ?_
        obtain ⟨rfl, rfl⟩ := hq
        exact ihn X r top f nt b e1 x e' htop hP hnt hle h
      · rename_i id e1 h1
        cases h
        refine (ihn X r top f nt a e _ _ htop hP hnt hle h1).mono fun ex s hq => ?_
        obtain ⟨rfl, rfl⟩ := hq
        exact ⟨rfl, rfl⟩
      · rename_i e1 h1
        cases h
        refine (ihn X r top f nt a e _ _ htop hP hnt hle h1).mono fun ex s hq => ?_
        obtain ⟨rfl, rfl⟩ := hq
        exact ⟨rfl, rfl⟩
      · cases h
    | cond c a b =>
      simp only [evC, evCnd] at h
      split at h
      · rename_i h1; exact Aw.cond h1 (fun _ => ihn X r top f nt a e x e' htop hP hnt hle h) (fun h => by cases h)
      · rename_i h1; exact Aw.cond h1 (fun h => by cases h) (fun _ => ihn X r top f nt b e x e' htop hP hnt hle h)
      · cases h
    | block id a =>
      simp only [evC, evBlk] at h
      refine Aw.block ?_
      split at h
      · rename_i id' e1 h1
        refine (ihn X r top f nt a e _ _ htop hP hnt hle h1).mono fun ex s hq => ?_
        obtain ⟨rfl, rfl⟩ := hq
        split at h
        · rename_i hb
          cases h
          show (if id' = id then _ else _)
          rw [if_pos (Nat.eq_of_beq_eq_true hb)]; exact ⟨rfl, rfl⟩
        · rename_i hb
          cases h
          show (if id' = id then _ else _)
          rw [if_neg (fun e => by subst e; simp at hb)]; exact ⟨rfl, rfl⟩
      · rename_i e1 h1
        cases h
        refine (ihn X r top f nt a e _ _ htop hP hnt hle h1).mono fun ex s hq => ?_
        obtain ⟨rfl, rfl⟩ := hq
        exact ⟨rfl, rfl⟩
      · rename_i e1 h1
        cases h
        refine (ihn X r top f nt a e _ _ htop hP hnt hle h1).mono fun ex s hq => ?_
        obtain ⟨rfl, rfl⟩ := hq
        exact ⟨rfl, rfl⟩
      · cases h
    | loop a =>
      refine Aw.loop (fun s m => m ≤ n + 1 ∧ ∃ e1, s = e1.st ∧ evC P T mb m top f nt (.loop a) e1 = some (x, e')) (n + 1) ⟨Nat.le_refl _, e, rfl, h⟩ ?_
      rintro s m ⟨hm, e1, rfl, h1⟩
      cases m with
      | zero => simp [evC] at h1
      | succ m =>
        have ihm := ih m (by omega)
        simp only [evC, evSeq] at h1
        split at h1
        · rename_i e2 h2
          refine (ihm X r top f nt a e1 _ _ htop hP hnt hle h2).mono fun ex s hq => ?_
          obtain ⟨rfl, rfl⟩ := hq
          exact ⟨m, Nat.lt_succ_self m, by omega, e2, rfl, h1⟩
        · rename_i id e2 h2
          cases h1
          refine (ihm X r top f nt a e1 _ _ htop hP hnt hle h2).mono fun ex s hq => ?_
          obtain ⟨rfl, rfl⟩ := hq
          exact ⟨rfl, rfl⟩
        · rename_i e2 h2
          cases h1
          refine (ihm X r top f nt a e1 _ _ htop hP hnt hle h2).mono fun ex s hq => ?_
          obtain ⟨rfl, rfl⟩ := hq
          exact ⟨rfl, rfl⟩
        · cases h1
    | scope a =>
      simp only [evC] at h
      refine Aw.scope ((ihn X r top f nt a e x e' htop hP hnt hle h).mono fun ex s hq => ?_)
      obtain ⟨rfl, rfl⟩ := hq
      cases x <;> exact ⟨rfl, rfl⟩
    | region id ops draw =>
      cases draw with
      | true =>
        simp only [evC, evDrw] at h
        split at h
        · rename_i hd
          simp only [Bool.and_eq_true] at hd
          split at h
          · rename_i e1 h1
            cases h
            subst hP; subst hnt
            exact runDraw_sound hT hle hd.2 (evF_sound hT ihn) (yield_sound hT ihn) hd.1 h1 ⟨rfl, rfl⟩
          · cases h
        · cases h
      | false =>
        simp only [evC, evReg] at h
        split at h
        · rename_i hd
          split at h
          · rename_i e1 h1
            cases h
            subst hP; subst hnt
            refine Aw.region hd ?_
            have hds : ∀ o ∈ ops.toList, ∀ d, o.dst = some d → d < X.nt := fun o ho d hd' => by
              have := List.all_eq_true.1 hd o ho
              rw [hd'] at this
              simpa [Nat.blt_eq] using this
            refine RegL.mono (fun s hs => ⟨rfl, hs⟩) _ (runE_sound hT hle (evF_sound hT ihn) (yield_sound hT ihn) ops.toList hds h1)
          · cases h
        · cases h
    | rangeFunc g ps asg body =>
      simp only [evC, evRng, evRgB] at h
      split at h
      · rename_i f' fst cap hg
        have hr := htop rfl
        subst hr; subst hP; subst hnt
        split at h
        · rename_i v H' c' hc
          obtain ⟨k1, k2⟩ := evF_sound hT ihn _ _ _ _ _ _ _ hc
          rw [lk_cons] at k2
          refine Aw.rangeFunc hg k1 k2 ?_
          rintro v1 H1 c1 ⟨rfl, rfl, rfl⟩
          have est : (⟨e.S, rmH H' e.c, c1⟩ : ES).st = ⟨e.st.S, updH (lkH H') e.st.c none, c1⟩ := by
            show (⟨e.sl, lkH (rmH H' e.c), c1⟩ : St) = _
            rw [lk_rm]; rfl
          split at h
          · cases h
          · rename_i hb hl
            cases h
            exact ⟨_, _, _, _, _, _, _, hl, fun e1 => hb e1, rfl, est.symm⟩
          · rename_i hb hl
            cases h
            exact ⟨_, _, _, _, _, _, _, hl, fun e1 => hb e1, Aw.ret ⟨rfl, est.symm⟩⟩
          · rename_i hb hl
            cases h
            exact ⟨_, _, _, _, _, _, _, hl, fun e1 => hb e1, Aw.exit ⟨rfl, est.symm⟩⟩
          · cases h
        · cases h
      · cases h
    | _ => simp [evC] at h
end
end Go.AL
namespace Go.Proofs.Ytimikmfkdaoaaaa
open Go Go.AL
structure Spn where
  lo : Int
  hi : Int
  deriving DecidableEq
structure Lot where
  crans : Int
  landed : Int
  keep : Int
  fit : Int
  deriving DecidableEq
structure Wk where
  kind : Int
  fr : Int
  to : Int
  rate : Int
  deriving DecidableEq
structure Day where
  hours : Int
  hn : Bool
  heat : List Spn
  ln : Bool
  lots : List Lot
  wn : Bool
  wks : List Wk
  deriving DecidableEq
def Spn.c (s : Spn) : List A := [.int s.lo, .int s.hi]
def Lot.c (l : Lot) : List A := [.int l.crans, .int l.landed, .int l.keep, .int l.fit]
def Wk.c (w : Wk) : List A := [.int w.kind, .int w.fr, .int w.to, .int w.rate]
def Day.heatA (d : Day) : A := .sl d.hn .any (d.heat.map Spn.c)
def Day.lotsA (d : Day) : A := .sl d.ln .any (d.lots.map Lot.c)
def Day.wksA (d : Day) : A := .sl d.wn .any (d.wks.map Wk.c)
def Day.c (d : Day) : List A := [.int d.hours, .sl d.hn .any (d.heat.map Spn.c), .sl d.ln .any (d.lots.map Lot.c), .sl d.wn .any (d.wks.map Wk.c)]
theorem Spn.free (s : Spn) : ∀ x ∈ s.c, Free x := allC (.s _) (all1 (.s _))
theorem Lot.free (w : Lot) : ∀ x ∈ w.c, Free x := allC (.s _) (allC (.s _) (allC (.s _) (all1 (.s _))))
theorem Wk.free (w : Wk) : ∀ x ∈ w.c, Free x := allC (.s _) (allC (.s _) (allC (.s _) (all1 (.s _))))
theorem free_map {α : Type} {f : α → List A} (hf : ∀ a, ∀ x ∈ f a, Free x) (n : Bool) (c : Cap) (l : List α) : Free (.sl n c (l.map f)) := .sl _ _ _ fun e he x hx => by
  obtain ⟨a, _, rfl⟩ := List.mem_map.1 he
  exact hf a x hx
theorem Day.free (d : Day) : ∀ x ∈ d.c, Free x := allC (.s _) (allC (free_map Spn.free _ _ _) (allC (free_map Lot.free _ _ _) (all1 (free_map Wk.free _ _ _))))
theorem get_map {α : Type} {f : α → List A} {l : List α} {k : Nat} (h : k < l.length) : (l.map f)[k]? = some (f l[k]) := by simp [h]
theorem getI_map {α : Type} {f : α → List A} {l : List α} {i : Int} (h0 : 0 ≤ i) (h : i.toNat < l.length) : (l.map f)[i.toNat]? = some (f l[i.toNat]) := by simp [h]
def ints (l : List Int) : List (List A) := l.map fun n => [.int n]
theorem ints_get {l : List Int} {k : Nat} (h : k < l.length) : (ints l)[k]? = some [.int l[k]] := by simp [ints, h]
theorem free_ints (b : Bool) (c : Cap) (l : List Int) : Free (.sl b c (ints l)) := .sl _ _ _ fun e he x hx => by
  simp only [ints, List.mem_map] at he
  obtain ⟨n, _, rfl⟩ := he
  simp at hx; subst hx; exact .s _
def wi (n a b : Int) : Bool := cond (decide (a ≤ n)) (decide (n ≤ b)) false
def and3 (a b : Bool) : Bool := cond a b false
theorem wi_iff {n a b : Int} : wi n a b = true ↔ a ≤ n ∧ n ≤ b := by
  unfold wi
  by_cases h : a ≤ n <;> by_cases h' : n ≤ b <;> simp [h, h']
def isWorker (w : Wk) (hours : Int) : Bool := cond (cond (cond (wi w.kind 0 2) (wi w.fr 0 w.to) false) (wi w.to 0 (hours - 1)) false) (wi w.rate 0 20) false
def heatOk (s : Spn) : Bool := cond (cond (decide (0 ≤ s.lo)) (decide (s.lo ≤ s.hi)) false) (decide (s.hi ≤ 100)) false
def lotOk (hours : Int) (l : Lot) : Bool := cond (cond (cond (wi l.crans 1 50) (wi l.landed 0 (hours - 1)) false) (wi l.keep 0 10000) false) (wi l.fit 0 7) false
def Day.head (d : Day) : Bool := cond (cond (cond (wi d.hours 1 24) (((d.heat.map Spn.c).length : Int) == d.hours) false) (decide (((d.lots.map Lot.c).length : Int) ≤ 8)) false) (decide (((d.wks.map Wk.c).length : Int) ≤ 6)) false
def Day.ok (d : Day) : Bool := cond (cond (cond d.head (d.heat.all heatOk) false) (d.lots.all (lotOk d.hours)) false) (d.wks.all fun w => isWorker w d.hours) false
structure CDay where
  g : Day
  u : List Int
def CDay.c (d : CDay) : List A := d.g.c ++ d.u.map A.int
theorem CDay.free (d : CDay) : ∀ x ∈ d.c, Free x := fun x hx => by
  rcases List.mem_append.1 hx with h | h
  · exact d.g.free x h
  · obtain ⟨n, _, rfl⟩ := List.mem_map.1 h; exact .s _
def canF (l : Lot) (w : Wk) (h u : Int) : Bool := cond (cond (iand (l.fit.fdiv (2 ^ (min w.kind.toNat 64))) 1 == 1) (wi h w.fr w.to) false) (wi h l.landed u) false
def runU (f : Nat → Int) (landed : Int) : Nat → Nat → Int → Int → Int
  | 0, _, _, u => u
  | m + 1, k, n, u => if (k : Int) < landed then runU f landed m (k + 1) n u else if n - f k < 0 then u else runU f landed m (k + 1) (n - f k) k
def untilF (d : Day) (f : Spn → Int) (l : Lot) : Int := runU (fun k => f (d.heat.getD k ⟨0, 0⟩)) l.landed d.hours.toNat 0 l.keep (l.landed - 1)
def openU (d : Day) (f : Spn → Int) (k : Nat) : List Int := (d.lots.take k).map (untilF d f) ++ List.replicate (8 - k) 0
def opened (d : Day) (f : Spn → Int) : CDay := ⟨d, openU d f d.lots.length⟩
theorem setSeg_app {l r : List A} {v : A} {i : Nat} (h : i < r.length) : setSeg (l ++ r) (l.length + i) [v] = l ++ r.set i v := by
  unfold setSeg
  have h1 : (l ++ r).take (l.length + i) = l ++ r.take i := by rw [List.take_append, List.take_of_length_le (by omega)]; simp
  have h2 : (l ++ r).drop (l.length + i + [v].length) = r.drop (i + 1) := by rw [List.drop_append]; simp [show l.length + i + 1 - l.length = i + 1 by omega, List.drop_eq_nil_of_le (show l.length ≤ l.length + i + 1 by omega)]
  rw [h1, h2, List.append_assoc, List.set_eq_take_append_cons_drop, if_pos h]; rfl
theorem c_and (a b : Bool) : cond a b false = (a && b) := by cases a <;> rfl
end Go.Proofs.Ytimikmfkdaoaaaa
namespace Go.AL
open Go Go.RowKit
def Sub (H : Hp) (J : Hp → Prop) : Prop := ∃ H', J H' ∧ ∀ i bx, H' i = some bx → H i = some bx
theorem Sub.self {H : Hp} {J : Hp → Prop} (h : J H) : Sub H J := ⟨H, h, fun _ _ h => h⟩
def Low (n : Nat) (H : Hp) : Prop := ∀ id bx, H id = some bx → id < n ∧ UnderB n bx
section
variable {X : Ctx} {r : Option Nat} {s : St} {Q : Exit → St → Prop}
structure KeepH (n : Nat) (cst v : List (Nat × A)) (J : Hp → Prop) (s : St) : Prop where
  cst : AllLe s.S cst
  var : AllLe s.S v
  hp : Sub s.H J
  c : n ≤ s.c
theorem Aw.keepH {x : Code} {n : Nat} {cst v : List (Nat × A)} {J : Hp → Prop} (h0 : ∀ id, n ≤ id → X.φ0 id = none) (uc : UnderL n cst) (uv : UnderL n v) (low : ∀ H, J H → Low n H) (hk : KeepH n cst v J s)
    (h : ∀ H, J H → Aw X r x Q ⟨ofL2 cst v, H, n⟩) : Aw X r x Q s := by
  obtain ⟨H', hJ, hs⟩ := hk.hp
  refine Aw.weaken (S' := ofL2 cst v) (H' := H') (c' := s.c) (AllLe.app hk.var hk.cst).le (fun id bx hb => ⟨bx, hs id bx hb, .refl _⟩) (Nat.le_refl _) ?_
  exact Aw.forget h0 hk.c (ofL2_under (uv.app uc)) (low H' hJ) (h H' hJ)
theorem Aw.roundsH {ι : Type} {x : Code} (n : Nat) (h0 : ∀ id, n ≤ id → X.φ0 id = none) (cst : List (Nat × A)) (v : ι → List (Nat × A)) (J : ι → Hp → Prop) (μ : ι → Nat) (i0 : ι)
    (hk : KeepH n cst (v i0) (J i0) s) (uc : UnderL n cst) (uv : ∀ i, UnderL n (v i)) (low : ∀ i H, J i H → Low n H)
    (round : ∀ i H, J i H → Aw X r x (thenQ (fun s' => ∃ j, μ j < μ i ∧ KeepH n cst (v j) (J j) s') Q) ⟨ofL2 cst (v i), H, n⟩) : Aw X r (.loop x) Q s := by
  refine Aw.loop (fun s m => ∃ i, m = μ i ∧ KeepH n cst (v i) (J i) s) (μ i0) ⟨i0, rfl, hk⟩ ?_
  rintro s m ⟨i, rfl, hk⟩
  refine Aw.keepH h0 uc (uv i) (low i) hk fun H hJ => (round i H hJ).mono fun e s' h => ?_
  cases e with
  | normal => obtain ⟨j, h2, h3⟩ := h; exact ⟨μ j, h2, j, rfl, h3⟩
  | _ => exact h
theorem RegL.part {T : Tab} {ops : Array Oper} {K : St → Prop} (hT : T.Ok X.P) (mb : Nat → Bool) (dec : Bool) (n i : Nat) (hs : List (Nat × List A)) {l l' : List Oper} {S' : Slots} {H' : Hp} {c' : Nat} {ob' : List Ob}
    (h : AL.runM X.P T mb dec ops hs n l i s.S s.H s.c [] = (l', ⟨S', H', c'⟩, ob')) (ho : AllP ob') (k : RegL X r ops l' ⟨S', H', c'⟩ K) : RegL X r ops l s K := RegL.goM hT mb dec n hs h ho k
def PartK (X : Ctx) (r : Option Nat) (ops : Array Oper) (K : St → Prop) (y : List Oper × St × List Ob) : Prop := AllP y.2.2 ∧ RegL X r ops y.1 y.2.1 K
theorem PartK.mk {X : Ctx} {r : Option Nat} {ops : Array Oper} {K : St → Prop} {l : List Oper} {S : Slots} {H : Hp} {c : Nat} {ob : List Ob} (h : AllP ob) (k : RegL X r ops l ⟨S, H, c⟩ K) : PartK X r ops K (l, ⟨S, H, c⟩, ob) := ⟨h, k⟩
theorem RegL.partE {T : Tab} {ops : Array Oper} {K : St → Prop} (hT : T.Ok X.P) (mb : Nat → Bool) (dec : Bool) (n i : Nat) (hs : List (Nat × List A)) {l : List Oper}
    (h : PartK X r ops K (AL.runM X.P T mb dec ops hs n l i s.S s.H s.c [])) : RegL X r ops l s K := RegL.goM hT mb dec n hs rfl h.1 h.2
theorem RegL.st {T : Tab} (hT : T.Ok X.P) {ops : Array Oper} {K : St → Prop} {l : List Oper} {t ty id off : Nat} {x v : Operand} {p : String} {af : Array Edge} {cs : List A} (hx : rd s.S x = .ref id off) (hi : s.H id = some (.cells cs)) (ht : T.ty t ≠ .none)
    (hp : okPart (rd s.S v) = true) (hl : (cellsA (rd s.S v)).length = T.sz t) (hle : off + T.sz t ≤ cs.length)
    (k : RegL X r ops l ⟨s.S, updH s.H id (some (.cells (setSeg cs off ((cellsA (rd s.S v)).map A.down)))), s.c⟩ K) : RegL X r ops (⟨none, .store t x v, ty, p, af, none⟩ :: l) s K :=
  Does.raw rfl (DoesP.toR (DoesP.store hT rfl rfl hx hi ht hp hl hle k))
end
structure Iter (P : Program) (c id : Nat) (S : Slots) (nt : Nat) (ps : Array Tmp) (asg body : Code) (L : List (List A)) (I : Nat → Hp → Prop) (D : Hp → Prop) : Prop where
  pok : ∀ t ∈ ps.toList, t < nt
  len : ∀ as ∈ L, as.length = ps.size
  lp : ∀ k H, I k H → ∃ pend, H id = some (.lp .ready pend S nt ps asg body)
  low : ∀ k H, I k H → Low c H
  round : ∀ k as, L[k]? = some as → ∀ H, I k H → ∀ (E : En) (b : Nat), (∀ i, c ≤ i → E.φ0 i = none) →
    Aw (E.cx P nt) (some b) asg (fun e s1 => e = .normal ∧ ∃ p1 S1 nt1 ps1 as1 bo1, s1.H id = some (.lp .ready p1 S1 nt1 ps1 as1 bo1) ∧
      Aw (E.cx P nt) (some b) body (roundQ id fun v H' c' => c ≤ c' ∧ ((v = .bool true ∧ Sub H' (I (k + 1))) ∨ (v = .bool false ∧ Sub H' D))) { s1 with H := updH s1.H id (some (.lp .busy p1 S1 nt1 ps1 as1 bo1)) })
      ⟨setPs (fun t => (S t).down) ps.toList as, H, c⟩
theorem Iter.yield {P : Program} {c id : Nat} {S : Slots} {nt : Nat} {ps : Array Tmp} {asg body : Code} {L : List (List A)} {I : Nat → Hp → Prop} {D : Hp → Prop} (it : Iter P c id S nt ps asg body L I D)
    {X : Ctx} (hP : X.P = P) {r : Option Nat} {s : St} {o : Oper} {K : St → Prop} {f : Operand} {args : Array Operand} {at' : Array TypeId} (ho : o.op = .call { callee := .value f, args := args, argTypes := at' }) (hf : rd s.S f = .yl id) (hc : s.c = c)
    {k : Nat} (ha : L[k]? = some (rds s.S args.toList)) (hI : I k s.H)
    (hK : ∀ v H' c', c ≤ c' ∧ ((v = .bool true ∧ Sub H' (I (k + 1))) ∨ (v = .bool false ∧ Sub H' D)) → K ⟨putO s.S o.dst v, H', c'⟩) : DoesR X r o s K := by
  subst hP
  obtain ⟨pend, hl⟩ := it.lp k s.H hI
  have hlen := it.len _ (List.mem_of_getElem? ha)
  refine DoesR.yieldN ho hf hl (by simpa [rds] using hlen) it.pok (fun E b hE => ?_) hK
  have := it.round k _ ha s.H hI E b (by rw [← hc]; exact hE)
  rw [← hc] at this
  rw [← hc]
  exact this
def cntP (p : Nat → Bool) (n : Nat) : Nat := ((List.range n).filter p).length
theorem cntP_succ (p : Nat → Bool) (n : Nat) : cntP p (n + 1) = cntP p n + (if p n then 1 else 0) := by
  unfold cntP; rw [List.range_succ, List.filter_append, List.length_append]
  by_cases h : p n <;> simp [h]
theorem filter_get {p : Nat → Bool} {n m : Nat} (h : n < m) (hp : p n = true) : ((List.range m).filter p)[cntP p n]? = some n := by
  obtain ⟨d, rfl⟩ : ∃ d, m = n + 1 + d := ⟨m - (n + 1), by omega⟩
  have e : List.range (n + 1 + d) = List.range n ++ n :: (List.range d).map (n + 1 + ·) := by
    rw [List.range_add, List.range_succ, List.append_assoc]; rfl
  rw [e, List.filter_append]
  unfold cntP
  rw [List.getElem?_append_right (Nat.le_refl _)]
  simp [List.filter_cons, hp]
end Go.AL
namespace Go.AL
open Go Go.RowKit
def keyA {α : Type} (enc : α → List Value) (a : α) : A := .agg ((enc a).map A.s)
structure KeyTy (P : Program) (kt : TypeId) {α : Type} [BEq α] (enc : α → List Value) : Prop where
  und : ∃ d, P.underlying kt = some d ∧ ∀ cs ds, Instr.sameNow d (.agg cs) (.agg ds) = none
  eq : ∀ a b, pureRun P (Op.equal kt (.agg (enc a).toArray) (.agg (enc b).toArray)) = some (a == b)
  ck : ∀ e a, pureRun P (Instr.checkKey e 10000 kt (.agg (enc a).toArray)) = some ()
  bits : ∀ a, Instr.sameBits 10000 (.agg (enc a).toArray) (.agg (enc a).toArray) = true
section
variable {α V : Type} [BEq α] [LawfulBEq α] {P : Program} {kt : TypeId} {enc : α → List Value}
def encM (enc : α → List Value) (val : V → A) (m : List (α × V)) : List (A × A) := m.map fun p => (keyA enc p.1, val p.2)
def ixM (m : List (α × V)) (a : α) : Option Nat := m.findIdx? (·.1 == a)
def mget (m : List (α × V)) (a : α) : Option V := match ixM m a with
  | some j => (m[j]?).map (·.2)
  | none => none
def mput (m : List (α × V)) (a : α) (v : V) : List (α × V) := match ixM m a with
  | some j => m.set j (a, v)
  | none => m ++ [(a, v)]
theorem concCells_s : ∀ (l : List Value), concCells (l.map A.s) = some l
  | [] => rfl
  | v :: l => by simp only [List.map_cons, concCells, concCells_s l]
theorem conc_key (a : α) : concA (keyA enc a) = some (.agg (enc a).toArray) := by simp only [keyA, concA, concCells_s]
theorem conc_keys (val : V → A) : ∀ (m : List (α × V)), concKeys (encM enc val m) = some (m.map fun p => .agg (enc p.1).toArray)
  | [] => rfl
  | p :: m => by
    have := conc_keys val m
    simp only [encM] at this
    simp only [encM, List.map_cons, concKeys, conc_key, this]
theorem ask_keys (h : KeyTy P kt enc) (a : α) : ∀ (l : List α) (i : Nat), (pureRun P (Instr.findAsking kt (.agg (enc a).toArray) (bare (l.map fun b => .agg (enc b).toArray)) i)).map (Option.map (·.1)) = some ((l.findIdx? (· == a)).map (i + ·))
  | [], i => rfl
  | b :: l, i => by
    have ih := ask_keys h a l (i + 1)
    simp only [bare, List.map_cons, Instr.findAsking, pureRun_bind, h.eq, Option.bind_some] at ih ⊢
    by_cases e : a == b
    · have e2 : (b == a) = true := by have := eq_of_beq e; subst this; exact e
      simp only [e, if_true, pureRun, List.findIdx?_cons, e2]
      simp [Pure.pure, pureRun]
    · have e2 : (b == a) = false := by
        cases e3 : (b == a) with
        | false => rfl
        | true => have := eq_of_beq e3; subst this; exact absurd (beq_self_eq_true _) e
      rw [if_neg e, ih, List.findIdx?_cons, e2]
      cases l.findIdx? (· == a) <;> simp; omega
theorem findIx_keys (h : KeyTy P kt enc) (a : α) (l : List α) : findIx P kt (.agg (enc a).toArray) (l.map fun b => .agg (enc b).toArray) = some (l.findIdx? (· == a)) := by
  obtain ⟨d, hu, hs⟩ := h.und
  have hund : pureRun P (underlying kt) = some d := by
    simp only [underlying, pureRun_bind]
    simp [program, pureRun, hu, Pure.pure]
  have key := ask_keys h a l 0
  unfold findIx
  cases l with
  | nil =>
    simp only [List.map_nil, bare, Instr.findKey, pureRun_bind, hund, Option.bind_some, Instr.findNow]
    rfl
  | cons b l =>
    have e : pureRun P (Instr.findKey kt (.agg (enc a).toArray) (bare ((b :: l).map fun b => .agg (enc b).toArray))) = pureRun P (Instr.findAsking kt (.agg (enc a).toArray) (bare ((b :: l).map fun b => .agg (enc b).toArray)) 0) := by
      simp only [Instr.findKey, pureRun_bind, hund, Option.bind_some, List.map_cons, bare, Instr.findNow, hs]
    rw [e]
    generalize pureRun P (Instr.findAsking kt (.agg (enc a).toArray) (bare ((b :: l).map fun b => .agg (enc b).toArray)) 0) = r at key
    have z : ((b :: l).findIdx? (· == a)).map (0 + ·) = (b :: l).findIdx? (· == a) := by
      cases (b :: l).findIdx? (· == a) <;> simp
    rw [z] at key
    cases r with
    | none => simp at key
    | some o => cases o with
      | none => simp only [Option.map_some, Option.map_none, Option.some.injEq] at key; rw [← key]
      | some p => simp only [Option.map_some, Option.some.injEq] at key; rw [← key]
theorem ixM_map (m : List (α × V)) (a : α) : (m.map (·.1)).findIdx? (· == a) = ixM m a := by
  unfold ixM; rw [List.findIdx?_map]; rfl
theorem ixM_some {m : List (α × V)} {a : α} {j : Nat} (h : ixM m a = some j) : ∃ v, m[j]? = some (a, v) := by
  unfold ixM at h
  obtain ⟨hj, h1, _⟩ := List.findIdx?_eq_some_iff_getElem.1 h
  have := eq_of_beq h1
  exact ⟨m[j].2, by rw [List.getElem?_eq_getElem hj, ← this]⟩
theorem KeyTy.at (h : KeyTy P kt enc) (val : V → A) (m : List (α × V)) (a : α) : KeyAt P kt (encM enc val m) (keyA enc a) (ixM m a) := by
  refine ⟨_, _, conc_key a, conc_keys val m, h.ck _ a, h.ck _ a, ?_, fun i hi => ?_⟩
  · have := findIx_keys h a (m.map (·.1))
    rw [ixM_map, List.map_map] at this
    exact this
  · obtain ⟨v, hv⟩ := ixM_some hi
    simp only [List.getD_eq_getElem?_getD, List.getElem?_map, hv, Option.map_some, Option.getD_some]
    exact h.bits a
theorem KeyTy.ix (h : KeyTy P kt enc) (val : V → A) (m : List (α × V)) (a : α) : ixOf P kt (encM enc val m) (keyA enc a) = ixM m a := (h.at val m a).ix
theorem KeyTy.has (h : KeyTy P kt enc) (val : V → A) (m : List (α × V)) (a : α) : ∃ j, KeyAt P kt (encM enc val m) (keyA enc a) j := ⟨_, h.at val m a⟩
theorem KeyTy.lk {T : Tab} {et : Nat} (h : KeyTy P kt enc) (val : V → A) (m : List (α × V)) (a : α) {v : A} {is : Bool}
    (hv : v = match mget m a with | some x => (val x).down | none => (zeroA T et).down) (his : is = (mget m a).isSome) : LkIs P T kt et (encM enc val m) (keyA enc a) v is := by
  refine ⟨_, h.at val m a, ?_, ?_⟩
  · rw [hv]; unfold mget
    cases e : ixM m a with
    | none => rfl
    | some j =>
      obtain ⟨x, hx⟩ := ixM_some e
      simp [hx, lkA, encM, List.getD_eq_getElem?_getD]
  · rw [his]; unfold mget
    cases e : ixM m a with
    | none => rfl
    | some j =>
      obtain ⟨x, hx⟩ := ixM_some e
      simp [hx]
theorem KeyTy.up (h : KeyTy P kt enc) (val : V → A) (m : List (α × V)) (a : α) (v : V) : upKV (encM enc val m) (keyA enc a) (val v) (ixOf P kt (encM enc val m) (keyA enc a)) = encM enc val (mput m a v) := by
  rw [h.ix val m a]
  unfold mput
  cases ixM m a with
  | none => simp [upKV, encM]
  | some j => simp [upKV, encM, List.map_set]
theorem mget_put (m : List (α × V)) (a b : α) (v : V) : mget (mput m a v) b = if a == b then some v else mget m b := by
  have ixput : ∀ (l : List (α × V)) (c : α), mget l c = (l.find? (·.1 == c)).map (·.2) := fun l c => by
    unfold mget ixM
    induction l with
    | nil => rfl
    | cons p l ih =>
      rw [List.findIdx?_cons, List.find?_cons]
      by_cases e : p.1 == c
      · simp [e]
      · simp only [e]
        cases e2 : l.findIdx? (fun p => p.1 == c) with
        | none => rw [e2] at ih; simpa using ih
        | some j => rw [e2] at ih; simpa using ih
  rw [ixput, ixput]
  have key : ∀ l : List (α × V), (List.find? (fun x : α × V => x.1 == b) (match l.findIdx? (fun x : α × V => x.1 == a) with | some j => l.set j (a, v) | none => l ++ [(a, v)])).map (·.2) = if a == b then some v else (l.find? (fun x : α × V => x.1 == b)).map (·.2) := by
    intro l
    induction l with
    | nil => by_cases e : a == b <;> simp [e]
    | cons p l ih =>
      rw [List.findIdx?_cons]
      by_cases e : p.1 == a
      · simp only [e, if_true, List.set_cons_zero, List.find?_cons]
        by_cases e2 : a == b
        · simp [e2]
        · have e3 : (p.1 == b) = false := by
            have := eq_of_beq e; rw [this]; simpa using e2
          simp [e2, e3]
      · simp only [e]
        cases e2 : l.findIdx? (fun p => p.1 == a) with
        | none =>
          rw [e2] at ih
          simp only [Option.map_none] at ih ⊢
          by_cases e3 : p.1 == b
          · have e4 : (a == b) = false := by
              cases e5 : a == b with
              | false => rfl
              | true => have h1 := eq_of_beq e5; have h2 := eq_of_beq e3; rw [h1, h2] at e; simp at e
            simp [e3, e4]
          · simpa [List.find?_cons, e3] using ih
        | some j =>
          rw [e2] at ih
          simp only [Option.map_some] at ih ⊢
          by_cases e3 : p.1 == b
          · have e4 : (a == b) = false := by
              cases e5 : a == b with
              | false => rfl
              | true => have h1 := eq_of_beq e5; have h2 := eq_of_beq e3; rw [h1, h2] at e; simp at e
            simp [e3, e4]
          · simpa [List.find?_cons, e3] using ih
  exact key m
end
end Go.AL
namespace Go.Proofs.Ytimikmfkdaoaaaa
open Go Go.AL
def wkD : Wk := ⟨0, 0, 0, 0⟩
def canP (d : Day) (l : Lot) (u : Int) (p : Nat) : Bool := canF l (d.wks.getD (p / d.hours.toNat) wkD) ((p % d.hours.toNat : Nat) : Int) u
def slotA (d : Day) (p : Nat) : A := .agg [.int ((p / d.hours.toNat : Nat) : Int), .int ((p % d.hours.toNat : Nat) : Int)]
def slotL (d : Day) (l : Lot) (u : Int) : List Nat := (List.range (d.wks.length * d.hours.toNat)).filter (canP d l u)
abbrev Sn := List (Nat × Bool)
abbrev Ld := List (Nat × List Int)
def zeros8 : List Int := [0, 0, 0, 0, 0, 0, 0, 0]
def ld (m : Ld) (p : Nat) : List Int := (mget m p).getD zeros8
def isSeen (s : Sn) (p : Nat) : Bool := (mget s p).getD false
def inc (l : List Int) (i : Nat) : List Int := l.set i (l.getD i 0 + 1)
def dec (l : List Int) (i : Nat) : List Int := l.set i (l.getD i 0 - 1)
def rateAt (d : Day) (p : Nat) : Int := (d.wks.getD (p / d.hours.toNat) wkD).rate
abbrev Res := Bool × Sn × Ld
def goO (rec : Nat → Sn → Ld → Res) (lot p : Nat) (l : List Int) : List Nat → Sn → Ld → Res
  | [], s, m => (false, s, m)
  | o :: os, s, m => if 0 < l.getD o 0 ∧ o ≠ lot then
      match rec o s m with
      | (true, s', m') => (true, s', mput m' p (dec (inc l lot) o))
      | (false, s', m') => goO rec lot p l os s' m'
    else goO rec lot p l os s m
def goS (rec : Nat → Sn → Ld → Res) (rate : Nat → Int) (lot : Nat) : List Nat → Sn → Ld → Res
  | [], s, m => (false, s, m)
  | p :: ps, s, m => if isSeen s p then goS rec rate lot ps s m else
      if (ld m p).sum < rate p then (true, mput s p true, mput m p (inc (ld m p) lot)) else
      match goO rec lot p (ld m p) (List.range 8) (mput s p true) m with
      | (true, s2, m2) => (true, s2, m2)
      | (false, s2, m2) => goS rec rate lot ps s2 m2
def slotsOf (cd : CDay) (lot : Nat) : List Nat := match cd.g.lots[lot]?, cd.u[lot]? with
  | some l, some u => slotL cd.g l u
  | _, _ => []
def putF (cd : CDay) : Nat → Nat → Sn → Ld → Res
  | 0, _, s, m => (false, s, m)
  | f + 1, lot, s, m => goS (putF cd f) (rateAt cd.g) lot (slotsOf cd lot) s m
structure LOk (n : Nat) (l : List Int) : Prop where
  len : l.length = 8
  pos : ∀ x ∈ l, 0 ≤ x
  sum : l.sum ≤ 20
  no : ∀ o, n ≤ o → l.getD o 0 = 0
def MOk (n : Nat) (m : Ld) : Prop := ∀ p l, mget m p = some l → LOk n l
theorem LOk.zero (n : Nat) : LOk n zeros8 := ⟨rfl, by decide, by decide, fun o _ => by
  unfold zeros8
  rcases o with _ | _ | _ | _ | _ | _ | _ | _ | o <;> simp [List.getD_eq_getElem?_getD]⟩
theorem MOk.at {n : Nat} {m : Ld} (h : MOk n m) (p : Nat) : LOk n (ld m p) := by
  unfold ld
  cases e : mget m p with
  | none => exact .zero n
  | some l => exact h p l e
theorem MOk.put {n : Nat} {m : Ld} (h : MOk n m) {p : Nat} {l : List Int} (hl : LOk n l) : MOk n (mput m p l) := fun q k hk => by
  rw [mget_put] at hk
  split at hk
  · cases hk; exact hl
  · exact h q k hk
theorem sum_set : ∀ (l : List Int) (i : Nat) (v : Int), i < l.length → (l.set i v).sum = l.sum - l.getD i 0 + v
  | [], i, v, h => by simp at h
  | a :: l, 0, v, h => by simp [List.set_cons_zero]; omega
  | a :: l, i + 1, v, h => by
    have := sum_set l i v (by simpa using h)
    simp only [List.set_cons_succ, List.sum_cons, List.getD_cons_succ, this]; omega
theorem getD_set' (l : List Int) (i j : Nat) (v : Int) (h : i < l.length) : (l.set i v).getD j 0 = if i = j then v else l.getD j 0 := by
  simp only [List.getD_eq_getElem?_getD, List.getElem?_set]
  split
  · rename_i e; subst e; simp [h]
  · rfl
theorem mem_getD' {l : List Int} {x : Int} (h : x ∈ l) : ∃ i, i < l.length ∧ l.getD i 0 = x := by
  obtain ⟨i, hi, rfl⟩ := List.mem_iff_getElem.1 h
  exact ⟨i, hi, by simp [List.getD_eq_getElem?_getD, hi]⟩
theorem getD_pos {l : List Int} (h : ∀ x ∈ l, 0 ≤ x) (i : Nat) : 0 ≤ l.getD i 0 := by
  simp only [List.getD_eq_getElem?_getD]
  cases e : l[i]? with
  | none => simp
  | some x => exact h x (List.mem_of_getElem? e)
theorem sum_ge {l : List Int} (h : ∀ x ∈ l, 0 ≤ x) (i : Nat) : l.getD i 0 ≤ l.sum := by
  induction l generalizing i with
  | nil => simp
  | cons a l ih =>
    have h1 := h a (by simp)
    have h2 : 0 ≤ l.sum := by
      have : ∀ k : List Int, (∀ x ∈ k, 0 ≤ x) → 0 ≤ k.sum := fun k hk => by
        induction k with
        | nil => simp
        | cons b k ihk => have := hk b (by simp); have := ihk fun x hx => hk x (by simp [hx]); simp only [List.sum_cons]; omega
      exact this l fun x hx => h x (by simp [hx])
    cases i with
    | zero => simp only [List.getD_cons_zero, List.sum_cons]; omega
    | succ i => have := ih (fun x hx => h x (by simp [hx])) i; simp only [List.getD_cons_succ, List.sum_cons]; omega
theorem LOk.incr {n : Nat} {l : List Int} (h : LOk n l) {i : Nat} (hi : i < n) (hn : n ≤ 8) (hs : l.sum < 20) : LOk n (inc l i) := by
  have hl := h.len
  refine ⟨by simp [inc, hl], fun x hx => ?_, ?_, fun o ho => ?_⟩
  · obtain ⟨j, hj, rfl⟩ := mem_getD' hx
    unfold inc
    rw [getD_set' _ _ _ _ (by omega)]
    have := getD_pos h.pos i; have := getD_pos h.pos j
    split <;> omega
  · unfold inc; rw [sum_set _ _ _ (by omega)]; omega
  · unfold inc; rw [getD_set' _ _ _ _ (by omega), if_neg (by omega)]; exact h.no o ho
theorem LOk.swap {n : Nat} {l : List Int} (h : LOk n l) {i o : Nat} (hi : i < n) (hn : n ≤ 8) (ho : 0 < l.getD o 0) (hne : o ≠ i) : LOk n (dec (inc l i) o) := by
  have hl := h.len
  have hon : o < n := Nat.lt_of_not_le fun h1 => by rw [h.no o h1] at ho; omega
  have hil : (inc l i).length = 8 := by simp [inc, hl]
  have g : ∀ j, (inc l i).getD j 0 = if i = j then l.getD i 0 + 1 else l.getD j 0 := fun j => by unfold inc; rw [getD_set' _ _ _ _ (by omega)]
  refine ⟨by simp [dec, hil], fun x hx => ?_, ?_, fun k hk => ?_⟩
  · obtain ⟨j, hj, rfl⟩ := mem_getD' hx
    unfold dec
    rw [getD_set' _ _ _ _ (by omega), g o, g j]
    have := getD_pos h.pos i; have := getD_pos h.pos j
    by_cases e1 : o = j
    · rw [if_pos e1, if_neg (fun e => hne e.symm)]; omega
    · rw [if_neg e1]; split <;> omega
  · unfold dec; rw [sum_set _ _ _ (by omega), g o, if_neg (fun e => hne e.symm)]
    unfold inc; rw [sum_set _ _ _ (by omega)]
    have := h.sum; omega
  · unfold dec; rw [getD_set' _ _ _ _ (by omega), if_neg (by omega), g k, if_neg (by omega)]; exact h.no k hk
def Grows (s s' : Sn) : Prop := ∀ p, isSeen s p = true → isSeen s' p = true
theorem Grows.refl (s : Sn) : Grows s s := fun _ h => h
theorem Grows.trans {a b c : Sn} (h : Grows a b) (k : Grows b c) : Grows a c := fun p hp => k p (h p hp)
theorem seen_put (s : Sn) (p q : Nat) : isSeen (mput s p true) q = (p == q || isSeen s q) := by
  unfold isSeen; rw [mget_put]
  by_cases h : p == q <;> simp [h]
theorem Grows.put (s : Sn) (p : Nat) : Grows s (mput s p true) := fun q hq => by rw [seen_put, hq]; simp
def Keeps' (n : Nat) (rec : Nat → Sn → Ld → Res) : Prop := ∀ o s m, o < n → MOk n m → MOk n (rec o s m).2.2 ∧ Grows s (rec o s m).2.1
theorem goO_keeps {n : Nat} {rec : Nat → Sn → Ld → Res} (hr : Keeps' n rec) (hn : n ≤ 8) {lot : Nat} (p : Nat) {l : List Int} (hlot : lot < n) (hl : LOk n l) : ∀ (os : List Nat) (s : Sn) (m : Ld), MOk n m →
    MOk n (goO rec lot p l os s m).2.2 ∧ Grows s (goO rec lot p l os s m).2.1
  | [], s, m, hm => ⟨hm, .refl s⟩
  | o :: os, s, m, hm => by
    rw [goO]
    split
    · rename_i hc
      have hon : o < n := Nat.lt_of_not_le fun h1 => by rw [hl.no o h1] at hc; omega
      have h1 := hr o s m hon hm
      split
      · rename_i s' m' e
        rw [e] at h1
        exact ⟨h1.1.put (hl.swap hlot hn hc.1 hc.2), h1.2⟩
      · rename_i s' m' e
        rw [e] at h1
        have h2 := goO_keeps hr hn p hlot hl os s' m' h1.1
        exact ⟨h2.1, h1.2.trans h2.2⟩
    · exact goO_keeps hr hn p hlot hl os s m hm
theorem goS_keeps {n : Nat} {rec : Nat → Sn → Ld → Res} (hr : Keeps' n rec) (hn : n ≤ 8) {rate : Nat → Int} (hrate : ∀ p, rate p ≤ 20) {lot : Nat} (hlot : lot < n) : ∀ (ps : List Nat) (s : Sn) (m : Ld), MOk n m →
    MOk n (goS rec rate lot ps s m).2.2 ∧ Grows s (goS rec rate lot ps s m).2.1
  | [], s, m, hm => ⟨hm, .refl s⟩
  | p :: ps, s, m, hm => by
    rw [goS]
    split
    · exact goS_keeps hr hn hrate hlot ps s m hm
    · split
      · rename_i hlt
        exact ⟨hm.put ((hm.at p).incr hlot hn (by have := hrate p; omega)), .put s p⟩
      · have h1 := goO_keeps hr hn p hlot (hm.at p) (List.range 8) (mput s p true) m hm
        split
        · rename_i s2 m2 e
          rw [e] at h1
          exact ⟨h1.1, (Grows.put s p).trans h1.2⟩
        · rename_i s2 m2 e
          rw [e] at h1
          have h2 := goS_keeps hr hn hrate hlot ps s2 m2 h1.1
          exact ⟨h2.1, ((Grows.put s p).trans h1.2).trans h2.2⟩
theorem putF_keeps (cd : CDay) (hn : cd.g.lots.length ≤ 8) (hrate : ∀ p, rateAt cd.g p ≤ 20) : ∀ f, Keeps' cd.g.lots.length (putF cd f)
  | 0 => fun o s m _ hm => ⟨hm, .refl s⟩
  | f + 1 => fun o s m ho hm => goS_keeps (putF_keeps cd hn hrate f) hn hrate ho _ s m hm
def unseen (n : Nat) (s : Sn) : Nat := ((List.range n).filter fun p => !isSeen s p).length
theorem filter_le {p q : Nat → Bool} (h : ∀ x, p x = true → q x = true) : ∀ l : List Nat, (l.filter p).length ≤ (l.filter q).length
  | [] => Nat.le_refl _
  | a :: l => by
    have ih := filter_le h l
    simp only [List.filter_cons]
    by_cases h1 : p a
    · simp [h1, h a h1, ih]
    · by_cases h2 : q a <;> simp [h1, h2] <;> omega
theorem unseen_mono {n : Nat} {s s' : Sn} (h : Grows s s') : unseen n s' ≤ unseen n s := filter_le (fun x hx => by
  cases e : isSeen s x with
  | false => rfl
  | true => rw [h x e] at hx; cases hx) _
theorem filter_lt {p q : Nat → Bool} (h : ∀ x, p x = true → q x = true) {a : Nat} (hp : p a = false) (hq : q a = true) : ∀ l : List Nat, a ∈ l → (l.filter p).length < (l.filter q).length
  | [], hm => by cases hm
  | b :: l, hm => by
    have hle := filter_le h l
    simp only [List.filter_cons]
    by_cases e : b = a
    · subst e; simp [hp, hq]; omega
    · have ih := filter_lt h hp hq l (by rcases List.mem_cons.1 hm with e2 | e2; exact absurd e2.symm e; exact e2)
      by_cases h1 : p b
      · simp [h1, h b h1, ih]
      · by_cases h2 : q b <;> simp [h1, h2] <;> omega
theorem unseen_put {n : Nat} {s : Sn} {p : Nat} (hp : p < n) (h : isSeen s p = false) : unseen n (mput s p true) < unseen n s := by
  refine filter_lt (a := p) (fun x hx => ?_) ?_ ?_ _ (List.mem_range.2 hp)
  · rw [seen_put] at hx
    cases e : isSeen s x with
    | false => rfl
    | true => rw [e] at hx; simp at hx
  · rw [seen_put]; simp
  · rw [h]; rfl
end Go.Proofs.Ytimikmfkdaoaaaa
namespace Go.AL
open Go Go.RowKit
def RQ (lpB : LoopState → Option Code → B) (c : Nat) (I : Hp → Prop) (D : Code → Hp → Prop) : Exit → St → Prop
  | .normal, s => (∃ st p, s.H c = some (lpB st p)) ∧ c + 1 ≤ s.c ∧ Sub s.H I
  | .ret, s => (∃ st p, s.H c = some (lpB st p)) ∧ c + 1 ≤ s.c ∧ Sub s.H (D .ret)
  | .exit j, s => (∃ st p, s.H c = some (lpB st p)) ∧ c + 1 ≤ s.c ∧ Sub s.H (D (.exit j))
  | _, _ => False
theorem low_none {n : Nat} {H : Hp} (h : Low n H) {m : Nat} (hm : n ≤ m) : H m = none := by
  cases e : H m with
  | none => rfl
  | some bx => have := (h m bx e).1; omega
theorem UnderB.mono {n m : Nat} {b : B} (h : UnderB n b) (hm : n ≤ m) : UnderB m b := by
  cases h with
  | cells cs h => exact .cells _ fun x hx => (h x hx).mono hm
  | map kvs h => exact .map _ fun p hp => ⟨(h p hp).1.mono hm, (h p hp).2.mono hm⟩
  | lp st pend S nt ps asg body h => exact .lp _ _ _ _ _ _ _ fun t => (h t).mono hm
def distinctH : List (Nat × B) → Bool
  | [] => true
  | (i, _) :: l => (l.all fun p => !Nat.beq p.1 i) && distinctH l
theorem hasH_of_sub {H : Hp} : ∀ {l : List (Nat × B)}, distinctH l = true → (∀ i bx, ofH l i = some bx → H i = some bx) → HasH H l
  | [], _, _ => trivial
  | (i, b) :: l, hd, h => by
    simp only [distinctH, Bool.and_eq_true, List.all_eq_true, Bool.not_eq_true'] at hd
    refine ⟨h i b (updH_same _ _ _), hasH_of_sub hd.2 fun j bx hb => h j bx ?_⟩
    have key : ∀ (l : List (Nat × B)) (j : Nat) (bx : B), ofH l j = some bx → ∃ p ∈ l, p.1 = j := by
      intro l
      induction l with
      | nil => intro j bx h; cases h
      | cons q l ih =>
        intro j bx h
        simp only [ofH, updH_apply] at h
        split at h
        · rename_i e; exact ⟨q, by simp, e.symm⟩
        · obtain ⟨p, hp, e⟩ := ih j bx h; exact ⟨p, by simp [hp], e⟩
    obtain ⟨p, hp, e⟩ := key l j bx hb
    have : j ≠ i := fun e2 => by have := hd.1 p hp; rw [e, e2] at this; simp at this
    show updH (ofH l) i (some b) j = some bx
    rw [updH_other _ _ this]; exact hb
section
variable {X : Ctx} {s : St} {Q : Exit → St → Prop}
theorem Aw.iter {g : Operand} {ps : Array Tmp} {asg body : Code} {f : Nat} {fst cap : List A} (hf : rd s.S g = .fn (.func f) fst cap) (he : Enters X.P f) (L : List (List A)) (I : Nat → Hp → Prop) (D : Code → Hp → Prop)
    (hps : (ps.toList.all fun t => Nat.blt t X.nt) = true) (hlen : ∀ as ∈ L, as.length = ps.size) (hS : ∀ t, Under s.c (s.S t)) (low : ∀ k H, I k H → Low s.c H) (lowD : ∀ j H, D j H → Low s.c H)
    (iterf : ∀ {I' : Nat → Hp → Prop} {D' : Hp → Prop}, Iter X.P (s.c + 1) s.c (fun t => (s.S t).down) X.nt ps asg body L I' D' → ∀ H, I' 0 H →
      SCall X.P f ((fst ++ [.yl s.c]) ++ cap) H (s.c + 1) fun v H' c' => s.c + 1 ≤ c' ∧ (Sub H' (I' L.length) ∨ Sub H' D'))
    (hI : I 0 s.H)
    (round : ∀ (lpB : LoopState → Option Code → B), (∀ st p, UnderB s.c (lpB st p)) → ∀ k as, L[k]? = some as → ∀ H, I k H → ∀ (E : En) (b : Nat), (∀ i, s.c + 1 ≤ i → E.φ0 i = none) →
      Aw (E.cx X.P X.nt) (some b) asg (fun e s1 => e = .normal ∧ s1.H s.c = some (lpB .ready none) ∧ Aw (E.cx X.P X.nt) (some b) body (RQ lpB s.c (I (k + 1)) D) { s1 with H := updH s1.H s.c (some (lpB .busy none)) })
        ⟨setPs (fun t => (s.S t).down.down) ps.toList as, updH H s.c (some (lpB .ready none)), s.c + 1⟩)
    (k1 : ∀ H c', s.c ≤ c' → Sub H (I L.length) → Q .normal ⟨s.S, H, c'⟩) (k2 : ∀ j H c', s.c ≤ c' → Sub H (D j) → Aw X none j Q ⟨s.S, H, c'⟩) : Aw X none (.rangeFunc g ps asg body) Q s := by
  let lpB : LoopState → Option Code → B := fun st p => .lp st p (fun t => (s.S t).down) X.nt ps asg body
  have ulp : ∀ st p, UnderB s.c (lpB st p) := fun st p => .lp _ _ _ _ _ _ _ fun t => (hS t).down
  let I' : Nat → Hp → Prop := fun k H => ∃ H0, I k H0 ∧ H = updH H0 s.c (some (lpB .ready none))
  let D' : Hp → Prop := fun H => ∃ j H0, D j H0 ∧ H s.c = some (lpB .done (some j)) ∧ ∀ i bx, H0 i = some bx → i ≠ s.c → H i = some bx
  have sub_ne : ∀ {H : Hp} {J : Hp → Prop} {b : B}, Sub H J → Sub (updH H s.c (some b)) fun H => ∃ H0, J H0 ∧ H = updH H0 s.c (some b) := by
    rintro H J b ⟨H0, h1, h2⟩
    refine ⟨_, ⟨H0, h1, rfl⟩, fun i bx hb => ?_⟩
    rw [updH_apply] at hb ⊢
    split
    · rename_i e; rw [if_pos e] at hb; exact hb
    · rename_i e; rw [if_neg e] at hb; exact h2 i bx hb
  have it : Iter X.P (s.c + 1) s.c (fun t => (s.S t).down) X.nt ps asg body L I' D' := {
    pok := fun t ht => by have := List.all_eq_true.1 hps t ht; simpa [Nat.blt_eq] using this
    len := hlen
    lp := by
      rintro k H ⟨H0, _, rfl⟩
      exact ⟨none, updH_same _ _ _⟩
    low := by
      rintro k H ⟨H0, h0, rfl⟩ id bx hb
      rw [updH_apply] at hb
      split at hb
      · rename_i e; cases hb; exact ⟨by omega, (ulp _ _).mono (Nat.le_succ _)⟩
      · have := low k H0 h0 id bx hb; exact ⟨by omega, this.2.mono (Nat.le_succ _)⟩
    round := by
      rintro k as ha H ⟨H0, h0, rfl⟩ E b hE
      refine (round lpB ulp k as ha H0 h0 E b hE).mono ?_
      rintro e s1 ⟨rfl, h1, h2⟩
      refine ⟨rfl, none, _, _, _, _, _, h1, h2.mono fun e2 s2 h3 => ?_⟩
      cases e2 with
      | normal =>
        obtain ⟨⟨st, p, hl⟩, hc, hsub⟩ := h3
        exact ⟨st, p, _, _, _, _, _, hl, hc, .inl ⟨rfl, sub_ne hsub⟩⟩
      | ret =>
        obtain ⟨⟨st, p, hl⟩, hc, H1, hD, hsub⟩ := h3
        exact ⟨st, p, _, _, _, _, _, hl, hc, .inr ⟨rfl, ⟨_, ⟨.ret, H1, hD, updH_same _ _ _, fun i bx hb hne => by rw [updH_other _ _ hne]; exact hsub i bx hb⟩, fun _ _ h => h⟩⟩⟩
      | exit j =>
        obtain ⟨⟨st, p, hl⟩, hc, H1, hD, hsub⟩ := h3
        exact ⟨st, p, _, _, _, _, _, hl, hc, .inr ⟨rfl, ⟨_, ⟨.exit j, H1, hD, updH_same _ _ _, fun i bx hb hne => by rw [updH_other _ _ hne]; exact hsub i bx hb⟩, fun _ _ h => h⟩⟩⟩
      | goto t => exact h3.elim
      | panic ch => exact h3.elim
      | outgrown => exact h3.elim }
  refine Aw.rangeFunc hf he (iterf it (updH s.H s.c (some (lpB .ready none))) ⟨s.H, hI, rfl⟩) ?_
  rintro v H' c' ⟨hc, hs⟩
  rcases hs with ⟨H1, ⟨H0, h0, rfl⟩, hs⟩ | ⟨H1, ⟨j, H0, hD, hl, h0⟩, hs⟩
  · refine ⟨_, none, _, _, _, _, _, hs s.c _ (updH_same _ _ _), by decide, k1 _ _ (by omega) ⟨H0, h0, fun i bx hb => ?_⟩⟩
    have hi := (low _ _ h0 i bx hb).1
    rw [updH_other _ _ (by omega)]
    exact hs i bx (by rw [updH_other _ _ (by omega)]; exact hb)
  · refine ⟨_, some j, _, _, _, _, _, hs s.c _ hl, by decide, ?_⟩
    refine k2 j _ _ (by omega) ⟨H0, hD, fun i bx hb => ?_⟩
    have hi := (lowD _ _ hD i bx hb).1
    rw [updH_other _ _ (by omega)]
    exact hs i bx (h0 i bx hb (by omega))
end
end Go.AL
namespace Go.AL
open Go Go.RowKit Go.ChangeShapes Go.WideShapes
theorem Quiet.below {w w' : World} (h : Quiet w w') : Below w.heap.size w w' := ⟨h.os, h.tape, h.output, h.size, h.block⟩
section
variable {H : Type} {enc : TypeId × Value → H} {P : Program}
theorem trodAll_below (hl : laidOutB P = true) {W W' : World} (hb : Below W.heap.size W W') {sp : Nat → Bool} (hsp : ∀ b, b < W.heap.size → sp b = true) : ∀ {ts : List TypeId} {vs : List Value} {ds : List (DataW H)} {ps : List MemPlace},
    (∀ t ∈ ts, P.readableRec t = true ∧ t < P.types.size) → DataW.TrodAll enc P W 0 (fun _ => true) true ts vs ds ps → (∀ x ∈ ps, x.block < W.heap.size) → DataW.TrodAll enc P W' 0 sp true ts vs ds ps
  | [], vs, ds, ps, _, h, _ => by
    obtain ⟨rfl, rfl, rfl⟩ := trodAll_nil h
    exact rfl
  | t :: ts, vs, ds, ps, ht, h, hlt => by
    obtain ⟨v, vs1, d, ds1, a, b, rfl, rfl, rfl, h1, h2⟩ := trodAll_cons h
    refine ⟨a, b, ?_, trodAll_below hl hb hsp (fun t ht' => ht t (List.mem_cons_of_mem _ ht')) h2 (fun x hx => hlt x (List.mem_append.2 (.inr hx))), rfl⟩
    have hlt1 : ∀ x ∈ a, x.block < W.heap.size := fun x hx => hlt x (List.mem_append.2 (.inl hx))
    exact WideElems.Trod_stays hl (ht t (List.mem_cons_self ..)).1 (ht t (List.mem_cons_self ..)).2 h1 (fun x hx => hb.same (hlt1 x hx)) (fun x hx => hsp _ (hlt1 x hx))
theorem post_below {f : Func} {s : ChangeSpec} {apart fresh handsOn again : Bool} {W W' : World} {args : Array Value} {v : Value} {ds : List (DataW H)} {before : List MemPlace}
    (hl : laidOutB P = true) (hts : ∀ t ∈ f.params.toList, P.readableRec t = true ∧ t < P.types.size) (hv : s.vars = [])
    (hW : DataW.Whole enc P f.params.toList s.vars apart W args.toList ds [] before) (hb : Below W.heap.size W W')
    (hsa : (s.fn H (ds ++ [])).args = ds) (hsv : (s.fn H (ds ++ [])).vars = [])
    (hres : ∀ (b : Nat) (sp : Nat → Bool) (hd : Bool), DataW.TrodAll enc P W' b sp hd f.resultTypes.toList (v.resultList f.resultTypes.size) (s.fn H (ds ++ [])).results [])
    (hok : ∀ (j : Nat) (t : TypeId) (r : Value), f.resultTypes[j]? = some t → (v.resultList f.resultTypes.size)[j]? = some r → Value.okWide P W' .any 0 t r) :
    s.post enc P f apart fresh handsOn again W args v W' := by
  have hlt := hW.lt
  have hW2 := hW
  obtain ⟨p, q, hA, hV, hpq, hz, hn⟩ := hW2
  rw [hv] at hV
  have hq : q = [] := by
    revert hV; unfold DataW.TrodVars; simp
  subst hq
  rw [List.append_nil] at hpq
  subst hpq
  have hvars : ∀ sp : Nat → Bool, DataW.TrodVars enc P W' sp s.vars (s.fn H (ds ++ [])).vars [] := fun sp => by rw [hv, hsv]; exact rfl
  have hargs : ∀ sp : Nat → Bool, (∀ b, b < W.heap.size → sp b = true) → DataW.TrodAll enc P W' 0 sp true f.params.toList args.toList (s.fn H (ds ++ [])).args before := fun sp hsp => by
    rw [hsa]; exact trodAll_below hl hb hsp hts hA hlt
  refine ⟨ds, [], before, [], before, [], hW, hres _ _ _, hargs _ (fun b hb => by simpa using hb), hvars _, hb.frame _, fun _ => ⟨hok, _, _, ([] ++ before) ++ [], ⟨[] ++ before, [], trodAll_append (hargs _ (fun _ _ => rfl)) (hres _ _ _), hvars _, rfl, ?_, ?_⟩, ?_⟩⟩
  · intro b off hp
    have hp' : MemPlace.cell b off ∈ before := by simpa using hp
    rw [hb.frozen (p := ⟨b, off, none⟩) (hlt _ hp')]
    exact hz b off hp'
  · intro ha
    simpa using hn ha
  · intro p hp _
    simpa using hp
theorem law_row {f : FuncId} {fn : Func} {s : ChangeSpec} {apart fresh handsOn again : Bool} {W : World} {args : Array Value} {ds : List (DataW H)} {before : List MemPlace} {as : List A} {φ : Names} {tb : TypeId}
    (hl : laidOutB P = true) (hts : ∀ t ∈ fn.params.toList, P.readableRec t = true ∧ t < P.types.size) (hv : s.vars = [])
    (hW : DataW.Whole enc P fn.params.toList s.vars apart W args.toList ds [] before)
    (hsa : (s.fn H (ds ++ [])).args = ds) (hsv : (s.fn H (ds ++ [])).vars = []) (hsr : (s.fn H (ds ++ [])).results = [.lit (.bool true)])
    (hr : fn.resultTypes = #[tb]) (htb : P.underlying tb = some .bool)
    (hvs : VRs φ (allZ W) W as args) (h : Ans P f as (.bool true)) :
    Calls P f args W fun e W' => ∃ v, e = .returned v ∧ s.post enc P fn apart fresh handsOn again W args v W' := by
  refine (h.pure φ (allZ W) W args (fun b o hb => hb) hvs).mono fun e W' hR => ?_
  obtain ⟨u, Z', rfl, hm, hu, _⟩ := hR
  cases inv_s hu
  refine ⟨_, rfl, post_below hl hts hv hW hm.quiet.below hsa hsv (fun _ _ _ => ?_) ?_⟩
  · rw [hr, hsr]; exact trodAll_mk1 (shut_bool htb true)
  · exact ok_one hr rfl (okWide_bool_mk htb true)
theorem lifted {C : Checked} {os : Os} {f : FuncId} {fn : Func} {s : ChangeSpec} {apart fresh handsOn again : Bool} {tb : TypeId}
    (own : ownKnob C.prog.godebug = none) (started : os.Started) (noInit : C.prog.inits.idxOf? f = none) (hfn : C.prog.funcs[f]? = some fn)
    (witness : ∃ (w : World) (tape : Tape) (i : Input), w.os = os ∧ (w.forCall tape i).Shaped C.prog ∧ i.vars = [] ∧ Input.okWide C.prog (w.forCall tape i) .any w.heap.size f i ∧
      s.pre6 enc C.prog fn [] apart (w.forCall tape i).memory i.args ∧ ({} : Assume).holds C.prog (lone (Frame.enter C.prog f i.args .normal) [] (w.forCall tape i)))
    (hl : laidOutB C.prog = true) (hts : ∀ t ∈ fn.params.toList, C.prog.readableRec t = true ∧ t < C.prog.types.size) (hv : s.vars = [])
    (hr : fn.resultTypes = #[tb]) (htb : C.prog.underlying tb = some .bool)
    (hs : ∀ ds : List (DataW H), ds.length = fn.params.size → s.fn H ds = { results := [.lit (.bool true)], args := ds })
    (key : ∀ (W : World) (base : Nat) (args : Array Value) (ds : List (DataW H)) (p : List MemPlace),
      (∀ (j : Nat) t v, fn.params[j]? = some t → args[j]? = some v → Value.okWide C.prog W .any base t v) →
      DataW.TrodAll enc C.prog W 0 (fun _ => true) true fn.params.toList args.toList ds p → ∃ (φ : Names) (as : List A), VRs φ (allZ W) W as args ∧ Ans C.prog f as (.bool true)) :
    ReturnsInHanded {} C os f .any (s.pre6 enc C.prog fn [] apart) (s.post enc C.prog fn apart fresh handsOn again) := by
  refine returnsInHanded_of_change own started noInit hfn witness ?_
  intro W base args ds gs before hval hW _ _
  have hW2 := hW
  obtain ⟨p, q, hA, hV, hpq, hz, hn⟩ := hW2
  rw [hv] at hV
  have hg : gs = [] := by
    cases gs with
    | nil => rfl
    | cons a b => exact hV.elim
  subst hg
  have hlen : ∀ {ts : List TypeId} {vs : List Value} {ds : List (DataW H)} {p : List MemPlace}, DataW.TrodAll enc C.prog W 0 (fun _ => true) true ts vs ds p → ds.length = ts.length := fun {ts} => by
    induction ts with
    | nil => intro vs ds p h; obtain ⟨_, rfl, _⟩ := trodAll_nil h; rfl
    | cons t ts ih => intro vs ds p h; obtain ⟨v, vs1, d, ds1, a, b, _, rfl, _, _, h2⟩ := trodAll_cons h; simp [ih h2]
  have hd : ds.length = fn.params.size := by rw [hlen hA]; simp
  obtain ⟨φ, as, hvs, ha⟩ := key W base args ds p hval hA
  have e := hs (ds ++ []) (by simpa using hd)
  exact law_row hl hts hv hW (by rw [e]; simp) (by rw [e]) (by rw [e]) hr htb hvs ha
end
end Go.AL
